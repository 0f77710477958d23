/- The T-machine: what is made. -/
import Derived.Test.YtmcldnoofgkidaaTm12
set_option linter.unusedVariables false
set_option linter.unusedSimpArgs false
namespace Go.Tm
open Go.RowKit

/-! ### The model's operations -/
section
variable {P : Program} {w : World} {ρ : Operand → Value} {o : Oper}

theorem exec_alloc {e : TypeId} {i : TypeInfo} {z : Value} (ho : o.op = .alloc e) (hi : P.info? e = some i) (hz : i.zero = some z) :
    (execOp ρ o).run P w = .ok (.value (.pointer (some ⟨w.heap.size, 0, none⟩))) (w.alloc (.cells z.cells e)) := by
  simp [execOp, ho, Instr.alloc, zeroValue, typeInfo, hi, hz, newVar, newRow]

theorem exec_box {e : TypeId} {x : Operand} {v : Value} (ho : o.op = .box e x) (hx : ρ x = v) :
    (execOp ρ o).run P w = .ok (.value (.pointer (some ⟨w.heap.size, 0, none⟩))) (w.alloc (.cells v.cells e)) := by
  simp [execOp, ho, Instr.box, hx, newVar, newRow]

theorem exec_makeSlice {T : TypeId} {l c : Operand} {v : Value} {w' : World} (ho : o.op = .makeSlice T l c) (h : (Instr.makeSlice T (ρ l) (ρ c)).run P w = .ok v w') : (execOp ρ o).run P w = .ok (.value v) w' := by
  simp only [execOp, ho, Sem.run_bind, Sem.run_pure, Result.andThen_ok, h]

theorem exec_build {T : TypeId} {ps : Array (Nat × Operand)} {v : Value} {w' : World} (ho : o.op = .build T ps) (h : (Instr.build T (ps.map fun (i, x) => (i, ρ x))).run P w = .ok v w') : (execOp ρ o).run P w = .ok (.value v) w' := by
  simp only [execOp, ho, Sem.run_bind, Sem.run_pure, Result.andThen_ok, h]

theorem exec_buildSlice {T : TypeId} {len : Nat} {ps : Array (Nat × Operand)} {v : Value} {w' : World} (ho : o.op = .buildSlice T len ps) (h : (Instr.buildSlice T len (ps.map fun (i, x) => (i, ρ x))).run P w = .ok v w') : (execOp ρ o).run P w = .ok (.value v) w' := by
  simp only [execOp, ho, Sem.run_bind, Sem.run_pure, Result.andThen_ok, h]

theorem cells_one {v : Value} (h : v.oneCell' = true) : v.cells = #[v] := by cases v <;> first | rfl | cases h

/-- Parts one behind the other. -/
theorem fill_dense (place : Nat → Option (Nat × Nat)) (hp : ∀ i, place i = some (i, 1)) : ∀ (vs : List (Nat × Value)) (i : Nat) (c : Array Value), (∀ j q, vs[j]? = some q → q.1 = i + j ∧ q.2.oneCell' = true) → c.size = i + vs.length →
    Instr.fill place c vs = some ((c.toList.take i ++ vs.map (·.2)).toArray) := by
  intro vs
  induction vs with
  | nil =>
    intro i c _ hc
    simp only [Instr.fill, List.map_nil, List.append_nil]
    congr 1
    rw [List.take_of_length_le (by simp at hc ⊢; omega)]
  | cons q vs ih =>
    intro i c h hc
    obtain ⟨j, v⟩ := q
    obtain ⟨h1, h2⟩ := h 0 _ rfl
    simp only [Nat.add_zero] at h1
    subst h1
    simp only [List.length_cons] at hc
    simp only [Instr.fill, hp, cells_one h2]
    have hif : (decide (#[v].size ≠ 1) || decide (j + #[v].size > c.size)) = false := by simp; omega
    rw [hif]
    simp only [Bool.false_eq_true, if_false]
    simp only [Array.zipIdx, List.size_toArray]
    have e : (Array.mapIdx (fun i a => (a, 0 + i)) #[v]).foldl (fun cs (x : Value × Nat) => cs.setIfInBounds (j + x.2) x.1) c = c.setIfInBounds j v := by simp
    rw [e, ih (j + 1) _ (fun k q hk => by obtain ⟨h3, h4⟩ := h (k + 1) q (by simpa using hk); exact ⟨by omega, h4⟩) (by simp; omega)]
    congr 2
    rw [Array.toList_setIfInBounds]
    apply List.ext_getElem?
    intro k
    rcases Nat.lt_trichotomy k j with hk | hk | hk
    · rw [List.getElem?_append_left (by simp; omega), List.getElem?_append_left (by simp; omega), List.getElem?_take, List.getElem?_take, if_pos (by omega), if_pos hk, List.getElem?_set_ne (by omega)]
    · subst hk
      rw [List.getElem?_append_left (by simp; omega), List.getElem?_append_right (by simp; omega), List.getElem?_take, if_pos (by omega), List.getElem?_set_self (by simp; omega)]
      simp
      rw [show k - min k c.size = 0 by omega]; rfl
    · rw [List.getElem?_append_right (by simp; omega), List.getElem?_append_right (by simp; omega)]
      simp only [List.length_take, List.length_set, Array.length_toList, List.map_cons]
      rw [show k - min j c.size = (k - min (j + 1) c.size) + 1 by omega]
      rfl

theorem run_buildSlice (T e : TypeId) (i : TypeInfo) (z : Value) (ht : P.underlying T = some (.slice e)) (hi : P.info? e = some i) (hz : i.zero = some z) (hs : i.size = 1) (len : Nat) (ps : List (Nat × Value)) (hl : ps.length = len) (h1000 : len ≤ 1000)
    (hd : ∀ (j : Nat) (q : Nat × Value), ps[j]? = some q → q.1 = j ∧ q.2.oneCell' = true) :
    (Instr.buildSlice T len ps.toArray).run P w = .ok (.slice (some ⟨w.heap.size, 0, none⟩) len len) (w.alloc (.cells (ps.map (·.2)).toArray e)) := by
  have hf : ∀ c : Array Value, c.size = len → Instr.fill (fun i => some (i * 1, 1)) c ps = some (ps.map (·.2)).toArray := by
    intro c hc
    have := fill_dense (fun i => some (i * 1, 1)) (fun i => by simp) ps 0 c (fun j q hq => by simpa using hd j q hq) (by omega)
    simpa using this
  have hbig : ¬ (16777216 < len) := by omega
  by_cases h0 : len = 0
  · subst h0
    have : ps = [] := List.eq_nil_of_length_eq_zero hl
    subst this
    simp [Instr.buildSlice, run_underlying ht, sizeOf, typeInfo, hi, hs, newRow, Instr.fill, Array.range_zero']
  · have hf' := hf ((Array.range len).map (z.cells[· % z.cells.size]!)) (by simp)
    simp only [Nat.mul_one] at hf'
    simp [Instr.buildSlice, run_underlying ht, sizeOf, typeInfo, hi, hs, newRow, zeroValue, hz, h0, hbig, hf']
end

theorem dense_at : ∀ (ps : List (Nat × Operand)) (i : Nat), dense i ps = true → ∀ j q, ps[j]? = some q → q.1 = i + j := by
  intro ps
  induction ps with
  | nil => intro i _ j q h; simp at h
  | cons p ps ih =>
    intro i h j q hq
    obtain ⟨k, x⟩ := p
    simp only [dense, Bool.and_eq_true, Nat.beq_eq] at h
    cases j with
    | zero => simp at hq; subst hq; simp [h.1]
    | succ j => have := ih _ h.2 j q (by simpa using hq); omega

section
variable {P : Program} {K : Kf} {E : El} {n : Nat} {G : Gh} {s : St} {a : Act} {w : World} {CR : CRel} {o : Oper} {u : St}

theorem runs_opds {xs : List Operand} {k : List VV → Rd} (h : Runs CR s (opds xs k) u) : ∃ vs, vs.length = xs.length ∧ (∀ (j : Nat) (x : Operand) (v : VV), xs[j]? = some x → vs[j]? = some v → Opv s x v) ∧ Runs CR s (k vs) u := by
  induction xs generalizing k with
  | nil => exact ⟨[], rfl, fun j x v h => by simp at h, h⟩
  | cons x xs ih =>
    obtain ⟨v, hv, h⟩ := runs_opd h
    obtain ⟨vs, h1, h2, h3⟩ := ih h
    refine ⟨v :: vs, by simp [h1], fun j y v' hy hv' => ?_, h3⟩
    cases j with
    | zero => simp at hy hv'; subst hy; subst hv'; exact hv
    | succ j => exact h2 j y v' (by simpa using hy) (by simpa using hv')

/-- The values of the parts. -/
theorem vals_parts (R : Rel E n G s a w) {ps : List (Nat × Operand)} {vs : List VV} (hl : vs.length = ps.length) (hv : ∀ (j : Nat) (x : Operand) (v : VV), (ps.map (·.2))[j]? = some x → vs[j]? = some v → Opv s x v) :
    ∀ (j : Nat) (q : Nat × Operand) (v : VV), ps[j]? = some q → vs[j]? = some v → VR G s w (a.eval q.2) v := fun j q v hq hvj => opv_ok R (hv j q.2 v (by simp [hq]) hvj)

theorem asInts_ok {k : IntKind} {vs : List VV} {xs : List Int} (h : asInts k vs = some xs) : vs = xs.map fun n => VV.sc (.int k n) := by
  induction vs generalizing xs with
  | nil => simp [asInts] at h; subst h; rfl
  | cons v vs ih =>
    unfold asInts at h
    split at h
    · rename_i e; cases e
    · rename_i c m vs' e
      injection e with e1 e2
      subst e1; subst e2
      by_cases hc : c = k
      · subst hc
        simp only [decide_true, cond_true, Option.map_eq_some_iff] at h
        obtain ⟨ys, h1, rfl⟩ := h
        rw [ih h1]; rfl
      · simp [hc] at h
    · cases h

theorem asStrs_ok {vs : List VV} {xs : List ByteArray} (h : asStrs vs = some xs) : vs = xs.map fun n => VV.sc (.str n) := by
  induction vs generalizing xs with
  | nil => simp [asStrs] at h; subst h; rfl
  | cons v vs ih =>
    unfold asStrs at h
    split at h
    · rename_i e; cases e
    · rename_i m vs' e
      injection e with e1 e2
      subst e1; subst e2
      simp only [Option.map_eq_some_iff] at h
      obtain ⟨ys, h1, rfl⟩ := h
      rw [ih h1]; rfl
    · cases h

theorem App.made (w : World) (cs : Array Value) (e : TypeId) (m c : Nat) : App w (w.alloc (.cells cs e)) (.slice none 0 0) (.slice (some ⟨w.heap.size, 0, none⟩) m c) :=
  ⟨rfl, rfl, rfl, .inr ⟨rfl, by show (w.heap.push _).size = _; simp, fun k hk => Below.heap_alloc w _ k hk⟩⟩

theorem ownsRow_lit (w : World) (cs : List Value) (e : TypeId) (hm : cs.length ≤ maxLen) : (w.alloc (.cells cs.toArray e)).ownsRow 0 e 1 (.slice (some ⟨w.heap.size, 0, none⟩) cs.length cs.length) cs.length cs :=
  ⟨by simp, .inr ⟨w.heap.size, cs.length, cs.toArray, rfl, Nat.zero_le _, heap_alloc_new w _, Nat.le_refl _, hm, by simp, by simp⟩⟩

/-- A new row of whole numbers or strings. -/
theorem made_step (R : Rel E n G s a w) {t : Nat} {cells : List Value} {c : Ct} {e : TypeId} (hdst : o.dst = some t) (ht : t < n) (hno : NoRef t s) (hm : cells.length ≤ maxLen)
    (hrun : (execOp a.eval o).run P w = .ok (.value (.slice (some ⟨w.heap.size, 0, none⟩) cells.length cells.length)) (w.alloc (.cells cells.toArray e)))
    (hcell : ∀ O' w' v', SlO O' w' (.ow t none) e v' cells → VC E O' w' t v' c) : OpOK E n P G s a w o [(.slot t, .v (.rf t)), (.tok t, .t 0 c)] := by
  refine OpOK.of_value hrun ?_
  rw [hdst]
  have happ := App.made w cells.toArray e cells.length cells.length
  have := R.append (s1 := s) (c := c) (lab0 := none) (cells := cells) (e := e) ht hno happ (fun g hg => by simp [Value.ownBlock] at hg) (fun l hl => by cases hl) (fun _ => rfl) (fun _ => rfl) (ownsRow_lit w cells e hm) (fun O' h => hcell O' _ _ h)
    (fun O' hk σ hσ => (app_others (lab0 := none) R none (by intro l hl; cases hl) (fun _ _ => rfl) hk).1 σ hσ (by simp))
    (fun O' hk σ iv d hσ hd => (app_others (t := t) (v' := .nilFunc) (lab0 := none) R none (by intro l hl; cases hl) (fun _ _ => rfl) hk).2 σ iv d (by simp) hd)
    (fun σ x hσ hx => hx)
  simpa using this

end
end Go.Tm
