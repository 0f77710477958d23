/- The T-machine: what is made: literals, boxes, appends. -/
import Derived.Test.YtmcldnoofgkidaaTm8
set_option linter.unusedVariables false
set_option linter.unusedSimpArgs false
namespace Go.Tm
open Go.RowKit

/-- What became of the world behind an append: the row itself, or a new one. -/
structure App (w w' : World) (v v' : Value) : Prop where
  os : w'.os = w.os
  tape : w'.tape = w.tape
  output : w'.output = w.output
  how : (v'.ownBlock = v.ownBlock ∧ w'.heap.size = w.heap.size ∧ ∀ k, some k ≠ v.ownBlock → w'.heap[k]? = w.heap[k]?) ∨
    (v'.ownBlock = some w.heap.size ∧ w'.heap.size = w.heap.size + 1 ∧ ∀ k, k < w.heap.size → w'.heap[k]? = w.heap[k]?)

section
variable {P : Program}

theorem App.alloc (w : World) (v : Value) (cs : Array Value) (e : TypeId) (n c : Nat) : App w (w.drew.alloc (.cells cs e)) v (.slice (some ⟨w.heap.size, 0, none⟩) n c) :=
  ⟨rfl, rfl, rfl, .inr ⟨rfl, by simp, fun k hk => Below.heap_alloc w.drew _ k hk⟩⟩

theorem app_run (w : World) (t ty e : TypeId) (i : TypeInfo) (z : Value) (ht : P.underlying t = some (.slice e)) (hi : P.info? e = some i) (hz : i.zero = some z) (hsize : i.size = 1) (hzs : z.cells.size = 1)
    (v : Value) (n : Nat) (xs : List Value) (hown : w.ownsRow 0 e 1 v n xs) (xv : Value) (news : List Value) (hx : SlI (fun _ => .im) w xv news) (h1 : ∀ u ∈ news, u.oneCell' = true)
    (h63 : n + news.length ≤ maxLen) (hbytes : (n + news.length) * i.bytes ≤ 140737488355328) :
    ∃ v' w', (Builtin.append_ #[t, t] ty #[v, xv]).run P w = .ok v' w' ∧ w'.ownsRow 0 e 1 v' (n + news.length) (xs ++ news) ∧ App w w' v v' := by
  obtain ⟨a, c, rfl, c1, c2, c3⟩ := hx
  have hsm : n + news.length ≤ 9223372036854775807 := by simp only [maxLen] at h63; omega
  have hlen : (xs ++ news).length = (n + news.length) * 1 := by rw [List.length_append, hown.1]; omega
  by_cases hn0 : news = []
  · subst hn0
    refine ⟨v, w, ?_, by simpa using hown, ⟨rfl, rfl, rfl, .inl ⟨rfl, rfl, fun _ _ => rfl⟩⟩⟩
    rcases hown.2 with ⟨rfl, rfl⟩ | ⟨g, cap, cur, rfl, _, _, hnc, _⟩
    · cases a <;> simp [Builtin.append_, run_underlying ht, sizeOf, typeInfo, hi, Builtin.lenOf, Builtin.firstCells, loadCells, loadCellsFrom]
    · cases a <;> simp [Builtin.append_, run_underlying ht, sizeOf, typeInfo, hi, Builtin.lenOf, Builtin.firstCells, loadCells, loadCellsFrom, hnc, storeCells]
  · obtain ⟨ad, rfl, _, hcell⟩ := c3 hn0
    have hpos : 0 < news.length := List.length_pos_iff.2 hn0
    have hl : news.length = news.length * i.size := by rw [hsize]; omega
    have fresh : ∀ old, old < n + news.length → (w.drew.alloc (.cells (xs.toArray ++ news.toArray ++ Builtin.zeroCells z.cells (grownCap w (n + news.length) old e - (n + news.length))) e)).ownsRow 0 e 1
        (.slice (some ⟨w.heap.size, 0, none⟩) (n + news.length) (grownCap w (n + news.length) old e)) (n + news.length) (xs ++ news) := by
      intro old ho
      have hge := grownCap_ge w (n + news.length) old e
      refine ⟨hlen, .inr ⟨w.heap.size, _, _, rfl, Nat.zero_le _, heap_alloc_new w.drew _, hge, grownCap_le_maxLen w _ old e h63, ?_, ?_⟩⟩
      · have := hown.1
        simp only [Array.size_append, List.size_toArray, size_zeroCells, hzs]
        omega
      · have e1 : (n + news.length) * 1 = (xs ++ news).length := hlen.symm
        simp only [Array.toList_append, e1]
        exact List.take_left
    rcases hown.2 with ⟨rfl, rfl⟩ | ⟨g, cap, cur, rfl, hbg, hg, hnc, hcm, hcs, htake⟩
    · have hxs : xs = [] := List.eq_nil_of_length_eq_zero (by simpa using hown.1)
      subst hxs
      have hr := run_append_nil (P := P) w t ty e i z ht hi hz ad news.length c news hl hcell hpos (by omega) (by simp only [Nat.zero_add] at hbytes; omega)
      have hf := fresh 0 (by omega)
      simp only [Nat.zero_add, List.nil_append, Array.empty_append] at hf ⊢
      exact ⟨_, _, hr, hf, App.alloc w _ _ e _ _⟩
    · by_cases hroom : n + news.length ≤ cap
      · have hr := run_append_room (P := P) w t ty e i ht hi g n cap cur hg ad news.length c news hl hcell h1 hroom (by rw [hsize]; omega)
        refine ⟨_, _, hr, ⟨hlen, .inr ⟨g, cap, _, rfl, hbg, setRow_heap w g cur _ e _ hg, hroom, hcm, ?_, ?_⟩⟩, ⟨rfl, rfl, rfl, .inl ⟨rfl, by simp, fun k hk => setRow_other w g k _ (fun e => hk (by simp [Value.ownBlock, e]))⟩⟩⟩
        · rw [hsize]
          simp only [List.size_toArray, List.length_append, List.length_take, List.length_drop, Array.length_toList]
          omega
        · rw [hsize]
          simp only [← hlen, htake]
          exact List.take_left
      · have hr := run_append_grow (P := P) w t ty e i z ht hi hz ⟨g, 0, none⟩ n cap xs (by rw [hsize]; exact hown.1) (hown.cells (g := g) rfl) ad news.length c news hl hcell (by omega) (by omega) (growslice_fits (by omega) hbytes)
        exact ⟨_, _, hr, fresh cap (by omega), App.alloc w _ _ e _ _⟩

theorem exec_append {w w' : World} {ρ : Operand → Value} {o : Oper} {x y : Operand} {T : TypeId} {v : Value} (ho : o.op = .call { callee := .builtin .append, args := #[x, y], argTypes := #[T, T] })
    (h : (Builtin.append_ #[T, T] o.type #[ρ x, ρ y]).run P w = .ok v w') : (execOp ρ o).run P w = .ok (.value v) w' := by
  simp only [execOp, ho, resolve, invoke, builtin, Sem.run_bind, Sem.run_pure, Result.andThen_ok, List.map_toArray, List.map_cons, List.map_nil, h]
end

section
variable {P : Program} {K : Kf} {E : El} {n : Nat} {G : Gh} {s : St} {a : Act} {w : World} {CR : CRel} {o : Oper} {u : St}

def updH (H : Nat → Value) (t : Nat) (v : Value) : Nat → Value := fun σ => if σ = t then v else H σ

/-- A token is made. -/
theorem Rel.newTok (R : Rel E n G s a w) {t : Nat} {v' : Value} {w' : World} {O' : Lbl} {c : Ct} {s1 : St} (ht : t < n) (hno : NoRef t s) (hsg : Sgl v')
    (hloc : ∀ t', s1.get (.slot t') = s.get (.slot t')) (hbx : ∀ b, s1.get (.box b) = s.get (.box b))
    (hts : ∀ σ, σ ≠ t → TokStep G s w { G with O := O', H := updH G.H t v' } s1 w' σ)
    (him : ∀ g, G.O g = .im → O' g = .im ∧ w'.heap[g]? = w.heap[g]?)
    (hboxes : ∀ g b, G.O g = .bx b → O' g = .bx b ∧ w'.heap[g]? = w.heap[g]?)
    (htok : ∀ σ iv d, σ ≠ t → s1.get (.tok σ) = .t iv d → VC E O' w' σ (G.H σ) d)
    (hfro : ∀ σ x, σ ≠ t → s1.get (.tok σ) = .f x → s.get (.tok σ) = .f x)
    (hVC : VC E O' w' t v' c) (hfresh : ∀ g, w'.heap.size ≤ g → O' g = .no) :
    Rel E n { G with O := O', H := updH G.H t v' } ((.slot t, .v (.rf t)) :: (.tok t, .t 0 c) :: s1) (a.put (some t) v') w' := by
  have hsz : t < a.tmps.size := by rw [R.size]; exact ht
  have hH : ∀ σ, σ ≠ t → updH G.H t v' σ = G.H σ := fun σ h => by simp [updH, h]
  have hts' : ∀ σ, σ ≠ t → TokStep G s w { G with O := O', H := updH G.H t v' } ((.slot t, .v (.rf t)) :: (.tok t, .t 0 c) :: s1) w' σ := by
    intro σ hσ
    have h := hts σ hσ
    unfold TokStep at h ⊢
    have e : St.get ((.slot t, SV.v (.rf t)) :: (Loc.tok t, SV.t 0 c) :: s1) (.tok σ) = s1.get (.tok σ) := by
      rw [get_cons, if_neg (by simp), get_cons, if_neg (by simpa using fun h => hσ h.symm)]
    rw [e]
    exact h
  have hnt : ∀ l v, s.get l = .v v → ∀ σ ∈ v.toks, σ ≠ t := fun l v hv σ hσ e => by subst e; exact hno l v hv hσ
  refine R.step (by rw [size_put]; exact R.size) (by rw [defers_put]; exact R.defers) him (fun t' v hv => ?_) (fun b v hv => ?_) (fun σ iv d h => ?_) (fun σ x h => ?_) hfresh
  · rw [get_cons] at hv
    rw [getD_put a t v' t' hsz]
    by_cases e : t = t'
    · subst e
      rw [if_pos rfl] at hv ⊢
      injection hv with hv
      subst hv
      refine .inr ⟨hsg, fun _ => ?_⟩
      simp [updH]
    · rw [if_neg (by simpa using e), get_cons, if_neg (by simp)] at hv
      rw [if_neg e]
      rw [hloc] at hv
      exact .inl ⟨hv, rfl, fun σ hσ => hts' σ (hnt _ _ hv σ hσ), fun _ _ => rfl⟩
  · rw [get_cons, if_neg (by simp), get_cons, if_neg (by simp), hbx] at hv
    exact .inr (.inl ⟨hv, rfl, fun h => hboxes _ _ h, fun σ hσ => hts' σ (hnt _ _ hv σ hσ), fun _ _ => rfl⟩)
  · rw [get_cons, if_neg (by simp), get_cons] at h
    by_cases e : t = σ
    · subst e
      rw [if_pos rfl] at h
      injection h with h1 h2
      subst h2
      refine .inr ?_
      have : updH G.H t v' t = v' := by simp [updH]
      show VC E O' w' t (updH G.H t v' t) c
      rw [this]
      exact hVC
    · rw [if_neg (by simpa using e)] at h
      refine .inr ?_
      show VC E O' w' σ (updH G.H t v' σ) d
      rw [hH σ (fun h => e h.symm)]
      exact htok σ iv d (fun h => e h.symm) h
  · rw [get_cons, if_neg (by simp), get_cons] at h
    by_cases e : t = σ
    · subst e; rw [if_pos rfl] at h; cases h
    · rw [if_neg (by simpa using e)] at h
      exact .inl ⟨hfro σ x (fun h => e h.symm) h, hH σ (fun h => e h.symm)⟩

/-- Labels behind an append: the row's block is the new token's. -/
def appO (O : Lbl) (lab0 : Option Lab) (t : Nat) (v' : Value) : Lbl := fun g =>
  if v'.ownBlock = some g then .ow t none else if some (O g) = lab0 then .ow t (some 0) else O g

/-- An append of whole numbers or strings: the row 'v' of the label 'lab0' becomes the token t. -/
theorem Rel.append (R : Rel E n G s a w) {t : Nat} {v v' : Value} {w' : World} {lab0 : Option Lab} {s1 : St} {c : Ct} {cells : List Value} {e : TypeId} (ht : t < n) (hno : NoRef t s)
    (happ : App w w' v v') (hlab : ∀ g, v.ownBlock = some g → some (G.O g) = lab0 ∧ g < w.heap.size) (hl0 : ∀ l, lab0 = some l → ∃ τ p, l = .ow τ p)
    (hloc : ∀ t', s1.get (.slot t') = s.get (.slot t')) (hbx : ∀ b, s1.get (.box b) = s.get (.box b)) (hown : w'.ownsRow 0 e 1 v' cells.length cells)
    (hcell : ∀ O', SlO O' w' (.ow t none) e v' cells → VC E O' w' t v' c)
    (hts : ∀ O', (∀ g l, G.O g = l → some l ≠ lab0 → g < w.heap.size → O' g = l ∧ w'.heap[g]? = w.heap[g]?) → ∀ σ, σ ≠ t → TokStep G s w { G with O := O', H := updH G.H t v' } s1 w' σ)
    (htok : ∀ O', (∀ g l, G.O g = l → some l ≠ lab0 → g < w.heap.size → O' g = l ∧ w'.heap[g]? = w.heap[g]?) → ∀ σ iv d, σ ≠ t → s1.get (.tok σ) = .t iv d → VC E O' w' σ (G.H σ) d)
    (hfro : ∀ σ x, σ ≠ t → s1.get (.tok σ) = .f x → s.get (.tok σ) = .f x) :
    ∃ G', Rel E n G' ((.slot t, .v (.rf t)) :: (.tok t, .t 0 c) :: s1) (a.put (some t) v') w' ∧ Fr G.O w G'.O w' := by
  have hsg : Sgl v' := by
    rcases hown.2 with ⟨rfl, _⟩ | ⟨g, cap, cur, rfl, _⟩ <;> trivial
  have hsize : w.heap.size ≤ w'.heap.size := by
    rcases happ.how with ⟨_, h, _⟩ | ⟨_, h, _⟩ <;> omega
  have hkeep : ∀ g l, G.O g = l → some l ≠ lab0 → g < w.heap.size → appO G.O lab0 t v' g = l ∧ w'.heap[g]? = w.heap[g]? := by
    intro g l h1 h2 h3
    have hne : v'.ownBlock ≠ some g := by
      rcases happ.how with ⟨h, _, _⟩ | ⟨h, _, _⟩
      · rw [h]; intro e; exact h2 (by rw [← h1]; exact (hlab g e).1)
      · rw [h]; intro e; injection e with e; omega
    refine ⟨by unfold appO; rw [if_neg hne, if_neg (by rw [h1]; exact h2), h1], ?_⟩
    rcases happ.how with ⟨_, _, h⟩ | ⟨_, _, h⟩
    · exact h g (fun e => h2 (by rw [← h1]; exact (hlab g e.symm).1))
    · exact h g h3
  have hl0' : ∀ l, (∀ τ p, l ≠ .ow τ p) → some l ≠ lab0 := by
    intro l hl e
    obtain ⟨τ, p, e2⟩ := hl0 l e.symm
    exact hl τ p e2
  have hlt : ∀ g, G.O g ≠ .no → g < w.heap.size := by
    intro g hg
    rcases Nat.lt_or_ge g w.heap.size with h | h
    · exact h
    · exact absurd (R.fresh g h) hg
  have him : ∀ g, G.O g = .im → appO G.O lab0 t v' g = .im ∧ w'.heap[g]? = w.heap[g]? := fun g h => hkeep g _ h (hl0' _ (by intro τ p e; cases e)) (hlt g (by rw [h]; intro e; cases e))
  refine ⟨{ G with O := appO G.O lab0 t v', H := updH G.H t v' }, R.newTok ht hno hsg hloc hbx (hts _ hkeep) him (fun g b h => hkeep g _ h (hl0' _ (by intro τ p e; cases e)) (hlt g (by rw [h]; intro e; cases e))) (htok _ hkeep) hfro ?_ ?_,
    ⟨happ.os, happ.tape, happ.output, hsize, him, fun g hg h => hkeep g _ h (hl0' _ (by intro τ p e; cases e)) hg⟩⟩
  · exact hcell _ ⟨hown, fun g hg => by unfold appO; rw [if_pos hg]⟩
  · intro g hg
    have hne : v'.ownBlock ≠ some g := by
      rcases happ.how with ⟨h, h2, _⟩ | ⟨h, h2, _⟩
      · rw [h]; intro e; have := (hlab g e).2; omega
      · rw [h]; intro e; injection e with e; omega
    have h0 := R.fresh g (by omega)
    unfold appO
    rw [if_neg hne, if_neg (by rw [h0]; exact hl0' _ (by intro τ p e; cases e)), h0]
end
end Go.Tm
