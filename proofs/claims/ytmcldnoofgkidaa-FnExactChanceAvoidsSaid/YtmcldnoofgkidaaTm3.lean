/- The T-machine: steps and what they keep; the plain operations. -/
import Derived.Test.YtmcldnoofgkidaaTm2
set_option linter.unusedVariables false
namespace Go.Tm
open Go.RowKit

/-! ### What a step does to a token -/
def TokStep (G : Gh) (s : St) (w : World) (G' : Gh) (s' : St) (w' : World) (σ : Nat) : Prop :=
  ((s'.get (.tok σ)).live = true → (s.get (.tok σ)).live = true ∧ G'.H σ = G.H σ) ∧
  ∀ iv' c', s'.get (.tok σ) = .t iv' c' → ∃ iv c, s.get (.tok σ) = .t iv c ∧ iv ≤ iv' ∧ c'.len = c.len ∧
    (iv = iv' → ∀ k n, rowLen c k = some n → rowLen c' k = some n ∧ cellOf w' (G.H σ) k = cellOf w (G.H σ) k)

theorem TokStep.same {G : Gh} {s : St} {w : World} {G' : Gh} {s' : St} {w' : World} {σ : Nat} (hs : s'.get (.tok σ) = s.get (.tok σ)) (hH : G'.H σ = G.H σ)
    (hc : ∀ iv c, s.get (.tok σ) = .t iv c → ∀ k n, rowLen c k = some n → cellOf w' (G.H σ) k = cellOf w (G.H σ) k) : TokStep G s w G' s' w' σ := by
  refine ⟨fun h => ⟨by rw [← hs]; exact h, hH⟩, fun iv' c' h => ⟨iv', c', by rw [← hs]; exact h, Nat.le_refl _, rfl, fun _ k n hk => ⟨hk, hc iv' c' (by rw [← hs]; exact h) k n hk⟩⟩⟩

theorem TokStep.dead {G : Gh} {s : St} {w : World} {G' : Gh} {s' : St} {w' : World} {σ : Nat} {v : VV} (hs : s'.get (.tok σ) = .v v) : TokStep G s w G' s' w' σ := by
  refine ⟨fun h => ?_, fun iv' c' h => ?_⟩
  · rw [hs] at h; simp [SV.live] at h
  · rw [hs] at h; cases h

theorem toksL_mem {x : VV} {xs : List VV} {j : Nat} (h : xs[j]? = some x) {σ : Nat} (hσ : σ ∈ x.toks) : σ ∈ toksL xs := by
  induction xs generalizing j with
  | nil => simp at h
  | cons y ys ih =>
    simp only [toksL, List.mem_append]
    cases j with
    | zero => simp at h; subst h; exact .inl hσ
    | succ j => exact .inr (ih (by simpa using h))

theorem bksL_mem {x : VV} {xs : List VV} {j : Nat} (h : xs[j]? = some x) {b : Key} (hb : b ∈ x.bks) : b ∈ bksL xs := by
  induction xs generalizing j with
  | nil => simp at h
  | cons y ys ih =>
    simp only [bksL, List.mem_append]
    cases j with
    | zero => simp at h; subst h; exact .inl hb
    | succ j => exact .inr (ih (by simpa using h))

abbrev ImF (G : Gh) (w : World) (G' : Gh) (w' : World) : Prop := ∀ g, G.O g = .im → G'.O g = .im ∧ w'.heap[g]? = w.heap[g]?

theorem VR0.keep {G : Gh} {s : St} {w : World} {G' : Gh} {s' : St} {w' : World} {u : Value} {v : VV} (h : VR0 G s w u v)
    (ht : ∀ σ ∈ v.toks, TokStep G s w G' s' w' σ) (hb : ∀ b ∈ v.bks, G'.B b = G.B b) (him : ImF G w G' w') : VR0 G' s' w' u v := by
  cases v with
  | sc x => exact VP.keep h him
  | rf τ =>
    refine ⟨h.1, fun hl => ?_⟩
    replace h := h.2
    obtain ⟨h1, _⟩ := ht τ (by simp [VV.toks])
    obtain ⟨a1, a2⟩ := h1 hl
    rw [a2]; exact h a1
  | rw τ lo n =>
    refine ⟨h.1, fun hl => ?_⟩
    replace h := h.2
    obtain ⟨h1, h2⟩ := ht τ (by simp [VV.toks])
    obtain ⟨a1, a2⟩ := h1 hl
    rw [a2]; exact h a1
  | ri τ iv k =>
    refine ⟨h.1, fun iv' c' hc => ?_⟩
    replace h := h.2
    obtain ⟨h1, h2⟩ := ht τ (by simp [VV.toks])
    obtain ⟨iv0, c0, e0, hle, el, hin⟩ := h2 iv' c' hc
    obtain ⟨b1, b2⟩ := h iv0 c0 e0
    refine ⟨Nat.le_trans b1 hle, fun e => ?_⟩
    subst e
    have e : iv0 = iv := Nat.le_antisymm hle b1
    subst e
    obtain ⟨n, r1, r2⟩ := b2 rfl
    obtain ⟨q1, q2⟩ := hin rfl k n r1
    rw [(h1 (by rw [hc]; rfl)).2]
    exact ⟨n, q1, by rw [q2]; exact r2⟩
  | ea τ i =>
    refine ⟨h.1, fun iv' c' hc => ?_⟩
    replace h := h.2
    obtain ⟨h1, h2⟩ := ht τ (by simp [VV.toks])
    obtain ⟨iv0, c0, e0, hle, el, hin⟩ := h2 iv' c' hc
    obtain ⟨b1, b2⟩ := h iv0 c0 e0
    rw [(h1 (by rw [hc]; rfl)).2, el]
    exact ⟨b1, b2⟩
  | ei τ iv k j =>
    refine ⟨h.1, fun iv' c' hc => ?_⟩
    replace h := h.2
    obtain ⟨h1, h2⟩ := ht τ (by simp [VV.toks])
    obtain ⟨iv0, c0, e0, hle, el, hin⟩ := h2 iv' c' hc
    obtain ⟨b1, b2⟩ := h iv0 c0 e0
    refine ⟨Nat.le_trans b1 hle, fun e => ?_⟩
    subst e
    have e : iv0 = iv := Nat.le_antisymm hle b1
    subst e
    obtain ⟨n, hh, r1, r0, r2, r3⟩ := b2 rfl
    obtain ⟨q1, q2⟩ := hin rfl k n r1
    rw [(h1 (by rw [hc]; rfl)).2]
    exact ⟨n, hh, q1, r0, by rw [q2]; exact r2, r3⟩
  | ai x =>
    obtain ⟨ad, y, h1, h2, h3, h4⟩ := h
    obtain ⟨i1, i2⟩ := him _ h2
    exact ⟨ad, y, h1, i1, by rw [tmCell (w := w) (w' := w') i2]; exact h3, VP.keep h4 him⟩
  | pt b => show u = _; rw [hb b (by simp [VV.bks])]; exact h
  | pa b m i => exact ⟨by rw [hb b (by simp [VV.bks])]; exact h.1, h.2⟩
  | fn f cs =>
    show u = _
    have : cs.map (capV G'.B) = cs.map (capV G.B) := List.map_congr_left fun b hb' => by unfold capV; rw [hb b (by simpa [VV.bks] using hb')]
    rw [this]; exact h
  | tp xs => exact h
  | nf => exact h
  | ud => exact h
  | un => exact h

theorem VR.keep {G : Gh} {s : St} {w : World} {G' : Gh} {s' : St} {w' : World} {u : Value} {v : VV} (h : VR G s w u v)
    (ht : ∀ σ ∈ v.toks, TokStep G s w G' s' w' σ) (hb : ∀ b ∈ v.bks, G'.B b = G.B b) (him : ImF G w G' w') : VR G' s' w' u v := by
  cases v with
  | tp xs =>
    obtain ⟨vs, h1, h2, h3⟩ := h
    exact ⟨vs, h1, h2, fun j y x hy hx => (h3 j y x hy hx).keep (fun σ hσ => ht σ (by simp only [VV.toks]; exact toksL_mem hx hσ)) (fun b hb' => hb b (by simp only [VV.bks]; exact bksL_mem hx hb')) him⟩
  | sc x => exact VR0.keep (v := .sc x) h ht hb him
  | rf τ => exact VR0.keep (v := .rf τ) h ht hb him
  | rw τ lo m => exact VR0.keep (v := .rw τ lo m) h ht hb him
  | ri τ iv k => exact VR0.keep (v := .ri τ iv k) h ht hb him
  | ea τ i => exact VR0.keep (v := .ea τ i) h ht hb him
  | ei τ iv k j => exact VR0.keep (v := .ei τ iv k j) h ht hb him
  | ai x => exact VR0.keep (v := .ai x) h ht hb him
  | pt b => exact VR0.keep (v := .pt b) h ht hb him
  | pa b m i => exact VR0.keep (v := .pa b m i) h ht hb him
  | fn f cs => exact VR0.keep (v := .fn f cs) h ht hb him
  | nf => exact h
  | ud => exact h
  | un => exact h

/-! ### Steps -/
theorem Rel.step {E : El} {n : Nat} {G : Gh} {s : St} {a : Act} {w : World} (R : Rel E n G s a w) {G' : Gh} {s' : St} {a' : Act} {w' : World}
    (hsz : a'.tmps.size = n) (hdf : a'.defers = []) (him : ImF G w G' w')
    (hslot : ∀ t v, s'.get (.slot t) = .v v → (s.get (.slot t) = .v v ∧ a'.tmps.getD t undef = a.tmps.getD t undef ∧ (∀ σ ∈ v.toks, TokStep G s w G' s' w' σ) ∧ ∀ b ∈ v.bks, G'.B b = G.B b) ∨
      VR G' s' w' (a'.tmps.getD t undef) v)
    (hbox : ∀ b v, s'.get (.box b) = .v v → v = .un ∨ (s.get (.box b) = .v v ∧ G'.B b = G.B b ∧ (G.O (G.B b) = .bx b → G'.O (G.B b) = .bx b ∧ w'.heap[G.B b]? = w.heap[G.B b]?) ∧ (∀ σ ∈ v.toks, TokStep G s w G' s' w' σ) ∧ ∀ b ∈ v.bks, G'.B b = G.B b) ∨
      (G'.O (G'.B b) = .bx b ∧ ∃ u e, w'.heap[G'.B b]? = some (.cells u.cells e (0, 0)) ∧ VR G' s' w' u v))
    (htok : ∀ τ iv c, s'.get (.tok τ) = .t iv c → ((∃ iv0, s.get (.tok τ) = .t iv0 c) ∧ G'.H τ = G.H τ ∧ ∀ g p, G.O g = .ow τ p → g < w.heap.size → G'.O g = .ow τ p ∧ w'.heap[g]? = w.heap[g]?) ∨
      VC E G'.O w' τ (G'.H τ) c)
    (hfro : ∀ τ x, s'.get (.tok τ) = .f x → (s.get (.tok τ) = .f x ∧ G'.H τ = G.H τ) ∨ VP G'.O w' (G'.H τ) x)
    (hfresh : ∀ g, w'.heap.size ≤ g → G'.O g = .no) (hpar : ∀ j, G'.B (.par j) = G.B (.par j) := by intro j; rfl) : Rel E n G' s' a' w' := by
  refine ⟨hsz, hdf, fun t v hv => ?_, fun b v hv => ?_, fun τ iv c hc => ?_, fun τ x hx => ?_, hfresh, fun j => (hpar j).trans (R.par j)⟩
  · rcases hslot t v hv with ⟨h1, h2, h3, h4⟩ | h
    · rw [h2]; exact (R.slots t v h1).keep h3 h4 him
    · exact h
  · rcases hbox b v hv with h | ⟨h1, h2, h3, h4, h5⟩ | h
    · exact .inl h
    · rcases R.boxes b v h1 with h | ⟨r1, u, e, r2, r3⟩
      · exact .inl h
      · obtain ⟨k1, k2⟩ := h3 r1
        exact .inr ⟨by rw [h2]; exact k1, u, e, by rw [h2, k2]; exact r2, r3.keep h4 h5 him⟩
    · exact .inr h
  · rcases htok τ iv c hc with ⟨⟨iv0, h1⟩, h2, h3⟩ | h
    · rw [h2]; exact (R.toks τ iv0 c h1).move him fun g p hg hl => h3 g p hg hl
    · exact h
  · rcases hfro τ x hx with ⟨h1, h2⟩ | h
    · rw [h2]; exact (R.froz τ x h1).keep him
    · exact h

theorem getD_put (a : Act) (d : Nat) (v : Value) (t : Nat) (hd : d < a.tmps.size) : (a.put (some d) v).tmps.getD t undef = if d = t then v else a.tmps.getD t undef := by
  simp only [Act.put, Array.getD_eq_getD_getElem?, Array.getElem?_setIfInBounds]
  by_cases h : d = t
  · subst h; simp [hd]
  · simp [h]

theorem size_put (a : Act) (d : Option Nat) (v : Value) : (a.put d v).tmps.size = a.tmps.size := by
  cases d <;> simp [Act.put]
theorem defers_put (a : Act) (d : Option Nat) (v : Value) : (a.put d v).defers = a.defers := by
  cases d <;> rfl

/-! ### What a reading comes to -/
abbrev CRel := FuncId → List CV → List CV → List CV → List CV → Prop

def Runs (CR : CRel) (s : St) : Rd → St → Prop
  | .done u, r => r = u
  | .get l k, r => Runs CR s (k (s.get l)) r
  | .guard b m, r => b = true ∧ Runs CR s m r
  | .ite b m n, r => (b = true ∧ Runs CR s m r) ∨ (b = false ∧ Runs CR s n r)
  | .call f as bx k, r => ∃ rs bx', CR f as bx rs bx' ∧ Runs CR s (k rs bx') r
  | .fail, _ => False

abbrev CHan := FuncId → List CV → List CV → (List CV → List CV → Option RT) → Option RT
def CSound (C : CHan) (CR : CRel) : Prop := ∀ f as bx k r, C f as bx k = some r → ∃ rs bx', CR f as bx rs bx' ∧ k rs bx' = some r

theorem runK_runs {C : CHan} {CR : CRel} (hC : CSound C CR) (s : St) (m : Rd) : ∀ (k : St → Option RT) (r : RT), runK C s m k = some r → ∃ u, Runs CR s m u ∧ k u = some r := by
  induction m with
  | done u => intro k r h; exact ⟨u, rfl, h⟩
  | get l f ih => intro k r h; exact ih _ k r h
  | guard b m ih =>
    intro k r h
    simp only [runK] at h
    cases b with
    | true => obtain ⟨u, h1, h2⟩ := ih k r h; exact ⟨u, ⟨rfl, h1⟩, h2⟩
    | false => cases h
  | ite b m n ih1 ih2 =>
    intro k r h
    simp only [runK] at h
    cases b with
    | true => obtain ⟨u, h1, h2⟩ := ih1 k r h; exact ⟨u, .inl ⟨rfl, h1⟩, h2⟩
    | false => obtain ⟨u, h1, h2⟩ := ih2 k r h; exact ⟨u, .inr ⟨rfl, h1⟩, h2⟩
  | call f as bx g ih =>
    intro k r h
    simp only [runK] at h
    obtain ⟨rs, bx', h1, h2⟩ := hC f as bx _ r h
    obtain ⟨u, h3, h4⟩ := ih rs bx' k r h2
    exact ⟨u, ⟨rs, bx', h1, h3⟩, h4⟩
  | fail => intro k r h; cases h

/-- What an operand is. -/
def Opv (s : St) (x : Operand) (v : VV) : Prop :=
  match x with
  | .tmp t => s.get (.slot t) = .v v
  | .const c => v = ofConst c
  | .func f => v = .fn f []
  | .global _ => False

theorem runs_opd {CR : CRel} {s : St} {x : Operand} {k : VV → Rd} {u : St} (h : Runs CR s (opd x k) u) : ∃ v, Opv s x v ∧ Runs CR s (k v) u := by
  cases x with
  | tmp t =>
    simp only [opd, Runs] at h
    split at h
    · rename_i v hv; exact ⟨v, hv, h⟩
    · exact h.elim
  | const c => exact ⟨_, rfl, h⟩
  | func f => exact ⟨_, rfl, h⟩
  | global g => exact h.elim

theorem ofConst_ok (G : Gh) (s : St) (w : World) (c : Value) : VR G s w c (ofConst c) := by
  unfold ofConst
  split
  · rfl
  · rfl
  · rfl
  · rfl
  · exact trivial

theorem opv_ok {E : El} {n : Nat} {G : Gh} {s : St} {a : Act} {w : World} (R : Rel E n G s a w) {x : Operand} {v : VV} (h : Opv s x v) : VR G s w (a.eval x) v := by
  cases x with
  | tmp t => exact R.slots t v h
  | const c => have h' : v = ofConst c := h; subst h'; exact ofConst_ok G s w c
  | func f => have h' : v = .fn f [] := h; subst h'; rfl
  | global g => exact h.elim

/-! ### An operation that puts a value, and leaves the world alone -/
def OpOK (E : El) (n : Nat) (P : Program) (G : Gh) (s : St) (a : Act) (w : World) (o : Oper) (u : St) : Prop :=
  ∀ (next : Act → World → Prop) (Q : Exit → Act → World → Prop),
    (∀ G' a' w', Rel E n G' (u ++ s) a' w' → Fr G.O w G'.O w' → next a' w') → o.wp P a w next Q

theorem OpOK.of_value {E : El} {n : Nat} {P : Program} {G : Gh} {s : St} {a : Act} {w : World} {o : Oper} {u : St} {v : Value} {w' : World}
    (hrun : (execOp a.eval o).run P w = .ok (.value v) w') (h : ∃ G', Rel E n G' (u ++ s) (a.put o.dst v) w' ∧ Fr G.O w G'.O w') : OpOK E n P G s a w o u := by
  intro next Q hn
  obtain ⟨G', h1, h2⟩ := h
  unfold Oper.wp
  rw [hrun]
  exact hn G' _ _ h1 h2

theorem OpOK.of_skip {E : El} {n : Nat} {P : Program} {G : Gh} {s : St} {a : Act} {w : World} {o : Oper} {u : St} {w' : World}
    (hrun : (execOp a.eval o).run P w = .ok .skip w') (h : ∃ G', Rel E n G' (u ++ s) (a.put o.dst undef) w' ∧ Fr G.O w G'.O w') : OpOK E n P G s a w o u := by
  intro next Q hn
  obtain ⟨G', h1, h2⟩ := h
  unfold Oper.wp
  rw [hrun]
  exact hn G' _ _ h1 h2

/-- The state gets a slot; nothing else. -/
theorem Rel.slot {E : El} {n : Nat} {G : Gh} {s : St} {a : Act} {w : World} (R : Rel E n G s a w) {t : Nat} {v : Value} {x : VV} (ht : t < n) (hv : VR G s w v x) :
    Rel E n G ((.slot t, .v x) :: s) (a.put (some t) v) w := by
  have hsz : t < a.tmps.size := by rw [R.size]; exact ht
  have hts : ∀ σ, TokStep G s w G ((.slot t, .v x) :: s) w σ := fun σ => TokStep.same (by rw [get_cons]; rfl) rfl fun _ _ _ _ _ _ => rfl
  refine R.step (by rw [size_put]; exact R.size) (by rw [defers_put]; exact R.defers) (fun g h => ⟨h, rfl⟩) (fun t' y hy => ?_) (fun b y hy => ?_) (fun τ iv c hc => ?_) (fun τ y hy => ?_) R.fresh
  · rw [get_cons] at hy
    rw [getD_put a t v t' hsz]
    by_cases e : t = t'
    · subst e
      simp only [if_true] at hy
      injection hy with hy
      subst hy
      rw [if_pos rfl]
      exact .inr (hv.keep (fun σ _ => hts σ) (fun _ _ => rfl) fun g h => ⟨h, rfl⟩)
    · rw [if_neg (by simpa using e)] at hy
      rw [if_neg e]
      exact .inl ⟨hy, rfl, fun σ _ => hts σ, fun _ _ => rfl⟩
  · rw [get_cons] at hy
    simp only [reduceCtorEq, if_false] at hy
    exact .inr (.inl ⟨hy, rfl, fun h => ⟨h, rfl⟩, fun σ _ => hts σ, fun _ _ => rfl⟩)
  · rw [get_cons] at hc
    simp only [reduceCtorEq, if_false] at hc
    exact .inl ⟨⟨iv, hc⟩, rfl, fun g p h _ => ⟨h, rfl⟩⟩
  · rw [get_cons] at hy
    simp only [reduceCtorEq, if_false] at hy
    exact .inl ⟨hy, rfl⟩

theorem put_ok {E : El} {n : Nat} {P : Program} {G : Gh} {s : St} {a : Act} {w : World} (R : Rel E n G s a w) {CR : CRel} {o : Oper} {u : St} {v : Value} {x : VV} (hd : dstOk n o.dst = true)
    (hrun : (execOp a.eval o).run P w = .ok (.value v) w) (hv : VR G s w v x) (hu : Runs CR s (put o x) u) : OpOK E n P G s a w o u := by
  refine OpOK.of_value hrun ⟨G, ?_, Fr.refl _ _⟩
  cases hdst : o.dst with
  | none =>
    simp only [put, hdst, Runs] at hu
    subst hu
    exact R
  | some t =>
    simp only [put, hdst, Runs] at hu
    subst hu
    rw [hdst] at hd
    exact R.slot (by simpa [dstOk, Nat.blt_eq] using hd) hv

end Go.Tm
