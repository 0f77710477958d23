/- The T-machine: rows. -/
import Derived.Test.YtmcldnoofgkidaaTm10
set_option linter.unusedVariables false
set_option linter.unusedSimpArgs false
namespace Go.Tm
open Go.RowKit

def rhoO (O : Lbl) (ρ : Lab → Lab) (t : Nat) (v' : Value) : Lbl := fun g => if v'.ownBlock = some g then .ow t none else ρ (O g)

section
variable {P : Program} {K : Kf} {E : El} {n : Nat} {G : Gh} {s : St} {a : Act} {w : World} {CR : CRel} {o : Oper} {u : St}

/-- A token is made; the labels turn by ρ. -/
theorem Rel.append2 (R : Rel E n G s a w) {t : Nat} {v v' : Value} {w' : World} {s1 : St} {c : Ct} (ρ : Lab → Lab) (h1 : ρ .im = .im) (h2 : ρ .no = .no) (h3 : ∀ b, ρ (.bx b) = .bx b) (ht : t < n) (hno : NoRef t s)
    (happ : App w w' v v') (hlab : ∀ g, v.ownBlock = some g → g < w.heap.size ∧ ∃ τ p, G.O g = .ow τ p) (hsg : Sgl v')
    (hloc : ∀ t', s1.get (.slot t') = s.get (.slot t')) (hbx : ∀ b, s1.get (.box b) = s.get (.box b))
    (hVC : (∀ g, g < w.heap.size → v.ownBlock ≠ some g → rhoO G.O ρ t v' g = ρ (G.O g) ∧ w'.heap[g]? = w.heap[g]?) → VC E (rhoO G.O ρ t v') w' t v' c)
    (hts : (∀ g, g < w.heap.size → v.ownBlock ≠ some g → rhoO G.O ρ t v' g = ρ (G.O g) ∧ w'.heap[g]? = w.heap[g]?) → ∀ σ, σ ≠ t → TokStep G s w { G with O := rhoO G.O ρ t v', H := updH G.H t v' } s1 w' σ)
    (htok : (∀ g, g < w.heap.size → v.ownBlock ≠ some g → rhoO G.O ρ t v' g = ρ (G.O g) ∧ w'.heap[g]? = w.heap[g]?) → ∀ σ iv d, σ ≠ t → s1.get (.tok σ) = .t iv d → VC E (rhoO G.O ρ t v') w' σ (G.H σ) d)
    (hfro : ∀ σ x, σ ≠ t → s1.get (.tok σ) = .f x → s.get (.tok σ) = .f x) :
    ∃ G', Rel E n G' ((.slot t, .v (.rf t)) :: (.tok t, .t 0 c) :: s1) (a.put (some t) v') w' ∧ Fr G.O w G'.O w' := by
  have hsize : w.heap.size ≤ w'.heap.size := by
    rcases happ.how with ⟨_, h, _⟩ | ⟨_, h, _⟩ <;> omega
  have hkeep : ∀ g, g < w.heap.size → v.ownBlock ≠ some g → rhoO G.O ρ t v' g = ρ (G.O g) ∧ w'.heap[g]? = w.heap[g]? := by
    intro g hg hv
    have hne : v'.ownBlock ≠ some g := by
      rcases happ.how with ⟨h, _, _⟩ | ⟨h, _, _⟩
      · rw [h]; exact hv
      · rw [h]; intro e; injection e with e; omega
    refine ⟨by unfold rhoO; rw [if_neg hne], ?_⟩
    rcases happ.how with ⟨_, _, h⟩ | ⟨_, _, h⟩
    · exact h g (fun e => hv e.symm)
    · exact h g hg
  have hlt : ∀ g, G.O g ≠ .no → g < w.heap.size := by
    intro g hg
    rcases Nat.lt_or_ge g w.heap.size with h | h
    · exact h
    · exact absurd (R.fresh g h) hg
  have hnv : ∀ g, (∀ τ p, G.O g ≠ .ow τ p) → v.ownBlock ≠ some g := by
    intro g h e
    obtain ⟨_, τ, p, h'⟩ := hlab g e
    exact h τ p h'
  have him : ∀ g, G.O g = .im → rhoO G.O ρ t v' g = .im ∧ w'.heap[g]? = w.heap[g]? := by
    intro g h
    obtain ⟨k1, k2⟩ := hkeep g (hlt g (by rw [h]; simp)) (hnv g (by rw [h]; simp))
    exact ⟨by rw [k1, h, h1], k2⟩
  refine ⟨{ G with O := rhoO G.O ρ t v', H := updH G.H t v' }, R.newTok ht hno hsg hloc hbx (hts hkeep) him (fun g b h => ?_) (htok hkeep) hfro (hVC hkeep) (fun g hg => ?_),
    ⟨happ.os, happ.tape, happ.output, hsize, him, fun g hg h => ?_⟩⟩
  · obtain ⟨k1, k2⟩ := hkeep g (hlt g (by rw [h]; simp)) (hnv g (by rw [h]; simp))
    exact ⟨by rw [k1, h, h3], k2⟩
  · have h0 := R.fresh g (by omega)
    have hne : v'.ownBlock ≠ some g := by
      rcases happ.how with ⟨h, h5, _⟩ | ⟨h, h5, _⟩
      · rw [h]; intro e; have := (hlab g e).1; omega
      · rw [h]; intro e; injection e with e; omega
    unfold rhoO
    rw [if_neg hne, h0, h2]
  · obtain ⟨k1, k2⟩ := hkeep g hg (hnv g (by rw [h]; simp))
    exact ⟨k1.trans (by rw [h, h2]), k2⟩

/-- How the labels of inner rows turn. -/
def rhoR (τ σ : Option Nat) (oo : Bool) (m t : Nat) : Lab → Lab
  | .ow q (some j) => if some q = τ then (if oo then .ow t (some j) else .im) else if some q = σ then (if oo then .ow t (some (m + j)) else .im) else .ow q (some j)
  | l => l

theorem SlI.sgl {O : Lbl} {v : Value} {cs : List Value} (h : SlI O w v cs) : Sgl v := by obtain ⟨a, cap, rfl, _⟩ := h; trivial
theorem SlO.sgl {O : Lbl} {lab : Lab} {e : TypeId} {v : Value} {cs : List Value} (h : SlO O w lab e v cs) : Sgl v := by obtain ⟨_, a, cap, rfl, _⟩ := h.len; trivial
theorem Sgl.one {v : Value} (h : Sgl v) : v.oneCell' = true := by cases v <;> first | rfl | exact h.elim

/-- An append of rows. -/
theorem append_rows (R : Rel E n G s a w) {T : TypeId} {inf : TypeInfo} {z : Value} {x y : Operand} {t : Nat} {v xv : Value} {hs1 hs2 : List Value} {xss yss : List (List Int)} {o1 o2 : Bool} {τ σ : Option Nat} {s1 gone : St}
    (ho : o.op = .call { callee := .builtin .append, args := #[x, y], argTypes := #[T, T] }) (hdst : o.dst = some t) (ht : t < n) (hno : NoRef t s)
    (hun : P.underlying T = some (.slice E.eR)) (hinf : P.info? E.eR = some inf) (hz : inf.zero = some z) (hsz : inf.size = 1) (hzs : z.cells.size = 1) (hby : inf.bytes ≤ 32)
    (hx : a.eval x = v) (hy : a.eval y = xv)
    (hv : w.ownsRow 0 E.eR 1 v hs1.length hs1) (hvl : ∀ g, v.ownBlock = some g → ∃ τ0, τ = some τ0 ∧ G.O g = .ow τ0 none) (hn1 : hs1.length = xss.length)
    (in1 : ∀ (j : Nat) h xs, hs1[j]? = some h → xss[j]? = some xs → (o1 = true → ∃ τ0, τ = some τ0 ∧ SlO G.O w (.ow τ0 (some j)) (E.eI .i64) h (vints .i64 xs)) ∧ (o1 = false → SlI G.O w h (vints .i64 xs)))
    (hs : SlI (fun _ => .im) w xv hs2) (hn2 : hs2.length = yss.length)
    (in2 : ∀ (j : Nat) h xs, hs2[j]? = some h → yss[j]? = some xs → (∃ σ0, σ = some σ0 ∧ SlO G.O w (.ow σ0 (some j)) (E.eI .i64) h (vints .i64 xs)) ∨ (o2 = false ∧ SlI (fun g => rhoR τ σ (o1 && o2) xss.length t (G.O g)) w h (vints .i64 xs) ))
    (hne : ∀ q, τ = some q → σ ≠ some q)
    (hcap : xss.length + yss.length ≤ 4398046511104) (hs1g : s1 = gone ++ s)
    (hloc : ∀ t', s1.get (.slot t') = s.get (.slot t')) (hbx : ∀ b, s1.get (.box b) = s.get (.box b))
    (hτ : ∀ q, τ = some q → s1.get (.tok q) = .v .un) (hσ : ∀ q, σ = some q → s1.get (.tok q) = .v .un ∨ (o1 && o2) = false ∧ ∃ iv b d, s.get (.tok q) = .t iv (.rows b d) ∧ s1.get (.tok q) = .t (iv + 1) (.rows false d))
    (hoth : ∀ q, τ ≠ some q → σ ≠ some q → s1.get (.tok q) = s.get (.tok q)) :
    OpOK E n P G s a w o ([(.slot t, .v (.rf t)), (.tok t, .t 0 (.rows (o1 && o2) (xss ++ yss)))] ++ gone) := by
  have hone : ∀ h ∈ hs2, h.oneCell' = true := by
    intro h hh
    obtain ⟨j, hj, e⟩ := List.mem_iff_getElem.1 hh
    have hj' : j < yss.length := by omega
    rcases in2 j h yss[j] (by rw [List.getElem?_eq_getElem hj, e]) (List.getElem?_eq_getElem hj') with ⟨_, _, h1⟩ | ⟨_, h1⟩
    · exact h1.sgl.one
    · exact h1.sgl.one
  obtain ⟨v', w', hrun, hown', happ⟩ := app_run (P := P) w T o.type E.eR inf z hun hinf hz hsz hzs v hs1.length hs1 hv xv hs2 hs hone (by unfold maxLen; omega) (by
    have : (hs1.length + hs2.length) * inf.bytes ≤ 4398046511104 * 32 := Nat.mul_le_mul (by omega) hby
    omega)
  have hrun' := exec_append (P := P) (w := w) (ρ := a.eval) ho (by rw [hx, hy]; exact hrun)
  refine OpOK.of_value hrun' ?_
  rw [hdst]
  have hlt : ∀ g, G.O g ≠ .no → g < w.heap.size := by
    intro g hg
    rcases Nat.lt_or_ge g w.heap.size with h | h
    · exact h
    · exact absurd (R.fresh g h) hg
  have hsg : Sgl v' := by
    rcases hown'.2 with ⟨rfl, _⟩ | ⟨g, cap, cur, rfl, _⟩ <;> trivial
  have hvno : ∀ g l, G.O g = l → (∀ q, τ = some q → l ≠ .ow q none) → v.ownBlock ≠ some g := by
    intro g l h1 h2 e
    obtain ⟨q, e1, e2⟩ := hvl g e
    exact h2 q e1 (by rw [← h1, e2])
  have := R.append2 (s1 := s1) (c := .rows (o1 && o2) (xss ++ yss)) (rhoR τ σ (o1 && o2) xss.length t) rfl rfl (fun _ => rfl) ht hno happ
    (fun g hg => ⟨(hv.lt g hg).2, by obtain ⟨q, _, e⟩ := hvl g hg; exact ⟨q, none, e⟩⟩) hsg hloc hbx
    (fun hk => by
      refine ⟨hs1 ++ hs2, ⟨by rw [List.length_append]; exact hown', fun g hg => by unfold rhoO; rw [if_pos hg]⟩, by simp [hn1, hn2], fun j h xs hh hxx => ?_⟩
      have key1 : ∀ q j h xs, SlO G.O w (.ow q (some j)) (E.eI .i64) h (vints .i64 xs) → ∀ lab', rhoR τ σ (o1 && o2) xss.length t (.ow q (some j)) = lab' → SlO (rhoO G.O (rhoR τ σ (o1 && o2) xss.length t) t v') w' lab' (E.eI .i64) h (vints .i64 xs) := by
        intro q j h xs hS lab' e
        refine hS.keep fun g hg hl => ?_
        obtain ⟨k1, k2⟩ := hk g hl (hvno g _ hg (by simp))
        exact ⟨by rw [k1, hg, e], k2⟩
      have key2 : ∀ q j h xs, SlO G.O w (.ow q (some j)) (E.eI .i64) h (vints .i64 xs) → rhoR τ σ (o1 && o2) xss.length t (.ow q (some j)) = .im → SlI (rhoO G.O (rhoR τ σ (o1 && o2) xss.length t) t v') w' h (vints .i64 xs) := by
        intro q j h xs hS e
        refine hS.frozen (fun g hg hl => ?_) hS.len.1
        obtain ⟨k1, k2⟩ := hk g hl (hvno g _ hg (by simp))
        exact ⟨by rw [k1, hg, e], k2⟩
      have key3 : ∀ h xs, SlI (fun g => rhoR τ σ (o1 && o2) xss.length t (G.O g)) w h (vints .i64 xs) → SlI (rhoO G.O (rhoR τ σ (o1 && o2) xss.length t) t v') w' h (vints .i64 xs) := by
        intro h xs hS
        refine hS.keep fun g hg => ?_
        have hne0 : G.O g ≠ .no := by intro e; simp only [e, rhoR] at hg; cases hg
        obtain ⟨k1, k2⟩ := hk g (hlt g hne0) (hvno g _ rfl (by intro q _ e; simp only [e, rhoR] at hg; cases hg))
        exact ⟨by rw [k1]; exact hg, k2⟩
      by_cases hj : j < xss.length
      · rw [List.getElem?_append_left (by omega)] at hh
        rw [List.getElem?_append_left hj] at hxx
        obtain ⟨p1, p2⟩ := in1 j h xs hh hxx
        cases o1 with
        | true =>
          obtain ⟨q, e1, e2⟩ := p1 rfl
          refine ⟨fun hoo => key1 q j h xs e2 _ ?_, fun hoo => key2 q j h xs e2 ?_⟩
          · simp only [rhoR, e1, if_true]; rw [hoo]; rfl
          · simp only [rhoR, e1, if_true]; rw [hoo]; rfl
        | false =>
          refine ⟨fun hoo => by simp at hoo, fun _ => key3 h xs ((p2 rfl).keep fun g hg => ⟨by simp only [hg]; rfl, rfl⟩)⟩
      · rw [List.getElem?_append_right (by omega)] at hh
        rw [List.getElem?_append_right (by omega)] at hxx
        have hh' : hs2[j - xss.length]? = some h := by rw [← hn1]; exact hh
        rcases in2 (j - xss.length) h xs hh' hxx with ⟨q, e1, e2⟩ | ⟨e1, e2⟩
        · have hqτ : ¬ some q = τ := fun e => hne q e.symm e1
          have hjj : xss.length + (j - xss.length) = j := by omega
          refine ⟨fun hoo => key1 q _ h xs e2 _ ?_, fun hoo => key2 q _ h xs e2 ?_⟩
          · simp only [rhoR]; rw [if_neg hqτ, if_pos e1.symm, hoo, if_pos rfl, hjj]
          · simp only [rhoR]; rw [if_neg hqτ, if_pos e1.symm, hoo]; rfl
        · subst e1
          exact ⟨fun hoo => by simp at hoo, fun _ => key3 h xs e2⟩)
    (fun hk q hq => by
      by_cases e1 : τ = some q
      · exact TokStep.dead (hτ q e1)
      · by_cases e2 : σ = some q
        · rcases hσ q e2 with h | ⟨_, iv, b, d, g1, g2⟩
          · exact TokStep.dead h
          · refine ⟨fun _ => ⟨by rw [g1]; rfl, by simp [updH, hq]⟩, fun iv' c' h => ?_⟩
            rw [g2] at h
            injection h with h1 h2
            subst h1; subst h2
            exact ⟨iv, _, g1, by omega, rfl, fun e => by omega⟩
        · refine TokStep.same (hoth q e1 e2) (by simp [updH, hq]) fun iv d hd k m hm => ?_
          refine (R.toks q iv d hd).outer (fun g hg => (hk g (hlt g (by rw [hg]; simp)) (hvno g _ hg (by rintro q' e h; injection h with h _; exact e1 (by rw [e, h])))).2) k m hm)
    (fun hk q iv d hq hd => by
      by_cases e1 : τ = some q
      · rw [hτ q e1] at hd; cases hd
      · by_cases e2 : σ = some q
        · rcases hσ q e2 with h | ⟨hoo, iv2, b, d2, g1, g2⟩
          · rw [h] at hd; cases hd
          · rw [g2] at hd
            injection hd with h1 h2
            subst h2
            obtain ⟨hs', k1, k2, k3⟩ := R.toks q _ _ g1
            refine ⟨hs', k1.keep fun g hg hl => ?_, k2, fun j h xs hh hxx => ⟨fun e => (by cases e), fun _ => ?_⟩⟩
            · obtain ⟨p1, p2⟩ := hk g hl (hvno g _ hg (by rintro q' e h; injection h with h _; exact e1 (by rw [e, h])))
              exact ⟨by rw [p1, hg]; rfl, p2⟩
            · obtain ⟨r1, r2⟩ := k3 j h xs hh hxx
              cases b with
              | true =>
                have hS := r1 rfl
                refine hS.frozen (fun g hg hl => ?_) hS.len.1
                obtain ⟨p1, p2⟩ := hk g hl (hvno g _ hg (by simp))
                exact ⟨by rw [p1, hg]; simp only [rhoR]; rw [if_neg (fun e => e1 e.symm), if_pos e2.symm, hoo]; rfl, p2⟩
              | false =>
                refine (r2 rfl).keep fun g hg => ?_
                obtain ⟨p1, p2⟩ := hk g (hlt g (by rw [hg]; simp)) (hvno g _ hg (by simp))
                exact ⟨by rw [p1, hg]; rfl, p2⟩
        · rw [hoth q e1 e2] at hd
          refine (R.toks q iv d hd).move (fun g hg => ?_) fun g p hg hl => ?_
          · obtain ⟨p1, p2⟩ := hk g (hlt g (by rw [hg]; simp)) (hvno g _ hg (by simp))
            exact ⟨by rw [p1, hg]; rfl, p2⟩
          · obtain ⟨p1, p2⟩ := hk g hl (hvno g _ hg (by rintro q' e h; injection h with h _; exact e1 (by rw [e, h])))
            refine ⟨?_, p2⟩
            rw [p1, hg]
            cases p with
            | none => rfl
            | some j => simp only [rhoR]; rw [if_neg (fun e => e1 e.symm), if_neg (fun e => e2 e.symm)])
    (fun q x hq hx' => by
      by_cases e1 : τ = some q
      · rw [hτ q e1] at hx'; cases hx'
      · by_cases e2 : σ = some q
        · rcases hσ q e2 with h | ⟨_, iv, b, d, g1, g2⟩
          · rw [h] at hx'; cases hx'
          · rw [g2] at hx'; cases hx'
        · rw [hoth q e1 e2] at hx'; exact hx')
  obtain ⟨G', r1, r2⟩ := this
  refine ⟨G', ?_, r2⟩
  rw [hs1g] at r1
  simpa using r1
end
end Go.Tm
