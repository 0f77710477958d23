/- The T-machine: regions in the text's order; code. -/
import Derived.Test.YtmcldnoofgkidaaTm16
set_option linter.unusedVariables false
set_option linter.unusedSimpArgs false
namespace Go.Tm
open Go.RowKit

section
variable {P : Program} {K : Kf} {E : El} {n : Nat} {G : Gh} {s : St} {a : Act} {w : World} {CR : CRel} {o : Oper} {u : St}

/-- A state that answers alike. -/
theorem Rel.congr (R : Rel E n G s a w) {s' : St} (h : ∀ l, s'.get l = s.get l) : Rel E n G s' a w := by
  have hts : ∀ σ, TokStep G s w G s' w σ := fun σ => TokStep.same (h _) rfl fun _ _ _ _ _ _ => rfl
  refine R.step R.size R.defers (fun g h => ⟨h, rfl⟩) (fun t v hv => ?_) (fun b v hv => ?_) (fun τ iv c hc => ?_) (fun τ x hx => ?_) R.fresh
  · rw [h] at hv; exact .inl ⟨hv, rfl, fun σ _ => hts σ, fun _ _ => rfl⟩
  · rw [h] at hv; exact .inr (.inl ⟨hv, rfl, fun h => ⟨h, rfl⟩, fun σ _ => hts σ, fun _ _ => rfl⟩)
  · rw [h] at hc; exact .inl ⟨⟨iv, hc⟩, rfl, fun g p h _ => ⟨h, rfl⟩⟩
  · rw [h] at hx; exact .inl ⟨hx, rfl⟩

theorem get_append (u s : St) (l : Loc) : St.get (u ++ s) l = St.get u l ∨ St.get (u ++ s) l = s.get l := by
  induction u with
  | nil => exact .inr rfl
  | cons p u ih =>
    obtain ⟨m, x⟩ := p
    rw [List.cons_append, get_cons, get_cons]
    by_cases h : m = l
    · rw [if_pos h, if_pos h]; exact .inl rfl
    · rw [if_neg h, if_neg h]; exact ih

theorem NoPts.append {t : Nat} {s u : St} (h : NoPts t s) (hu : noPts t u = true) : NoPts t (u ++ s) := by
  intro l v hv
  rcases get_append u s l with e | e
  · exact noPts_get hu l v (by rw [← e]; exact hv)
  · exact h l v (by rw [← e]; exact hv)

theorem ptsFree_mem {ts : List Nat} {u : St} (h : ptsFree ts u = true) {t : Nat} (ht : t ∈ ts) : noPts t u = true := by
  induction ts with
  | nil => simp at ht
  | cons x ts ih =>
    simp only [ptsFree, Bool.and_eq_true] at h
    rcases List.mem_cons.1 ht with rfl | h'
    · exact h.1
    · exact ih h.2 h'

theorem allocDsts_cons (o : Oper) (os : List Oper) : ∀ t, t ∈ allocDst o ∨ t ∈ allocDsts os → t ∈ allocDsts (o :: os) := by
  intro t h
  have h1 : ∀ x l, allocDst o = x :: l → l = [] := by
    intro x l h
    unfold allocDst at h
    split at h
    · split at h
      · injection h with _ h; exact h.symm
      · cases h
    · split at h
      · injection h with _ h; exact h.symm
      · cases h
    · cases h
  unfold allocDsts
  split
  · rename_i e; rw [e] at h; rcases h with h | h
    · simp at h
    · exact h
  · rename_i x l e
    rw [e, h1 x l e] at h
    rcases h with h | h
    · simp at h; simp [h]
    · simp [h]

theorem Rel.skip (R : Rel E n G s a w) (hd : dstOk n o.dst = true) : Rel E n G (skipped o ++ s) (a.put o.dst undef) w := by
  cases hdst : o.dst with
  | none => simp only [skipped, hdst]; exact R
  | some t =>
    simp only [skipped, hdst]
    rw [hdst] at hd
    exact R.slot (by simpa [dstOk, Nat.blt_eq] using hd) (by rfl)

theorem noPts_skipped (t : Nat) (o : Oper) : noPts t (skipped o) = true := by
  unfold skipped
  split <;> simp [noPts, VV.points, VV.bks, Key.has, Loc.beq]

theorem yielded_of (R : Rel E n G s a w) {all : Array Oper} {j d : Nat} {v : VV} (hj : (all[j]?).bind (·.dst) = some d) (hv : s.get (.slot d) = .v v) :
    (∀ b, v = .sc (.bool b) → yielded all a.tmps j = some b) ∧ (v = .ud → yielded all a.tmps j = none) := by
  have h := R.slots d v hv
  have hg : a.tmps.getD d undef = ((a.tmps[d]?).getD undef) := by simp [Array.getD_eq_getD_getElem?]
  refine ⟨fun b hb => ?_, fun hb => ?_⟩
  · subst hb
    have h' : a.tmps.getD d undef = .bool b := h
    rw [hg] at h'
    cases hx : a.tmps[d]? with
    | none => rw [hx] at h'; cases h'
    | some y =>
      rw [hx] at h'
      have : y = .bool b := h'
      subst this
      simp [yielded, hj, hx]
  · subst hb
    have h' : a.tmps.getD d undef = undef := h
    rw [hg] at h'
    cases hx : a.tmps[d]? with
    | none => simp [yielded, hj, hx]
    | some y =>
      rw [hx] at h'
      have : y = undef := h'
      subst this
      simp [yielded, hj, hx, undef]

variable {X : Env}

/-- The operations of a region, one behind the other. -/
theorem opsK_ok (hK : TyOK P X.K E) (hn : n ≤ 10000) (hS : CSound X.C CR) (hC : CallsOK P X.K E n CR) (all : Array Oper) (Q : Exit → Act → World → Prop) (r : RT) (k : St → Option RT) :
    ∀ (os : List Oper) (G : Gh) (s : St) (a : Act) (w : World), (∀ o ∈ os, dstOk n o.dst = true) → (∀ t ∈ allocDsts os, NoPts t s) → opsK X all os s k = some r → Rel E n G s a w →
      (∀ G' s' a' w', Rel E n G' s' a' w' → Fr G.O w G'.O w' → k s' = some r → Q .normal a' w') → wpList P all Q os a w := by
  intro os
  induction os with
  | nil => intro G s a w _ _ h R hk; exact hk G s a w R (Fr.refl _ _) h
  | cons o os ih =>
    intro G s a w hd hnp h R hk
    have hd0 := hd o (by simp)
    have hd1 : ∀ o ∈ os, dstOk n o.dst = true := fun o h => hd o (by simp [h])
    have one : ∀ s1, (∀ l, s1.get l = s.get l) → (runK X.C s1 (vop X.K o) fun u => bif freshAll s1 (news s1 u) && ptsFree (allocDsts os) u then opsK X all os (u ++ s1) k else none) = some r →
        ∀ Kx : Act → World → Prop, (∀ a w, wpList P all Q os a w → Kx a w) → o.wp P a w Kx Q := by
      intro s1 hs1 h Kx hKx
      obtain ⟨u, h1, h2⟩ := runK_runs hS s1 _ _ r h
      cases hb : (freshAll s1 (news s1 u) && ptsFree (allocDsts os) u) with
      | false => rw [hb] at h2; cases h2
      | true =>
        rw [hb] at h2
        simp only [Bool.and_eq_true] at hb
        have hnp1 : ∀ t ∈ allocDsts (o :: os), NoPts t s1 := fun t ht l v hv => hnp t ht l v (by rw [← hs1]; exact hv)
        refine vop_ok hK hn hC (R.congr hs1) hd0 (fun t ht => hnp1 t (allocDsts_cons o os t (.inl ht))) h1 (Fresh.of hb.1) Kx Q fun G' a' w' R' f' => hKx _ _ ?_
        exact ih G' (u ++ s1) a' w' hd1 (fun t ht => (hnp1 t (allocDsts_cons o os t (.inr ht))).append (ptsFree_mem hb.2 ht)) h2 R' fun G2 s2 a2 w2 R2 f2 h => hk G2 s2 a2 w2 R2 (f'.trans f2) h
    have skip : ∀ s1, (∀ l, s1.get l = s.get l) → opsK X all os (skipped o ++ s1) k = some r → wpList P all Q os (a.put o.dst undef) w := by
      intro s1 hs1 h
      have hnp1 : ∀ t ∈ allocDsts (o :: os), NoPts t s1 := fun t ht l v hv => hnp t ht l v (by rw [← hs1]; exact hv)
      exact ih G _ _ w hd1 (fun t ht => (hnp1 t (allocDsts_cons o os t (.inr ht))).append (noPts_skipped t o)) h ((R.congr hs1).skip hd0) hk
    unfold opsK at h
    split at h
    · rename_i hg
      exact wpList_plain hg (one s (fun _ => rfl) h)
    · rename_i j want hg
      split at h
      · cases h
      · rename_i d hj
        split at h
        · rename_i b hv
          have hy := (yielded_of R hj hv).1 b rfl
          cases hb : same want b with
          | true =>
            rw [hb] at h
            have e : b = want := by
              cases want <;> cases b <;> simp [same] at hb <;> rfl
            subst e
            refine BigFrame.wpList_want (by simp [Region.wanted, hg, hy]) (one _ (fun l => ?_) h)
            rw [get_cons]
            split
            · rename_i e; rw [← e, hv]
            · rfl
          | false =>
            rw [hb] at h
            have e : b = !want := by
              cases want <;> cases b <;> simp [same] at hb <;> rfl
            subst e
            refine wpList_skip (by simp [Region.wanted, hg, hy]) (skip _ (fun l => ?_) h)
            rw [get_cons]
            split
            · rename_i e; rw [← e, hv]
            · rfl
        · rename_i hv
          have hy := (yielded_of R hj hv).2 rfl
          exact wpList_skip (by simp [Region.wanted, hg, hy]) (skip s (fun _ => rfl) h)
        · cases h

/-! ### Code -/
def exOf : Ex → Exit
  | .nrm => .normal
  | .ext i => .exit i
  | .ret => .ret

/-- What is said of a piece of code and of the machine's way through it. -/
def CodeSound (P : Program) (E : El) (n : Nat) (c : Code) (f : St → (Ex → St → Option RT) → Option RT) : Prop :=
  ∀ (G : Gh) (s : St) (a : Act) (w : World) (k : Ex → St → Option RT) (r : RT) (Q : Exit → Act → World → Prop), f s k = some r → Rel E n G s a w →
    (∀ G' s' a' w' e, Rel E n G' s' a' w' → Fr G.O w G'.O w' → k e s' = some r → Q (exOf e) a' w') → c.wp P Q a w

/-- The loops of a piece of code are dealt with. -/
def LoopsOK (P : Program) (E : El) (n : Nat) (L : Nat → St → (Ex → St → Option RT) → Option RT) : Code → Prop
  | .seq x y => LoopsOK P E n L x ∧ LoopsOK P E n L y
  | .cond _ x y => LoopsOK P E n L x ∧ LoopsOK P E n L y
  | .block _ c => LoopsOK P E n L c
  | .loop c => ∀ i, firstRegion c = some i → CodeSound P E n (.loop c) (L i)
  | _ => True

def RegionsOK (P : Program) (E : El) (n : Nat) (X : Env) : Prop := ∀ id ops draw, CodeSound P E n (.region id ops draw) fun s k => regionK X id ops draw s (k .nrm)

theorem vexec_ok (hR : RegionsOK P E n X) : ∀ c, LoopsOK P E n X.L c → CodeSound P E n c (vexec X c) := by
  intro c
  induction c with
  | skip => intro _ G s a w k r Q h R hk; exact wp_skip (hk G s a w .nrm R (Fr.refl _ _) h)
  | region id ops draw => intro _; exact hR id ops draw
  | seq x y ihx ihy =>
    intro hL G s a w k r Q h R hk
    refine wp_seq (ihx hL.1 G s a w _ r _ h R fun G' s' a' w' e R' f' h' => ?_)
    cases e with
    | nrm => exact ihy hL.2 G' s' a' w' k r Q h' R' fun G2 s2 a2 w2 e2 R2 f2 h2 => hk G2 s2 a2 w2 e2 R2 (f'.trans f2) h2
    | ext i => exact hk G' s' a' w' (.ext i) R' f' h'
    | ret => exact hk G' s' a' w' .ret R' f' h'
  | cond c x y ihx ihy =>
    intro hL G s a w k r Q h R hk
    simp only [vexec] at h
    split at h
    · rename_i t
      split at h
      · rename_i p hv
        have hc : a.eval (.tmp t) = .bool p := R.slots t _ hv
        cases p with
        | true =>
          refine wp_cond_true hc (ihx hL.1 G _ a w k r Q h (R.congr fun l => ?_) hk)
          rw [get_cons]
          split
          · rename_i e; rw [← e, hv]
          · rfl
        | false =>
          refine wp_cond_false hc (ihy hL.2 G _ a w k r Q h (R.congr fun l => ?_) hk)
          rw [get_cons]
          split
          · rename_i e; rw [← e, hv]
          · rfl
      · cases h
    · cases h
  | block id c ih =>
    intro hL G s a w k r Q h R hk
    refine wp_block (ih hL G s a w _ r _ h R fun G' s' a' w' e R' f' h' => ?_)
    cases e with
    | nrm => exact hk G' s' a' w' .nrm R' f' h'
    | ext i =>
      show (if i = id then Q .normal a' w' else Q (.exit i) a' w')
      by_cases hi : i = id
      · rw [if_pos hi]
        subst hi
        simp only [Nat.beq_refl, cond_true] at h'
        exact hk G' s' a' w' .nrm R' f' h'
      · rw [if_neg hi]
        have : Nat.beq i id = false := by rw [Bool.eq_false_iff]; intro e; rw [Nat.beq_eq] at e; exact hi e
        simp only [this, cond_false] at h'
        exact hk G' s' a' w' (.ext i) R' f' h'
    | ret => exact hk G' s' a' w' .ret R' f' h'
  | loop c ih =>
    intro hL G s a w k r Q h R hk
    simp only [vexec] at h
    split at h
    · rename_i i hi
      exact hL i hi G s a w k r Q h R hk
    · cases h
  | exit id => intro _ G s a w k r Q h R hk; exact wp_exit (hk G s a w (.ext id) R (Fr.refl _ _) h)
  | ret => intro _ G s a w k r Q h R hk; exact wp_ret (hk G s a w .ret R (Fr.refl _ _) h)
  | _ => intro _ G s a w k r Q h R hk; simp [vexec] at h

/-! ### Loops -/
def LoopWp (P : Program) (c : Code) (Q : Exit → Act → World → Prop) (a : Act) (w : World) : Prop :=
  ∀ (b : Frame) (k : List Item) (cs : List Frame), ∃ e a' w', Q e a' w' ∧ Arrives P (lone (b.at a (.code c :: .inLoop c :: k)) cs w) b k cs e a' w'

theorem LoopWp.wp {c : Code} {Q : Exit → Act → World → Prop} {a : Act} {w : World} (h : LoopWp P c Q a w) : (Code.loop c).wp P Q a w := by
  intro b k cs
  obtain ⟨e, a', w', hq, harr⟩ := h b k cs
  exact ⟨e, a', w', hq, .of_steps (.one step_loop) harr⟩

theorem LoopWp.round {c : Code} {Q : Exit → Act → World → Prop} {a : Act} {w : World} (h : c.wp P (Exit.then (LoopWp P c Q) Q) a w) : LoopWp P c Q a w := by
  intro b k cs
  obtain ⟨e, a₁, w₁, hq, harr⟩ := h b (.inLoop c :: k) cs
  cases e with
  | normal =>
    obtain ⟨e₂, a₂, w₂, hq₂, harr₂⟩ := hq b k cs
    exact ⟨e₂, a₂, w₂, hq₂, .of_steps (Steps.trans harr (.one step_inLoop)) harr₂⟩
  | exit id => exact ⟨_, a₁, w₁, hq, .pass (x := .inLoop c) rfl (fun _ _ => .inl (by simp)) harr⟩
  | goto l => exact ⟨_, a₁, w₁, hq, .pass (x := .inLoop c) rfl (fun _ _ => .inl (by simp)) harr⟩
  | ret => exact ⟨_, a₁, w₁, hq, .pass (x := .inLoop c) rfl (fun _ _ => .inl (by simp)) harr⟩
  | panic ch => exact ⟨_, a₁, w₁, hq, .pass (x := .inLoop c) rfl (fun _ _ => .inl (by simp)) harr⟩
  | outgrown => exact ⟨_, a₁, w₁, hq, .pass (x := .inLoop c) rfl (fun _ _ => .inl (by simp)) harr⟩

end
end Go.Tm
