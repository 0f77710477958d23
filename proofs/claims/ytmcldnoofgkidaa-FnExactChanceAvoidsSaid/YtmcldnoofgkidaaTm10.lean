/- The T-machine: append. -/
import Derived.Test.YtmcldnoofgkidaaTm9
set_option linter.unusedVariables false
set_option linter.unusedSimpArgs false
namespace Go.Tm
open Go.RowKit

theorem freshAll_mem {s : St} {l : List Nat} (h : freshAll s l = true) {τ : Nat} (hτ : τ ∈ l) : noRef τ s = true := by
  induction l with
  | nil => simp at hτ
  | cons a l ih =>
    simp only [freshAll, Bool.and_eq_true] at h
    rcases List.mem_cons.1 hτ with rfl | h'
    · exact h.1
    · exact ih h.2 h'

theorem news_mem {s u : St} {τ iv : Nat} {c : Ct} (h : (Loc.tok τ, SV.t iv c) ∈ u) (hτ : τ < 100000000) : τ ∈ news s u := by
  induction u with
  | nil => simp at h
  | cons p u ih =>
    rcases List.mem_cons.1 h with rfl | h'
    · simp only [news]
      have : Nat.ble 100000000 τ = false := by
        rw [Bool.eq_false_iff]; intro e; rw [Nat.ble_eq] at e; omega
      rw [this, Bool.and_false]
      simp
    · obtain ⟨m, x⟩ := p
      have := ih h'
      cases m <;> cases x <;> simp only [news] <;> try exact this
      rename_i σ i d
      cases (s.get (.tok σ)).live && Nat.ble 100000000 σ with
      | true => exact this
      | false => exact List.mem_cons_of_mem _ this

/-- What an update makes is new. -/
def Fresh (s u : St) : Prop := ∀ τ iv c, (Loc.tok τ, SV.t iv c) ∈ u → τ < 100000000 → NoRef τ s

theorem noRef_of {s u : St} (h : freshAll s (news s u) = true) {τ iv : Nat} {c : Ct} (hm : (Loc.tok τ, SV.t iv c) ∈ u) (hτ : τ < 100000000) : NoRef τ s := noRef_get (freshAll_mem h (news_mem hm hτ))
theorem Fresh.of {s u : St} (h : freshAll s (news s u) = true) : Fresh s u := fun _ _ _ hm hτ => noRef_of h hm hτ

section
variable {P : Program} {K : Kf} {E : El} {n : Nat} {G : Gh} {s : St} {a : Act} {w : World} {CR : CRel} {o : Oper} {u : St}

/-- The old tokens behind an append that spends the label 'lab0', where the states of the others are as they were. -/
theorem app_others (R : Rel E n G s a w) {t : Nat} {v' : Value} {w' : World} {lab0 : Option Lab} {s1 : St} (τ0 : Option Nat)
    (hl0 : ∀ l, lab0 = some l → ∃ τ p, l = .ow τ p ∧ τ0 = some τ) (hsame : ∀ σ, τ0 ≠ some σ → s1.get (.tok σ) = s.get (.tok σ))
    {O' : Lbl} (hk : ∀ g l, G.O g = l → some l ≠ lab0 → g < w.heap.size → O' g = l ∧ w'.heap[g]? = w.heap[g]?) :
    (∀ σ, σ ≠ t → τ0 ≠ some σ → TokStep G s w { G with O := O', H := updH G.H t v' } s1 w' σ) ∧
    (∀ σ iv d, τ0 ≠ some σ → s1.get (.tok σ) = .t iv d → VC E O' w' σ (G.H σ) d) := by
  have hlt : ∀ g, G.O g ≠ .no → g < w.heap.size := by
    intro g hg
    rcases Nat.lt_or_ge g w.heap.size with h | h
    · exact h
    · exact absurd (R.fresh g h) hg
  have hne : ∀ l, (∀ τ p, l = Lab.ow τ p → τ0 ≠ some τ) → some l ≠ lab0 := by
    intro l h e
    obtain ⟨τ, p, e1, e2⟩ := hl0 l e.symm
    exact h τ p e1 e2
  refine ⟨fun σ hσ h0 => TokStep.same (hsame σ h0) (by simp [updH, hσ]) fun iv d hd k m hm => ?_, fun σ iv d h0 hd => ?_⟩
  · exact (R.toks σ iv d hd).outer (fun g hg => (hk g _ hg (hne _ (by rintro τ p e; injection e with e _; rw [← e]; exact h0)) (hlt g (by rw [hg]; simp))).2) k m hm
  · rw [hsame σ h0] at hd
    refine (R.toks σ iv d hd).move (fun g hg => hk g _ hg (hne _ (by intro τ p e; cases e)) (hlt g (by rw [hg]; simp))) fun g p hg hl => hk g _ hg (hne _ (by rintro τ q e; injection e with e _; rw [← e]; exact h0)) hl

theorem oneCell_vints (k : IntKind) (xs : List Int) : ∀ u ∈ vints k xs, u.oneCell' = true := by
  intro u hu
  simp [vints] at hu
  obtain ⟨z, _, rfl⟩ := hu
  rfl
theorem oneCell_vstrs (xs : List ByteArray) : ∀ u ∈ vstrs xs, u.oneCell' = true := by
  intro u hu
  simp [vstrs] at hu
  obtain ⟨z, _, rfl⟩ := hu
  rfl

theorem vints_append (k : IntKind) (xs ys : List Int) : vints k (xs ++ ys) = vints k xs ++ vints k ys := by simp [vints]
theorem vstrs_append (xs ys : List ByteArray) : vstrs (xs ++ ys) = vstrs xs ++ vstrs ys := by simp [vstrs]

/-- An append whose row is spent: the whole step. -/
theorem append_step (R : Rel E n G s a w) {T e : TypeId} {inf : TypeInfo} {z : Value} {x y : Operand} {t : Nat} {v xv : Value} {m : Nat} {cells news : List Value} {lab0 : Option Lab} {s1 : St} {c : Ct}
    (ho : o.op = .call { callee := .builtin .append, args := #[x, y], argTypes := #[T, T] }) (hdst : o.dst = some t) (ht : t < n) (hno : NoRef t s)
    (hun : P.underlying T = some (.slice e)) (hinf : P.info? e = some inf) (hz : inf.zero = some z) (hsz : inf.size = 1) (hzs : z.cells.size = 1) (hby : inf.bytes ≤ 32)
    (hx : a.eval x = v) (hy : a.eval y = xv) (hown : w.ownsRow 0 e 1 v m cells) (hsrc : SlI (fun _ => .im) w xv news) (h1 : ∀ u ∈ news, u.oneCell' = true) (hcap : m + news.length ≤ 4398046511104)
    (hlab : ∀ g, v.ownBlock = some g → some (G.O g) = lab0) (τ0 : Option Nat) (hl0 : ∀ l, lab0 = some l → ∃ τ p, l = .ow τ p ∧ τ0 = some τ)
    (hloc : ∀ t', s1.get (.slot t') = s.get (.slot t')) (hbx : ∀ b, s1.get (.box b) = s.get (.box b)) (hsame : ∀ σ, τ0 ≠ some σ → s1.get (.tok σ) = s.get (.tok σ))
    (hτ0 : ∀ τ, τ0 = some τ → τ ≠ t → ∀ O' w' v', App w w' v v' → (∀ g l, G.O g = l → some l ≠ lab0 → g < w.heap.size → O' g = l ∧ w'.heap[g]? = w.heap[g]?) →
      TokStep G s w { G with O := O', H := updH G.H t v' } s1 w' τ ∧ (∀ iv d, s1.get (.tok τ) = .t iv d → VC E O' w' τ (G.H τ) d) ∧ ∀ x, s1.get (.tok τ) ≠ .f x)
    (hcell : ∀ O' w' v', SlO O' w' (.ow t none) e v' (cells ++ news) → VC E O' w' t v' c) :
    ∀ u, u = [(.slot t, .v (.rf t)), (.tok t, .t 0 c)] → ∀ gone, s1 = gone ++ s → OpOK E n P G s a w o (u ++ gone) := by
  intro u hu gone hg
  subst hu
  have hlen : cells.length = m := by have := hown.1; omega
  obtain ⟨v', w', hrun, hown', happ⟩ := app_run (P := P) w T o.type e inf z hun hinf hz hsz hzs v m cells hown xv news hsrc h1 (by unfold maxLen; omega) (by
    have : (m + news.length) * inf.bytes ≤ 4398046511104 * 32 := Nat.mul_le_mul hcap hby
    omega)
  have hrun' := exec_append (P := P) (w := w) (ρ := a.eval) ho (by rw [hx, hy]; exact hrun)
  refine OpOK.of_value hrun' ?_
  rw [hdst]
  have hblk : ∀ g, v.ownBlock = some g → g < w.heap.size := fun g hgg => (hown.lt g hgg).2
  have := R.append (s1 := s1) (c := c) (lab0 := lab0) (cells := cells ++ news) (e := e) ht hno happ (fun g hgg => ⟨hlab g hgg, hblk g hgg⟩) (fun l hl => by obtain ⟨τ, p, e1, _⟩ := hl0 l hl; exact ⟨τ, p, e1⟩) hloc hbx
    (by rw [List.length_append, hlen]; exact hown') (fun O' h => hcell O' w' v' h)
    (fun O' hk σ hσ => by
      by_cases e0 : τ0 = some σ
      · exact (hτ0 σ e0 hσ O' w' v' happ hk).1
      · exact (app_others R τ0 hl0 hsame hk).1 σ hσ e0)
    (fun O' hk σ iv d hσ hd => by
      by_cases e0 : τ0 = some σ
      · exact (hτ0 σ e0 hσ O' w' v' happ hk).2.1 iv d hd
      · exact (app_others (t := t) (v' := v') R τ0 hl0 hsame hk).2 σ iv d e0 hd)
    (fun σ x hσ hx' => by
      by_cases e0 : τ0 = some σ
      · exact absurd hx' ((hτ0 σ e0 hσ (appO G.O lab0 t v') w' v' happ (by
          intro g l h1 h2 h3
          have hne : v'.ownBlock ≠ some g := by
            rcases happ.how with ⟨h, _, _⟩ | ⟨h, _, _⟩
            · rw [h]; intro e; exact h2 (by rw [← h1]; exact hlab g e)
            · rw [h]; intro e; injection e with e; omega
          refine ⟨by unfold appO; rw [if_neg hne, if_neg (by rw [h1]; exact h2), h1], ?_⟩
          rcases happ.how with ⟨_, _, h⟩ | ⟨_, _, h⟩
          · exact h g (fun e => h2 (by rw [← h1]; exact hlab g e.symm))
          · exact h g h3)).2.2 x)
      · rw [hsame σ e0] at hx'; exact hx')
  obtain ⟨G', r1, r2⟩ := this
  refine ⟨G', ?_, r2⟩
  rw [hg] at r1
  simpa using r1

/-- What is appended, as whole numbers. -/
theorem runs_srcInts (R : Rel E n G s a w) {k : IntKind} {val : Value} {v : VV} (hv : VR G s w val v) {f : List Int → Rd} (h : Runs CR s (srcInts k v f) u) : ∃ ys, SlI (fun _ => .im) w val (vints k ys) ∧ Runs CR s (f ys) u := by
  unfold srcInts at h
  obtain ⟨x, hx, h⟩ := runs_pvOf R hv h
  have hx' := hx (fun _ => .im) ⟨fun _ _ => rfl, fun _ _ _ _ _ => rfl⟩
  cases x with
  | ints k' ys =>
    obtain ⟨hk, h2⟩ := h
    have hk' : k' = k := by simpa using hk
    rw [hk'] at hx'
    exact ⟨ys, hx', h2⟩
  | nil =>
    have e : val = .slice none 0 0 := hx'
    subst e
    exact ⟨[], ⟨none, 0, rfl, Nat.le_refl _, Nat.zero_le _, fun h => absurd rfl h⟩, h⟩
  | _ => exact h.elim

theorem runs_srcStrs (R : Rel E n G s a w) {val : Value} {v : VV} (hv : VR G s w val v) {f : List ByteArray → Rd} (h : Runs CR s (srcStrs v f) u) : ∃ ys, SlI (fun _ => .im) w val (vstrs ys) ∧ Runs CR s (f ys) u := by
  unfold srcStrs at h
  obtain ⟨x, hx, h⟩ := runs_pvOf R hv h
  have hx' := hx (fun _ => .im) ⟨fun _ _ => rfl, fun _ _ _ _ _ => rfl⟩
  cases x with
  | strs ys => exact ⟨ys, hx', h⟩
  | nil =>
    have e : val = .slice none 0 0 := hx'
    subst e
    exact ⟨[], ⟨none, 0, rfl, Nat.le_refl _, Nat.zero_le _, fun h => absurd rfl h⟩, h⟩
  | _ => exact h.elim

theorem dead_get (τ : Nat) (s : St) : (∀ t', St.get ((Loc.tok τ, SV.v .un) :: s) (.slot t') = s.get (.slot t')) ∧ (∀ b, St.get ((Loc.tok τ, SV.v .un) :: s) (.box b) = s.get (.box b)) ∧
    (∀ σ, some τ ≠ some σ → St.get ((Loc.tok τ, SV.v .un) :: s) (.tok σ) = s.get (.tok σ)) ∧ St.get ((Loc.tok τ, SV.v .un) :: s) (.tok τ) = .v .un := by
  refine ⟨fun t' => by rw [get_cons, if_neg (by simp)], fun b => by rw [get_cons, if_neg (by simp)], fun σ h => by rw [get_cons, if_neg (by simpa using h)], by rw [get_cons, if_pos rfl]⟩

theorem IsWin.front {O : Lbl} {lab : Lab} {e : TypeId} {hv v : Value} {cells : List Value} {m : Nat} (h : SlO O w lab e hv cells) (hw : IsWin hv v 0 m) : w.ownsRow 0 e 1 v m (cells.take m) ∧ m ≤ cells.length ∧ ∀ g, v.ownBlock = some g → O g = lab := by
  obtain ⟨a, l, cap, a', q0, q1, q2, q3, q4⟩ := hw
  have := q4 (.inr rfl)
  subst this
  rw [map_add_zero] at q3
  obtain ⟨⟨h1, h2⟩, h3⟩ := h
  rcases h2 with ⟨rfl, hn⟩ | ⟨g, cap', cur, rfl, hb, hg, r1, r2, r3, r4⟩
  · injection q0 with e1 e2 e3
    subst e1; subst e2; subst e3
    have hm : m = 0 := by omega
    subst hm
    refine ⟨⟨by simp, .inl ⟨by rw [q3], rfl⟩⟩, Nat.zero_le _, fun g hg => ?_⟩
    rw [q3] at hg; simp [Value.ownBlock] at hg
  · injection q0 with e1 e2 e3
    subst e1; subst e2; subst e3
    refine ⟨⟨by simp; omega, .inr ⟨g, cap', cur, by rw [q3]; simp, hb, hg, by omega, r2, r3, ?_⟩⟩, by omega, fun g' hg' => ?_⟩
    · rw [← r4, List.take_take]
      congr 1
      omega
    · rw [q3] at hg'
      simp [Value.ownBlock] at hg'
      subst hg'
      exact h3 g rfl

theorem capB_le {n : Nat} (h : capB n = true) : n ≤ 4398046511104 := by
  unfold capB at h
  exact Nat.le_of_ble_eq_true h

theorem append_ok (hK : TyOK P K E) (R : Rel E n G s a w) {x y : Operand} {as : Array TypeId} (ho : o.op = .call { callee := .builtin .append, args := #[x, y], argTypes := as }) (hd : dstOk n o.dst = true) (hn : n ≤ 100000000)
    (hu : Runs CR s (vop K o) u) (hfr : Fresh s u)
    (hrow : ∀ (T : TypeId) (t : Nat) (e : TypeId) (v v' : VV), as = #[T, T] → o.dst = some t → t < n → (∀ c, (Loc.tok t, SV.t 0 c) ∈ u → NoRef t s) → K T = .slR e → VR G s w (a.eval x) v → VR G s w (a.eval y) v' → Runs CR s (appendOp K T t v v') u → OpOK E n P G s a w o u) : OpOK E n P G s a w o u := by
  simp only [vop, ho] at hu
  cases hdst : o.dst with
  | none => rw [hdst] at hu; exact hu.elim
  | some t =>
    rw [hdst] at hu hd
    have ht : t < n := by simpa [dstOk, Nat.blt_eq] using hd
    have hno : ∀ c, (Loc.tok t, SV.t 0 c) ∈ u → NoRef t s := fun c h => hfr t 0 c h (Nat.lt_of_lt_of_le ht hn)
    dsimp only at hu
    split at hu
    · rename_i T T' has
      obtain ⟨hTT, hu⟩ := hu
      have hTT' : T = T' := by simpa using hTT
      subst hTT'
      have has' : as = #[T, T] := by simpa using congrArg List.toArray has
      subst has'
      obtain ⟨v, hv, hu⟩ := runs_opd hu
      obtain ⟨v', hv', hu⟩ := runs_opd hu
      have hx := opv_ok R hv
      have hy := opv_ok R hv'
      have hu0 := hu
      unfold appendOp at hu
      dsimp only at hu
      have hT := hK T
      cases hk : K T with
      | slI k e =>
        rw [hk] at hT hu
        obtain ⟨h1, h2, _, inf, h3, h4, h5, h6⟩ := hT
        subst h2
        dsimp only at hu
        cases v with
        | sc v => cases v with
          | nil =>
            obtain ⟨ys, hs, hu⟩ := runs_srcInts R hy hu
            obtain ⟨hc, hu⟩ := hu
            have hu' : u = [(.slot t, .v (.rf t)), (.tok t, .t 0 (.ints k ys))] ++ [] := hu
            subst hu'
            refine append_step R (s1 := s) (lab0 := none) (c := .ints k ys) (m := 0) (cells := []) ho hdst ht (hno (.ints k ys) (by simp)) h1 h3 h5 h4 rfl h6 hx rfl (World.ownsRow_nil _ _ _ _) hs (oneCell_vints _ _) (by have := capB_le hc; simpa [Ct.len, vints] using this) (by intro g hg; simp [Value.ownBlock] at hg) none (by intro l hl; cases hl)
              (fun _ => rfl) (fun _ => rfl) (fun _ _ => rfl) (by intro τ hτ; cases hτ) (fun O' w' v' h => by simpa [VC] using h) _ rfl [] rfl
          | _ => exact hu.elim
        | rf τ =>
          simp only [Runs] at hu
          split at hu
          · rename_i iv c' xs hc
            obtain ⟨hcc, hu⟩ := hu
            have hcc' : c' = k := by simpa using hcc
            subst hcc'
            obtain ⟨ys, hs, hu⟩ := runs_srcInts R hy hu
            obtain ⟨hcap, hu⟩ := hu
            have hu' : u = [(.slot t, .v (.rf t)), (.tok t, .t 0 (.ints c' (xs ++ ys)))] ++ [(.tok τ, .v .un)] := hu
            subst hu'
            obtain ⟨d1, d2, d3, d4⟩ := dead_get τ s
            have hV : SlO G.O w (.ow τ none) (E.eI c') (G.H τ) (vints c' xs) := R.toks τ _ _ hc
            have hxv : a.eval x = G.H τ := hx.2 (by rw [hc]; rfl)
            refine append_step R (s1 := (.tok τ, .v .un) :: s) (lab0 := some (.ow τ none)) (c := .ints c' (xs ++ ys)) (m := xs.length) (cells := vints c' xs) ho hdst ht (hno (.ints c' (xs ++ ys)) (by simp)) h1 h3 h5 h4 rfl h6 hxv rfl (by simpa [vints] using hV.1) hs (oneCell_vints _ _) (by have := capB_le hcap; simpa [Ct.len, vints] using this)
              (by intro g hg; rw [hV.2 g hg]) (some τ) (by intro l hl; injection hl with hl; exact ⟨τ, none, hl.symm, rfl⟩) d1 d2 d3
              (by
                intro τ' hτ' _ O' w' v' _ _
                injection hτ' with hτ'
                subst hτ'
                exact ⟨TokStep.dead d4, fun iv d h => (by rw [d4] at h; cases h), fun x h => (by rw [d4] at h; cases h)⟩)
              (fun O' w' v' h => by simpa [VC, vints_append] using h) _ rfl [(.tok τ, .v .un)] rfl
          · exact hu.elim
        | rw τ lo m =>
          obtain ⟨hlo, hu2⟩ := hu
          have hlo' : lo = 0 := by simpa using hlo
          subst hlo'
          clear hu
          have hu := hu2
          clear hu2
          simp only [Runs] at hu
          split at hu
          · rename_i iv c' xs hc
            obtain ⟨hcc, hu⟩ := hu
            have hcc' : c' = k := by simpa using hcc
            subst hcc'
            obtain ⟨ys, hs, hu⟩ := runs_srcInts R hy hu
            obtain ⟨hcap, hu⟩ := hu
            have hu' : u = [(.slot t, .v (.rf t)), (.tok t, .t 0 (.ints c' (xs.take m ++ ys)))] ++ [(.tok τ, .v .un)] := hu
            subst hu'
            obtain ⟨d1, d2, d3, d4⟩ := dead_get τ s
            have hV : SlO G.O w (.ow τ none) (E.eI c') (G.H τ) (vints c' xs) := R.toks τ _ _ hc
            obtain ⟨p1, p2, p3⟩ := IsWin.front hV (hx.2 (by rw [hc]; rfl))
            have p2' : m ≤ xs.length := by simpa [vints] using p2
            refine append_step R (s1 := (.tok τ, .v .un) :: s) (lab0 := some (.ow τ none)) (c := .ints c' (xs.take m ++ ys)) (m := m) (cells := vints c' (xs.take m)) ho hdst ht (hno (.ints c' (xs.take m ++ ys)) (by simp)) h1 h3 h5 h4 rfl h6 rfl rfl (by simpa [vints, List.map_take] using p1) hs (oneCell_vints _ _) (by have h0 := capB_le hcap; have : min m xs.length = m := Nat.min_eq_left p2'; simpa [Ct.len, vints, this] using h0)
              (by intro g hg; rw [p3 g hg]) (some τ) (by intro l hl; injection hl with hl; exact ⟨τ, none, hl.symm, rfl⟩) d1 d2 d3
              (by
                intro τ' hτ' _ O' w' v' _ _
                injection hτ' with hτ'
                subst hτ'
                exact ⟨TokStep.dead d4, fun iv d h => (by rw [d4] at h; cases h), fun x h => (by rw [d4] at h; cases h)⟩)
              (fun O' w' v' h => by simpa [VC, vints_append] using h) _ rfl [(.tok τ, .v .un)] rfl
          · exact hu.elim
        | ri τ iv j =>
          simp only [Runs] at hu
          split at hu
          · rename_i iv' xss hc
            obtain ⟨hb, hu⟩ := hu
            have hb' : iv = iv' ∧ k = .i64 := by simpa using hb
            obtain ⟨rfl, rfl⟩ := hb'
            obtain ⟨ys, hs, hu⟩ := runs_srcInts R hy hu
            obtain ⟨hcap, hu⟩ := hu
            have hu' : u = [(.slot t, .v (.rf t)), (.tok t, .t 0 (.ints .i64 (xss.getD j [] ++ ys)))] ++ [(.tok τ, .t (iv + 1) (.hole j xss))] := hu
            subst hu'
            obtain ⟨l, r1, r2⟩ := (hx.2 _ _ hc).2 rfl
            have hVV := R.toks τ _ _ hc
            obtain ⟨i1, i2, i3⟩ := hVV.inner r1 r2
            have dg : St.get ((Loc.tok τ, SV.t (iv + 1) (.hole j xss)) :: s) (.tok τ) = .t (iv + 1) (.hole j xss) := by rw [get_cons, if_pos rfl]
            refine append_step R (s1 := (.tok τ, .t (iv + 1) (.hole j xss)) :: s) (lab0 := some (.ow τ (some j))) (c := .ints .i64 (xss.getD j [] ++ ys)) (m := (xss.getD j []).length) (cells := vints .i64 (xss.getD j [])) ho hdst ht (hno (.ints .i64 (xss.getD j [] ++ ys)) (by simp)) h1 h3 h5 h4 rfl h6 rfl rfl (by simpa [vints] using i1.1) hs (oneCell_vints _ _) (by have := capB_le hcap; simpa [Ct.len, vints] using this)
              (by intro g hg; rw [i1.2 g hg]) (some τ) (by intro l hl; injection hl with hl; exact ⟨τ, some j, hl.symm, rfl⟩)
              (fun t' => by rw [get_cons, if_neg (by simp)]) (fun b => by rw [get_cons, if_neg (by simp)]) (fun σ h => by rw [get_cons, if_neg (by simpa using h)])
              (by
                intro τ' hτ' hne O' w' v' _ hkk
                injection hτ' with hτ'
                subst hτ'
                have hlt : ∀ g, G.O g ≠ .no → g < w.heap.size := by
                  intro g hg
                  rcases Nat.lt_or_ge g w.heap.size with h | h
                  · exact h
                  · exact absurd (R.fresh g h) hg
                refine ⟨⟨fun _ => ⟨by rw [hc]; rfl, by simp [updH, hne]⟩, fun iv2 d h => ?_⟩, fun iv2 d h => ?_, fun x h => by rw [dg] at h; cases h⟩
                · rw [dg] at h
                  injection h with e1 e2
                  subst e1; subst e2
                  exact ⟨iv, _, hc, by omega, rfl, fun e => by omega⟩
                · rw [dg] at h
                  injection h with e1 e2
                  subst e2
                  obtain ⟨hs', k1, k2, k3⟩ := hVV
                  refine ⟨hs', k1.keep fun g hg _ => hkk g _ hg (by simp) (hlt g (by rw [hg]; simp)), k2, fun j' h xs hj hh hxx => ?_⟩
                  exact ((k3 j' h xs hh hxx).1 rfl).keep fun g hg _ => hkk g _ hg (by simpa using hj) (hlt g (by rw [hg]; simp)))
              (fun O' w' v' h => by simpa [VC, vints_append] using h) _ rfl [(.tok τ, .t (iv + 1) (.hole j xss))] rfl
          · exact hu.elim
        | _ => exact hu.elim
      | slS e =>
        rw [hk] at hT hu
        obtain ⟨h1, h2, _, inf, h3, h4, h5, h6⟩ := hT
        subst h2
        dsimp only at hu
        cases v with
        | sc v => cases v with
          | nil =>
            obtain ⟨ys, hs, hu⟩ := runs_srcStrs R hy hu
            obtain ⟨hc, hu⟩ := hu
            have hu' : u = [(.slot t, .v (.rf t)), (.tok t, .t 0 (.strs ys))] ++ [] := hu
            subst hu'
            refine append_step R (s1 := s) (lab0 := none) (c := .strs ys) (m := 0) (cells := []) ho hdst ht (hno (.strs ys) (by simp)) h1 h3 h5 h4 rfl h6 hx rfl (World.ownsRow_nil _ _ _ _) hs (oneCell_vstrs _) (by have := capB_le hc; simpa [Ct.len, vstrs] using this) (by intro g hg; simp [Value.ownBlock] at hg) none (by intro l hl; cases hl)
              (fun _ => rfl) (fun _ => rfl) (fun _ _ => rfl) (by intro τ hτ; cases hτ) (fun O' w' v' h => by simpa [VC] using h) _ rfl [] rfl
          | _ => exact hu.elim
        | rf τ =>
          simp only [Runs] at hu
          split at hu
          · rename_i iv xs hc
            obtain ⟨ys, hs, hu⟩ := runs_srcStrs R hy hu
            obtain ⟨hcap, hu⟩ := hu
            have hu' : u = [(.slot t, .v (.rf t)), (.tok t, .t 0 (.strs (xs ++ ys)))] ++ [(.tok τ, .v .un)] := hu
            subst hu'
            obtain ⟨d1, d2, d3, d4⟩ := dead_get τ s
            have hV : SlO G.O w (.ow τ none) E.eS (G.H τ) (vstrs xs) := R.toks τ _ _ hc
            have hxv : a.eval x = G.H τ := hx.2 (by rw [hc]; rfl)
            refine append_step R (s1 := (.tok τ, .v .un) :: s) (lab0 := some (.ow τ none)) (c := .strs (xs ++ ys)) (m := xs.length) (cells := vstrs xs) ho hdst ht (hno (.strs (xs ++ ys)) (by simp)) h1 h3 h5 h4 rfl h6 hxv rfl (by simpa [vstrs] using hV.1) hs (oneCell_vstrs _) (by have := capB_le hcap; simpa [Ct.len, vstrs] using this)
              (by intro g hg; rw [hV.2 g hg]) (some τ) (by intro l hl; injection hl with hl; exact ⟨τ, none, hl.symm, rfl⟩) d1 d2 d3
              (by
                intro τ' hτ' _ O' w' v' _ _
                injection hτ' with hτ'
                subst hτ'
                exact ⟨TokStep.dead d4, fun iv d h => (by rw [d4] at h; cases h), fun x h => (by rw [d4] at h; cases h)⟩)
              (fun O' w' v' h => by simpa [VC, vstrs_append] using h) _ rfl [(.tok τ, .v .un)] rfl
          · exact hu.elim
        | _ => exact hu.elim
      | slR e => exact hrow T t e v v' rfl hdst ht hno hk hx hy hu0
      | _ => rw [hk] at hu; exact hu.elim
    · exact hu.elim
end
end Go.Tm
