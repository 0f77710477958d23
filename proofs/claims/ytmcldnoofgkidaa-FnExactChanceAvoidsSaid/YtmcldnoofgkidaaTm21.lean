/- The T-machine: regions that draw their order. -/
import Derived.Test.YtmcldnoofgkidaaTm20
import Derived.Orders
set_option linter.unusedVariables false
set_option linter.unusedSimpArgs false
namespace Go.Tm
open Go.RowKit

/-! ### Looking up behind updates -/
theorem get_in {u : St} {l : Loc} (h : l ∈ locsOf u) (s s' : St) : St.get (u ++ s) l = St.get (u ++ s') l := by
  induction u with
  | nil => simp [locsOf] at h
  | cons p u ih =>
    obtain ⟨m, x⟩ := p
    rw [List.cons_append, List.cons_append, get_cons, get_cons]
    by_cases e : m = l
    · rw [if_pos e, if_pos e]
    · rw [if_neg e, if_neg e]
      exact ih (by simp only [locsOf, List.mem_cons] at h; rcases h with h | h; exact absurd h.symm e; exact h)

theorem get_out {u : St} {l : Loc} (h : l ∉ locsOf u) (s : St) : St.get (u ++ s) l = s.get l := by
  induction u with
  | nil => rfl
  | cons p u ih =>
    obtain ⟨m, x⟩ := p
    simp only [locsOf, List.mem_cons, not_or] at h
    rw [List.cons_append, get_cons, if_neg (fun e => h.1 e.symm)]
    exact ih h.2

theorem get_app_congr {u : St} {l : Loc} {s s' : St} (h : s.get l = s'.get l) : St.get (u ++ s) l = St.get (u ++ s') l := by
  by_cases e : l ∈ locsOf u
  · exact get_in e s s'
  · rw [get_out e, get_out e, h]

theorem locHas_iff {l : Loc} {ls : List Loc} : locHas l ls = true ↔ l ∈ ls := by
  induction ls with
  | nil => simp [locHas]
  | cons m ls ih => simp [locHas, ih, Loc.beq_iff]

theorem apart_iff {x y : List Loc} (h : apart x y = true) {l : Loc} (hx : l ∈ x) : l ∉ y := by
  induction x with
  | nil => simp at hx
  | cons m x ih =>
    simp only [apart, Bool.and_eq_true, Bool.not_eq_true', Bool.eq_false_iff, ne_eq, locHas_iff] at h
    rcases List.mem_cons.1 hx with rfl | hx
    · exact h.1
    · exact ih h.2 hx

theorem apartN_iff {x y : List Nat} (h : apartN x y = true) {l : Nat} (hx : l ∈ x) : l ∉ y := by
  induction x with
  | nil => simp at hx
  | cons m x ih =>
    simp only [apartN, Bool.and_eq_true, Bool.not_eq_true', Bool.eq_false_iff, ne_eq, natHas_iff] at h
    rcases List.mem_cons.1 hx with rfl | hx
    · exact h.1
    · exact ih h.2 hx

theorem noRef_append (τ : Nat) (x y : St) : noRef τ (x ++ y) = (noRef τ x && noRef τ y) := by
  induction x with
  | nil => simp [noRef]
  | cons p x ih =>
    obtain ⟨m, v⟩ := p
    cases v <;> simp only [List.cons_append, noRef, ih, Bool.and_assoc]

theorem noPts_append (t : Nat) (x y : St) : noPts t (x ++ y) = (noPts t x && noPts t y) := by
  induction x with
  | nil => simp [noPts]
  | cons p x ih =>
    obtain ⟨m, v⟩ := p
    cases v <;> simp only [List.cons_append, noPts, ih, Bool.and_assoc]

theorem noRef_refs {τ : Nat} {u : St} (h : τ ∉ refsOf u) : noRef τ u = true := by
  induction u with
  | nil => rfl
  | cons p u ih =>
    obtain ⟨m, v⟩ := p
    cases v with
    | v y =>
      simp only [refsOf, List.mem_append, not_or] at h
      simp only [noRef, Bool.and_eq_true, Bool.not_eq_true', Bool.eq_false_iff, ne_eq, natHas_iff]
      exact ⟨h.1, ih h.2.2⟩
    | t iv c => simp only [noRef]; exact ih (by simpa only [refsOf] using h)
    | f c => simp only [noRef]; exact ih (by simpa only [refsOf] using h)

theorem ptsN_mem {t : Nat} {ks : List Key} (h : Key.own t ∈ ks) : 200000000 + t ∈ ptsN ks := by
  induction ks with
  | nil => simp at h
  | cons k ks ih =>
    cases k with
    | own t' =>
      simp only [ptsN, List.mem_cons]
      rcases List.mem_cons.1 h with h | h
      · injection h with h; exact .inl (by rw [h])
      · exact .inr (ih h)
    | par j =>
      simp only [ptsN]
      rcases List.mem_cons.1 h with h | h
      · cases h
      · exact ih h

theorem noPts_refs {t : Nat} {u : St} (h : 200000000 + t ∉ refsOf u) : noPts t u = true := by
  induction u with
  | nil => rfl
  | cons p u ih =>
    obtain ⟨m, v⟩ := p
    cases v with
    | v y =>
      simp only [refsOf, List.mem_append, not_or] at h
      simp only [noPts, VV.points, Bool.and_eq_true, Bool.not_eq_true', Bool.eq_false_iff, ne_eq, Key.has_iff]
      exact ⟨fun e => h.2.1 (ptsN_mem e), ih h.2.2⟩
    | t iv c => simp only [noPts]; exact ih (by simpa only [refsOf] using h)
    | f c => simp only [noPts]; exact ih (by simpa only [refsOf] using h)

section
variable {P : Program} {K : Kf} {E : El} {n : Nat} {G : Gh} {s : St} {a : Act} {w : World} {CR : CRel} {o : Oper} {u : St} {X : Env}

theorem runT_runs {C : CHan} (hC : CSound C CR) (s : St) (m : Rd) : ∀ (rd : List Loc) (k : St → List Loc → Option RT) (r : RT), runT C s m rd k = some r →
    ∃ u rd', (∀ l ∈ rd, l ∈ rd') ∧ (∀ s' : St, (∀ l ∈ rd', s'.get l = s.get l) → Runs CR s' m u) ∧ k u rd' = some r := by
  induction m with
  | done u => intro rd k r h; exact ⟨u, rd, fun _ h => h, fun _ _ => rfl, h⟩
  | get l f ih =>
    intro rd k r h
    obtain ⟨u, rd', h1, h2, h3⟩ := ih _ (l :: rd) k r h
    refine ⟨u, rd', fun x hx => h1 x (by simp [hx]), fun s' hs => ?_, h3⟩
    show Runs CR s' (f (s'.get l)) u
    rw [hs l (h1 l (by simp))]
    exact h2 s' hs
  | guard b m ih =>
    intro rd k r h
    simp only [runT] at h
    cases b with
    | true => obtain ⟨u, rd', h1, h2, h3⟩ := ih rd k r h; exact ⟨u, rd', h1, fun s' hs => ⟨rfl, h2 s' hs⟩, h3⟩
    | false => cases h
  | ite b m n ih1 ih2 =>
    intro rd k r h
    simp only [runT] at h
    cases b with
    | true => obtain ⟨u, rd', h1, h2, h3⟩ := ih1 rd k r h; exact ⟨u, rd', h1, fun s' hs => .inl ⟨rfl, h2 s' hs⟩, h3⟩
    | false => obtain ⟨u, rd', h1, h2, h3⟩ := ih2 rd k r h; exact ⟨u, rd', h1, fun s' hs => .inr ⟨rfl, h2 s' hs⟩, h3⟩
  | call f as bx g ih =>
    intro rd k r h
    simp only [runT] at h
    obtain ⟨rs, bx', h1, h2⟩ := hC f as bx _ r h
    obtain ⟨u, rd', h3, h4, h5⟩ := ih rs bx' rd k r h2
    exact ⟨u, rd', h3, fun s' hs => ⟨rs, bx', h1, h4 s' hs⟩, h5⟩
  | fail => intro rd k r h; cases h

/-- A step of the text's run, and what it asks of a state for being the same step there. -/
structure StepT (CR : CRel) (K : Kf) (all : Array Oper) (o : Oper) (S : St) (later : List Oper) (t : Tr) (u : St) : Prop where
  wr : t.wr = locsOf u
  rf : t.rf = refsOf u
  pts : ptsFree (allocDsts later) u = true
  run : (t.cr = allocN o ++ news S u ∧ freshAll S (news S u) = true ∧ ∀ s' : St, (∀ l ∈ t.rd, s'.get l = S.get l) → Runs CR s' (vop K o) u ∧
      (o.guard = none ∨ ∃ j want d, o.guard = some (j, want) ∧ (all[j]?).bind (·.dst) = some d ∧ s'.get (.slot d) = .v (.sc (.bool want)))) ∨
    (u = skipped o ∧ ∀ s' : St, (∀ l ∈ t.rd, s'.get l = S.get l) → ∃ j want d, o.guard = some (j, want) ∧ (all[j]?).bind (·.dst) = some d ∧ (s'.get (.slot d) = .v (.sc (.bool (!want))) ∨ s'.get (.slot d) = .v .ud))

/-- The text's states. -/
def Sx (up : Nat → St) (i : Nat) (s : St) : Nat → St
  | 0 => s
  | k + 1 => up (i + k) ++ Sx up i s k

theorem Sx_tail (up : Nat → St) (i : Nat) (s : St) : ∀ k, Sx up (i + 1) (up i ++ s) k = Sx up i s (k + 1)
  | 0 => rfl
  | k + 1 => by
    show up (i + 1 + k) ++ Sx up (i + 1) (up i ++ s) k = up (i + (k + 1)) ++ Sx up i s (k + 1)
    rw [Sx_tail up i s k, show i + 1 + k = i + (k + 1) by omega]

theorem Sx_congr {up up' : Nat → St} {i : Nat} {s : St} : ∀ k, (∀ m, i ≤ m → m < i + k → up m = up' m) → Sx up i s k = Sx up' i s k
  | 0, _ => rfl
  | k + 1, h => by
    show up (i + k) ++ _ = up' (i + k) ++ _
    rw [h (i + k) (by omega) (by omega), Sx_congr k fun m h1 h2 => h m h1 (by omega)]

def trs (tf : Nat → Tr) (i : Nat) : Nat → List Tr → List Tr
  | 0, acc => acc
  | k + 1, acc => trs tf (i + 1) k (tf i :: acc)

theorem trs_congr {tf tf' : Nat → Tr} : ∀ (k i : Nat) (acc : List Tr), (∀ m, i ≤ m → m < i + k → tf m = tf' m) → trs tf i k acc = trs tf' i k acc
  | 0, _, _, _ => rfl
  | k + 1, i, acc, h => by
    show trs tf (i + 1) k (tf i :: acc) = trs tf' (i + 1) k (tf' i :: acc)
    rw [h i (by omega) (by omega), trs_congr k (i + 1) _ fun m h1 h2 => h m (by omega) (by omega)]

theorem trs_ok {ops : Array Oper} {tf : Nat → Tr} : ∀ (k i : Nat) (acc : List Tr), trOk ops (trs tf i k acc) = true →
    (∀ m, i ≤ m → m < i + k → ∀ u ∈ acc, (pairOk (tf m) u || mustBefore ops 30 u.i (tf m).i) = true) ∧ (∀ m m', i ≤ m' → m' < m → m < i + k → (pairOk (tf m) (tf m') || mustBefore ops 30 (tf m').i (tf m).i) = true) ∧ trOk ops acc = true
  | 0, i, acc, h => ⟨fun m h1 h2 => by omega, fun m m' h1 h2 h3 => by omega, h⟩
  | k + 1, i, acc, h => by
    obtain ⟨h1, h2, h3⟩ := trs_ok k (i + 1) (tf i :: acc) h
    simp only [trOk, Bool.and_eq_true, List.all_eq_true] at h3
    refine ⟨fun m a1 a2 u hu => ?_, fun m m' a1 a2 a3 => ?_, h3.2⟩
    · by_cases e : m = i
      · subst e; exact h3.1 u hu
      · exact h1 m (by omega) (by omega) u (by simp [hu])
    · by_cases e : m' = i
      · subst e; exact h1 m (by omega) (by omega) (tf m') (by simp)
      · exact h2 m m' (by omega) a2 (by omega)

theorem opsT_spec (hS : CSound X.C CR) (all : Array Oper) (k : St → List Tr → Option RT) (r : RT) : ∀ (os : List Oper) (i : Nat) (s : St) (tr : List Tr), opsT X all i os s tr k = some r →
    ∃ (tf : Nat → Tr) (up : Nat → St), (∀ m o, os[m]? = some o → StepT CR X.K all o (Sx up i s m) (os.drop (m + 1)) (tf (i + m)) (up (i + m)) ∧ (tf (i + m)).i = i + m) ∧ k (Sx up i s os.length) (trs tf i os.length tr) = some r := by
  intro os
  induction os with
  | nil => intro i s tr h; exact ⟨fun _ => ⟨0, [], [], [], []⟩, fun _ => [], fun m o h => by simp at h, h⟩
  | cons o os ih =>
    intro i s tr h
    have join : ∀ (t : Tr) (u : St), t.i = i → StepT CR X.K all o s os t u → opsT X all (i + 1) os (u ++ s) (t :: tr) k = some r →
        ∃ (tf : Nat → Tr) (up : Nat → St), (∀ m o', (o :: os)[m]? = some o' → StepT CR X.K all o' (Sx up i s m) ((o :: os).drop (m + 1)) (tf (i + m)) (up (i + m)) ∧ (tf (i + m)).i = i + m) ∧
          k (Sx up i s (o :: os).length) (trs tf i (o :: os).length tr) = some r := by
      intro t u hti hst h
      obtain ⟨tf, up, h1, h2⟩ := ih (i + 1) (u ++ s) (t :: tr) h
      let tf' : Nat → Tr := fun m => if m = i then t else tf m
      let up' : Nat → St := fun m => if m = i then u else up m
      have e1 : up' i = u := by show (if i = i then _ else _) = _; rw [if_pos rfl]
      have e2 : tf' i = t := by show (if i = i then _ else _) = _; rw [if_pos rfl]
      have e3 : ∀ m, m ≠ i → up' m = up m := fun m h => by show (if m = i then _ else _) = _; rw [if_neg h]
      have e4 : ∀ m, m ≠ i → tf' m = tf m := fun m h => by show (if m = i then _ else _) = _; rw [if_neg h]
      have eS : ∀ q, Sx up' i s (q + 1) = Sx up (i + 1) (u ++ s) q := fun q => by
        rw [← Sx_tail, e1]
        exact Sx_congr q fun m a1 a2 => e3 m (by omega)
      refine ⟨tf', up', fun m o' hm => ?_, ?_⟩
      · cases m with
        | zero =>
          simp only [List.getElem?_cons_zero, Option.some.injEq] at hm
          subst hm
          simp only [Nat.add_zero, e1, e2, List.drop_succ_cons, List.drop_zero]
          exact ⟨hst, hti⟩
        | succ m =>
          obtain ⟨g1, g2⟩ := h1 m o' (by simpa using hm)
          rw [eS m, e3 (i + (m + 1)) (by omega), e4 (i + (m + 1)) (by omega), show i + (m + 1) = i + 1 + m by omega]
          exact ⟨by simpa using g1, g2⟩
      · simp only [List.length_cons]
        rw [eS]
        show k _ (trs tf' (i + 1) os.length (tf' i :: tr)) = _
        rw [e2, trs_congr (tf' := tf) os.length (i + 1) (t :: tr) fun m a1 a2 => e4 m (by omega)]
        exact h2
    unfold opsT at h
    split at h
    · rename_i hg
      obtain ⟨u, rd, h1, h2, h3⟩ := runT_runs hS s _ _ _ r h
      rw [splitB_eq] at h3
      cases hb : (freshAll s (news s u) && ptsFree (allocDsts os) u) with
      | false => rw [hb] at h3; cases h3
      | true =>
        rw [hb] at h3
        simp only [Bool.and_eq_true] at hb
        exact join _ u rfl ⟨rfl, rfl, hb.2, .inl ⟨rfl, hb.1, fun s' hs => ⟨h2 s' hs, .inl hg⟩⟩⟩ h3
    · rename_i j want hg
      split at h
      · cases h
      · rename_i d hj
        split at h
        · rename_i b hv
          cases hb0 : same want b with
          | true =>
            rw [hb0] at h
            have e : b = want := by cases want <;> cases b <;> simp [same] at hb0 <;> rfl
            subst e
            obtain ⟨u, rd, h1, h2, h3⟩ := runT_runs hS s _ _ _ r h
            rw [splitB_eq] at h3
            cases hb : (freshAll s (news s u) && ptsFree (allocDsts os) u) with
            | false => rw [hb] at h3; cases h3
            | true =>
              rw [hb] at h3
              simp only [Bool.and_eq_true] at hb
              exact join _ u rfl ⟨rfl, rfl, hb.2, .inl ⟨rfl, hb.1, fun s' hs => ⟨h2 s' hs, .inr ⟨j, b, d, hg, hj, by rw [hs _ (h1 _ (by simp)), hv]⟩⟩⟩⟩ h3
          | false =>
            rw [hb0] at h
            have e : b = !want := by cases want <;> cases b <;> simp [same] at hb0 <;> rfl
            subst e
            have hr : refsOf (skipped o) = [] := by unfold skipped; split <;> rfl
            exact join _ (skipped o) rfl ⟨rfl, by rw [hr], by
              have : ∀ ts : List Nat, ptsFree ts (skipped o) = true := by intro ts; induction ts with
                | nil => rfl
                | cons t ts ih => simp [ptsFree, noPts_skipped, ih]
              exact this _, .inr ⟨rfl, fun s' hs => ⟨j, want, d, hg, hj, .inl (by rw [hs _ (by simp), hv])⟩⟩⟩ h
        · rename_i hv
          have hr : refsOf (skipped o) = [] := by unfold skipped; split <;> rfl
          exact join _ (skipped o) rfl ⟨rfl, by rw [hr], by
            have : ∀ ts : List Nat, ptsFree ts (skipped o) = true := by intro ts; induction ts with
              | nil => rfl
              | cons t ts ih => simp [ptsFree, noPts_skipped, ih]
            exact this _, .inr ⟨rfl, fun s' hs => ⟨j, want, d, hg, hj, .inr (by rw [hs _ (by simp), hv])⟩⟩⟩ h
        · cases h
end
end Go.Tm
