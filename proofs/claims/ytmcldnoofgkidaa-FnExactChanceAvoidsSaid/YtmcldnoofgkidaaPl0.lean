/- Plain lemmas on loops that are told by fuel, and on numbers as the kernel reckons them. -/
import Derived.Test.YtmcldnoofgkidaaTm33
set_option linter.unusedVariables false
set_option linter.unusedSimpArgs false
namespace Go.Tm
open Go

theorem n_lt (a b : Nat) : iLt (Int.ofNat a) (Int.ofNat b) = decide (a < b) := by
  rw [iLt_eq, Bool.eq_iff_iff, decide_eq_true_iff, decide_eq_true_iff]
  simp only [Int.ofNat_eq_natCast]; omega
theorem n_le (a b : Nat) : iLe (Int.ofNat a) (Int.ofNat b) = decide (a ≤ b) := by
  rw [iLe_eq, Bool.eq_iff_iff, decide_eq_true_iff, decide_eq_true_iff]
  simp only [Int.ofNat_eq_natCast]; omega
theorem n_eq (a b : Nat) : iEq (Int.ofNat a) (Int.ofNat b) = decide (a = b) := by
  rw [Bool.eq_iff_iff, iEq_iff, decide_eq_true_iff]
  simp only [Int.ofNat_eq_natCast]; omega
theorem n_in (a b : Nat) : inB (Int.ofNat a) b = decide (a < b) := by
  rw [Bool.eq_iff_iff, decide_eq_true_iff]
  show Nat.blt a b = true ↔ _
  rw [Nat.blt_eq]
theorem n_nat (a : Nat) : Int.toNat (Int.ofNat a) = a := rfl
theorem n_inc {j : Nat} (h : j < 4611686018427387904) : wrapF .i64 (Int.ofNat j + Int.ofNat 1) = Int.ofNat (j + 1) := by
  rw [wrapF_eq, wrap64_id] <;> simp only [Int.ofNat_eq_natCast] <;> omega
theorem n_cap {n : Nat} (h : n ≤ 4398046511104) : capB n = true := by
  unfold capB; rw [Nat.ble_eq]; exact h
theorem n_cut {a b n : Nat} (h1 : a ≤ b) (h2 : b ≤ n) : cutB (Int.ofNat a) (Int.ofNat b) n = true := by
  unfold cutB
  simp only [Bool.and_eq_true, iLe_iff, Int.ofNat_eq_natCast]
  omega
theorem w_id {n : Int} (h1 : -9223372036854775808 ≤ n) (h2 : n < 9223372036854775808) : wrapF .i64 n = n := by rw [wrapF_eq, wrap64_id h1 h2]

theorem getD_at {α : Type} {xs : List α} {j : Nat} {d : α} (h : j < xs.length) : List.getD xs j d = xs[j] := by
  rw [List.getD_eq_getElem?_getD, List.getElem?_eq_getElem h]; rfl

/-- The first number below m for which P holds, or what stands at the end. -/
def firstP {R : Type} (P : Nat → Bool) (rI : Nat → R) (rE : R) (m : Nat) : Nat → R
  | 0 => rE
  | k + 1 => bif P (m - (k + 1)) then rI (m - (k + 1)) else firstP P rI rE m k

/-- A loop that goes through numbers until something holds. -/
theorem scan {V R : Type} {Lp : Nat → V → Option R} {st : Nat → V} {len : Nat} {P : Nat → Bool} {rI : Nat → R} {rE : R}
    (hs : ∀ n j, j < len → Lp (n + 1) (st j) = bif P j then some (rI j) else Lp n (st (j + 1))) (he : ∀ n, Lp (n + 1) (st len) = some rE) :
    ∀ k fuel, k ≤ len → k < fuel → Lp fuel (st (len - k)) = some (firstP P rI rE len k) := by
  intro k
  induction k with
  | zero =>
    intro fuel _ hf
    obtain ⟨f, rfl⟩ : ∃ f, fuel = f + 1 := ⟨fuel - 1, by omega⟩
    exact he f
  | succ k ih =>
    intro fuel hk hf
    obtain ⟨f, rfl⟩ : ∃ f, fuel = f + 1 := ⟨fuel - 1, by omega⟩
    rw [hs f _ (by omega)]
    simp only [firstP]
    cases P (len - (k + 1)) with
    | true => rfl
    | false =>
      simp only [cond_false]
      rw [show len - (k + 1) + 1 = len - k by omega]
      exact ih f (by omega) (by omega)

theorem scan0 {V R : Type} {Lp : Nat → V → Option R} {st : Nat → V} {len : Nat} {P : Nat → Bool} {rI : Nat → R} {rE : R}
    (hs : ∀ n j, j < len → Lp (n + 1) (st j) = bif P j then some (rI j) else Lp n (st (j + 1))) (he : ∀ n, Lp (n + 1) (st len) = some rE) {fuel : Nat} (hf : len < fuel) :
    Lp fuel (st 0) = some (firstP P rI rE len len) := by
  have := scan hs he len fuel (Nat.le_refl _) hf
  rwa [Nat.sub_self] at this

theorem firstP_eq {R : Type} {P : Nat → Bool} {rI : Nat → R} {rE : R} {m : Nat} : ∀ k, k ≤ m →
    (∃ j, m - k ≤ j ∧ j < m ∧ P j = true ∧ (∀ i, m - k ≤ i → i < j → P i = false) ∧ firstP P rI rE m k = rI j) ∨ ((∀ j, m - k ≤ j → j < m → P j = false) ∧ firstP P rI rE m k = rE) := by
  intro k
  induction k with
  | zero => intro _; exact .inr ⟨fun j h1 h2 => by omega, rfl⟩
  | succ k ih =>
    intro hk
    simp only [firstP]
    cases hP : P (m - (k + 1)) with
    | true => exact .inl ⟨m - (k + 1), Nat.le_refl _, by omega, hP, fun i h1 h2 => by omega, rfl⟩
    | false =>
      simp only [cond_false]
      rcases ih (by omega) with ⟨j, h1, h2, h3, h4, h5⟩ | ⟨h1, h2⟩
      · refine .inl ⟨j, by omega, h2, h3, fun i h6 h7 => ?_, h5⟩
        by_cases e : i = m - (k + 1)
        · subst e; exact hP
        · exact h4 i (by omega) h7
      · refine .inr ⟨fun j h3 h4 => ?_, h2⟩
        by_cases e : j = m - (k + 1)
        · subst e; exact hP
        · exact h1 j (by omega) h4

/-- The answers of a scan: whether anything holds. -/
theorem firstP_any {R : Type} {P : Nat → Bool} {rI : Nat → R} {rE : R} {m : Nat} : (∃ j, j < m ∧ P j = true ∧ (∀ i, i < j → P i = false) ∧ firstP P rI rE m m = rI j) ∨ ((∀ j, j < m → P j = false) ∧ firstP P rI rE m m = rE) := by
  rcases firstP_eq (P := P) (rI := rI) (rE := rE) m (Nat.le_refl m) with ⟨j, h1, h2, h3, h4, h5⟩ | ⟨h1, h2⟩
  · exact .inl ⟨j, h2, h3, fun i hi => h4 i (by omega) hi, h5⟩
  · exact .inr ⟨fun j hj => h1 j (by omega) hj, h2⟩

/-- A loop that gathers. -/
theorem gatherL {V R A : Type} {Lp : Nat → V → Option R} {st : Nat → A → V} {len : Nat} {f : Nat → A → A} {rE : A → R} (Good : Nat → A → Prop)
    (hs : ∀ n j a, j < len → Good j a → Lp (n + 1) (st j a) = Lp n (st (j + 1) (f j a))) (hg : ∀ j a, j < len → Good j a → Good (j + 1) (f j a)) (he : ∀ n a, Good len a → Lp (n + 1) (st len a) = some (rE a)) :
    ∀ k fuel a, k ≤ len → k < fuel → Good (len - k) a → ∃ b, Lp fuel (st (len - k) a) = some (rE b) ∧ Good len b ∧ b = ((List.range k).map (len - k + ·)).foldl (fun a j => f j a) a := by
  intro k
  induction k with
  | zero =>
    intro fuel a _ hf hG
    obtain ⟨n, rfl⟩ : ∃ n, fuel = n + 1 := ⟨fuel - 1, by omega⟩
    exact ⟨a, he n a hG, hG, rfl⟩
  | succ k ih =>
    intro fuel a hk hf hG
    obtain ⟨n, rfl⟩ : ∃ n, fuel = n + 1 := ⟨fuel - 1, by omega⟩
    have hG' := hg _ a (by omega) hG
    rw [show len - (k + 1) + 1 = len - k by omega] at hG'
    obtain ⟨b, h1, h2, h3⟩ := ih n (f (len - (k + 1)) a) (by omega) (by omega) hG'
    refine ⟨b, ?_, h2, ?_⟩
    · rw [hs n _ a (by omega) hG, show len - (k + 1) + 1 = len - k by omega]
      exact h1
    · rw [h3, List.range_succ_eq_map, List.map_cons, List.foldl_cons, Nat.add_zero]
      congr 1
      rw [List.map_map]
      refine List.map_congr_left fun i _ => ?_
      simp only [Function.comp]
      omega

theorem gather0 {V R A : Type} {Lp : Nat → V → Option R} {st : Nat → A → V} {len : Nat} {f : Nat → A → A} {rE : A → R} (Good : Nat → A → Prop)
    (hs : ∀ n j a, j < len → Good j a → Lp (n + 1) (st j a) = Lp n (st (j + 1) (f j a))) (hg : ∀ j a, j < len → Good j a → Good (j + 1) (f j a)) (he : ∀ n a, Good len a → Lp (n + 1) (st len a) = some (rE a))
    {fuel : Nat} {a : A} (hf : len < fuel) (h0 : Good 0 a) : ∃ b, Lp fuel (st 0 a) = some (rE b) ∧ Good len b := by
  have := gatherL (f := f) Good hs hg he len fuel a (Nat.le_refl _) hf (by rw [Nat.sub_self]; exact h0)
  rw [Nat.sub_self] at this
  obtain ⟨b, h1, h2, _⟩ := this
  exact ⟨b, h1, h2⟩

end Go.Tm
