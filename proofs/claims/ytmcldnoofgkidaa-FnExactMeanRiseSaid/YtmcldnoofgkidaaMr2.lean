/- The law FnExactMeanRise: for every number of numbers the two means are the same. -/
import Derived.Test.YtmcldnoofgkidaaMr1
import Derived.Test.YtmcldnoofgkidaaMrT0
import Derived.Test.YtmcldnoofgkidaaMrT1
import Derived.Test.YtmcldnoofgkidaaMrT2
import Derived.Test.YtmcldnoofgkidaaMrT3
set_option linter.unusedVariables false
set_option maxRecDepth 100000
namespace Go.Proofs.Ytmcldnoofgkidaa
open Go Go.Tm

def tb1 : List (List Nat × Nat) := tb1_0
theorem ck1 : chkL 1000 1 0 tb1 = true := ck1_0
theorem len1 : tb1.length = 1 := by kernel_rfl
theorem mean1 : D3 1000 1 = some true := mean_ok tb1 1 [1, 1] (by rw [len1]; omega) (by rw [len1]; omega) ck1 (by kernel_rfl) (by kernel_rfl) (by rw [len1]; kernel_rfl) (by rw [len1]; kernel_rfl) (by kernel_rfl) (by rw [len1]; kernel_rfl) (by rw [len1]; kernel_rfl) (by kernel_rfl)
def tb2 : List (List Nat × Nat) := tb2_0
theorem ck2 : chkL 1000 2 0 tb2 = true := ck2_0
theorem len2 : tb2.length = 2 := by kernel_rfl
theorem mean2 : D3 1000 2 = some true := mean_ok tb2 3 [3, 2] (by rw [len2]; omega) (by rw [len2]; omega) ck2 (by kernel_rfl) (by kernel_rfl) (by rw [len2]; kernel_rfl) (by rw [len2]; kernel_rfl) (by kernel_rfl) (by rw [len2]; kernel_rfl) (by rw [len2]; kernel_rfl) (by kernel_rfl)
def tb3 : List (List Nat × Nat) := tb3_0
theorem ck3 : chkL 1000 3 0 tb3 = true := ck3_0
theorem len3 : tb3.length = 6 := by kernel_rfl
theorem mean3 : D3 1000 3 = some true := mean_ok tb3 12 [2, 1] (by rw [len3]; omega) (by rw [len3]; omega) ck3 (by kernel_rfl) (by kernel_rfl) (by rw [len3]; kernel_rfl) (by rw [len3]; kernel_rfl) (by kernel_rfl) (by rw [len3]; kernel_rfl) (by rw [len3]; kernel_rfl) (by kernel_rfl)
def tb4 : List (List Nat × Nat) := tb4_0
theorem ck4 : chkL 1000 4 0 tb4 = true := ck4_0
theorem len4 : tb4.length = 24 := by kernel_rfl
theorem mean4 : D3 1000 4 = some true := mean_ok tb4 58 [29, 12] (by rw [len4]; omega) (by rw [len4]; omega) ck4 (by kernel_rfl) (by kernel_rfl) (by rw [len4]; kernel_rfl) (by rw [len4]; kernel_rfl) (by kernel_rfl) (by rw [len4]; kernel_rfl) (by rw [len4]; kernel_rfl) (by kernel_rfl)
def tb5 : List (List Nat × Nat) := (tb5_0 ++ tb5_60)
theorem ck5 : chkL 1000 5 0 tb5 = true := (chkL_append ck5_0 (by rw [show 0 + (tb5_0).length = 60 from by kernel_rfl]; exact ck5_60))
theorem len5 : tb5.length = 120 := by kernel_rfl
theorem mean5 : D3 1000 5 = some true := mean_ok tb5 335 [67, 24] (by rw [len5]; omega) (by rw [len5]; omega) ck5 (by kernel_rfl) (by kernel_rfl) (by rw [len5]; kernel_rfl) (by rw [len5]; kernel_rfl) (by kernel_rfl) (by rw [len5]; kernel_rfl) (by rw [len5]; kernel_rfl) (by kernel_rfl)
def tb6 : List (List Nat × Nat) := (((((((((((tb6_0 ++ tb6_60) ++ tb6_120) ++ tb6_180) ++ tb6_240) ++ tb6_300) ++ tb6_360) ++ tb6_420) ++ tb6_480) ++ tb6_540) ++ tb6_600) ++ tb6_660)
theorem ck6 : chkL 1000 6 0 tb6 = true := (chkL_append (chkL_append (chkL_append (chkL_append (chkL_append (chkL_append (chkL_append (chkL_append (chkL_append (chkL_append (chkL_append ck6_0 (by rw [show 0 + (tb6_0).length = 60 from by kernel_rfl]; exact ck6_60)) (by rw [show 0 + ((tb6_0 ++ tb6_60)).length = 120 from by kernel_rfl]; exact ck6_120)) (by rw [show 0 + (((tb6_0 ++ tb6_60) ++ tb6_120)).length = 180 from by kernel_rfl]; exact ck6_180)) (by rw [show 0 + ((((tb6_0 ++ tb6_60) ++ tb6_120) ++ tb6_180)).length = 240 from by kernel_rfl]; exact ck6_240)) (by rw [show 0 + (((((tb6_0 ++ tb6_60) ++ tb6_120) ++ tb6_180) ++ tb6_240)).length = 300 from by kernel_rfl]; exact ck6_300)) (by rw [show 0 + ((((((tb6_0 ++ tb6_60) ++ tb6_120) ++ tb6_180) ++ tb6_240) ++ tb6_300)).length = 360 from by kernel_rfl]; exact ck6_360)) (by rw [show 0 + (((((((tb6_0 ++ tb6_60) ++ tb6_120) ++ tb6_180) ++ tb6_240) ++ tb6_300) ++ tb6_360)).length = 420 from by kernel_rfl]; exact ck6_420)) (by rw [show 0 + ((((((((tb6_0 ++ tb6_60) ++ tb6_120) ++ tb6_180) ++ tb6_240) ++ tb6_300) ++ tb6_360) ++ tb6_420)).length = 480 from by kernel_rfl]; exact ck6_480)) (by rw [show 0 + (((((((((tb6_0 ++ tb6_60) ++ tb6_120) ++ tb6_180) ++ tb6_240) ++ tb6_300) ++ tb6_360) ++ tb6_420) ++ tb6_480)).length = 540 from by kernel_rfl]; exact ck6_540)) (by rw [show 0 + ((((((((((tb6_0 ++ tb6_60) ++ tb6_120) ++ tb6_180) ++ tb6_240) ++ tb6_300) ++ tb6_360) ++ tb6_420) ++ tb6_480) ++ tb6_540)).length = 600 from by kernel_rfl]; exact ck6_600)) (by rw [show 0 + (((((((((((tb6_0 ++ tb6_60) ++ tb6_120) ++ tb6_180) ++ tb6_240) ++ tb6_300) ++ tb6_360) ++ tb6_420) ++ tb6_480) ++ tb6_540) ++ tb6_600)).length = 660 from by kernel_rfl]; exact ck6_660))
theorem len6 : tb6.length = 720 := by kernel_rfl
theorem mean6 : D3 1000 6 = some true := mean_ok tb6 2261 [2261, 720] (by rw [len6]; omega) (by rw [len6]; omega) ck6 (by kernel_rfl) (by kernel_rfl) (by rw [len6]; kernel_rfl) (by rw [len6]; kernel_rfl) (by kernel_rfl) (by rw [len6]; kernel_rfl) (by rw [len6]; kernel_rfl) (by kernel_rfl)

theorem out_of {n : Int} (h : ¬ (1 ≤ n ∧ n ≤ 6)) : D3 1000 n = some true := by
  have hb : D107 1000 n = some false ∧ D212 1000 n = some false := by
    show (bif iLe (Int.ofNat 1) n then some (iLe n (Int.ofNat 6)) else some false).bind some = _ ∧ (bif iLe (Int.ofNat 1) n then some (iLe n (Int.ofNat 6)) else some false) = _
    cases h1 : iLe (Int.ofNat 1) n with
    | false => exact ⟨rfl, rfl⟩
    | true =>
      have h2 : iLe n (Int.ofNat 6) = false := by
        rw [Bool.eq_false_iff]
        intro e
        rw [iLe_iff] at h1 e
        simp only [Int.ofNat_eq_natCast] at h1 e
        omega
      refine ⟨?_, ?_⟩
      · show (bif true then some (iLe n (Int.ofNat 6)) else some false).bind some = _
        rw [h2]; rfl
      · show (bif true then some (iLe n (Int.ofNat 6)) else some false) = _
        rw [h2]; rfl
  have h11 : D11 1000 n = some ([Int.ofNat 0, Int.ofNat 0], false) := by
    unfold D11 T11
    rw [hb.1]; rfl
  have h12 : D12 1000 n = some ([Int.ofNat 0, Int.ofNat 0], false) := by
    unfold D12 T12 D111 T111
    rw [hb.2]; rfl
  unfold D3 T3
  rw [h11, Option.bind_some, h12, Option.bind_some]
  have h13 : D13 1000 [Int.ofNat 0, Int.ofNat 0] [Int.ofNat 0, Int.ofNat 0] = some true := by kernel_rfl
  rw [h13]
  rfl

theorem meanRise_all (n : Int) : D3 1000 n = some true := by
  by_cases h : 1 ≤ n ∧ n ≤ 6
  · have : n = 1 ∨ n = 2 ∨ n = 3 ∨ n = 4 ∨ n = 5 ∨ n = 6 := by omega
    rcases this with rfl | rfl | rfl | rfl | rfl | rfl
    · exact mean1
    · exact mean2
    · exact mean3
    · exact mean4
    · exact mean5
    · exact mean6
  · exact out_of h

end Go.Proofs.Ytmcldnoofgkidaa
