/- The law FnExactChanceAvoids: the two chances are the same. -/
import Derived.Test.YtmcldnoofgkidaaCaT0
import Derived.Test.YtmcldnoofgkidaaCaT1
set_option linter.unusedVariables false
set_option maxRecDepth 100000
namespace Go.Proofs.Ytmcldnoofgkidaa
open Go Go.Tm Go.Pat

def ot1 : List (List Nat) := ot1_0
theorem oc1 : chkO 2097152 1 0 ot1 = true := oc1_0
theorem ol1 : ot1.length = 1 := by kernel_rfl
theorem op1 : permB (allN 1) ot1 = true := by kernel_rfl
theorem og1 : gcAll 2097152 1 1 = true := by kernel_rfl
theorem avoids1 {ps : List (List Int)} (hp : Pats ps) : ∃ f, D32 2097152 (Int.ofNat 1) ps = some (f, true) ∧ D34 2097152 (Int.ofNat 1) ps = some (f, true) :=
  avoid_ok ot1 (by omega) hp (by omega) (by rw [ol1]; omega) oc1 (by rw [ol1]; kernel_rfl) (by rw [ol1]; kernel_rfl) op1 (by rw [ol1]; exact og1) (by kernel_rfl) (by kernel_rfl)
def ot2 : List (List Nat) := ot2_0
theorem oc2 : chkO 2097152 2 0 ot2 = true := oc2_0
theorem ol2 : ot2.length = 2 := by kernel_rfl
theorem op2 : permB (allN 2) ot2 = true := by kernel_rfl
theorem og2 : gcAll 2097152 2 2 = true := by kernel_rfl
theorem avoids2 {ps : List (List Int)} (hp : Pats ps) : ∃ f, D32 2097152 (Int.ofNat 2) ps = some (f, true) ∧ D34 2097152 (Int.ofNat 2) ps = some (f, true) :=
  avoid_ok ot2 (by omega) hp (by omega) (by rw [ol2]; omega) oc2 (by rw [ol2]; kernel_rfl) (by rw [ol2]; kernel_rfl) op2 (by rw [ol2]; exact og2) (by kernel_rfl) (by kernel_rfl)
def ot3 : List (List Nat) := ot3_0
theorem oc3 : chkO 2097152 3 0 ot3 = true := oc3_0
theorem ol3 : ot3.length = 6 := by kernel_rfl
theorem op3 : permB (allN 3) ot3 = true := by kernel_rfl
theorem og3 : gcAll 2097152 6 6 = true := by kernel_rfl
theorem avoids3 {ps : List (List Int)} (hp : Pats ps) : ∃ f, D32 2097152 (Int.ofNat 3) ps = some (f, true) ∧ D34 2097152 (Int.ofNat 3) ps = some (f, true) :=
  avoid_ok ot3 (by omega) hp (by omega) (by rw [ol3]; omega) oc3 (by rw [ol3]; kernel_rfl) (by rw [ol3]; kernel_rfl) op3 (by rw [ol3]; exact og3) (by kernel_rfl) (by kernel_rfl)
def ot4 : List (List Nat) := ot4_0
theorem oc4 : chkO 2097152 4 0 ot4 = true := oc4_0
theorem ol4 : ot4.length = 24 := by kernel_rfl
theorem op4 : permB (allN 4) ot4 = true := by kernel_rfl
theorem og4 : gcAll 2097152 24 24 = true := by kernel_rfl
theorem avoids4 {ps : List (List Int)} (hp : Pats ps) : ∃ f, D32 2097152 (Int.ofNat 4) ps = some (f, true) ∧ D34 2097152 (Int.ofNat 4) ps = some (f, true) :=
  avoid_ok ot4 (by omega) hp (by omega) (by rw [ol4]; omega) oc4 (by rw [ol4]; kernel_rfl) (by rw [ol4]; kernel_rfl) op4 (by rw [ol4]; exact og4) (by kernel_rfl) (by kernel_rfl)
def ot5 : List (List Nat) := (ot5_0 ++ ot5_60)
theorem oc5 : chkO 2097152 5 0 ot5 = true := (chkO_append oc5_0 (by rw [show 0 + (ot5_0).length = 60 from by kernel_rfl]; exact oc5_60))
theorem ol5 : ot5.length = 120 := by kernel_rfl
theorem op5 : permB (allN 5) ot5 = true := by kernel_rfl
theorem og5 : gcAll 2097152 120 120 = true := by kernel_rfl
theorem avoids5 {ps : List (List Int)} (hp : Pats ps) : ∃ f, D32 2097152 (Int.ofNat 5) ps = some (f, true) ∧ D34 2097152 (Int.ofNat 5) ps = some (f, true) :=
  avoid_ok ot5 (by omega) hp (by omega) (by rw [ol5]; omega) oc5 (by rw [ol5]; kernel_rfl) (by rw [ol5]; kernel_rfl) op5 (by rw [ol5]; exact og5) (by kernel_rfl) (by kernel_rfl)
def ot6 : List (List Nat) := (((((((((((ot6_0 ++ ot6_60) ++ ot6_120) ++ ot6_180) ++ ot6_240) ++ ot6_300) ++ ot6_360) ++ ot6_420) ++ ot6_480) ++ ot6_540) ++ ot6_600) ++ ot6_660)
theorem oc6 : chkO 2097152 6 0 ot6 = true := (chkO_append (chkO_append (chkO_append (chkO_append (chkO_append (chkO_append (chkO_append (chkO_append (chkO_append (chkO_append (chkO_append oc6_0 (by rw [show 0 + (ot6_0).length = 60 from by kernel_rfl]; exact oc6_60)) (by rw [show 0 + ((ot6_0 ++ ot6_60)).length = 120 from by kernel_rfl]; exact oc6_120)) (by rw [show 0 + (((ot6_0 ++ ot6_60) ++ ot6_120)).length = 180 from by kernel_rfl]; exact oc6_180)) (by rw [show 0 + ((((ot6_0 ++ ot6_60) ++ ot6_120) ++ ot6_180)).length = 240 from by kernel_rfl]; exact oc6_240)) (by rw [show 0 + (((((ot6_0 ++ ot6_60) ++ ot6_120) ++ ot6_180) ++ ot6_240)).length = 300 from by kernel_rfl]; exact oc6_300)) (by rw [show 0 + ((((((ot6_0 ++ ot6_60) ++ ot6_120) ++ ot6_180) ++ ot6_240) ++ ot6_300)).length = 360 from by kernel_rfl]; exact oc6_360)) (by rw [show 0 + (((((((ot6_0 ++ ot6_60) ++ ot6_120) ++ ot6_180) ++ ot6_240) ++ ot6_300) ++ ot6_360)).length = 420 from by kernel_rfl]; exact oc6_420)) (by rw [show 0 + ((((((((ot6_0 ++ ot6_60) ++ ot6_120) ++ ot6_180) ++ ot6_240) ++ ot6_300) ++ ot6_360) ++ ot6_420)).length = 480 from by kernel_rfl]; exact oc6_480)) (by rw [show 0 + (((((((((ot6_0 ++ ot6_60) ++ ot6_120) ++ ot6_180) ++ ot6_240) ++ ot6_300) ++ ot6_360) ++ ot6_420) ++ ot6_480)).length = 540 from by kernel_rfl]; exact oc6_540)) (by rw [show 0 + ((((((((((ot6_0 ++ ot6_60) ++ ot6_120) ++ ot6_180) ++ ot6_240) ++ ot6_300) ++ ot6_360) ++ ot6_420) ++ ot6_480) ++ ot6_540)).length = 600 from by kernel_rfl]; exact oc6_600)) (by rw [show 0 + (((((((((((ot6_0 ++ ot6_60) ++ ot6_120) ++ ot6_180) ++ ot6_240) ++ ot6_300) ++ ot6_360) ++ ot6_420) ++ ot6_480) ++ ot6_540) ++ ot6_600)).length = 660 from by kernel_rfl]; exact oc6_660))
theorem ol6 : ot6.length = 720 := by kernel_rfl
theorem op6 : permB (allN 6) ot6 = true := by kernel_rfl
theorem og6 : gcAll 2097152 720 720 = true := by kernel_rfl
theorem avoids6 {ps : List (List Int)} (hp : Pats ps) : ∃ f, D32 2097152 (Int.ofNat 6) ps = some (f, true) ∧ D34 2097152 (Int.ofNat 6) ps = some (f, true) :=
  avoid_ok ot6 (by omega) hp (by omega) (by rw [ol6]; omega) oc6 (by rw [ol6]; kernel_rfl) (by rw [ol6]; kernel_rfl) op6 (by rw [ol6]; exact og6) (by kernel_rfl) (by kernel_rfl)

theorem out107 {n : Int} (h : ¬ (1 ≤ n ∧ n ≤ 6)) : D107 2097152 n = some false ∧ D212 2097152 n = some false := by
  show (bif iLe (Int.ofNat 1) n then some (iLe n (Int.ofNat 6)) else some false).bind some = _ ∧ (bif iLe (Int.ofNat 1) n then some (iLe n (Int.ofNat 6)) else some false) = _
  cases h1 : iLe (Int.ofNat 1) n with
  | false => exact ⟨rfl, rfl⟩
  | true =>
    have h2 : iLe n (Int.ofNat 6) = false := by
      rw [Bool.eq_false_iff]
      intro e
      rw [iLe_iff] at h1 e
      simp only [Int.ofNat_eq_natCast] at h1 e
      omega
    refine ⟨?_, ?_⟩
    · show (bif true then some (iLe n (Int.ofNat 6)) else some false).bind some = _
      rw [h2]; rfl
    · show (bif true then some (iLe n (Int.ofNat 6)) else some false) = _
      rw [h2]; rfl

theorem avoids_all (n : Int) (ps : List (List Int)) (hp : ∀ p ∈ ps, p.length ≤ 9223372036854775807) (hl : ps.length ≤ 9223372036854775807) : D5 2097152 n ps = some true := by
  refine law5 (by omega) hp hl fun h1 => ?_
  by_cases h : 1 ≤ n ∧ n ≤ 6
  · have hn : n = Int.ofNat 1 ∨ n = Int.ofNat 2 ∨ n = Int.ofNat 3 ∨ n = Int.ofNat 4 ∨ n = Int.ofNat 5 ∨ n = Int.ofNat 6 := by
      simp only [Int.ofNat_eq_natCast]; omega
    by_cases hq : Pats ps
    · rcases hn with rfl | rfl | rfl | rfl | rfl | rfl
      · obtain ⟨f, e⟩ := avoids1 hq; exact ⟨_, e⟩
      · obtain ⟨f, e⟩ := avoids2 hq; exact ⟨_, e⟩
      · obtain ⟨f, e⟩ := avoids3 hq; exact ⟨_, e⟩
      · obtain ⟨f, e⟩ := avoids4 hq; exact ⟨_, e⟩
      · obtain ⟨f, e⟩ := avoids5 hq; exact ⟨_, e⟩
      · obtain ⟨f, e⟩ := avoids6 hq; exact ⟨_, e⟩
    · rcases hn with rfl | rfl | rfl | rfl | rfl | rfl <;> exact ⟨_, avoid_no (b := true) (by omega) (by omega) (by omega) (by kernel_rfl) (by kernel_rfl) (.inr hq)⟩
  · exact ⟨_, avoid_no (b := false) (by omega) (by omega) (by omega) (out107 h).1 (out107 h).2 (.inl rfl)⟩

end Go.Proofs.Ytmcldnoofgkidaa
