/- The T-machine: a region in the text's order, whole. -/
import Derived.Test.YtmcldnoofgkidaaTm19
set_option linter.unusedVariables false
set_option linter.unusedSimpArgs false
namespace Go.Tm
open Go.RowKit

section
variable {P : Program} {K : Kf} {E : El} {n : Nat} {G : Gh} {s : St} {a : Act} {w : World} {CR : CRel} {o : Oper} {u : St} {X : Env}

theorem allocsOk_spec {ops : List Oper} (h : allocsOk n s ops = true) : (∀ o ∈ ops, dstOk n o.dst = true) ∧ (∀ t ∈ allocDsts ops, noPts t s = true) ∧ n ≤ 10000 := by
  simp only [allocsOk, Bool.and_eq_true, List.all_eq_true, Nat.ble_eq] at h
  exact ⟨h.1.1, fun t ht => ptsFree_mem h.1.2 ht, h.2⟩

theorem region_text (hK : TyOK P X.K E) (hXn : X.n = n) (hS : CSound X.C CR) (hC : CallsOK P X.K E n CR) (id : Nat) (ops : Array Oper) :
    CodeSound P E n (.region id ops false) fun s k => regionK X id ops false s (k .nrm) := by
  intro G s a w k r Q h R hk
  unfold regionK at h
  dsimp only at h
  cases hb : (allocsOk X.n s ops.toList && incNm 0 (X.keep id)) with
  | false => rw [hb] at h; cases h
  | true =>
    rw [hb] at h
    simp only [Bool.and_eq_true] at hb
    obtain ⟨h1, h2⟩ := hb
    rw [hXn] at h1
    obtain ⟨d1, d2, d3⟩ := allocsOk_spec h1
    simp only [cond_true, cond_false] at h
    refine wp_region_list (opsK_ok hK d3 hS hC ops Q r _ ops.toList G s a w d1 (fun t ht => noPts_get (d2 t ht)) h R fun G' s' a' w' R' f' h' => ?_)
    obtain ⟨G2, R2, f2⟩ := clean_ok R' h2
    exact hk G2 _ a' w' .nrm R2 (f'.trans f2) h'
end
end Go.Tm
