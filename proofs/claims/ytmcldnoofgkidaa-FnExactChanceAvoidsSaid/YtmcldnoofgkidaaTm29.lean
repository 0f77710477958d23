/- The T-machine: all calls are sound, given the contracts; a function's body. -/
import Derived.Test.YtmcldnoofgkidaaTm28
set_option linter.unusedVariables false
set_option linter.unusedSimpArgs false
namespace Go.Tm
open Go.RowKit

section
variable {P : Program} {K : Kf} {E : El} {n : Nat} {CR : CRel}

theorem calls_ok (hCO : ContractsOK P E CR) (hn : n ≤ 10000) : CallsOK P K E n CR := by
  intro G s a w o u f as ts ho R hd hu hfr
  simp only [vop, ho] at hu
  split at hu
  · rename_i t hdst
    obtain ⟨v, hv, hu⟩ := runs_opd hu
    split at hu
    · rename_i g caps
      obtain ⟨vs, hl, hvs, hu⟩ := runs_opds hu
      have hfv : a.eval f = .func (.func g) #[] (caps.map (capV G.B)).toArray := opv_ok R hv
      have ht : t < n := by rw [hdst] at hd; simpa [dstOk, Nat.blt_eq] using hd
      have hl' : vs.length = as.size := by rw [hl, Array.length_toList]
      refine callOp_ok (vals := (as.map a.eval).toList ++ caps.map (capV G.B)) hCO hn R ht (by simp [hl']) (fun j val v h1 h2 => ?_) hdst (fun fn hfn hb hnm => ?_) hu hfr
      · by_cases hj : j < as.size
        · rw [List.getElem?_append_left (by simpa using hj)] at h1
          rw [List.getElem?_append_left (by omega)] at h2
          rw [Array.getElem?_toList, Array.getElem?_map, Array.getElem?_eq_getElem hj] at h1
          injection h1 with h1
          subst h1
          exact opv_ok R (hvs j _ v (by rw [Array.getElem?_toList, Array.getElem?_eq_getElem hj]) h2)
        · rw [List.getElem?_append_right (by simpa using hj)] at h1
          rw [List.getElem?_append_right (by omega)] at h2
          simp only [Array.length_toList, Array.size_map, hl', List.getElem?_map] at h1 h2
          cases hc : caps[j - as.size]? with
          | none => rw [hc] at h1; cases h1
          | some b =>
            rw [hc] at h1 h2
            simp only [Option.map_some] at h1 h2
            injection h1 with h1; injection h2 with h2
            subst h1; subst h2
            rfl
      · have := exec_call (P := P) (w := w) (ρ := a.eval) ho hfv hfn hb hnm
        rw [this]
        congr 2
        apply Array.toList_inj.1
        simp
    · exact hu.elim
  · exact hu.elim

end
end Go.Tm
