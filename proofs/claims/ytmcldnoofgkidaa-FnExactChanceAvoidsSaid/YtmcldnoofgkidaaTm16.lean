/- The T-machine: one operation. -/
import Derived.Test.YtmcldnoofgkidaaTm15
set_option linter.unusedVariables false
set_option linter.unusedSimpArgs false
namespace Go.Tm
open Go.RowKit

/-- Calls of functions do as their contracts say. -/
def CallsOK (P : Program) (K : Kf) (E : El) (n : Nat) (CR : CRel) : Prop :=
  ∀ (G : Gh) (s : St) (a : Act) (w : World) (o : Oper) (u : St) (f : Operand) (as : Array Operand) (ts : Array TypeId), o.op = .call { callee := .value f, args := as, argTypes := ts } →
    Rel E n G s a w → dstOk n o.dst = true → Runs CR s (vop K o) u → Fresh s u → OpOK E n P G s a w o u

section
variable {P : Program} {K : Kf} {E : El} {n : Nat} {G : Gh} {s : St} {a : Act} {w : World} {CR : CRel} {o : Oper} {u : St}

theorem vop_ok (hK : TyOK P K E) (hn : n ≤ 10000) (hC : CallsOK P K E n CR) (R : Rel E n G s a w) (hd : dstOk n o.dst = true) (hnp : ∀ t ∈ allocDst o, NoPts t s) (hu : Runs CR s (vop K o) u) (hfr : Fresh s u) : OpOK E n P G s a w o u := by
  have hn' : n ≤ 100000000 := by omega
  cases ho : o.op with
  | move x => exact move_ok R (.inl ho) hd (by simpa only [vop, ho] using hu)
  | assign x => exact move_ok R (.inr ho) hd (by simpa only [vop, ho] using hu)
  | pick c x y => exact pick_ok R ho hd hu
  | alloc e => exact alloc_ok hK R ho hd (fun t ht => hnp t (by simp [allocDst, ho, ht])) hu
  | box e x => exact box_ok R ho hd (fun t ht => hnp t (by simp [allocDst, ho, ht])) hu
  | build T ps => exact build_ok hK R ho hd hu
  | buildSlice T len ps => exact buildSlice_ok hK R ho hd hn' hu hfr
  | load T x => exact load_ok hK R ho hd hu
  | store T x y => exact store_ok hK R ho hd hu
  | nilCheck x => exact nilCheck_ok R ho hd hu
  | binOp op T x y T' => exact binOp_ok hK R ho hd hu
  | unOp op T x => exact unOp_ok R ho hd hu
  | convert S D x => exact convert_ok hK R ho hd hu
  | slice T x lo hi mx => exact slice_ok hK R ho hd hu
  | indexAddr T x i => exact indexAddr_ok hK R ho hd hu
  | index T x i => exact index_ok hK R ho hd hu
  | makeFunc fn fi ca => exact makeFunc_ok R ho hd hu
  | makeSlice T l c => exact makeSlice_ok hK R ho hd hn' hu hfr
  | extract x i => exact extract_ok R ho hd hu
  | call c =>
    obtain ⟨cal, args, ts⟩ := c
    cases cal with
    | value f => exact hC G s a w o u f args ts ho R hd hu hfr
    | invoke x m => simp only [vop, ho] at hu; exact hu.elim
    | builtin b =>
      have hu0 := hu
      simp only [vop, ho] at hu
      split at hu
      · rename_i x t' h1 h2
        have : args = #[x] := by simpa using congrArg List.toArray h1
        subst this
        exact len_ok hK R ho hd hu0
      · rename_i x y t' h1 h2
        have : args = #[x, y] := by simpa using congrArg List.toArray h1
        subst this
        exact append_ok hK R ho hd hn' hu0 hfr (append_rowsOp hK R ho)
      · exact hu.elim
  | _ => simp only [vop, ho] at hu; exact hu.elim
end
end Go.Tm
