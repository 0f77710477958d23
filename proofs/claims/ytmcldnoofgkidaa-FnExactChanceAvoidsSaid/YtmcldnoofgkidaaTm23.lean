/- The T-machine: calls: what a call is, what a contract says, what is frozen. -/
import Derived.Test.YtmcldnoofgkidaaTm22
set_option linter.unusedVariables false
set_option linter.unusedSimpArgs false
namespace Go.Tm
open Go.RowKit

/-- A value that crosses a call; what it owns stands under the name τ; B: the blocks of the boxes that are passed. -/
def CVR (E : El) (O : Lbl) (w : World) (B : Nat → Nat) (τ : Nat) (v : Value) : CV → Prop
  | .sc x => VP O w v x
  | .ow c => VC E O w τ v c
  | .fn f cs => v = .func (.func f) #[] (cs.map fun j => Value.pointer (some ⟨B j, 0, none⟩)).toArray
  | .pt j => v = .pointer (some ⟨B j, 0, none⟩)
  | .nf => v = .nilFunc

/-- Values of a result. -/
def resVal : List Value → Value
  | [] => .tuple #[]
  | [v] => v
  | vs => .tuple vs.toArray

/-- The name under which the i-th result's own blocks stand. -/
def resN (i : Nat) : Nat := 500000000 + i
def boxN (j : Nat) : Nat := nm (.box (.par j))
/-- The name of what an argument gives up. -/
def argN (j : Nat) : Nat := nm (.slot j)

structure BoxesR (E : El) (O : Lbl) (w : World) (B : Nat → Nat) (bx : List CV) : Prop where
  lab : ∀ j, j < bx.length → O (B j) = .bx (.par j)
  val : ∀ (j : Nat) c, bx[j]? = some c → ∃ u e, w.heap[B j]? = some (.cells u.cells e (0, 0)) ∧ CVR E O w B (boxN j) u c

/-- What a call of f with these arguments and boxes comes to. -/
def CallSpec (P : Program) (E : El) (f : FuncId) (as bx rs bx' : List CV) : Prop :=
  ∀ (O : Lbl) (B : Nat → Nat) (vals : List Value) (w : World), (∀ g, w.heap.size ≤ g → O g = .no) → vals.length = as.length →
    (∀ (j : Nat) v c, vals[j]? = some v → as[j]? = some c → CVR E O w B (argN j) v c) → BoxesR E O w B bx →
    Calls P f vals.toArray w fun e w' => ∃ (O' : Lbl) (rv : List Value), e = .returned (resVal rv) ∧ Fr O w O' w' ∧ (∀ g, w'.heap.size ≤ g → O' g = .no) ∧ rv.length = rs.length ∧
      (∀ (j : Nat) v c, rv[j]? = some v → rs[j]? = some c → CVR E O' w' B (resN j) v c) ∧ bx'.length = bx.length ∧ BoxesR E O' w' B bx'

/-- The function can be entered. -/
def FnOK (P : Program) (f : FuncId) : Prop := ∃ fn, P.funcs[f]? = some fn ∧ fn.body.isNone = false ∧ (fn.name == "runtime.NumGoroutine") = false

def ContractsOK (P : Program) (E : El) (CR : CRel) : Prop := ∀ f as bx rs bx', CR f as bx rs bx' → CallSpec P E f as bx rs bx' ∧ FnOK P f ∧ rs.length ≤ 90

section
variable {P : Program} {K : Kf} {E : El} {n : Nat} {G : Gh} {s : St} {a : Act} {w : World} {CR : CRel} {o : Oper} {u : St} {ρ : Operand → Value}

theorem exec_call {f : Operand} {as : Array Operand} {ts : Array TypeId} {g : FuncId} {caps : Array Value} {fn : Func} (ho : o.op = .call { callee := .value f, args := as, argTypes := ts }) (hf : ρ f = .func (.func g) #[] caps)
    (hfn : P.funcs[g]? = some fn) (hbody : fn.body.isNone = false) (hname : (fn.name == "runtime.NumGoroutine") = false) : (execOp ρ o).run P w = .ok (.enter g (as.map ρ ++ caps)) w := by
  simp only [execOp, ho, resolve, hf, Deferred.ofValue, invoke, callFunc, Sem.run_bind, Sem.run_pure, Result.andThen_ok, (show Sem.run P program w = .ok P w from rfl), hfn, hname, hbody, Bool.false_eq_true, if_false, Array.empty_append]

/-- Labels when tokens are lent for good. -/
def frzO (O : Lbl) (s' : St) : Lbl := fun g => match O g with
  | .ow τ p => (match s'.get (.tok τ) with
    | .f _ => .im
    | _ => .ow τ p)
  | l => l

theorem frzO_other {O : Lbl} {s' : St} {g : Nat} {l : Lab} (h : O g = l) (hl : ∀ τ p, l ≠ .ow τ p) : frzO O s' g = l := by
  unfold frzO
  rw [h]
  cases l with
  | ow τ p => exact absurd rfl (hl τ p)
  | _ => rfl

/-- Tokens that are lent for good: nobody writes them any more. -/
theorem Rel.freeze (R : Rel E n G s a w) {s' : St} (h : ∀ l, s'.get l = s.get l ∨ ∃ τ iv c, l = .tok τ ∧ s.get (.tok τ) = .t iv c ∧ (∀ k xss, c ≠ .hole k xss) ∧ s'.get l = .f c.pv) :
    Rel E n { G with O := frzO G.O s' } s' a w ∧
      Fr G.O w (frzO G.O s') w := by
  have him : ∀ g, G.O g = .im → frzO G.O s' g = .im ∧ w.heap[g]? = w.heap[g]? := fun g hg => ⟨frzO_other hg (by simp), rfl⟩
  have hts : ∀ σ, TokStep G s w { G with O := frzO G.O s' } s' w σ := by
    intro σ
    rcases h (.tok σ) with e | ⟨τ, iv, c, e1, e2, _, e3⟩
    · exact TokStep.same e rfl fun _ _ _ _ _ _ => rfl
    · injection e1 with e1
      subst e1
      refine ⟨fun _ => ⟨by rw [e2]; rfl, rfl⟩, fun iv' c' h' => ?_⟩
      rw [e3] at h'; cases h'
  have hsame : ∀ l, (∀ τ, l ≠ .tok τ) → s'.get l = s.get l := by
    intro l hl
    rcases h l with e | ⟨τ, iv, c, e1, _⟩
    · exact e
    · exact absurd e1 (hl τ)
  refine ⟨R.step R.size R.defers him (fun t v hv => ?_) (fun b v hv => ?_) (fun τ iv c hc => ?_) (fun τ x hx => ?_) (fun g hg => ?_), ⟨rfl, rfl, rfl, Nat.le_refl _, him, fun g _ hg => ⟨?_, rfl⟩⟩⟩
  · rw [hsame _ (by simp)] at hv; exact .inl ⟨hv, rfl, fun σ _ => hts σ, fun _ _ => rfl⟩
  · rw [hsame _ (by simp)] at hv
    exact .inr (.inl ⟨hv, rfl, fun hb => ⟨frzO_other hb (by simp), rfl⟩, fun σ _ => hts σ, fun _ _ => rfl⟩)
  · rcases h (.tok τ) with e | ⟨τ', iv', c', e1, e2, _, e3⟩
    · refine .inl ⟨⟨iv, by rw [← e]; exact hc⟩, rfl, fun g p hg _ => ⟨?_, rfl⟩⟩
      show frzO G.O s' g = _
      simp only [frzO, hg, hc]
    · rw [e3] at hc; cases hc
  · rcases h (.tok τ) with e | ⟨τ', iv, c, e1, e2, e3, e4⟩
    · exact .inl ⟨by rw [← e]; exact hx, rfl⟩
    · injection e1 with e1
      subst e1
      refine .inr ?_
      rw [e4] at hx
      injection hx with hx
      subst hx
      refine (R.toks τ iv c e2).lent e3 (fun g hg => (him g hg).1) fun g p hg => ?_
      show frzO G.O s' g = _
      simp only [frzO, hg, e4]
  · have hg' := R.fresh g hg
    exact frzO_other hg' (by simp)
  · exact frzO_other hg (by simp)
end
end Go.Tm
