/- The law FnExactMeanRise: what is checked of an order. -/
import Derived.Test.YtmcldnoofgkidaaQ0
set_option linter.unusedVariables false
namespace Go.Proofs.Ytmcldnoofgkidaa
open Go.Tm

def mkE (e : List Nat × Nat) : List Int × Int := (e.1.map Int.ofNat, Int.ofNat e.2)

def eqL : List Int → List Int → Bool
  | [], [] => true
  | a :: az, b :: bs => iEq a b && eqL az bs
  | _, _ => false

theorem eqL_iff : ∀ {a b : List Int}, eqL a b = true → a = b
  | [], [], _ => rfl
  | a :: az, b :: bs, h => by
    simp only [eqL, Bool.and_eq_true] at h
    rw [iEq_iff.1 h.1, eqL_iff h.2]
  | [], _ :: _, h => by cases h
  | _ :: _, [], h => by cases h

def isL (x : Option (List Int)) (o : List Int) : Bool := match x with
  | some y => eqL y o
  | none => false
theorem isL_iff {x : Option (List Int)} {o : List Int} (h : isL x o = true) : x = some o := by
  unfold isL at h
  split at h
  · rw [eqL_iff h]
  · cases h
def isI (x : Option Int) (o : Int) : Bool := match x with
  | some y => iEq y o
  | none => false
theorem isI_iff {x : Option Int} {o : Int} (h : isI x o = true) : x = some o := by
  unfold isI at h
  split at h
  · rw [iEq_iff.1 h]
  · cases h

def rowOk (x : Option (List (List Int) × List (List Int))) (l : Int) : Bool := match x with
  | some r => inB (Int.ofNat 0) r.1.length && iEq (Int.ofNat (List.length (List.getD r.1 0 []))) l
  | none => false

def chk (N : Nat) (n : Int) (k : Int) (e : List Int × Int) : Bool :=
  isL (D239 N n k) e.1 && (isL (D210 N n k) e.1 && (isI (D112 N e.1) e.2 && rowOk (D109 N e.1) e.2))

def chkL (N : Nat) (n : Int) : Nat → List (List Nat × Nat) → Bool
  | _, [] => true
  | k, e :: es => chk N n (Int.ofNat k) (mkE e) && chkL N n (k + 1) es

theorem chkL_append {N : Nat} {n : Int} : ∀ {a b : List (List Nat × Nat)} {k : Nat}, chkL N n k a = true → chkL N n (k + a.length) b = true → chkL N n k (a ++ b) = true
  | [], b, k, _, h => h
  | e :: es, b, k, h1, h2 => by
    simp only [chkL, Bool.and_eq_true] at h1
    simp only [List.cons_append, chkL, Bool.and_eq_true]
    refine ⟨h1.1, chkL_append h1.2 ?_⟩
    rw [show k + 1 + es.length = k + (e :: es).length by simp; omega]
    exact h2

end Go.Proofs.Ytmcldnoofgkidaa
