/- The T-machine: helpers for the printed texts: skeletons of states, dispatch, types. -/
import Derived.Test.YtmcldnoofgkidaaTm32
set_option linter.unusedVariables false
set_option linter.unusedSimpArgs false
namespace Go.Tm
open Go.RowKit

/-! ### Skeletons -/
inductive Dat where
  | I (n : Int)
  | B (b : Bool)
  | S (s : ByteArray)
  | L (xs : List Int)
  | T (xs : List ByteArray)
  | R (xs : List (List Int))
  | N (n : Nat)

inductive SkV where
  | int (k : IntKind)
  | bool
  | str
  | ints (k : IntKind)
  | strs
  | rows
  | arr (k : IntKind) (n : Nat)
  | nil
  | tt
  | ff
  | rf (τ : Nat)
  | rw (τ : Nat)
  | ri (τ : Nat)
  | pt (b : Key)
  | fn (f : FuncId) (cs : List Key)
  | ud
  | nf
  | un
  | tI (k : IntKind)
  | tS
  | tR (own : Bool)

def keysEq : List Key → List Key → Bool
  | [], [] => true
  | a :: as, b :: bs => Key.beq a b && keysEq as bs
  | _, _ => false

theorem keysEq_iff : ∀ {as bs : List Key}, keysEq as bs = true → as = bs
  | [], [], _ => rfl
  | a :: as, b :: bs, h => by
    simp only [keysEq, Bool.and_eq_true, Key.beq_iff] at h
    rw [h.1, keysEq_iff h.2]
  | [], _ :: _, h => by cases h
  | _ :: _, [], h => by cases h

/-- A value by its skeleton: what it holds, ahead of the rest. -/
def mV (m : SkV) (x : SV) (ds : Option (List Dat)) : Option (List Dat) :=
  match m with
  | .int k => match x with | .v (.sc (.int k' n)) => bif decide (k' = k) then ds.map (.I n :: ·) else none | _ => none
  | .bool => match x with | .v (.sc (.bool b)) => ds.map (.B b :: ·) | _ => none
  | .tt => match x with | .v (.sc (.bool b)) => bif b then ds else none | _ => none
  | .ff => match x with | .v (.sc (.bool b)) => bif b then none else ds | _ => none
  | .str => match x with | .v (.sc (.str s)) => ds.map (.S s :: ·) | _ => none
  | .ints k => match x with | .v (.sc (.ints k' xs)) => bif decide (k' = k) then ds.map (.L xs :: ·) else none | _ => none
  | .strs => match x with | .v (.sc (.strs xs)) => ds.map (.T xs :: ·) | _ => none
  | .rows => match x with | .v (.sc (.rows xs)) => ds.map (.R xs :: ·) | _ => none
  | .arr k n => match x with | .v (.sc (.arr k' n' xs)) => bif decide (k' = k) && Nat.beq n' n then ds.map (.L xs :: ·) else none | _ => none
  | .nil => match x with | .v (.sc .nil) => ds | _ => none
  | .rf τ => match x with | .v (.rf τ') => bif Nat.beq τ' τ then ds else none | _ => none
  | .rw τ => match x with | .v (.rw τ' lo n) => bif Nat.beq τ' τ then ds.map (fun r => .N lo :: .N n :: r) else none | _ => none
  | .ri τ => match x with | .v (.ri τ' iv n) => bif Nat.beq τ' τ && Nat.beq iv 0 then ds.map (.N n :: ·) else none | _ => none
  | .pt b => match x with | .v (.pt b') => bif Key.beq b' b then ds else none | _ => none
  | .fn f cs => match x with | .v (.fn f' cs') => bif Nat.beq f' f && keysEq cs' cs then ds else none | _ => none
  | .ud => match x with | .v .ud => ds | _ => none
  | .nf => match x with | .v .nf => ds | _ => none
  | .un => match x with | .v .un => ds | _ => none
  | .tI k => match x with | .t iv (.ints k' xs) => bif Nat.beq iv 0 && decide (k' = k) then ds.map (.L xs :: ·) else none | _ => none
  | .tS => match x with | .t iv (.strs xs) => bif Nat.beq iv 0 then ds.map (.T xs :: ·) else none | _ => none
  | .tR own => match x with | .t iv (.rows o xs) => bif Nat.beq iv 0 && (bif o then own else !own) then ds.map (.R xs :: ·) else none | _ => none

def mS : List (Loc × SkV) → St → Option (List Dat)
  | [], [] => some []
  | (l, m) :: sk, (l', x) :: s => bif Loc.beq l' l then mV m x (mS sk s) else none
  | _, _ => none

/-- The other way. -/
def bV (m : SkV) (ds : List Dat) : SV × List Dat :=
  match m with
  | .int k => match ds with | .I n :: r => (.v (.sc (.int k n)), r) | _ => (default, [])
  | .bool => match ds with | .B n :: r => (.v (.sc (.bool n)), r) | _ => (default, [])
  | .tt => (.v (.sc (.bool true)), ds)
  | .ff => (.v (.sc (.bool false)), ds)
  | .str => match ds with | .S n :: r => (.v (.sc (.str n)), r) | _ => (default, [])
  | .ints k => match ds with | .L n :: r => (.v (.sc (.ints k n)), r) | _ => (default, [])
  | .strs => match ds with | .T n :: r => (.v (.sc (.strs n)), r) | _ => (default, [])
  | .rows => match ds with | .R n :: r => (.v (.sc (.rows n)), r) | _ => (default, [])
  | .arr k n => match ds with | .L x :: r => (.v (.sc (.arr k n x)), r) | _ => (default, [])
  | .nil => (.v (.sc .nil), ds)
  | .rf τ => (.v (.rf τ), ds)
  | .rw τ => match ds with | .N lo :: .N n :: r => (.v (.rw τ lo n), r) | _ => (default, [])
  | .ri τ => match ds with | .N n :: r => (.v (.ri τ 0 n), r) | _ => (default, [])
  | .pt b => (.v (.pt b), ds)
  | .fn f cs => (.v (.fn f cs), ds)
  | .ud => (.v .ud, ds)
  | .nf => (.v .nf, ds)
  | .un => (.v .un, ds)
  | .tI k => match ds with | .L x :: r => (.t 0 (.ints k x), r) | _ => (default, [])
  | .tS => match ds with | .T x :: r => (.t 0 (.strs x), r) | _ => (default, [])
  | .tR own => match ds with | .R x :: r => (.t 0 (.rows own x), r) | _ => (default, [])

def bS : List (Loc × SkV) → List Dat → St
  | [], _ => []
  | (l, m) :: sk, ds => (l, (bV m ds).1) :: bS sk (bV m ds).2

theorem mV_bV {m : SkV} {x : SV} {ds : Option (List Dat)} {r : List Dat} (h : mV m x ds = some r) : ∃ r', ds = some r' ∧ bV m r = (x, r') := by
  have one : ∀ (f : List Dat → List Dat), ds.map f = some r → ∃ r', ds = some r' ∧ r = f r' := by
    intro f hf
    cases ds with
    | none => cases hf
    | some r' => exact ⟨r', rfl, by injection hf with hf; exact hf.symm⟩
  cases m with
  | int k =>
    simp only [mV] at h
    split at h
    · rename_i k' n
      cases hb : decide (k' = k) with
      | false => rw [hb] at h; cases h
      | true => rw [hb] at h; have e := of_decide_eq_true hb; subst e; obtain ⟨r', h1, rfl⟩ := one _ h; exact ⟨r', h1, rfl⟩
    · cases h
  | bool =>
    simp only [mV] at h
    split at h
    · skip
      obtain ⟨r', h1, rfl⟩ := one _ h; exact ⟨r', h1, rfl⟩
    · cases h
  | str =>
    simp only [mV] at h
    split at h
    · skip
      obtain ⟨r', h1, rfl⟩ := one _ h; exact ⟨r', h1, rfl⟩
    · cases h
  | ints k =>
    simp only [mV] at h
    split at h
    · rename_i k' n
      cases hb : decide (k' = k) with
      | false => rw [hb] at h; cases h
      | true => rw [hb] at h; have e := of_decide_eq_true hb; subst e; obtain ⟨r', h1, rfl⟩ := one _ h; exact ⟨r', h1, rfl⟩
    · cases h
  | strs =>
    simp only [mV] at h
    split at h
    · skip
      obtain ⟨r', h1, rfl⟩ := one _ h; exact ⟨r', h1, rfl⟩
    · cases h
  | rows =>
    simp only [mV] at h
    split at h
    · skip
      obtain ⟨r', h1, rfl⟩ := one _ h; exact ⟨r', h1, rfl⟩
    · cases h
  | arr k n =>
    simp only [mV] at h
    split at h
    · rename_i k' n' xs
      cases hb : (decide (k' = k) && Nat.beq n' n) with
      | false => rw [hb] at h; cases h
      | true =>
        rw [hb] at h
        simp only [Bool.and_eq_true, decide_eq_true_eq, Nat.beq_eq] at hb
        obtain ⟨rfl, rfl⟩ := hb
        obtain ⟨r', h1, rfl⟩ := one _ h; exact ⟨r', h1, rfl⟩
    · cases h
  | nil =>
    simp only [mV] at h
    split at h
    · skip
      exact ⟨r, h, rfl⟩
    · cases h
  | tt =>
    simp only [mV] at h
    split at h
    · rename_i b
      cases b with
      | true => exact ⟨r, h, rfl⟩
      | false => cases h
    · cases h
  | ff =>
    simp only [mV] at h
    split at h
    · rename_i b
      cases b with
      | true => cases h
      | false => exact ⟨r, h, rfl⟩
    · cases h
  | rf τ =>
    simp only [mV] at h
    split at h
    · rename_i τ'
      cases hb : Nat.beq τ' τ with
      | false => rw [hb] at h; cases h
      | true => rw [hb] at h; rw [Nat.beq_eq] at hb; subst hb; exact ⟨r, h, rfl⟩
    · cases h
  | rw τ =>
    simp only [mV] at h
    split at h
    · rename_i τ' lo n
      cases hb : Nat.beq τ' τ with
      | false => rw [hb] at h; cases h
      | true => rw [hb] at h; rw [Nat.beq_eq] at hb; subst hb; obtain ⟨r', h1, rfl⟩ := one _ h; exact ⟨r', h1, rfl⟩
    · cases h
  | ri τ =>
    simp only [mV] at h
    split at h
    · rename_i τ' iv m
      cases hb : (Nat.beq τ' τ && Nat.beq iv 0) with
      | false => rw [hb] at h; cases h
      | true =>
        rw [hb] at h
        simp only [Bool.and_eq_true, Nat.beq_eq] at hb
        obtain ⟨rfl, rfl⟩ := hb
        obtain ⟨r', h1, rfl⟩ := one _ h; exact ⟨r', h1, rfl⟩
    · cases h
  | pt b =>
    simp only [mV] at h
    split at h
    · rename_i b'
      cases hb : Key.beq b' b with
      | false => rw [hb] at h; cases h
      | true => rw [hb] at h; rw [Key.beq_iff] at hb; subst hb; exact ⟨r, h, rfl⟩
    · cases h
  | fn f cs =>
    simp only [mV] at h
    split at h
    · rename_i f' cs'
      cases hb : (Nat.beq f' f && keysEq cs' cs) with
      | false => rw [hb] at h; cases h
      | true =>
        rw [hb] at h
        simp only [Bool.and_eq_true, Nat.beq_eq] at hb
        obtain ⟨rfl, e⟩ := hb
        rw [keysEq_iff e]
        exact ⟨r, h, rfl⟩
    · cases h
  | ud =>
    simp only [mV] at h
    split at h
    · skip
      exact ⟨r, h, rfl⟩
    · cases h
  | nf =>
    simp only [mV] at h
    split at h
    · skip
      exact ⟨r, h, rfl⟩
    · cases h
  | un =>
    simp only [mV] at h
    split at h
    · skip
      exact ⟨r, h, rfl⟩
    · cases h
  | tI k =>
    simp only [mV] at h
    split at h
    · rename_i iv k' xs
      cases hb : (Nat.beq iv 0 && decide (k' = k)) with
      | false => rw [hb] at h; cases h
      | true =>
        rw [hb] at h
        simp only [Bool.and_eq_true, decide_eq_true_eq, Nat.beq_eq] at hb
        obtain ⟨rfl, rfl⟩ := hb
        obtain ⟨r', h1, rfl⟩ := one _ h; exact ⟨r', h1, rfl⟩
    · cases h
  | tS =>
    simp only [mV] at h
    split at h
    · rename_i iv xs
      cases hb : Nat.beq iv 0 with
      | false => rw [hb] at h; cases h
      | true => rw [hb] at h; rw [Nat.beq_eq] at hb; subst hb; obtain ⟨r', h1, rfl⟩ := one _ h; exact ⟨r', h1, rfl⟩
    · cases h
  | tR own =>
    simp only [mV] at h
    split at h
    · rename_i iv o xs
      cases hb : (Nat.beq iv 0 && (bif o then own else !own)) with
      | false => rw [hb] at h; cases h
      | true =>
        rw [hb] at h
        simp only [Bool.and_eq_true, Nat.beq_eq] at hb
        obtain ⟨rfl, e⟩ := hb
        have e' : o = own := by cases o <;> cases own <;> simp at e <;> rfl
        subst e'
        obtain ⟨r', h1, rfl⟩ := one _ h; exact ⟨r', h1, rfl⟩
    · cases h

theorem mS_bS : ∀ {sk : List (Loc × SkV)} {s : St} {ds : List Dat}, mS sk s = some ds → s = bS sk ds
  | [], [], _, _ => rfl
  | (l, m) :: sk, (l', x) :: s, ds, h => by
    simp only [mS] at h
    cases hb : Loc.beq l' l with
    | false => rw [hb] at h; cases h
    | true =>
      rw [hb] at h
      rw [Loc.beq_iff] at hb
      subst hb
      obtain ⟨r', h1, h2⟩ := mV_bV h
      simp only [bS, h2]
      rw [mS_bS h1]
  | [], _ :: _, _, h => by cases h
  | _ :: _, [], _, h => by cases h

/-! ### Dispatch by shapes -/
def IntKind.no : IntKind → Nat
  | .i64 => 1
  | .u8 => 2
  | .u64 => 3
  | .i32 => 4
  | .u32 => 5
  | _ => 9

def PV.no : PV → Nat
  | .int k _ => 10 + IntKind.no k
  | .bool _ => 1
  | .str _ => 2
  | .nil => 3
  | .ints k _ => 20 + IntKind.no k
  | .strs _ => 4
  | .rows _ => 5
  | .arr k n _ => 1000 + 10 * n + IntKind.no k

def CV.no : CV → Nat
  | .sc x => x.no
  | .ow (.ints k _) => 40 + IntKind.no k
  | .ow (.strs _) => 6
  | .ow (.rows o _) => bif o then 7 else 8
  | .ow (.hole _ _) => 9
  | .fn f _ => 100000 + f
  | .pt j => 50000 + j
  | .nf => 60

def shapeNo : List CV → List CV → List Nat
  | [], [] => []
  | [], c :: cs => c.no :: shapeNo [] cs
  | c :: cs, ds => c.no :: shapeNo cs ds

/-- The one handler where the shape is this, else the other. -/
def hIf (sh : List Nat) (h1 h2 : Hd) : Hd := fun as bx k => bif natsEq (shapeNo as bx) sh then h1 as bx k else h2 as bx k

section
variable {P : Program} {E : El}
theorem hs_if {f : FuncId} {sh : List Nat} {h1 h2 : Hd} (a : HSound P E f h1) (b : HSound P E f h2) : HSound P E f (hIf sh h1 h2) := by
  intro as bx k r h
  unfold hIf at h
  cases hb : natsEq (shapeNo as bx) sh with
  | true => rw [hb] at h; exact a as bx k r h
  | false => rw [hb] at h; exact b as bx k r h

/-! ### Types -/
theorem ty_none : ∀ T, tyOk P E T (TK.oth) := fun _ => trivial
theorem ty_sel {T0 : TypeId} {k : TK} {rest : TypeId → TK} (h : tyOk P E T0 k) (hr : ∀ T, tyOk P E T (rest T)) : ∀ T, tyOk P E T (bif Nat.beq T T0 then k else rest T) := by
  intro T
  cases hb : Nat.beq T T0 with
  | true => rw [Nat.beq_eq] at hb; subst hb; exact h
  | false => exact hr T
end

def cNil (c : CV) (f : Unit → Option RT) : Option RT := match c with
  | .sc .nil => f ()
  | _ => none
theorem cNil_some {c : CV} {r : RT} {f} (h : cNil c f = some r) : CVle c (.sc .nil) ∧ f () = some r := by
  unfold cNil at h
  split at h
  · exact ⟨.inl rfl, h⟩
  · cases h

/-- What follows on a round. -/
def vstep (V : St → Option RT) (p : LpS) (k : Ex → St → Option RT) : Ex → St → Option RT := fun e s' => match e with
  | .nrm => V (normL p s')
  | .ext j => k (.ext j) s'
  | .ret => k .ret s'

theorem vround_succ {X : Env} {c : Code} {i n : Nat} {s : St} {k : Ex → St → Option RT} : vround X c i (n + 1) s k = vexec X c s (vstep (fun s => vround X c i n s k) (X.lp i) k) := by
  conv => lhs; unfold vround
  refine congrArg (vexec X c s) (funext fun e => funext fun s' => ?_)
  cases e <;> rfl

def bodyOf (f : Func) : Code := f.body.getD .skip

theorem vround_of {X : Env} {c : Code} {i N : Nat} {LH : St → (Ex → St → Option RT) → Option RT} (hX : ∀ s k, X.L i s k = LH (normL (X.lp i) s) k) (hk : incNm 0 (X.lp i).keep = true)
    (h : ∀ s k r, LH s k = some r → vround X c i N s k = some r) : incNm 0 (X.lp i).keep = true ∧ ∀ s k r, X.L i s k = some r → ∃ fuel, vloop X c i fuel s k = some r :=
  ⟨hk, fun s k r hr => ⟨N, h _ k r (by rw [hX] at hr; exact hr)⟩⟩

end Go.Tm
