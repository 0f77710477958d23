/- The functions of the program: what they compute, and their contracts. Printed by gen.py. -/
import Derived.Test.YtmcldnoofgkidaaQB
set_option linter.unusedVariables false
set_option linter.unusedSimpArgs false
set_option maxRecDepth 100000
namespace Go.Proofs.Ytmcldnoofgkidaa
open Go.Tm

/-! 188: loop.example/g01286/spec.l1In -/
def T188 {ρ : Type} (N : Nat) (a1 : Int) (a2 : Int) (a3 : Int) (k : Bool → Option ρ) : Option ρ :=
  bif (iLe a2 a1) then (
  k (iLe a1 a3))
  else (
  k false)
def D188 (N : Nat) (a1 : Int) (a2 : Int) (a3 : Int) : Option (Bool) := T188 N a1 a2 a3 some
theorem T188_nat {ρ : Type} (N : Nat) (a1 : Int) (a2 : Int) (a3 : Int) (k : Bool → Option ρ) : T188 N a1 a2 a3 k = (D188 N a1 a2 a3).bind k := by
  unfold D188 T188
  simp only [Option.bind_assoc, bif_bind, elim_bind, Option.bind_some, Option.bind_none]
def H188 (D : Int → Int → Int → Option (Bool)) : Hd := fun az bx k => match az, bx with
  | [c0, c1, c2], [] => cI .i64 c0 fun y0 => cI .i64 c1 fun y1 => cI .i64 c2 fun y2 => (D y0 y1 y2).bind fun r => k [.sc (.bool r)] []
  | _, _ => none
theorem fnok188 : FnOK Try.prog 188 := ⟨Try.f188, Try.func188, rfl, by decide⟩
theorem h188 {D : Int → Int → Int → Option (Bool)} (hD : ∀ (y0 : Int), ∀ (y1 : Int), ∀ (y2 : Int), ∀ r, D y0 y1 y2 = some r → CallSpec Try.prog E0 188 [.sc (.int .i64 y0), .sc (.int .i64 y1), .sc (.int .i64 y2)] [] [.sc (.bool r)] []) : HSound Try.prog E0 188 (H188 D) := by
  intro az bx k r h
  unfold H188 at h
  split at h
  · rename_i c0 c1 c2
    obtain ⟨y0, l0, h⟩ := cI_some h
    obtain ⟨y1, l1, h⟩ := cI_some h
    obtain ⟨y2, l2, h⟩ := cI_some h
    obtain ⟨r, hr, h⟩ := Option.bind_eq_some_iff.1 h
    exact ⟨_, _, ⟨(hD y0 y1 y2 r hr).le ⟨l0, ⟨l1, ⟨l2, trivial⟩⟩⟩ trivial, fnok188, Nat.le_of_ble_eq_true rfl⟩, h⟩
  · cases h
def kp188 : Nat → List Tm.Loc := fun i => ([[.slot 0, .slot 1, .slot 2, .slot 11, .slot 12, .slot 13], [.slot 6]] : List (List Tm.Loc)).getD i []
def lp188 : Nat → LpS := fun i => default
def X188 (N : Nat) : Env := { n := 15, K := K0, C := hNone, L := fun i s k => none, keep := kp188, lp := lp188 }
theorem b188 (N : Nat) (a1 : Int) (a2 : Int) (a3 : Int) : vbody (X188 N ) Try.f188 (bodyOf Try.f188) [.sc (.int .i64 a1), .sc (.int .i64 a2), .sc (.int .i64 a3)] [] (fun rs bx => some ⟨rs, bx⟩) = T188 N a1 a2 a3 (fun r => some ⟨[.sc (.bool r)], []⟩) := by kernel_rfl
theorem s188 (N : Nat) (a1 : Int) (a2 : Int) (a3 : Int) (r : Bool) (h : D188 N a1 a2 a3 = some r) : CallSpec Try.prog E0 188 [.sc (.int .i64 a1), .sc (.int .i64 a2), .sc (.int .i64 a3)] [] [.sc (.bool r)] [] := by
  refine body_ok (X := X188 N ) (CR := CRG Try.prog E0) Try.func188 (code := bodyOf Try.f188) (by kernel_rfl) rfl (by decide) mixed0 tyok0 rfl contracts_ok (cs_none) (LoopsBy.of fun p hp => ?_) (by kernel_rfl) (Nat.le_of_ble_eq_true (by kernel_rfl)) ?_
  · rw [show loopsIn (bodyOf Try.f188) = [] from by kernel_rfl] at hp
    cases hp
  · rw [b188, T188_nat, h]; rfl

/-! 107: loop.example/g01286/spec.l9Size -/
def T107 {ρ : Type} (N : Nat) (a1 : Int) (k : Bool → Option ρ) : Option ρ :=
  (D188 N a1 (Int.ofNat 1) (Int.ofNat 6)).bind fun r2 =>
  k r2
def D107 (N : Nat) (a1 : Int) : Option (Bool) := T107 N a1 some
theorem T107_nat {ρ : Type} (N : Nat) (a1 : Int) (k : Bool → Option ρ) : T107 N a1 k = (D107 N a1).bind k := by
  unfold D107 T107
  simp only [Option.bind_assoc, bif_bind, elim_bind, Option.bind_some, Option.bind_none]
def H107 (D : Int → Option (Bool)) : Hd := fun az bx k => match az, bx with
  | [c0], [] => cI .i64 c0 fun y0 => (D y0).bind fun r => k [.sc (.bool r)] []
  | _, _ => none
theorem fnok107 : FnOK Try.prog 107 := ⟨Try.f107, Try.func107, rfl, by decide⟩
theorem h107 {D : Int → Option (Bool)} (hD : ∀ (y0 : Int), ∀ r, D y0 = some r → CallSpec Try.prog E0 107 [.sc (.int .i64 y0)] [] [.sc (.bool r)] []) : HSound Try.prog E0 107 (H107 D) := by
  intro az bx k r h
  unfold H107 at h
  split at h
  · rename_i c0
    obtain ⟨y0, l0, h⟩ := cI_some h
    obtain ⟨r, hr, h⟩ := Option.bind_eq_some_iff.1 h
    exact ⟨_, _, ⟨(hD y0 r hr).le ⟨l0, trivial⟩ trivial, fnok107, Nat.le_of_ble_eq_true rfl⟩, h⟩
  · cases h
def kp107 : Nat → List Tm.Loc := fun i => ([[.slot 0], [.slot 2]] : List (List Tm.Loc)).getD i []
def lp107 : Nat → LpS := fun i => default
def X107 (N : Nat) : Env := { n := 5, K := K0, C := hSel 188 (H188 (D188 N)) (hNone), L := fun i s k => none, keep := kp107, lp := lp107 }
theorem b107 (N : Nat) (a1 : Int) : vbody (X107 N ) Try.f107 (bodyOf Try.f107) [.sc (.int .i64 a1)] [] (fun rs bx => some ⟨rs, bx⟩) = T107 N a1 (fun r => some ⟨[.sc (.bool r)], []⟩) := by kernel_rfl
theorem s107 (N : Nat) (a1 : Int) (r : Bool) (h : D107 N a1 = some r) : CallSpec Try.prog E0 107 [.sc (.int .i64 a1)] [] [.sc (.bool r)] [] := by
  refine body_ok (X := X107 N ) (CR := CRG Try.prog E0) Try.func107 (code := bodyOf Try.f107) (by kernel_rfl) rfl (by decide) mixed0 tyok0 rfl contracts_ok (cs_sel (h188 (s188 N)) (cs_none)) (LoopsBy.of fun p hp => ?_) (by kernel_rfl) (Nat.le_of_ble_eq_true (by kernel_rfl)) ?_
  · rw [show loopsIn (bodyOf Try.f107) = [] from by kernel_rfl] at hp
    cases hp
  · rw [b107, T107_nat, h]; rfl

/-! 209: loop.example/g01286/spec.l2Ways -/
def L209_3 {ρ : Type} (N : Nat) (v : Int × Int × Int) (rec : (Int × Int × Int) → Option ρ) (k : ((Int × Int × Int × Bool)) → Option ρ) : Option ρ :=
  bif (iLe v.2.2 v.1) then (
  rec (v.1, (wrapF .i64 (v.2.1 * v.2.2)), (wrapF .i64 (v.2.2 + (Int.ofNat 1)))))
  else (
  k (v.1, v.2.1, v.2.2, (iLe v.2.2 v.1)))
def Lp209_3 (N : Nat) : Nat → (Int × Int × Int) → Option ((Int × Int × Int × Bool)) := fun n => Nat.rec (motive := fun _ => (Int × Int × Int) → Option ((Int × Int × Int × Bool))) (fun _ => none) (fun _ ih v => L209_3 N v ih some) n
theorem L209_3_nat {ρ : Type} (N : Nat) (v : Int × Int × Int) (rec : (Int × Int × Int) → Option ((Int × Int × Int × Bool))) (k : ((Int × Int × Int × Bool)) → Option ρ) : L209_3 N v (fun v => (rec v).bind k) k = (L209_3 N v rec some).bind k := by
  unfold L209_3
  simp only [Option.bind_assoc, bif_bind, elim_bind, Option.bind_some, Option.bind_none]
def T209 {ρ : Type} (N : Nat) (a1 : Int) (k : Int → Option ρ) : Option ρ :=
  (Lp209_3 N N (a1, (Int.ofNat 1), (Int.ofNat 2))).bind fun w2 =>
  k w2.2.1
def D209 (N : Nat) (a1 : Int) : Option (Int) := T209 N a1 some
theorem T209_nat {ρ : Type} (N : Nat) (a1 : Int) (k : Int → Option ρ) : T209 N a1 k = (D209 N a1).bind k := by
  unfold D209 T209
  simp only [Option.bind_assoc, bif_bind, elim_bind, Option.bind_some, Option.bind_none]
def H209 (D : Int → Option (Int)) : Hd := fun az bx k => match az, bx with
  | [c0], [] => cI .i64 c0 fun y0 => (D y0).bind fun r => k [.sc (.int .i64 r)] []
  | _, _ => none
theorem fnok209 : FnOK Try.prog 209 := ⟨Try.f209, Try.func209, rfl, by decide⟩
theorem h209 {D : Int → Option (Int)} (hD : ∀ (y0 : Int), ∀ r, D y0 = some r → CallSpec Try.prog E0 209 [.sc (.int .i64 y0)] [] [.sc (.int .i64 r)] []) : HSound Try.prog E0 209 (H209 D) := by
  intro az bx k r h
  unfold H209 at h
  split at h
  · rename_i c0
    obtain ⟨y0, l0, h⟩ := cI_some h
    obtain ⟨r, hr, h⟩ := Option.bind_eq_some_iff.1 h
    exact ⟨_, _, ⟨(hD y0 r hr).le ⟨l0, trivial⟩ trivial, fnok209, Nat.le_of_ble_eq_true rfl⟩, h⟩
  · cases h
def kp209 : Nat → List Tm.Loc := fun i => ([[.slot 0], [.slot 0, .slot 3], [.slot 0, .slot 3, .slot 4], [.slot 0, .slot 3, .slot 4, .slot 7], [.slot 0, .slot 3, .slot 4], [.slot 0, .slot 3, .slot 4], [.slot 2]] : List (List Tm.Loc)).getD i []
def lp209 : Nat → LpS := fun i => bif Nat.beq i 3 then ⟨[], [], [.slot 0, .slot 3, .slot 4]⟩ else default
def sk209_3 : List (Tm.Loc × SkV) := [(.slot 0, .int .i64), (.slot 3, .int .i64), (.slot 4, .int .i64)]
def kk209_3 (k : Ex → St → Option RT) : ((Int × Int × Int × Bool)) → Option RT := (fun r => k (.ext 0) [(.slot 7, .v (.sc (.bool false))), (.slot 0, .v (.sc (.int .i64 r.1))), (.slot 3, .v (.sc (.int .i64 r.2.1))), (.slot 4, .v (.sc (.int .i64 r.2.2.1))), (.slot 7, .v (.sc (.bool r.2.2.2)))])
def LH209_3 (N : Nat) : St → (Ex → St → Option RT) → Option RT := fun s k => match mS sk209_3 s with
  | some [.I z0, .I z1, .I z2] => (Lp209_3 N N (z0, z1, z2)).bind (kk209_3 k)
  | _ => none
def X209 (N : Nat) : Env := { n := 14, K := K0, C := hNone, L := fun i s k => bif Nat.beq i 3 then LH209_3 N (normL (lp209 3) s) k else none, keep := kp209, lp := lp209 }
theorem st209_3 (N : Nat) (V : St → Option RT) (k : Ex → St → Option RT) (v : Int × Int × Int) : vexec (X209 N ) (findLoop 3 (loopsIn (bodyOf Try.f209))) (bS sk209_3 [.I v.1, .I v.2.1, .I v.2.2]) (vstep V (lp209 3) k) = L209_3 N v (fun v => V (bS sk209_3 [.I v.1, .I v.2.1, .I v.2.2])) (kk209_3 k) := by kernel_rfl
theorem q209_3 (N : Nat) (k : Ex → St → Option RT) : ∀ n (v : Int × Int × Int), vround (X209 N ) (findLoop 3 (loopsIn (bodyOf Try.f209))) 3 n (bS sk209_3 [.I v.1, .I v.2.1, .I v.2.2]) k = (Lp209_3 N n v).bind (kk209_3 k) := by
  intro n
  induction n with
  | zero => intro v; rfl
  | succ n ih =>
    intro v
    rw [vround_succ]
    refine (st209_3 N _ k v).trans ?_
    simp only [ih]
    exact L209_3_nat N v (Lp209_3 N n) (kk209_3 k)
theorem lh209_3 (N : Nat) : ∀ s k r, LH209_3 N s k = some r → vround (X209 N ) (findLoop 3 (loopsIn (bodyOf Try.f209))) 3 N s k = some r := by
  intro s k r h
  unfold LH209_3 at h
  split at h
  · rename_i z0 z1 z2 hm
    rw [mS_bS hm]
    exact (q209_3 N k N (z0, z1, z2)).trans h
  · cases h
theorem b209 (N : Nat) (a1 : Int) : vbody (X209 N ) Try.f209 (bodyOf Try.f209) [.sc (.int .i64 a1)] [] (fun rs bx => some ⟨rs, bx⟩) = T209 N a1 (fun r => some ⟨[.sc (.int .i64 r)], []⟩) := by kernel_rfl
theorem s209 (N : Nat) (a1 : Int) (r : Int) (h : D209 N a1 = some r) : CallSpec Try.prog E0 209 [.sc (.int .i64 a1)] [] [.sc (.int .i64 r)] [] := by
  refine body_ok (X := X209 N ) (CR := CRG Try.prog E0) Try.func209 (code := bodyOf Try.f209) (by kernel_rfl) rfl (by decide) mixed0 tyok0 rfl contracts_ok (cs_none) (LoopsBy.of fun p hp => ?_) (by kernel_rfl) (Nat.le_of_ble_eq_true (by kernel_rfl)) ?_
  · rw [show loopsIn (bodyOf Try.f209) = [(3, findLoop 3 (loopsIn (bodyOf Try.f209)))] from by kernel_rfl] at hp
    simp only [List.mem_cons, List.not_mem_nil, or_false] at hp
    subst hp
    exact vround_of (fun s k => rfl) (by kernel_rfl) (lh209_3 N)
  · rw [b209, T209_nat, h]; rfl

/-! 152: loop.example/g01286/spec.l2Sorted -/
def L152_3 {ρ : Type} (N : Nat) (v : Int × List Int × Int) (rec : (Int × List Int × Int) → Option ρ) (k : ((Int × List Int × Int × Bool)) → Option ρ) : Option ρ :=
  bif (iLe v.2.2 v.1) then (
  bif capB (List.length (v.2.1 ++ [v.2.2])) then (
  rec (v.1, (v.2.1 ++ [v.2.2]), (wrapF .i64 (v.2.2 + (Int.ofNat 1)))))
  else none)
  else (
  k (v.1, v.2.1, v.2.2, (iLe v.2.2 v.1)))
def Lp152_3 (N : Nat) : Nat → (Int × List Int × Int) → Option ((Int × List Int × Int × Bool)) := fun n => Nat.rec (motive := fun _ => (Int × List Int × Int) → Option ((Int × List Int × Int × Bool))) (fun _ => none) (fun _ ih v => L152_3 N v ih some) n
theorem L152_3_nat {ρ : Type} (N : Nat) (v : Int × List Int × Int) (rec : (Int × List Int × Int) → Option ((Int × List Int × Int × Bool))) (k : ((Int × List Int × Int × Bool)) → Option ρ) : L152_3 N v (fun v => (rec v).bind k) k = (L152_3 N v rec some).bind k := by
  unfold L152_3
  simp only [Option.bind_assoc, bif_bind, elim_bind, Option.bind_some, Option.bind_none]
def T152 {ρ : Type} (N : Nat) (a1 : Int) (k : (List Int) → Option ρ) : Option ρ :=
  (Lp152_3 N N (a1, [], (Int.ofNat 1))).bind fun w2 =>
  k w2.2.1
def D152 (N : Nat) (a1 : Int) : Option (List Int) := T152 N a1 some
theorem T152_nat {ρ : Type} (N : Nat) (a1 : Int) (k : (List Int) → Option ρ) : T152 N a1 k = (D152 N a1).bind k := by
  unfold D152 T152
  simp only [Option.bind_assoc, bif_bind, elim_bind, Option.bind_some, Option.bind_none]
def H152 (D : Int → Option (List Int)) : Hd := fun az bx k => match az, bx with
  | [c0], [] => cI .i64 c0 fun y0 => (D y0).bind fun r => k [.ow (.ints .i64 r)] []
  | _, _ => none
theorem fnok152 : FnOK Try.prog 152 := ⟨Try.f152, Try.func152, rfl, by decide⟩
theorem h152 {D : Int → Option (List Int)} (hD : ∀ (y0 : Int), ∀ r, D y0 = some r → CallSpec Try.prog E0 152 [.sc (.int .i64 y0)] [] [.ow (.ints .i64 r)] []) : HSound Try.prog E0 152 (H152 D) := by
  intro az bx k r h
  unfold H152 at h
  split at h
  · rename_i c0
    obtain ⟨y0, l0, h⟩ := cI_some h
    obtain ⟨r, hr, h⟩ := Option.bind_eq_some_iff.1 h
    exact ⟨_, _, ⟨(hD y0 r hr).le ⟨l0, trivial⟩ trivial, fnok152, Nat.le_of_ble_eq_true rfl⟩, h⟩
  · cases h
def kp152 : Nat → List Tm.Loc := fun i => ([[.slot 0], [.slot 0, .slot 3], [.slot 0, .slot 3, .slot 4], [.slot 0, .slot 3, .slot 4, .slot 8], [.slot 0, .slot 3, .slot 4], [.slot 0, .slot 3, .slot 4], [.slot 2]] : List (List Tm.Loc)).getD i []
def lp152 : Nat → LpS := fun i => bif Nat.beq i 3 then ⟨[], [], [.slot 0, .slot 3, .slot 4]⟩ else default
def sk152_3 : List (Tm.Loc × SkV) := [(.slot 0, .int .i64), (.slot 3, .rf 100000003), (.tok 100000003, .tI .i64), (.slot 4, .int .i64)]
def kk152_3 (k : Ex → St → Option RT) : ((Int × List Int × Int × Bool)) → Option RT := (fun r => k (.ext 0) [(.slot 8, .v (.sc (.bool false))), (.slot 0, .v (.sc (.int .i64 r.1))), (.slot 3, .v (.rf 100000003)), (.tok 100000003, .t 0 (.ints .i64 r.2.1)), (.slot 4, .v (.sc (.int .i64 r.2.2.1))), (.slot 8, .v (.sc (.bool r.2.2.2)))])
def LH152_3 (N : Nat) : St → (Ex → St → Option RT) → Option RT := fun s k => match mS sk152_3 s with
  | some [.I z0, .L z1, .I z2] => (Lp152_3 N N (z0, z1, z2)).bind (kk152_3 k)
  | _ => none
def X152 (N : Nat) : Env := { n := 16, K := K0, C := hNone, L := fun i s k => bif Nat.beq i 3 then LH152_3 N (normL (lp152 3) s) k else none, keep := kp152, lp := lp152 }
theorem st152_3 (N : Nat) (V : St → Option RT) (k : Ex → St → Option RT) (v : Int × List Int × Int) : vexec (X152 N ) (findLoop 3 (loopsIn (bodyOf Try.f152))) (bS sk152_3 [.I v.1, .L v.2.1, .I v.2.2]) (vstep V (lp152 3) k) = L152_3 N v (fun v => V (bS sk152_3 [.I v.1, .L v.2.1, .I v.2.2])) (kk152_3 k) := by kernel_rfl
theorem q152_3 (N : Nat) (k : Ex → St → Option RT) : ∀ n (v : Int × List Int × Int), vround (X152 N ) (findLoop 3 (loopsIn (bodyOf Try.f152))) 3 n (bS sk152_3 [.I v.1, .L v.2.1, .I v.2.2]) k = (Lp152_3 N n v).bind (kk152_3 k) := by
  intro n
  induction n with
  | zero => intro v; rfl
  | succ n ih =>
    intro v
    rw [vround_succ]
    refine (st152_3 N _ k v).trans ?_
    simp only [ih]
    exact L152_3_nat N v (Lp152_3 N n) (kk152_3 k)
theorem lh152_3 (N : Nat) : ∀ s k r, LH152_3 N s k = some r → vround (X152 N ) (findLoop 3 (loopsIn (bodyOf Try.f152))) 3 N s k = some r := by
  intro s k r h
  unfold LH152_3 at h
  split at h
  · rename_i z0 z1 z2 hm
    rw [mS_bS hm]
    exact (q152_3 N k N (z0, z1, z2)).trans h
  · cases h
theorem b152 (N : Nat) (a1 : Int) : vbody (X152 N ) Try.f152 (bodyOf Try.f152) [.sc (.int .i64 a1)] [] (fun rs bx => some ⟨rs, bx⟩) = T152 N a1 (fun r => some ⟨[.ow (.ints .i64 r)], []⟩) := by kernel_rfl
theorem s152 (N : Nat) (a1 : Int) (r : List Int) (h : D152 N a1 = some r) : CallSpec Try.prog E0 152 [.sc (.int .i64 a1)] [] [.ow (.ints .i64 r)] [] := by
  refine body_ok (X := X152 N ) (CR := CRG Try.prog E0) Try.func152 (code := bodyOf Try.f152) (by kernel_rfl) rfl (by decide) mixed0 tyok0 rfl contracts_ok (cs_none) (LoopsBy.of fun p hp => ?_) (by kernel_rfl) (Nat.le_of_ble_eq_true (by kernel_rfl)) ?_
  · rw [show loopsIn (bodyOf Try.f152) = [(3, findLoop 3 (loopsIn (bodyOf Try.f152)))] from by kernel_rfl] at hp
    simp only [List.mem_cons, List.not_mem_nil, or_false] at hp
    subst hp
    exact vround_of (fun s k => rfl) (by kernel_rfl) (lh152_3 N)
  · rw [b152, T152_nat, h]; rfl

/-! 150: loop.example/g01286/spec.l1Own -/
def T150 {ρ : Type} (N : Nat) (a1 : List Int) (k : (List Int) → Option ρ) : Option ρ :=
  bif capB (List.length ([] ++ a1)) then (
  k ([] ++ a1))
  else none
def D150 (N : Nat) (a1 : List Int) : Option (List Int) := T150 N a1 some
theorem T150_nat {ρ : Type} (N : Nat) (a1 : List Int) (k : (List Int) → Option ρ) : T150 N a1 k = (D150 N a1).bind k := by
  unfold D150 T150
  simp only [Option.bind_assoc, bif_bind, elim_bind, Option.bind_some, Option.bind_none]
def H150 (D : (List Int) → Option (List Int)) : Hd := fun az bx k => match az, bx with
  | [c0], [] => cL .i64 c0 fun y0 => (D y0).bind fun r => k [.ow (.ints .i64 r)] []
  | _, _ => none
theorem fnok150 : FnOK Try.prog 150 := ⟨Try.f150, Try.func150, rfl, by decide⟩
theorem h150 {D : (List Int) → Option (List Int)} (hD : ∀ (y0 : List Int), ∀ r, D y0 = some r → CallSpec Try.prog E0 150 [.sc (.ints .i64 y0)] [] [.ow (.ints .i64 r)] []) : HSound Try.prog E0 150 (H150 D) := by
  intro az bx k r h
  unfold H150 at h
  split at h
  · rename_i c0
    obtain ⟨y0, l0, h⟩ := cL_some h
    obtain ⟨r, hr, h⟩ := Option.bind_eq_some_iff.1 h
    exact ⟨_, _, ⟨(hD y0 r hr).le ⟨l0, trivial⟩ trivial, fnok150, Nat.le_of_ble_eq_true rfl⟩, h⟩
  · cases h
def kp150 : Nat → List Tm.Loc := fun i => ([[.slot 0], [.slot 2]] : List (List Tm.Loc)).getD i []
def lp150 : Nat → LpS := fun i => default
def X150 (N : Nat) : Env := { n := 6, K := K0, C := hNone, L := fun i s k => none, keep := kp150, lp := lp150 }
theorem b150 (N : Nat) (a1 : List Int) : vbody (X150 N ) Try.f150 (bodyOf Try.f150) [.sc (.ints .i64 a1)] [] (fun rs bx => some ⟨rs, bx⟩) = T150 N a1 (fun r => some ⟨[.ow (.ints .i64 r)], []⟩) := by kernel_rfl
theorem s150 (N : Nat) (a1 : List Int) (r : List Int) (h : D150 N a1 = some r) : CallSpec Try.prog E0 150 [.sc (.ints .i64 a1)] [] [.ow (.ints .i64 r)] [] := by
  refine body_ok (X := X150 N ) (CR := CRG Try.prog E0) Try.func150 (code := bodyOf Try.f150) (by kernel_rfl) rfl (by decide) mixed0 tyok0 rfl contracts_ok (cs_none) (LoopsBy.of fun p hp => ?_) (by kernel_rfl) (Nat.le_of_ble_eq_true (by kernel_rfl)) ?_
  · rw [show loopsIn (bodyOf Try.f150) = [] from by kernel_rfl] at hp
    cases hp
  · rw [b150, T150_nat, h]; rfl

/-! 210: loop.example/g01286/spec.l2At -/
def L210_2 {ρ : Type} (N : Nat) (v : Int × List Int × List Int) (rec : (Int × List Int × List Int) → Option ρ) (k : ((Int × List Int × List Int × Bool)) → Option ρ) : Option ρ :=
  bif (iLt (Int.ofNat 0) (Int.ofNat (List.length v.2.2))) then (
  (D209 N (wrapF .i64 ((Int.ofNat (List.length v.2.2)) - (Int.ofNat 1)))).bind fun r4 =>
  bif (!(iEq r4 (Int.ofNat 0))) then (
  bif inB (wrapF .i64 (Int.tdiv v.1 r4)) (List.length v.2.2) then (
  bif capB (List.length (v.2.1 ++ [(List.getD v.2.2 (Int.toNat (wrapF .i64 (Int.tdiv v.1 r4))) (Int.ofNat 0))])) then (
  bif (!(iEq r4 (Int.ofNat 0))) then (
  bif cutB (Int.ofNat 0) (wrapF .i64 (Int.tdiv v.1 r4)) (List.length v.2.2) then (
  (D150 N (List.take ((Int.toNat (wrapF .i64 (Int.tdiv v.1 r4))) - 0) (List.drop 0 v.2.2))).bind fun r5 =>
  bif (!(iEq r4 (Int.ofNat 0))) then (
  bif cutB (wrapF .i64 ((wrapF .i64 (Int.tdiv v.1 r4)) + (Int.ofNat 1))) (Int.ofNat (List.length v.2.2)) (List.length v.2.2) then (
  bif capB (List.length (r5 ++ (List.take ((List.length v.2.2) - (Int.toNat (wrapF .i64 ((wrapF .i64 (Int.tdiv v.1 r4)) + (Int.ofNat 1))))) (List.drop (Int.toNat (wrapF .i64 ((wrapF .i64 (Int.tdiv v.1 r4)) + (Int.ofNat 1)))) v.2.2)))) then (
  bif (!(iEq r4 (Int.ofNat 0))) then (
  rec ((Int.tmod v.1 r4), (v.2.1 ++ [(List.getD v.2.2 (Int.toNat (wrapF .i64 (Int.tdiv v.1 r4))) (Int.ofNat 0))]), (r5 ++ (List.take ((List.length v.2.2) - (Int.toNat (wrapF .i64 ((wrapF .i64 (Int.tdiv v.1 r4)) + (Int.ofNat 1))))) (List.drop (Int.toNat (wrapF .i64 ((wrapF .i64 (Int.tdiv v.1 r4)) + (Int.ofNat 1)))) v.2.2)))))
  else none)
  else none)
  else none)
  else none)
  else none)
  else none)
  else none)
  else none)
  else none)
  else (
  k (v.1, v.2.1, v.2.2, (iLt (Int.ofNat 0) (Int.ofNat (List.length v.2.2)))))
def Lp210_2 (N : Nat) : Nat → (Int × List Int × List Int) → Option ((Int × List Int × List Int × Bool)) := fun n => Nat.rec (motive := fun _ => (Int × List Int × List Int) → Option ((Int × List Int × List Int × Bool))) (fun _ => none) (fun _ ih v => L210_2 N v ih some) n
theorem L210_2_nat {ρ : Type} (N : Nat) (v : Int × List Int × List Int) (rec : (Int × List Int × List Int) → Option ((Int × List Int × List Int × Bool))) (k : ((Int × List Int × List Int × Bool)) → Option ρ) : L210_2 N v (fun v => (rec v).bind k) k = (L210_2 N v rec some).bind k := by
  unfold L210_2
  simp only [Option.bind_assoc, bif_bind, elim_bind, Option.bind_some, Option.bind_none]
def T210 {ρ : Type} (N : Nat) (a1 : Int) (a2 : Int) (k : (List Int) → Option ρ) : Option ρ :=
  (D152 N a1).bind fun r3 =>
  (Lp210_2 N N (a2, [], r3)).bind fun w6 =>
  k w6.2.1
def D210 (N : Nat) (a1 : Int) (a2 : Int) : Option (List Int) := T210 N a1 a2 some
theorem T210_nat {ρ : Type} (N : Nat) (a1 : Int) (a2 : Int) (k : (List Int) → Option ρ) : T210 N a1 a2 k = (D210 N a1 a2).bind k := by
  unfold D210 T210
  simp only [Option.bind_assoc, bif_bind, elim_bind, Option.bind_some, Option.bind_none]
def H210 (D : Int → Int → Option (List Int)) : Hd := fun az bx k => match az, bx with
  | [c0, c1], [] => cI .i64 c0 fun y0 => cI .i64 c1 fun y1 => (D y0 y1).bind fun r => k [.ow (.ints .i64 r)] []
  | _, _ => none
theorem fnok210 : FnOK Try.prog 210 := ⟨Try.f210, Try.func210, rfl, by decide⟩
theorem h210 {D : Int → Int → Option (List Int)} (hD : ∀ (y0 : Int), ∀ (y1 : Int), ∀ r, D y0 y1 = some r → CallSpec Try.prog E0 210 [.sc (.int .i64 y0), .sc (.int .i64 y1)] [] [.ow (.ints .i64 r)] []) : HSound Try.prog E0 210 (H210 D) := by
  intro az bx k r h
  unfold H210 at h
  split at h
  · rename_i c0 c1
    obtain ⟨y0, l0, h⟩ := cI_some h
    obtain ⟨y1, l1, h⟩ := cI_some h
    obtain ⟨r, hr, h⟩ := Option.bind_eq_some_iff.1 h
    exact ⟨_, _, ⟨(hD y0 y1 r hr).le ⟨l0, ⟨l1, trivial⟩⟩ trivial, fnok210, Nat.le_of_ble_eq_true rfl⟩, h⟩
  · cases h
def kp210 : Nat → List Tm.Loc := fun i => ([[.slot 0, .slot 1], [.slot 1, .slot 5, .slot 6], [.slot 1, .slot 5, .slot 6, .slot 13], [.slot 1, .slot 5, .slot 6, .slot 7], [.slot 1, .slot 5, .slot 6, .slot 7], [.slot 1, .slot 5, .slot 6, .slot 7], [.slot 1, .slot 5, .slot 6], [.slot 4]] : List (List Tm.Loc)).getD i []
def lp210 : Nat → LpS := fun i => bif Nat.beq i 2 then ⟨[], [], [.slot 1, .slot 5, .slot 6]⟩ else default
def sk210_2 : List (Tm.Loc × SkV) := [(.slot 1, .int .i64), (.slot 5, .rf 100000005), (.tok 100000005, .tI .i64), (.slot 6, .rf 100000006), (.tok 100000006, .tI .i64)]
def kk210_2 (k : Ex → St → Option RT) : ((Int × List Int × List Int × Bool)) → Option RT := (fun r => k (.ext 0) [(.slot 13, .v (.sc (.bool false))), (.slot 1, .v (.sc (.int .i64 r.1))), (.slot 5, .v (.rf 100000005)), (.tok 100000005, .t 0 (.ints .i64 r.2.1)), (.slot 6, .v (.rf 100000006)), (.tok 100000006, .t 0 (.ints .i64 r.2.2.1)), (.slot 13, .v (.sc (.bool r.2.2.2)))])
def LH210_2 (N : Nat) : St → (Ex → St → Option RT) → Option RT := fun s k => match mS sk210_2 s with
  | some [.I z0, .L z1, .L z2] => (Lp210_2 N N (z0, z1, z2)).bind (kk210_2 k)
  | _ => none
def X210 (N : Nat) : Env := { n := 44, K := K0, C := hSel 152 (H152 (D152 N)) (hSel 209 (H209 (D209 N)) (hSel 150 (H150 (D150 N)) (hNone))), L := fun i s k => bif Nat.beq i 2 then LH210_2 N (normL (lp210 2) s) k else none, keep := kp210, lp := lp210 }
theorem st210_2 (N : Nat) (V : St → Option RT) (k : Ex → St → Option RT) (v : Int × List Int × List Int) : vexec (X210 N ) (findLoop 2 (loopsIn (bodyOf Try.f210))) (bS sk210_2 [.I v.1, .L v.2.1, .L v.2.2]) (vstep V (lp210 2) k) = L210_2 N v (fun v => V (bS sk210_2 [.I v.1, .L v.2.1, .L v.2.2])) (kk210_2 k) := by kernel_rfl
theorem q210_2 (N : Nat) (k : Ex → St → Option RT) : ∀ n (v : Int × List Int × List Int), vround (X210 N ) (findLoop 2 (loopsIn (bodyOf Try.f210))) 2 n (bS sk210_2 [.I v.1, .L v.2.1, .L v.2.2]) k = (Lp210_2 N n v).bind (kk210_2 k) := by
  intro n
  induction n with
  | zero => intro v; rfl
  | succ n ih =>
    intro v
    rw [vround_succ]
    refine (st210_2 N _ k v).trans ?_
    simp only [ih]
    exact L210_2_nat N v (Lp210_2 N n) (kk210_2 k)
theorem lh210_2 (N : Nat) : ∀ s k r, LH210_2 N s k = some r → vround (X210 N ) (findLoop 2 (loopsIn (bodyOf Try.f210))) 2 N s k = some r := by
  intro s k r h
  unfold LH210_2 at h
  split at h
  · rename_i z0 z1 z2 hm
    rw [mS_bS hm]
    exact (q210_2 N k N (z0, z1, z2)).trans h
  · cases h
theorem b210 (N : Nat) (a1 : Int) (a2 : Int) : vbody (X210 N ) Try.f210 (bodyOf Try.f210) [.sc (.int .i64 a1), .sc (.int .i64 a2)] [] (fun rs bx => some ⟨rs, bx⟩) = T210 N a1 a2 (fun r => some ⟨[.ow (.ints .i64 r)], []⟩) := by kernel_rfl
theorem s210 (N : Nat) (a1 : Int) (a2 : Int) (r : List Int) (h : D210 N a1 a2 = some r) : CallSpec Try.prog E0 210 [.sc (.int .i64 a1), .sc (.int .i64 a2)] [] [.ow (.ints .i64 r)] [] := by
  refine body_ok (X := X210 N ) (CR := CRG Try.prog E0) Try.func210 (code := bodyOf Try.f210) (by kernel_rfl) rfl (by decide) mixed0 tyok0 rfl contracts_ok (cs_sel (h152 (s152 N)) (cs_sel (h209 (s209 N)) (cs_sel (h150 (s150 N)) (cs_none)))) (LoopsBy.of fun p hp => ?_) (by kernel_rfl) (Nat.le_of_ble_eq_true (by kernel_rfl)) ?_
  · rw [show loopsIn (bodyOf Try.f210) = [(2, findLoop 2 (loopsIn (bodyOf Try.f210)))] from by kernel_rfl] at hp
    simp only [List.mem_cons, List.not_mem_nil, or_false] at hp
    subst hp
    exact vround_of (fun s k => rfl) (by kernel_rfl) (lh210_2 N)
  · rw [b210, T210_nat, h]; rfl

/-! 108: loop.example/g01286/spec.l2Orders -/
def L108_3 {ρ : Type} (N : Nat) (v : Int × List (List Int) × Int) (rec : (Int × List (List Int) × Int) → Option ρ) (k : ((Int × List (List Int) × Int × Bool)) → Option ρ) : Option ρ :=
  (D209 N v.1).bind fun r2 =>
  bif (iLt v.2.2 r2) then (
  (D210 N v.1 v.2.2).bind fun r3 =>
  bif capB (List.length (v.2.1 ++ [r3])) then (
  rec (v.1, (v.2.1 ++ [r3]), (wrapF .i64 (v.2.2 + (Int.ofNat 1)))))
  else none)
  else (
  k (v.1, v.2.1, v.2.2, (iLt v.2.2 r2)))
def Lp108_3 (N : Nat) : Nat → (Int × List (List Int) × Int) → Option ((Int × List (List Int) × Int × Bool)) := fun n => Nat.rec (motive := fun _ => (Int × List (List Int) × Int) → Option ((Int × List (List Int) × Int × Bool))) (fun _ => none) (fun _ ih v => L108_3 N v ih some) n
theorem L108_3_nat {ρ : Type} (N : Nat) (v : Int × List (List Int) × Int) (rec : (Int × List (List Int) × Int) → Option ((Int × List (List Int) × Int × Bool))) (k : ((Int × List (List Int) × Int × Bool)) → Option ρ) : L108_3 N v (fun v => (rec v).bind k) k = (L108_3 N v rec some).bind k := by
  unfold L108_3
  simp only [Option.bind_assoc, bif_bind, elim_bind, Option.bind_some, Option.bind_none]
def T108 {ρ : Type} (N : Nat) (a1 : Int) (k : (List (List Int)) → Option ρ) : Option ρ :=
  (Lp108_3 N N (a1, [], (Int.ofNat 0))).bind fun w4 =>
  k w4.2.1
def D108 (N : Nat) (a1 : Int) : Option (List (List Int)) := T108 N a1 some
theorem T108_nat {ρ : Type} (N : Nat) (a1 : Int) (k : (List (List Int)) → Option ρ) : T108 N a1 k = (D108 N a1).bind k := by
  unfold D108 T108
  simp only [Option.bind_assoc, bif_bind, elim_bind, Option.bind_some, Option.bind_none]
def H108 (D : Int → Option (List (List Int))) : Hd := fun az bx k => match az, bx with
  | [c0], [] => cI .i64 c0 fun y0 => (D y0).bind fun r => k [.ow (.rows true r)] []
  | _, _ => none
theorem fnok108 : FnOK Try.prog 108 := ⟨Try.f108, Try.func108, rfl, by decide⟩
theorem h108 {D : Int → Option (List (List Int))} (hD : ∀ (y0 : Int), ∀ r, D y0 = some r → CallSpec Try.prog E0 108 [.sc (.int .i64 y0)] [] [.ow (.rows true r)] []) : HSound Try.prog E0 108 (H108 D) := by
  intro az bx k r h
  unfold H108 at h
  split at h
  · rename_i c0
    obtain ⟨y0, l0, h⟩ := cI_some h
    obtain ⟨r, hr, h⟩ := Option.bind_eq_some_iff.1 h
    exact ⟨_, _, ⟨(hD y0 r hr).le ⟨l0, trivial⟩ trivial, fnok108, Nat.le_of_ble_eq_true rfl⟩, h⟩
  · cases h
def kp108 : Nat → List Tm.Loc := fun i => ([[.slot 0], [.slot 0, .slot 3], [.slot 0, .slot 3, .slot 4], [.slot 0, .slot 3, .slot 4, .slot 9], [.slot 0, .slot 3, .slot 4], [.slot 0, .slot 3, .slot 4], [.slot 2]] : List (List Tm.Loc)).getD i []
def lp108 : Nat → LpS := fun i => bif Nat.beq i 3 then ⟨[], [], [.slot 0, .slot 3, .slot 4]⟩ else default
def sk108_3 : List (Tm.Loc × SkV) := [(.slot 0, .int .i64), (.slot 3, .rf 100000003), (.tok 100000003, .tR true), (.slot 4, .int .i64)]
def kk108_3 (k : Ex → St → Option RT) : ((Int × List (List Int) × Int × Bool)) → Option RT := (fun r => k (.ext 0) [(.slot 9, .v (.sc (.bool false))), (.slot 0, .v (.sc (.int .i64 r.1))), (.slot 3, .v (.rf 100000003)), (.tok 100000003, .t 0 (.rows true r.2.1)), (.slot 4, .v (.sc (.int .i64 r.2.2.1))), (.slot 9, .v (.sc (.bool r.2.2.2)))])
def LH108_3 (N : Nat) : St → (Ex → St → Option RT) → Option RT := fun s k => match mS sk108_3 s with
  | some [.I z0, .R z1, .I z2] => (Lp108_3 N N (z0, z1, z2)).bind (kk108_3 k)
  | _ => none
def X108 (N : Nat) : Env := { n := 19, K := K0, C := hSel 209 (H209 (D209 N)) (hSel 210 (H210 (D210 N)) (hNone)), L := fun i s k => bif Nat.beq i 3 then LH108_3 N (normL (lp108 3) s) k else none, keep := kp108, lp := lp108 }
theorem st108_3 (N : Nat) (V : St → Option RT) (k : Ex → St → Option RT) (v : Int × List (List Int) × Int) : vexec (X108 N ) (findLoop 3 (loopsIn (bodyOf Try.f108))) (bS sk108_3 [.I v.1, .R v.2.1, .I v.2.2]) (vstep V (lp108 3) k) = L108_3 N v (fun v => V (bS sk108_3 [.I v.1, .R v.2.1, .I v.2.2])) (kk108_3 k) := by kernel_rfl
theorem q108_3 (N : Nat) (k : Ex → St → Option RT) : ∀ n (v : Int × List (List Int) × Int), vround (X108 N ) (findLoop 3 (loopsIn (bodyOf Try.f108))) 3 n (bS sk108_3 [.I v.1, .R v.2.1, .I v.2.2]) k = (Lp108_3 N n v).bind (kk108_3 k) := by
  intro n
  induction n with
  | zero => intro v; rfl
  | succ n ih =>
    intro v
    rw [vround_succ]
    refine (st108_3 N _ k v).trans ?_
    simp only [ih]
    exact L108_3_nat N v (Lp108_3 N n) (kk108_3 k)
theorem lh108_3 (N : Nat) : ∀ s k r, LH108_3 N s k = some r → vround (X108 N ) (findLoop 3 (loopsIn (bodyOf Try.f108))) 3 N s k = some r := by
  intro s k r h
  unfold LH108_3 at h
  split at h
  · rename_i z0 z1 z2 hm
    rw [mS_bS hm]
    exact (q108_3 N k N (z0, z1, z2)).trans h
  · cases h
theorem b108 (N : Nat) (a1 : Int) : vbody (X108 N ) Try.f108 (bodyOf Try.f108) [.sc (.int .i64 a1)] [] (fun rs bx => some ⟨rs, bx⟩) = T108 N a1 (fun r => some ⟨[.ow (.rows true r)], []⟩) := by kernel_rfl
theorem s108 (N : Nat) (a1 : Int) (r : List (List Int)) (h : D108 N a1 = some r) : CallSpec Try.prog E0 108 [.sc (.int .i64 a1)] [] [.ow (.rows true r)] [] := by
  refine body_ok (X := X108 N ) (CR := CRG Try.prog E0) Try.func108 (code := bodyOf Try.f108) (by kernel_rfl) rfl (by decide) mixed0 tyok0 rfl contracts_ok (cs_sel (h209 (s209 N)) (cs_sel (h210 (s210 N)) (cs_none))) (LoopsBy.of fun p hp => ?_) (by kernel_rfl) (Nat.le_of_ble_eq_true (by kernel_rfl)) ?_
  · rw [show loopsIn (bodyOf Try.f108) = [(3, findLoop 3 (loopsIn (bodyOf Try.f108)))] from by kernel_rfl] at hp
    simp only [List.mem_cons, List.not_mem_nil, or_false] at hp
    subst hp
    exact vround_of (fun s k => rfl) (by kernel_rfl) (lh108_3 N)
  · rw [b108, T108_nat, h]; rfl

/-! 211: loop.example/g01286/spec.l5Insert -/
def L211_3 {ρ : Type} (N : Nat) (v : List (List Int) × Int × List (List Int) × Int) (rec : (List (List Int) × Int × List (List Int) × Int) → Option ρ) (k : ((List (List Int) × Int × List (List Int) × Int × Bool)) → Option ρ) : Option ρ :=
  bif (iLt v.2.2.2 (Int.ofNat (List.length v.1))) then (
  bif inB v.2.2.2 (List.length v.1) then (
  (D150 N (List.getD v.1 (Int.toNat v.2.2.2) [])).bind fun r3 =>
  bif capB (List.length (v.2.2.1 ++ [r3])) then (
  rec (v.1, v.2.1, (v.2.2.1 ++ [r3]), (wrapF .i64 (v.2.2.2 + (Int.ofNat 1)))))
  else none)
  else none)
  else (
  k (v.1, v.2.1, v.2.2.1, v.2.2.2, (iLt v.2.2.2 (Int.ofNat (List.length v.1)))))
def Lp211_3 (N : Nat) : Nat → (List (List Int) × Int × List (List Int) × Int) → Option ((List (List Int) × Int × List (List Int) × Int × Bool)) := fun n => Nat.rec (motive := fun _ => (List (List Int) × Int × List (List Int) × Int) → Option ((List (List Int) × Int × List (List Int) × Int × Bool))) (fun _ => none) (fun _ ih v => L211_3 N v ih some) n
theorem L211_3_nat {ρ : Type} (N : Nat) (v : List (List Int) × Int × List (List Int) × Int) (rec : (List (List Int) × Int × List (List Int) × Int) → Option ((List (List Int) × Int × List (List Int) × Int × Bool))) (k : ((List (List Int) × Int × List (List Int) × Int × Bool)) → Option ρ) : L211_3 N v (fun v => (rec v).bind k) k = (L211_3 N v rec some).bind k := by
  unfold L211_3
  simp only [Option.bind_assoc, bif_bind, elim_bind, Option.bind_some, Option.bind_none]
def L211_11 {ρ : Type} (N : Nat) (v : Int × List (List Int) × Int × Int) (rec : (Int × List (List Int) × Int × Int) → Option ρ) (k : ((Int × List (List Int) × Int × Int × Int × Nat × Int × Int × Int × Bool × Bool) ⊕ (Int × List (List Int) × Int × Int)) → Option ρ) : Option ρ :=
  bif inB v.2.2.1 (List.length v.2.1) then (
  bif (iLt v.2.2.2 (Int.ofNat (List.length (List.getD v.2.1 (Int.toNat v.2.2.1) [])))) then (
  bif inB v.2.2.1 (List.length v.2.1) then (
  bif inB v.2.2.2 (List.length (List.getD v.2.1 (Int.toNat v.2.2.1) [])) then (
  bif (iLt (List.getD (List.getD v.2.1 (Int.toNat v.2.2.1) []) (Int.toNat v.2.2.2) (Int.ofNat 0)) v.1) then (
  rec (v.1, v.2.1, v.2.2.1, (wrapF .i64 (v.2.2.2 + (Int.ofNat 1)))))
  else (
  k (.inl ((v.1, v.2.1, v.2.2.1, v.2.2.2, v.2.2.1, (Int.toNat v.2.2.1), v.2.2.2, (List.getD (List.getD v.2.1 (Int.toNat v.2.2.1) []) (Int.toNat v.2.2.2) (Int.ofNat 0)), v.1, (iLt (List.getD (List.getD v.2.1 (Int.toNat v.2.2.1) []) (Int.toNat v.2.2.2) (Int.ofNat 0)) v.1), (iLt (List.getD (List.getD v.2.1 (Int.toNat v.2.2.1) []) (Int.toNat v.2.2.2) (Int.ofNat 0)) v.1))))))
  else none)
  else none)
  else (
  k (.inr ((v.1, v.2.1, v.2.2.1, v.2.2.2)))))
  else none
def Lp211_11 (N : Nat) : Nat → (Int × List (List Int) × Int × Int) → Option ((Int × List (List Int) × Int × Int × Int × Nat × Int × Int × Int × Bool × Bool) ⊕ (Int × List (List Int) × Int × Int)) := fun n => Nat.rec (motive := fun _ => (Int × List (List Int) × Int × Int) → Option ((Int × List (List Int) × Int × Int × Int × Nat × Int × Int × Int × Bool × Bool) ⊕ (Int × List (List Int) × Int × Int))) (fun _ => none) (fun _ ih v => L211_11 N v ih some) n
theorem L211_11_nat {ρ : Type} (N : Nat) (v : Int × List (List Int) × Int × Int) (rec : (Int × List (List Int) × Int × Int) → Option ((Int × List (List Int) × Int × Int × Int × Nat × Int × Int × Int × Bool × Bool) ⊕ (Int × List (List Int) × Int × Int))) (k : ((Int × List (List Int) × Int × Int × Int × Nat × Int × Int × Int × Bool × Bool) ⊕ (Int × List (List Int) × Int × Int)) → Option ρ) : L211_11 N v (fun v => (rec v).bind k) k = (L211_11 N v rec some).bind k := by
  unfold L211_11
  simp only [Option.bind_assoc, bif_bind, elim_bind, Option.bind_some, Option.bind_none]
def L211_8 {ρ : Type} (N : Nat) (v : Int × List (List Int) × Int) (rec : (Int × List (List Int) × Int) → Option ρ) (k : ((List (List Int) × Int)) → Option ρ) : Option ρ :=
  bif (iEq v.2.2 (Int.ofNat (List.length v.2.1))) then (
  bif capB (List.length (v.2.1 ++ [[v.1]])) then (
  k ((v.2.1 ++ [[v.1]]), v.2.2))
  else none)
  else (
  (Lp211_11 N N (v.1, v.2.1, v.2.2, (Int.ofNat 0))).bind (Sum.elim (fun w5 =>
  bif inB w5.2.2.1 (List.length w5.2.1) then (
  bif (iEq w5.2.2.2.1 (Int.ofNat (List.length (List.getD w5.2.1 (Int.toNat w5.2.2.1) [])))) then (
  bif inB w5.2.2.1 (List.length w5.2.1) then (
  bif capB (List.length (List.getD w5.2.1 (Int.toNat w5.2.2.1) [] ++ [w5.1])) then (
  bif inB w5.2.2.1 (List.length w5.2.1) then (
  bif (Nat.beq (Int.toNat w5.2.2.1) (Int.toNat w5.2.2.1)) then (
  k ((List.set w5.2.1 (Int.toNat w5.2.2.1) (List.getD w5.2.1 (Int.toNat w5.2.2.1) [] ++ [w5.1])), w5.2.2.1))
  else none)
  else none)
  else none)
  else none)
  else (
  bif inB w5.2.2.1 (List.length w5.2.1) then (
  bif inB w5.2.2.2.1 (List.length (List.getD w5.2.1 (Int.toNat w5.2.2.1) [])) then (
  bif inB w5.2.2.1 (List.length w5.2.1) then (
  bif inB w5.2.2.2.1 (List.length (List.getD w5.2.1 (Int.toNat w5.2.2.1) [])) then (
  rec ((List.getD (List.getD w5.2.1 (Int.toNat w5.2.2.1) []) (Int.toNat w5.2.2.2.1) (Int.ofNat 0)), (List.set w5.2.1 (Int.toNat w5.2.2.1) (List.set (List.getD w5.2.1 (Int.toNat w5.2.2.1) []) (Int.toNat w5.2.2.2.1) w5.1)), (wrapF .i64 (w5.2.2.1 + (Int.ofNat 1)))))
  else none)
  else none)
  else none)
  else none))
  else none) (fun w6 =>
  bif inB w6.2.2.1 (List.length w6.2.1) then (
  bif (iEq w6.2.2.2 (Int.ofNat (List.length (List.getD w6.2.1 (Int.toNat w6.2.2.1) [])))) then (
  bif inB w6.2.2.1 (List.length w6.2.1) then (
  bif capB (List.length (List.getD w6.2.1 (Int.toNat w6.2.2.1) [] ++ [w6.1])) then (
  bif inB w6.2.2.1 (List.length w6.2.1) then (
  bif (Nat.beq (Int.toNat w6.2.2.1) (Int.toNat w6.2.2.1)) then (
  k ((List.set w6.2.1 (Int.toNat w6.2.2.1) (List.getD w6.2.1 (Int.toNat w6.2.2.1) [] ++ [w6.1])), w6.2.2.1))
  else none)
  else none)
  else none)
  else none)
  else (
  bif inB w6.2.2.1 (List.length w6.2.1) then (
  bif inB w6.2.2.2 (List.length (List.getD w6.2.1 (Int.toNat w6.2.2.1) [])) then (
  bif inB w6.2.2.1 (List.length w6.2.1) then (
  bif inB w6.2.2.2 (List.length (List.getD w6.2.1 (Int.toNat w6.2.2.1) [])) then (
  rec ((List.getD (List.getD w6.2.1 (Int.toNat w6.2.2.1) []) (Int.toNat w6.2.2.2) (Int.ofNat 0)), (List.set w6.2.1 (Int.toNat w6.2.2.1) (List.set (List.getD w6.2.1 (Int.toNat w6.2.2.1) []) (Int.toNat w6.2.2.2) w6.1)), (wrapF .i64 (w6.2.2.1 + (Int.ofNat 1)))))
  else none)
  else none)
  else none)
  else none))
  else none)))
def Lp211_8 (N : Nat) : Nat → (Int × List (List Int) × Int) → Option ((List (List Int) × Int)) := fun n => Nat.rec (motive := fun _ => (Int × List (List Int) × Int) → Option ((List (List Int) × Int))) (fun _ => none) (fun _ ih v => L211_8 N v ih some) n
theorem L211_8_nat {ρ : Type} (N : Nat) (v : Int × List (List Int) × Int) (rec : (Int × List (List Int) × Int) → Option ((List (List Int) × Int))) (k : ((List (List Int) × Int)) → Option ρ) : L211_8 N v (fun v => (rec v).bind k) k = (L211_8 N v rec some).bind k := by
  unfold L211_8
  simp only [Option.bind_assoc, bif_bind, elim_bind, Option.bind_some, Option.bind_none]
def T211 {ρ : Type} (N : Nat) (a1 : List (List Int)) (a2 : Int) (k : (List (List Int) × Int) → Option ρ) : Option ρ :=
  (Lp211_3 N N (a1, a2, [], (Int.ofNat 0))).bind fun w4 =>
  (Lp211_8 N N (w4.2.1, w4.2.2.1, (Int.ofNat 0))).bind fun w7 =>
  k (w7.1, w7.2)
def D211 (N : Nat) (a1 : List (List Int)) (a2 : Int) : Option (List (List Int) × Int) := T211 N a1 a2 some
theorem T211_nat {ρ : Type} (N : Nat) (a1 : List (List Int)) (a2 : Int) (k : (List (List Int) × Int) → Option ρ) : T211 N a1 a2 k = (D211 N a1 a2).bind k := by
  unfold D211 T211
  simp only [Option.bind_assoc, bif_bind, elim_bind, Option.bind_some, Option.bind_none]
def H211 (D : (List (List Int)) → Int → Option (List (List Int) × Int)) : Hd := fun az bx k => match az, bx with
  | [c0, c1], [] => cR c0 fun y0 => cI .i64 c1 fun y1 => (D y0 y1).bind fun r => k [.ow (.rows true r.1), .sc (.int .i64 r.2)] []
  | _, _ => none
theorem fnok211 : FnOK Try.prog 211 := ⟨Try.f211, Try.func211, rfl, by decide⟩
theorem h211 {D : (List (List Int)) → Int → Option (List (List Int) × Int)} (hD : ∀ (y0 : List (List Int)), ∀ (y1 : Int), ∀ r, D y0 y1 = some r → CallSpec Try.prog E0 211 [.sc (.rows y0), .sc (.int .i64 y1)] [] [.ow (.rows true r.1), .sc (.int .i64 r.2)] []) : HSound Try.prog E0 211 (H211 D) := by
  intro az bx k r h
  unfold H211 at h
  split at h
  · rename_i c0 c1
    obtain ⟨y0, l0, h⟩ := cR_some h
    obtain ⟨y1, l1, h⟩ := cI_some h
    obtain ⟨r, hr, h⟩ := Option.bind_eq_some_iff.1 h
    exact ⟨_, _, ⟨(hD y0 y1 r hr).le ⟨l0, ⟨l1, trivial⟩⟩ trivial, fnok211, Nat.le_of_ble_eq_true rfl⟩, h⟩
  · cases h
def kp211 : Nat → List Tm.Loc := fun i => ([[.slot 0, .slot 1, .slot 46, .slot 47, .slot 48, .slot 49, .slot 50, .slot 51, .slot 52, .slot 53, .slot 54], [.slot 0, .slot 1, .slot 6, .slot 46, .slot 47, .slot 48, .slot 49, .slot 50, .slot 51, .slot 52, .slot 53, .slot 54], [.slot 0, .slot 1, .slot 6, .slot 7, .slot 46, .slot 47, .slot 48, .slot 49, .slot 50, .slot 51, .slot 52, .slot 53, .slot 54], [.slot 0, .slot 1, .slot 6, .slot 7, .slot 15, .slot 46, .slot 47, .slot 48, .slot 49, .slot 50, .slot 51, .slot 52, .slot 53, .slot 54], [.slot 0, .slot 1, .slot 6, .slot 7, .slot 46, .slot 47, .slot 48, .slot 49, .slot 50, .slot 51, .slot 52, .slot 53, .slot 54], [.slot 0, .slot 1, .slot 6, .slot 7, .slot 46, .slot 47, .slot 48, .slot 49, .slot 50, .slot 51, .slot 52, .slot 53, .slot 54], [.slot 1, .slot 6, .slot 8, .slot 46, .slot 47, .slot 48, .slot 49, .slot 50, .slot 51, .slot 52, .slot 53, .slot 54], [.slot 1, .slot 6, .slot 8, .slot 46, .slot 47, .slot 48, .slot 49, .slot 50, .slot 51, .slot 52, .slot 53, .slot 54], [.slot 1, .slot 6, .slot 8, .slot 31, .slot 46, .slot 47, .slot 48, .slot 49, .slot 50, .slot 51, .slot 52, .slot 53, .slot 54], [.slot 4, .slot 5], [.slot 1, .slot 6, .slot 8, .slot 9, .slot 46, .slot 47, .slot 48, .slot 49, .slot 50, .slot 51, .slot 52, .slot 53, .slot 54], [.slot 1, .slot 6, .slot 8, .slot 9, .slot 46, .slot 47, .slot 48, .slot 49, .slot 50, .slot 51, .slot 52, .slot 53, .slot 54, .slot 55], [.slot 1, .slot 6, .slot 8, .slot 9, .slot 46, .slot 47, .slot 48, .slot 49, .slot 50, .slot 51, .slot 52, .slot 53, .slot 54], [.slot 1, .slot 6, .slot 8, .slot 9, .slot 46, .slot 47, .slot 48, .slot 49, .slot 50, .slot 51, .slot 52, .slot 53, .slot 54, .slot 64], [.slot 6, .slot 8], [.slot 4, .slot 5], [.slot 1, .slot 6, .slot 8, .slot 9, .slot 10, .slot 46, .slot 47, .slot 48, .slot 49, .slot 50, .slot 51, .slot 52, .slot 53, .slot 54], [.slot 6, .slot 8, .slot 10, .slot 46, .slot 47, .slot 48, .slot 49, .slot 50, .slot 51, .slot 52, .slot 53, .slot 54], [.slot 1, .slot 6, .slot 8, .slot 46, .slot 47, .slot 48, .slot 49, .slot 50, .slot 51, .slot 52, .slot 53, .slot 54]] : List (List Tm.Loc)).getD i []
def lp211 : Nat → LpS := fun i => bif Nat.beq i 8 then ⟨[], [], [.slot 1, .slot 6, .slot 8]⟩ else bif Nat.beq i 11 then ⟨[], [], [.slot 1, .slot 6, .slot 8, .slot 9, .slot 48, .slot 51]⟩ else bif Nat.beq i 3 then ⟨[], [], [.slot 0, .slot 1, .slot 6, .slot 7, .slot 46, .slot 47, .slot 48, .slot 49, .slot 50, .slot 51, .slot 52, .slot 53, .slot 54]⟩ else default
def sk211_3 : List (Tm.Loc × SkV) := [(.slot 0, .rows), (.slot 1, .int .i64), (.slot 6, .rf 100000006), (.tok 100000006, .tR true), (.slot 7, .int .i64), (.slot 46, .un), (.slot 47, .un), (.slot 48, .un), (.slot 49, .un), (.slot 50, .un), (.slot 51, .un), (.slot 52, .un), (.slot 53, .un), (.slot 54, .un)]
def kk211_3 (k : Ex → St → Option RT) : ((List (List Int) × Int × List (List Int) × Int × Bool)) → Option RT := (fun r => k (.ext 0) [(.slot 15, .v (.sc (.bool false))), (.slot 0, .v (.sc (.rows r.1))), (.slot 1, .v (.sc (.int .i64 r.2.1))), (.slot 6, .v (.rf 100000006)), (.tok 100000006, .t 0 (.rows true r.2.2.1)), (.slot 7, .v (.sc (.int .i64 r.2.2.2.1))), (.slot 15, .v (.sc (.bool r.2.2.2.2))), (.slot 46, .v .un), (.slot 47, .v .un), (.slot 48, .v .un), (.slot 49, .v .un), (.slot 50, .v .un), (.slot 51, .v .un), (.slot 52, .v .un), (.slot 53, .v .un), (.slot 54, .v .un)])
def LH211_3 (N : Nat) : St → (Ex → St → Option RT) → Option RT := fun s k => match mS sk211_3 s with
  | some [.R z0, .I z1, .R z2, .I z3] => (Lp211_3 N N (z0, z1, z2, z3)).bind (kk211_3 k)
  | _ => none
def sk211_11 : List (Tm.Loc × SkV) := [(.slot 1, .int .i64), (.slot 6, .rf 100000006), (.tok 100000006, .tR true), (.slot 8, .int .i64), (.slot 9, .int .i64), (.slot 48, .un), (.slot 51, .un)]
def kk211_11 (k : Ex → St → Option RT) : ((Int × List (List Int) × Int × Int × Int × Nat × Int × Int × Int × Bool × Bool) ⊕ (Int × List (List Int) × Int × Int)) → Option RT := (Sum.elim (fun r => k (.ext 4) [(.slot 55, .v (.sc (.bool false))), (.slot 1, .v (.sc (.int .i64 r.1))), (.slot 6, .v (.rf 100000006)), (.tok 100000006, .t 0 (.rows true r.2.1)), (.slot 8, .v (.sc (.int .i64 r.2.2.1))), (.slot 9, .v (.sc (.int .i64 r.2.2.2.1))), (.slot 46, .v (.rf 100000006)), (.slot 47, .v (.sc (.int .i64 r.2.2.2.2.1))), (.slot 48, .v .un), (.slot 49, .v (.ri 100000006 0 r.2.2.2.2.2.1)), (.slot 50, .v (.sc (.int .i64 r.2.2.2.2.2.2.1))), (.slot 51, .v .un), (.slot 52, .v (.sc (.int .i64 r.2.2.2.2.2.2.2.1))), (.slot 53, .v (.sc (.int .i64 r.2.2.2.2.2.2.2.2.1))), (.slot 54, .v (.sc (.bool r.2.2.2.2.2.2.2.2.2.1))), (.slot 55, .v (.sc (.bool r.2.2.2.2.2.2.2.2.2.2)))]) (fun r => k (.ext 4) [(.slot 55, .v (.sc (.bool false))), (.slot 1, .v (.sc (.int .i64 r.1))), (.slot 6, .v (.rf 100000006)), (.tok 100000006, .t 0 (.rows true r.2.1)), (.slot 8, .v (.sc (.int .i64 r.2.2.1))), (.slot 9, .v (.sc (.int .i64 r.2.2.2))), (.slot 46, .v .ud), (.slot 47, .v .ud), (.slot 48, .v .ud), (.slot 49, .v .ud), (.slot 50, .v .ud), (.slot 51, .v .ud), (.slot 52, .v .ud), (.slot 53, .v .ud), (.slot 54, .v .ud), (.slot 55, .v (.sc (.bool false)))]))
def LH211_11 (N : Nat) : St → (Ex → St → Option RT) → Option RT := fun s k => match mS sk211_11 s with
  | some [.I z0, .R z1, .I z2, .I z3] => (Lp211_11 N N (z0, z1, z2, z3)).bind (kk211_11 k)
  | _ => none
def sk211_8 : List (Tm.Loc × SkV) := [(.slot 1, .int .i64), (.slot 6, .rf 100000006), (.tok 100000006, .tR true), (.slot 8, .int .i64)]
def kk211_8 (k : Ex → St → Option RT) : ((List (List Int) × Int)) → Option RT := (fun r => k .ret [(.slot 4, .v (.rf 100000004)), (.tok 100000004, .t 0 (.rows true r.1)), (.slot 5, .v (.sc (.int .i64 r.2)))])
def LH211_8 (N : Nat) : St → (Ex → St → Option RT) → Option RT := fun s k => match mS sk211_8 s with
  | some [.I z0, .R z1, .I z2] => (Lp211_8 N N (z0, z1, z2)).bind (kk211_8 k)
  | _ => none
def X211 (N : Nat) : Env := { n := 92, K := K0, C := hSel 150 (H150 (D150 N)) (hNone), L := fun i s k => bif Nat.beq i 8 then LH211_8 N (normL (lp211 8) s) k else bif Nat.beq i 11 then LH211_11 N (normL (lp211 11) s) k else bif Nat.beq i 3 then LH211_3 N (normL (lp211 3) s) k else none, keep := kp211, lp := lp211 }
theorem st211_3 (N : Nat) (V : St → Option RT) (k : Ex → St → Option RT) (v : List (List Int) × Int × List (List Int) × Int) : vexec (X211 N ) (findLoop 3 (loopsIn (bodyOf Try.f211))) (bS sk211_3 [.R v.1, .I v.2.1, .R v.2.2.1, .I v.2.2.2]) (vstep V (lp211 3) k) = L211_3 N v (fun v => V (bS sk211_3 [.R v.1, .I v.2.1, .R v.2.2.1, .I v.2.2.2])) (kk211_3 k) := by kernel_rfl
theorem q211_3 (N : Nat) (k : Ex → St → Option RT) : ∀ n (v : List (List Int) × Int × List (List Int) × Int), vround (X211 N ) (findLoop 3 (loopsIn (bodyOf Try.f211))) 3 n (bS sk211_3 [.R v.1, .I v.2.1, .R v.2.2.1, .I v.2.2.2]) k = (Lp211_3 N n v).bind (kk211_3 k) := by
  intro n
  induction n with
  | zero => intro v; rfl
  | succ n ih =>
    intro v
    rw [vround_succ]
    refine (st211_3 N _ k v).trans ?_
    simp only [ih]
    exact L211_3_nat N v (Lp211_3 N n) (kk211_3 k)
theorem lh211_3 (N : Nat) : ∀ s k r, LH211_3 N s k = some r → vround (X211 N ) (findLoop 3 (loopsIn (bodyOf Try.f211))) 3 N s k = some r := by
  intro s k r h
  unfold LH211_3 at h
  split at h
  · rename_i z0 z1 z2 z3 hm
    rw [mS_bS hm]
    exact (q211_3 N k N (z0, z1, z2, z3)).trans h
  · cases h
theorem st211_11 (N : Nat) (V : St → Option RT) (k : Ex → St → Option RT) (v : Int × List (List Int) × Int × Int) : vexec (X211 N ) (findLoop 11 (loopsIn (bodyOf Try.f211))) (bS sk211_11 [.I v.1, .R v.2.1, .I v.2.2.1, .I v.2.2.2]) (vstep V (lp211 11) k) = L211_11 N v (fun v => V (bS sk211_11 [.I v.1, .R v.2.1, .I v.2.2.1, .I v.2.2.2])) (kk211_11 k) := by kernel_rfl
theorem q211_11 (N : Nat) (k : Ex → St → Option RT) : ∀ n (v : Int × List (List Int) × Int × Int), vround (X211 N ) (findLoop 11 (loopsIn (bodyOf Try.f211))) 11 n (bS sk211_11 [.I v.1, .R v.2.1, .I v.2.2.1, .I v.2.2.2]) k = (Lp211_11 N n v).bind (kk211_11 k) := by
  intro n
  induction n with
  | zero => intro v; rfl
  | succ n ih =>
    intro v
    rw [vround_succ]
    refine (st211_11 N _ k v).trans ?_
    simp only [ih]
    exact L211_11_nat N v (Lp211_11 N n) (kk211_11 k)
theorem lh211_11 (N : Nat) : ∀ s k r, LH211_11 N s k = some r → vround (X211 N ) (findLoop 11 (loopsIn (bodyOf Try.f211))) 11 N s k = some r := by
  intro s k r h
  unfold LH211_11 at h
  split at h
  · rename_i z0 z1 z2 z3 hm
    rw [mS_bS hm]
    exact (q211_11 N k N (z0, z1, z2, z3)).trans h
  · cases h
theorem st211_8 (N : Nat) (V : St → Option RT) (k : Ex → St → Option RT) (v : Int × List (List Int) × Int) : vexec (X211 N ) (findLoop 8 (loopsIn (bodyOf Try.f211))) (bS sk211_8 [.I v.1, .R v.2.1, .I v.2.2]) (vstep V (lp211 8) k) = L211_8 N v (fun v => V (bS sk211_8 [.I v.1, .R v.2.1, .I v.2.2])) (kk211_8 k) := by kernel_rfl
theorem q211_8 (N : Nat) (k : Ex → St → Option RT) : ∀ n (v : Int × List (List Int) × Int), vround (X211 N ) (findLoop 8 (loopsIn (bodyOf Try.f211))) 8 n (bS sk211_8 [.I v.1, .R v.2.1, .I v.2.2]) k = (Lp211_8 N n v).bind (kk211_8 k) := by
  intro n
  induction n with
  | zero => intro v; rfl
  | succ n ih =>
    intro v
    rw [vround_succ]
    refine (st211_8 N _ k v).trans ?_
    simp only [ih]
    exact L211_8_nat N v (Lp211_8 N n) (kk211_8 k)
theorem lh211_8 (N : Nat) : ∀ s k r, LH211_8 N s k = some r → vround (X211 N ) (findLoop 8 (loopsIn (bodyOf Try.f211))) 8 N s k = some r := by
  intro s k r h
  unfold LH211_8 at h
  split at h
  · rename_i z0 z1 z2 hm
    rw [mS_bS hm]
    exact (q211_8 N k N (z0, z1, z2)).trans h
  · cases h
theorem b211 (N : Nat) (a1 : List (List Int)) (a2 : Int) : vbody (X211 N ) Try.f211 (bodyOf Try.f211) [.sc (.rows a1), .sc (.int .i64 a2)] [] (fun rs bx => some ⟨rs, bx⟩) = T211 N a1 a2 (fun r => some ⟨[.ow (.rows true r.1), .sc (.int .i64 r.2)], []⟩) := by kernel_rfl
theorem s211 (N : Nat) (a1 : List (List Int)) (a2 : Int) (r : List (List Int) × Int) (h : D211 N a1 a2 = some r) : CallSpec Try.prog E0 211 [.sc (.rows a1), .sc (.int .i64 a2)] [] [.ow (.rows true r.1), .sc (.int .i64 r.2)] [] := by
  refine body_ok (X := X211 N ) (CR := CRG Try.prog E0) Try.func211 (code := bodyOf Try.f211) (by kernel_rfl) rfl (by decide) mixed0 tyok0 rfl contracts_ok (cs_sel (h150 (s150 N)) (cs_none)) (LoopsBy.of fun p hp => ?_) (by kernel_rfl) (Nat.le_of_ble_eq_true (by kernel_rfl)) ?_
  · rw [show loopsIn (bodyOf Try.f211) = [(3, findLoop 3 (loopsIn (bodyOf Try.f211))), (8, findLoop 8 (loopsIn (bodyOf Try.f211))), (11, findLoop 11 (loopsIn (bodyOf Try.f211)))] from by kernel_rfl] at hp
    simp only [List.mem_cons, List.not_mem_nil, or_false] at hp
    rcases hp with rfl | rfl | rfl
    · exact vround_of (fun s k => rfl) (by kernel_rfl) (lh211_3 N)
    · exact vround_of (fun s k => rfl) (by kernel_rfl) (lh211_8 N)
    · exact vround_of (fun s k => rfl) (by kernel_rfl) (lh211_11 N)
  · rw [b211, T211_nat, h]; rfl

/-! 109: loop.example/g01286/spec.l5Rows -/
def L109_3 {ρ : Type} (N : Nat) (v : List Int × List (List Int) × List (List Int) × Int) (rec : (List Int × List (List Int) × List (List Int) × Int) → Option ρ) (k : ((List Int × List (List Int) × List (List Int) × Int × Bool)) → Option ρ) : Option ρ :=
  bif (iLt v.2.2.2 (Int.ofNat (List.length v.1))) then (
  bif inB v.2.2.2 (List.length v.1) then (
  (D211 N v.2.1 (List.getD v.1 (Int.toNat v.2.2.2) (Int.ofNat 0))).bind fun r2 =>
  bif (iEq r2.2 (Int.ofNat (List.length v.2.2.1))) then (
  bif capB (List.length (v.2.2.1 ++ [[]])) then (
  bif inB r2.2 (List.length (v.2.2.1 ++ [[]])) then (
  bif capB (List.length (List.getD (v.2.2.1 ++ [[]]) (Int.toNat r2.2) [] ++ [(wrapF .i64 (v.2.2.2 + (Int.ofNat 1)))])) then (
  bif inB r2.2 (List.length (v.2.2.1 ++ [[]])) then (
  bif (Nat.beq (Int.toNat r2.2) (Int.toNat r2.2)) then (
  rec (v.1, r2.1, (List.set (v.2.2.1 ++ [[]]) (Int.toNat r2.2) (List.getD (v.2.2.1 ++ [[]]) (Int.toNat r2.2) [] ++ [(wrapF .i64 (v.2.2.2 + (Int.ofNat 1)))])), (wrapF .i64 (v.2.2.2 + (Int.ofNat 1)))))
  else none)
  else none)
  else none)
  else none)
  else none)
  else (
  bif inB r2.2 (List.length v.2.2.1) then (
  bif capB (List.length (List.getD v.2.2.1 (Int.toNat r2.2) [] ++ [(wrapF .i64 (v.2.2.2 + (Int.ofNat 1)))])) then (
  bif inB r2.2 (List.length v.2.2.1) then (
  bif (Nat.beq (Int.toNat r2.2) (Int.toNat r2.2)) then (
  rec (v.1, r2.1, (List.set v.2.2.1 (Int.toNat r2.2) (List.getD v.2.2.1 (Int.toNat r2.2) [] ++ [(wrapF .i64 (v.2.2.2 + (Int.ofNat 1)))])), (wrapF .i64 (v.2.2.2 + (Int.ofNat 1)))))
  else none)
  else none)
  else none)
  else none))
  else none)
  else (
  k (v.1, v.2.1, v.2.2.1, v.2.2.2, (iLt v.2.2.2 (Int.ofNat (List.length v.1)))))
def Lp109_3 (N : Nat) : Nat → (List Int × List (List Int) × List (List Int) × Int) → Option ((List Int × List (List Int) × List (List Int) × Int × Bool)) := fun n => Nat.rec (motive := fun _ => (List Int × List (List Int) × List (List Int) × Int) → Option ((List Int × List (List Int) × List (List Int) × Int × Bool))) (fun _ => none) (fun _ ih v => L109_3 N v ih some) n
theorem L109_3_nat {ρ : Type} (N : Nat) (v : List Int × List (List Int) × List (List Int) × Int) (rec : (List Int × List (List Int) × List (List Int) × Int) → Option ((List Int × List (List Int) × List (List Int) × Int × Bool))) (k : ((List Int × List (List Int) × List (List Int) × Int × Bool)) → Option ρ) : L109_3 N v (fun v => (rec v).bind k) k = (L109_3 N v rec some).bind k := by
  unfold L109_3
  simp only [Option.bind_assoc, bif_bind, elim_bind, Option.bind_some, Option.bind_none]
def T109 {ρ : Type} (N : Nat) (a1 : List Int) (k : (List (List Int) × List (List Int)) → Option ρ) : Option ρ :=
  (Lp109_3 N N (a1, [], [], (Int.ofNat 0))).bind fun w3 =>
  k (w3.2.1, w3.2.2.1)
def D109 (N : Nat) (a1 : List Int) : Option (List (List Int) × List (List Int)) := T109 N a1 some
theorem T109_nat {ρ : Type} (N : Nat) (a1 : List Int) (k : (List (List Int) × List (List Int)) → Option ρ) : T109 N a1 k = (D109 N a1).bind k := by
  unfold D109 T109
  simp only [Option.bind_assoc, bif_bind, elim_bind, Option.bind_some, Option.bind_none]
def H109 (D : (List Int) → Option (List (List Int) × List (List Int))) : Hd := fun az bx k => match az, bx with
  | [c0], [] => cL .i64 c0 fun y0 => (D y0).bind fun r => k [.ow (.rows true r.1), .ow (.rows true r.2)] []
  | _, _ => none
theorem fnok109 : FnOK Try.prog 109 := ⟨Try.f109, Try.func109, rfl, by decide⟩
theorem h109 {D : (List Int) → Option (List (List Int) × List (List Int))} (hD : ∀ (y0 : List Int), ∀ r, D y0 = some r → CallSpec Try.prog E0 109 [.sc (.ints .i64 y0)] [] [.ow (.rows true r.1), .ow (.rows true r.2)] []) : HSound Try.prog E0 109 (H109 D) := by
  intro az bx k r h
  unfold H109 at h
  split at h
  · rename_i c0
    obtain ⟨y0, l0, h⟩ := cL_some h
    obtain ⟨r, hr, h⟩ := Option.bind_eq_some_iff.1 h
    exact ⟨_, _, ⟨(hD y0 r hr).le ⟨l0, trivial⟩ trivial, fnok109, Nat.le_of_ble_eq_true rfl⟩, h⟩
  · cases h
def kp109 : Nat → List Tm.Loc := fun i => ([[.slot 0], [.slot 0, .slot 4, .slot 5], [.slot 0, .slot 4, .slot 5, .slot 6], [.slot 0, .slot 4, .slot 5, .slot 6, .slot 14], [.slot 0, .slot 4, .slot 5, .slot 6], [.slot 0, .slot 5, .slot 6, .slot 7, .slot 8], [.slot 0, .slot 4, .slot 5, .slot 6, .slot 8], [.slot 0, .slot 4, .slot 5, .slot 6, .slot 8, .slot 30], [.slot 0, .slot 4, .slot 5, .slot 6, .slot 8], [.slot 0, .slot 4, .slot 5, .slot 6], [.slot 2, .slot 3]] : List (List Tm.Loc)).getD i []
def lp109 : Nat → LpS := fun i => bif Nat.beq i 3 then ⟨[], [], [.slot 0, .slot 4, .slot 5, .slot 6]⟩ else default
def sk109_3 : List (Tm.Loc × SkV) := [(.slot 0, .ints .i64), (.slot 4, .rf 100000004), (.tok 100000004, .tR true), (.slot 5, .rf 100000005), (.tok 100000005, .tR true), (.slot 6, .int .i64)]
def kk109_3 (k : Ex → St → Option RT) : ((List Int × List (List Int) × List (List Int) × Int × Bool)) → Option RT := (fun r => k (.ext 0) [(.slot 14, .v (.sc (.bool false))), (.slot 0, .v (.sc (.ints .i64 r.1))), (.slot 4, .v (.rf 100000004)), (.tok 100000004, .t 0 (.rows true r.2.1)), (.slot 5, .v (.rf 100000005)), (.tok 100000005, .t 0 (.rows true r.2.2.1)), (.slot 6, .v (.sc (.int .i64 r.2.2.2.1))), (.slot 14, .v (.sc (.bool r.2.2.2.2)))])
def LH109_3 (N : Nat) : St → (Ex → St → Option RT) → Option RT := fun s k => match mS sk109_3 s with
  | some [.L z0, .R z1, .R z2, .I z3] => (Lp109_3 N N (z0, z1, z2, z3)).bind (kk109_3 k)
  | _ => none
def X109 (N : Nat) : Env := { n := 48, K := K0, C := hSel 211 (H211 (D211 N)) (hNone), L := fun i s k => bif Nat.beq i 3 then LH109_3 N (normL (lp109 3) s) k else none, keep := kp109, lp := lp109 }
theorem st109_3 (N : Nat) (V : St → Option RT) (k : Ex → St → Option RT) (v : List Int × List (List Int) × List (List Int) × Int) : vexec (X109 N ) (findLoop 3 (loopsIn (bodyOf Try.f109))) (bS sk109_3 [.L v.1, .R v.2.1, .R v.2.2.1, .I v.2.2.2]) (vstep V (lp109 3) k) = L109_3 N v (fun v => V (bS sk109_3 [.L v.1, .R v.2.1, .R v.2.2.1, .I v.2.2.2])) (kk109_3 k) := by kernel_rfl
theorem q109_3 (N : Nat) (k : Ex → St → Option RT) : ∀ n (v : List Int × List (List Int) × List (List Int) × Int), vround (X109 N ) (findLoop 3 (loopsIn (bodyOf Try.f109))) 3 n (bS sk109_3 [.L v.1, .R v.2.1, .R v.2.2.1, .I v.2.2.2]) k = (Lp109_3 N n v).bind (kk109_3 k) := by
  intro n
  induction n with
  | zero => intro v; rfl
  | succ n ih =>
    intro v
    rw [vround_succ]
    refine (st109_3 N _ k v).trans ?_
    simp only [ih]
    exact L109_3_nat N v (Lp109_3 N n) (kk109_3 k)
theorem lh109_3 (N : Nat) : ∀ s k r, LH109_3 N s k = some r → vround (X109 N ) (findLoop 3 (loopsIn (bodyOf Try.f109))) 3 N s k = some r := by
  intro s k r h
  unfold LH109_3 at h
  split at h
  · rename_i z0 z1 z2 z3 hm
    rw [mS_bS hm]
    exact (q109_3 N k N (z0, z1, z2, z3)).trans h
  · cases h
theorem b109 (N : Nat) (a1 : List Int) : vbody (X109 N ) Try.f109 (bodyOf Try.f109) [.sc (.ints .i64 a1)] [] (fun rs bx => some ⟨rs, bx⟩) = T109 N a1 (fun r => some ⟨[.ow (.rows true r.1), .ow (.rows true r.2)], []⟩) := by kernel_rfl
theorem s109 (N : Nat) (a1 : List Int) (r : List (List Int) × List (List Int)) (h : D109 N a1 = some r) : CallSpec Try.prog E0 109 [.sc (.ints .i64 a1)] [] [.ow (.rows true r.1), .ow (.rows true r.2)] [] := by
  refine body_ok (X := X109 N ) (CR := CRG Try.prog E0) Try.func109 (code := bodyOf Try.f109) (by kernel_rfl) rfl (by decide) mixed0 tyok0 rfl contracts_ok (cs_sel (h211 (s211 N)) (cs_none)) (LoopsBy.of fun p hp => ?_) (by kernel_rfl) (Nat.le_of_ble_eq_true (by kernel_rfl)) ?_
  · rw [show loopsIn (bodyOf Try.f109) = [(3, findLoop 3 (loopsIn (bodyOf Try.f109)))] from by kernel_rfl] at hp
    simp only [List.mem_cons, List.not_mem_nil, or_false] at hp
    subst hp
    exact vround_of (fun s k => rfl) (by kernel_rfl) (lh109_3 N)
  · rw [b109, T109_nat, h]; rfl

/-! 156: loop.example/g01286/spec.l1Most -/
def T156 {ρ : Type} (N : Nat) (a1 : Int) (a2 : Int) (k : Int → Option ρ) : Option ρ :=
  bif (iLt a2 a1) then (
  k a1)
  else (
  k a2)
def D156 (N : Nat) (a1 : Int) (a2 : Int) : Option (Int) := T156 N a1 a2 some
theorem T156_nat {ρ : Type} (N : Nat) (a1 : Int) (a2 : Int) (k : Int → Option ρ) : T156 N a1 a2 k = (D156 N a1 a2).bind k := by
  unfold D156 T156
  simp only [Option.bind_assoc, bif_bind, elim_bind, Option.bind_some, Option.bind_none]
def H156 (D : Int → Int → Option (Int)) : Hd := fun az bx k => match az, bx with
  | [c0, c1], [] => cI .i64 c0 fun y0 => cI .i64 c1 fun y1 => (D y0 y1).bind fun r => k [.sc (.int .i64 r)] []
  | _, _ => none
theorem fnok156 : FnOK Try.prog 156 := ⟨Try.f156, Try.func156, rfl, by decide⟩
theorem h156 {D : Int → Int → Option (Int)} (hD : ∀ (y0 : Int), ∀ (y1 : Int), ∀ r, D y0 y1 = some r → CallSpec Try.prog E0 156 [.sc (.int .i64 y0), .sc (.int .i64 y1)] [] [.sc (.int .i64 r)] []) : HSound Try.prog E0 156 (H156 D) := by
  intro az bx k r h
  unfold H156 at h
  split at h
  · rename_i c0 c1
    obtain ⟨y0, l0, h⟩ := cI_some h
    obtain ⟨y1, l1, h⟩ := cI_some h
    obtain ⟨r, hr, h⟩ := Option.bind_eq_some_iff.1 h
    exact ⟨_, _, ⟨(hD y0 y1 r hr).le ⟨l0, ⟨l1, trivial⟩⟩ trivial, fnok156, Nat.le_of_ble_eq_true rfl⟩, h⟩
  · cases h
def kp156 : Nat → List Tm.Loc := fun i => ([[.slot 0, .slot 1], [.slot 0, .slot 1, .slot 7], [.slot 4], [.slot 4]] : List (List Tm.Loc)).getD i []
def lp156 : Nat → LpS := fun i => default
def X156 (N : Nat) : Env := { n := 10, K := K0, C := hNone, L := fun i s k => none, keep := kp156, lp := lp156 }
theorem b156 (N : Nat) (a1 : Int) (a2 : Int) : vbody (X156 N ) Try.f156 (bodyOf Try.f156) [.sc (.int .i64 a1), .sc (.int .i64 a2)] [] (fun rs bx => some ⟨rs, bx⟩) = T156 N a1 a2 (fun r => some ⟨[.sc (.int .i64 r)], []⟩) := by kernel_rfl
theorem s156 (N : Nat) (a1 : Int) (a2 : Int) (r : Int) (h : D156 N a1 a2 = some r) : CallSpec Try.prog E0 156 [.sc (.int .i64 a1), .sc (.int .i64 a2)] [] [.sc (.int .i64 r)] [] := by
  refine body_ok (X := X156 N ) (CR := CRG Try.prog E0) Try.func156 (code := bodyOf Try.f156) (by kernel_rfl) rfl (by decide) mixed0 tyok0 rfl contracts_ok (cs_none) (LoopsBy.of fun p hp => ?_) (by kernel_rfl) (Nat.le_of_ble_eq_true (by kernel_rfl)) ?_
  · rw [show loopsIn (bodyOf Try.f156) = [] from by kernel_rfl] at hp
    cases hp
  · rw [b156, T156_nat, h]; rfl

/-! 110: loop.example/g01286/spec.l9Cut -/
def L110_2 {ρ : Type} (N : Nat) (v : Int × Int × Int × Int × List Int) (rec : (Int × Int × Int × Int × List Int) → Option ρ) (k : ((Int × Int × Int × Int × Bool × List Int)) → Option ρ) : Option ρ :=
  bif (iLt (Int.ofNat 0) v.2.2.2.1) then (
  bif (!(iEq v.2.2.2.1 (Int.ofNat 0))) then (
  rec (v.1, v.2.1, v.2.2.2.1, (Int.tmod v.2.2.1 v.2.2.2.1), v.2.2.2.2))
  else none)
  else (
  k (v.1, v.2.1, v.2.2.1, v.2.2.2.1, (iLt (Int.ofNat 0) v.2.2.2.1), v.2.2.2.2))
def Lp110_2 (N : Nat) : Nat → (Int × Int × Int × Int × List Int) → Option ((Int × Int × Int × Int × Bool × List Int)) := fun n => Nat.rec (motive := fun _ => (Int × Int × Int × Int × List Int) → Option ((Int × Int × Int × Int × Bool × List Int))) (fun _ => none) (fun _ ih v => L110_2 N v ih some) n
theorem L110_2_nat {ρ : Type} (N : Nat) (v : Int × Int × Int × Int × List Int) (rec : (Int × Int × Int × Int × List Int) → Option ((Int × Int × Int × Int × Bool × List Int))) (k : ((Int × Int × Int × Int × Bool × List Int)) → Option ρ) : L110_2 N v (fun v => (rec v).bind k) k = (L110_2 N v rec some).bind k := by
  unfold L110_2
  simp only [Option.bind_assoc, bif_bind, elim_bind, Option.bind_some, Option.bind_none]
def T110 {ρ : Type} (N : Nat) (a1 : Int) (a2 : Int) (k : (List Int) → Option ρ) : Option ρ :=
  (Lp110_2 N N (a1, a2, a1, a2, (List.replicate 2 0))).bind fun w3 =>
  (D156 N w3.2.2.1 (Int.ofNat 1)).bind fun r4 =>
  bif (!(iEq r4 (Int.ofNat 0))) then (
  (D156 N w3.2.2.1 (Int.ofNat 1)).bind fun r5 =>
  bif (!(iEq r5 (Int.ofNat 0))) then (
  k [(wrapF .i64 (Int.tdiv w3.1 r4)), (wrapF .i64 (Int.tdiv w3.2.1 r5))])
  else none)
  else none
def D110 (N : Nat) (a1 : Int) (a2 : Int) : Option (List Int) := T110 N a1 a2 some
theorem T110_nat {ρ : Type} (N : Nat) (a1 : Int) (a2 : Int) (k : (List Int) → Option ρ) : T110 N a1 a2 k = (D110 N a1 a2).bind k := by
  unfold D110 T110
  simp only [Option.bind_assoc, bif_bind, elim_bind, Option.bind_some, Option.bind_none]
def H110 (D : Int → Int → Option (List Int)) : Hd := fun az bx k => match az, bx with
  | [c0, c1], [] => cI .i64 c0 fun y0 => cI .i64 c1 fun y1 => (D y0 y1).bind fun r => k [.sc (.arr .i64 2 r)] []
  | _, _ => none
theorem fnok110 : FnOK Try.prog 110 := ⟨Try.f110, Try.func110, rfl, by decide⟩
theorem h110 {D : Int → Int → Option (List Int)} (hD : ∀ (y0 : Int), ∀ (y1 : Int), ∀ r, D y0 y1 = some r → CallSpec Try.prog E0 110 [.sc (.int .i64 y0), .sc (.int .i64 y1)] [] [.sc (.arr .i64 2 r)] []) : HSound Try.prog E0 110 (H110 D) := by
  intro az bx k r h
  unfold H110 at h
  split at h
  · rename_i c0 c1
    obtain ⟨y0, l0, h⟩ := cI_some h
    obtain ⟨y1, l1, h⟩ := cI_some h
    obtain ⟨r, hr, h⟩ := Option.bind_eq_some_iff.1 h
    exact ⟨_, _, ⟨(hD y0 y1 r hr).le ⟨l0, ⟨l1, trivial⟩⟩ trivial, fnok110, Nat.le_of_ble_eq_true rfl⟩, h⟩
  · cases h
def kp110 : Nat → List Tm.Loc := fun i => ([[.slot 0, .slot 1, .slot 4, .box (.own 4)], [.slot 0, .slot 1, .slot 4, .slot 5, .slot 6, .box (.own 4)], [.slot 0, .slot 1, .slot 4, .slot 5, .slot 6, .slot 10, .box (.own 4)], [.slot 0, .slot 1, .slot 4, .slot 5, .slot 6, .box (.own 4)], [.slot 4, .box (.own 4)]] : List (List Tm.Loc)).getD i []
def lp110 : Nat → LpS := fun i => bif Nat.beq i 2 then ⟨[], [], [.slot 0, .slot 1, .slot 4, .slot 5, .slot 6, .box (.own 4)]⟩ else default
def sk110_2 : List (Tm.Loc × SkV) := [(.slot 0, .int .i64), (.slot 1, .int .i64), (.slot 4, .pt (.own 4)), (.slot 5, .int .i64), (.slot 6, .int .i64), (.box (.own 4), .arr .i64 2)]
def kk110_2 (k : Ex → St → Option RT) : ((Int × Int × Int × Int × Bool × List Int)) → Option RT := (fun r => k (.ext 0) [(.slot 10, .v (.sc (.bool false))), (.slot 0, .v (.sc (.int .i64 r.1))), (.slot 1, .v (.sc (.int .i64 r.2.1))), (.slot 4, .v (.pt (.own 4))), (.slot 5, .v (.sc (.int .i64 r.2.2.1))), (.slot 6, .v (.sc (.int .i64 r.2.2.2.1))), (.slot 10, .v (.sc (.bool r.2.2.2.2.1))), (.box (.own 4), .v (.sc (.arr .i64 2 r.2.2.2.2.2)))])
def LH110_2 (N : Nat) : St → (Ex → St → Option RT) → Option RT := fun s k => match mS sk110_2 s with
  | some [.I z0, .I z1, .I z2, .I z3, .L z4] => (Lp110_2 N N (z0, z1, z2, z3, z4)).bind (kk110_2 k)
  | _ => none
def X110 (N : Nat) : Env := { n := 24, K := K0, C := hSel 156 (H156 (D156 N)) (hNone), L := fun i s k => bif Nat.beq i 2 then LH110_2 N (normL (lp110 2) s) k else none, keep := kp110, lp := lp110 }
theorem st110_2 (N : Nat) (V : St → Option RT) (k : Ex → St → Option RT) (v : Int × Int × Int × Int × List Int) : vexec (X110 N ) (findLoop 2 (loopsIn (bodyOf Try.f110))) (bS sk110_2 [.I v.1, .I v.2.1, .I v.2.2.1, .I v.2.2.2.1, .L v.2.2.2.2]) (vstep V (lp110 2) k) = L110_2 N v (fun v => V (bS sk110_2 [.I v.1, .I v.2.1, .I v.2.2.1, .I v.2.2.2.1, .L v.2.2.2.2])) (kk110_2 k) := by kernel_rfl
theorem q110_2 (N : Nat) (k : Ex → St → Option RT) : ∀ n (v : Int × Int × Int × Int × List Int), vround (X110 N ) (findLoop 2 (loopsIn (bodyOf Try.f110))) 2 n (bS sk110_2 [.I v.1, .I v.2.1, .I v.2.2.1, .I v.2.2.2.1, .L v.2.2.2.2]) k = (Lp110_2 N n v).bind (kk110_2 k) := by
  intro n
  induction n with
  | zero => intro v; rfl
  | succ n ih =>
    intro v
    rw [vround_succ]
    refine (st110_2 N _ k v).trans ?_
    simp only [ih]
    exact L110_2_nat N v (Lp110_2 N n) (kk110_2 k)
theorem lh110_2 (N : Nat) : ∀ s k r, LH110_2 N s k = some r → vround (X110 N ) (findLoop 2 (loopsIn (bodyOf Try.f110))) 2 N s k = some r := by
  intro s k r h
  unfold LH110_2 at h
  split at h
  · rename_i z0 z1 z2 z3 z4 hm
    rw [mS_bS hm]
    exact (q110_2 N k N (z0, z1, z2, z3, z4)).trans h
  · cases h
theorem b110 (N : Nat) (a1 : Int) (a2 : Int) : vbody (X110 N ) Try.f110 (bodyOf Try.f110) [.sc (.int .i64 a1), .sc (.int .i64 a2)] [] (fun rs bx => some ⟨rs, bx⟩) = T110 N a1 a2 (fun r => some ⟨[.sc (.arr .i64 2 r)], []⟩) := by kernel_rfl
theorem s110 (N : Nat) (a1 : Int) (a2 : Int) (r : List Int) (h : D110 N a1 a2 = some r) : CallSpec Try.prog E0 110 [.sc (.int .i64 a1), .sc (.int .i64 a2)] [] [.sc (.arr .i64 2 r)] [] := by
  refine body_ok (X := X110 N ) (CR := CRG Try.prog E0) Try.func110 (code := bodyOf Try.f110) (by kernel_rfl) rfl (by decide) mixed0 tyok0 rfl contracts_ok (cs_sel (h156 (s156 N)) (cs_none)) (LoopsBy.of fun p hp => ?_) (by kernel_rfl) (Nat.le_of_ble_eq_true (by kernel_rfl)) ?_
  · rw [show loopsIn (bodyOf Try.f110) = [(2, findLoop 2 (loopsIn (bodyOf Try.f110)))] from by kernel_rfl] at hp
    simp only [List.mem_cons, List.not_mem_nil, or_false] at hp
    subst hp
    exact vround_of (fun s k => rfl) (by kernel_rfl) (lh110_2 N)
  · rw [b110, T110_nat, h]; rfl

/-! 11: loop.example/g01286/spec.MeanRise -/
def L11_5 {ρ : Type} (N : Nat) (v : Int × List (List Int) × Int × List Int) (rec : (Int × List (List Int) × Int × List Int) → Option ρ) (k : ((Int × List (List Int) × Int × Bool × List Int)) → Option ρ) : Option ρ :=
  bif (iLt v.2.2.1 (Int.ofNat (List.length v.2.1))) then (
  bif inB v.2.2.1 (List.length v.2.1) then (
  (D109 N (List.getD v.2.1 (Int.toNat v.2.2.1) [])).bind fun r4 =>
  bif inB (Int.ofNat 0) (List.length r4.1) then (
  rec ((wrapF .i64 (v.1 + (Int.ofNat (List.length (List.getD r4.1 0 []))))), v.2.1, (wrapF .i64 (v.2.2.1 + (Int.ofNat 1))), v.2.2.2))
  else none)
  else none)
  else (
  k (v.1, v.2.1, v.2.2.1, (iLt v.2.2.1 (Int.ofNat (List.length v.2.1))), v.2.2.2))
def Lp11_5 (N : Nat) : Nat → (Int × List (List Int) × Int × List Int) → Option ((Int × List (List Int) × Int × Bool × List Int)) := fun n => Nat.rec (motive := fun _ => (Int × List (List Int) × Int × List Int) → Option ((Int × List (List Int) × Int × Bool × List Int))) (fun _ => none) (fun _ ih v => L11_5 N v ih some) n
theorem L11_5_nat {ρ : Type} (N : Nat) (v : Int × List (List Int) × Int × List Int) (rec : (Int × List (List Int) × Int × List Int) → Option ((Int × List (List Int) × Int × Bool × List Int))) (k : ((Int × List (List Int) × Int × Bool × List Int)) → Option ρ) : L11_5 N v (fun v => (rec v).bind k) k = (L11_5 N v rec some).bind k := by
  unfold L11_5
  simp only [Option.bind_assoc, bif_bind, elim_bind, Option.bind_some, Option.bind_none]
def T11 {ρ : Type} (N : Nat) (a1 : Int) (k : (List Int × Bool) → Option ρ) : Option ρ :=
  (D107 N a1).bind fun r2 =>
  bif (!r2) then (
  k ([(Int.ofNat 0), (Int.ofNat 0)], false))
  else (
  (D108 N a1).bind fun r3 =>
  (Lp11_5 N N ((Int.ofNat 0), r3, (Int.ofNat 0), (List.replicate 2 0))).bind fun w5 =>
  (D110 N w5.1 (Int.ofNat (List.length w5.2.1))).bind fun r6 =>
  k (r6, true))
def D11 (N : Nat) (a1 : Int) : Option (List Int × Bool) := T11 N a1 some
theorem T11_nat {ρ : Type} (N : Nat) (a1 : Int) (k : (List Int × Bool) → Option ρ) : T11 N a1 k = (D11 N a1).bind k := by
  unfold D11 T11
  simp only [Option.bind_assoc, bif_bind, elim_bind, Option.bind_some, Option.bind_none]
def H11 (D : Int → Option (List Int × Bool)) : Hd := fun az bx k => match az, bx with
  | [c0], [] => cI .i64 c0 fun y0 => (D y0).bind fun r => k [.sc (.arr .i64 2 r.1), .sc (.bool r.2)] []
  | _, _ => none
theorem fnok11 : FnOK Try.prog 11 := ⟨Try.f11, Try.func11, rfl, by decide⟩
theorem h11 {D : Int → Option (List Int × Bool)} (hD : ∀ (y0 : Int), ∀ r, D y0 = some r → CallSpec Try.prog E0 11 [.sc (.int .i64 y0)] [] [.sc (.arr .i64 2 r.1), .sc (.bool r.2)] []) : HSound Try.prog E0 11 (H11 D) := by
  intro az bx k r h
  unfold H11 at h
  split at h
  · rename_i c0
    obtain ⟨y0, l0, h⟩ := cI_some h
    obtain ⟨r, hr, h⟩ := Option.bind_eq_some_iff.1 h
    exact ⟨_, _, ⟨(hD y0 r hr).le ⟨l0, trivial⟩ trivial, fnok11, Nat.le_of_ble_eq_true rfl⟩, h⟩
  · cases h
def kp11 : Nat → List Tm.Loc := fun i => ([[.slot 0, .slot 2, .box (.own 2)], [.slot 0, .slot 2, .slot 11, .box (.own 2)], [.slot 2, .slot 3, .box (.own 2)], [.slot 2, .slot 4, .slot 5, .box (.own 2)], [.slot 2, .slot 4, .slot 5, .slot 6, .box (.own 2)], [.slot 2, .slot 4, .slot 5, .slot 6, .slot 18, .box (.own 2)], [.slot 2, .slot 4, .slot 5, .slot 6, .box (.own 2)], [.slot 2, .slot 4, .slot 5, .slot 6, .slot 7, .box (.own 2)], [.slot 2, .slot 4, .slot 5, .slot 6, .box (.own 2)], [.slot 2, .slot 3, .box (.own 2)]] : List (List Tm.Loc)).getD i []
def lp11 : Nat → LpS := fun i => bif Nat.beq i 5 then ⟨[], [], [.slot 2, .slot 4, .slot 5, .slot 6, .box (.own 2)]⟩ else default
def sk11_5 : List (Tm.Loc × SkV) := [(.slot 2, .pt (.own 2)), (.slot 4, .int .i64), (.slot 5, .rf 100000005), (.tok 100000005, .tR true), (.slot 6, .int .i64), (.box (.own 2), .arr .i64 2)]
def kk11_5 (k : Ex → St → Option RT) : ((Int × List (List Int) × Int × Bool × List Int)) → Option RT := (fun r => k (.ext 0) [(.slot 18, .v (.sc (.bool false))), (.slot 2, .v (.pt (.own 2))), (.slot 4, .v (.sc (.int .i64 r.1))), (.slot 5, .v (.rf 100000005)), (.tok 100000005, .t 0 (.rows true r.2.1)), (.slot 6, .v (.sc (.int .i64 r.2.2.1))), (.slot 18, .v (.sc (.bool r.2.2.2.1))), (.box (.own 2), .v (.sc (.arr .i64 2 r.2.2.2.2)))])
def LH11_5 (N : Nat) : St → (Ex → St → Option RT) → Option RT := fun s k => match mS sk11_5 s with
  | some [.I z0, .R z1, .I z2, .L z3] => (Lp11_5 N N (z0, z1, z2, z3)).bind (kk11_5 k)
  | _ => none
def X11 (N : Nat) : Env := { n := 39, K := K0, C := hSel 107 (H107 (D107 N)) (hSel 108 (H108 (D108 N)) (hSel 109 (H109 (D109 N)) (hSel 110 (H110 (D110 N)) (hNone)))), L := fun i s k => bif Nat.beq i 5 then LH11_5 N (normL (lp11 5) s) k else none, keep := kp11, lp := lp11 }
theorem st11_5 (N : Nat) (V : St → Option RT) (k : Ex → St → Option RT) (v : Int × List (List Int) × Int × List Int) : vexec (X11 N ) (findLoop 5 (loopsIn (bodyOf Try.f11))) (bS sk11_5 [.I v.1, .R v.2.1, .I v.2.2.1, .L v.2.2.2]) (vstep V (lp11 5) k) = L11_5 N v (fun v => V (bS sk11_5 [.I v.1, .R v.2.1, .I v.2.2.1, .L v.2.2.2])) (kk11_5 k) := by kernel_rfl
theorem q11_5 (N : Nat) (k : Ex → St → Option RT) : ∀ n (v : Int × List (List Int) × Int × List Int), vround (X11 N ) (findLoop 5 (loopsIn (bodyOf Try.f11))) 5 n (bS sk11_5 [.I v.1, .R v.2.1, .I v.2.2.1, .L v.2.2.2]) k = (Lp11_5 N n v).bind (kk11_5 k) := by
  intro n
  induction n with
  | zero => intro v; rfl
  | succ n ih =>
    intro v
    rw [vround_succ]
    refine (st11_5 N _ k v).trans ?_
    simp only [ih]
    exact L11_5_nat N v (Lp11_5 N n) (kk11_5 k)
theorem lh11_5 (N : Nat) : ∀ s k r, LH11_5 N s k = some r → vround (X11 N ) (findLoop 5 (loopsIn (bodyOf Try.f11))) 5 N s k = some r := by
  intro s k r h
  unfold LH11_5 at h
  split at h
  · rename_i z0 z1 z2 z3 hm
    rw [mS_bS hm]
    exact (q11_5 N k N (z0, z1, z2, z3)).trans h
  · cases h
theorem b11 (N : Nat) (a1 : Int) : vbody (X11 N ) Try.f11 (bodyOf Try.f11) [.sc (.int .i64 a1)] [] (fun rs bx => some ⟨rs, bx⟩) = T11 N a1 (fun r => some ⟨[.sc (.arr .i64 2 r.1), .sc (.bool r.2)], []⟩) := by kernel_rfl
theorem s11 (N : Nat) (a1 : Int) (r : List Int × Bool) (h : D11 N a1 = some r) : CallSpec Try.prog E0 11 [.sc (.int .i64 a1)] [] [.sc (.arr .i64 2 r.1), .sc (.bool r.2)] [] := by
  refine body_ok (X := X11 N ) (CR := CRG Try.prog E0) Try.func11 (code := bodyOf Try.f11) (by kernel_rfl) rfl (by decide) mixed0 tyok0 rfl contracts_ok (cs_sel (h107 (s107 N)) (cs_sel (h108 (s108 N)) (cs_sel (h109 (s109 N)) (cs_sel (h110 (s110 N)) (cs_none))))) (LoopsBy.of fun p hp => ?_) (by kernel_rfl) (Nat.le_of_ble_eq_true (by kernel_rfl)) ?_
  · rw [show loopsIn (bodyOf Try.f11) = [(5, findLoop 5 (loopsIn (bodyOf Try.f11)))] from by kernel_rfl] at hp
    simp only [List.mem_cons, List.not_mem_nil, or_false] at hp
    subst hp
    exact vround_of (fun s k => rfl) (by kernel_rfl) (lh11_5 N)
  · rw [b11, T11_nat, h]; rfl

/-! 212: loop.example/g01286/impl.isDrawn -/
def T212 {ρ : Type} (N : Nat) (a1 : Int) (k : Bool → Option ρ) : Option ρ :=
  bif (iLe (Int.ofNat 1) a1) then (
  k (iLe a1 (Int.ofNat 6)))
  else (
  k false)
def D212 (N : Nat) (a1 : Int) : Option (Bool) := T212 N a1 some
theorem T212_nat {ρ : Type} (N : Nat) (a1 : Int) (k : Bool → Option ρ) : T212 N a1 k = (D212 N a1).bind k := by
  unfold D212 T212
  simp only [Option.bind_assoc, bif_bind, elim_bind, Option.bind_some, Option.bind_none]
def H212 (D : Int → Option (Bool)) : Hd := fun az bx k => match az, bx with
  | [c0], [] => cI .i64 c0 fun y0 => (D y0).bind fun r => k [.sc (.bool r)] []
  | _, _ => none
theorem fnok212 : FnOK Try.prog 212 := ⟨Try.f212, Try.func212, rfl, by decide⟩
theorem h212 {D : Int → Option (Bool)} (hD : ∀ (y0 : Int), ∀ r, D y0 = some r → CallSpec Try.prog E0 212 [.sc (.int .i64 y0)] [] [.sc (.bool r)] []) : HSound Try.prog E0 212 (H212 D) := by
  intro az bx k r h
  unfold H212 at h
  split at h
  · rename_i c0
    obtain ⟨y0, l0, h⟩ := cI_some h
    obtain ⟨r, hr, h⟩ := Option.bind_eq_some_iff.1 h
    exact ⟨_, _, ⟨(hD y0 r hr).le ⟨l0, trivial⟩ trivial, fnok212, Nat.le_of_ble_eq_true rfl⟩, h⟩
  · cases h
def kp212 : Nat → List Tm.Loc := fun i => ([[.slot 0, .slot 6, .slot 7], [.slot 2]] : List (List Tm.Loc)).getD i []
def lp212 : Nat → LpS := fun i => default
def X212 (N : Nat) : Env := { n := 9, K := K0, C := hNone, L := fun i s k => none, keep := kp212, lp := lp212 }
theorem b212 (N : Nat) (a1 : Int) : vbody (X212 N ) Try.f212 (bodyOf Try.f212) [.sc (.int .i64 a1)] [] (fun rs bx => some ⟨rs, bx⟩) = T212 N a1 (fun r => some ⟨[.sc (.bool r)], []⟩) := by kernel_rfl
theorem s212 (N : Nat) (a1 : Int) (r : Bool) (h : D212 N a1 = some r) : CallSpec Try.prog E0 212 [.sc (.int .i64 a1)] [] [.sc (.bool r)] [] := by
  refine body_ok (X := X212 N ) (CR := CRG Try.prog E0) Try.func212 (code := bodyOf Try.f212) (by kernel_rfl) rfl (by decide) mixed0 tyok0 rfl contracts_ok (cs_none) (LoopsBy.of fun p hp => ?_) (by kernel_rfl) (Nat.le_of_ble_eq_true (by kernel_rfl)) ?_
  · rw [show loopsIn (bodyOf Try.f212) = [] from by kernel_rfl] at hp
    cases hp
  · rw [b212, T212_nat, h]; rfl

/-! 238: loop.example/g01286/impl.factorial -/
def L238_3 {ρ : Type} (N : Nat) (v : Int × Int × Int) (rec : (Int × Int × Int) → Option ρ) (k : ((Int × Int × Int × Bool)) → Option ρ) : Option ρ :=
  bif (iLe v.2.2 v.1) then (
  rec (v.1, (wrapF .i64 (v.2.1 * v.2.2)), (wrapF .i64 (v.2.2 + (Int.ofNat 1)))))
  else (
  k (v.1, v.2.1, v.2.2, (iLe v.2.2 v.1)))
def Lp238_3 (N : Nat) : Nat → (Int × Int × Int) → Option ((Int × Int × Int × Bool)) := fun n => Nat.rec (motive := fun _ => (Int × Int × Int) → Option ((Int × Int × Int × Bool))) (fun _ => none) (fun _ ih v => L238_3 N v ih some) n
theorem L238_3_nat {ρ : Type} (N : Nat) (v : Int × Int × Int) (rec : (Int × Int × Int) → Option ((Int × Int × Int × Bool))) (k : ((Int × Int × Int × Bool)) → Option ρ) : L238_3 N v (fun v => (rec v).bind k) k = (L238_3 N v rec some).bind k := by
  unfold L238_3
  simp only [Option.bind_assoc, bif_bind, elim_bind, Option.bind_some, Option.bind_none]
def T238 {ρ : Type} (N : Nat) (a1 : Int) (k : Int → Option ρ) : Option ρ :=
  (Lp238_3 N N (a1, (Int.ofNat 1), (Int.ofNat 2))).bind fun w2 =>
  k w2.2.1
def D238 (N : Nat) (a1 : Int) : Option (Int) := T238 N a1 some
theorem T238_nat {ρ : Type} (N : Nat) (a1 : Int) (k : Int → Option ρ) : T238 N a1 k = (D238 N a1).bind k := by
  unfold D238 T238
  simp only [Option.bind_assoc, bif_bind, elim_bind, Option.bind_some, Option.bind_none]
def H238 (D : Int → Option (Int)) : Hd := fun az bx k => match az, bx with
  | [c0], [] => cI .i64 c0 fun y0 => (D y0).bind fun r => k [.sc (.int .i64 r)] []
  | _, _ => none
theorem fnok238 : FnOK Try.prog 238 := ⟨Try.f238, Try.func238, rfl, by decide⟩
theorem h238 {D : Int → Option (Int)} (hD : ∀ (y0 : Int), ∀ r, D y0 = some r → CallSpec Try.prog E0 238 [.sc (.int .i64 y0)] [] [.sc (.int .i64 r)] []) : HSound Try.prog E0 238 (H238 D) := by
  intro az bx k r h
  unfold H238 at h
  split at h
  · rename_i c0
    obtain ⟨y0, l0, h⟩ := cI_some h
    obtain ⟨r, hr, h⟩ := Option.bind_eq_some_iff.1 h
    exact ⟨_, _, ⟨(hD y0 r hr).le ⟨l0, trivial⟩ trivial, fnok238, Nat.le_of_ble_eq_true rfl⟩, h⟩
  · cases h
def kp238 : Nat → List Tm.Loc := fun i => ([[.slot 0], [.slot 0, .slot 3], [.slot 0, .slot 3, .slot 4], [.slot 0, .slot 3, .slot 4, .slot 7], [.slot 0, .slot 3, .slot 4], [.slot 0, .slot 3, .slot 4], [.slot 2]] : List (List Tm.Loc)).getD i []
def lp238 : Nat → LpS := fun i => bif Nat.beq i 3 then ⟨[], [], [.slot 0, .slot 3, .slot 4]⟩ else default
def sk238_3 : List (Tm.Loc × SkV) := [(.slot 0, .int .i64), (.slot 3, .int .i64), (.slot 4, .int .i64)]
def kk238_3 (k : Ex → St → Option RT) : ((Int × Int × Int × Bool)) → Option RT := (fun r => k (.ext 0) [(.slot 7, .v (.sc (.bool false))), (.slot 0, .v (.sc (.int .i64 r.1))), (.slot 3, .v (.sc (.int .i64 r.2.1))), (.slot 4, .v (.sc (.int .i64 r.2.2.1))), (.slot 7, .v (.sc (.bool r.2.2.2)))])
def LH238_3 (N : Nat) : St → (Ex → St → Option RT) → Option RT := fun s k => match mS sk238_3 s with
  | some [.I z0, .I z1, .I z2] => (Lp238_3 N N (z0, z1, z2)).bind (kk238_3 k)
  | _ => none
def X238 (N : Nat) : Env := { n := 14, K := K0, C := hNone, L := fun i s k => bif Nat.beq i 3 then LH238_3 N (normL (lp238 3) s) k else none, keep := kp238, lp := lp238 }
theorem st238_3 (N : Nat) (V : St → Option RT) (k : Ex → St → Option RT) (v : Int × Int × Int) : vexec (X238 N ) (findLoop 3 (loopsIn (bodyOf Try.f238))) (bS sk238_3 [.I v.1, .I v.2.1, .I v.2.2]) (vstep V (lp238 3) k) = L238_3 N v (fun v => V (bS sk238_3 [.I v.1, .I v.2.1, .I v.2.2])) (kk238_3 k) := by kernel_rfl
theorem q238_3 (N : Nat) (k : Ex → St → Option RT) : ∀ n (v : Int × Int × Int), vround (X238 N ) (findLoop 3 (loopsIn (bodyOf Try.f238))) 3 n (bS sk238_3 [.I v.1, .I v.2.1, .I v.2.2]) k = (Lp238_3 N n v).bind (kk238_3 k) := by
  intro n
  induction n with
  | zero => intro v; rfl
  | succ n ih =>
    intro v
    rw [vround_succ]
    refine (st238_3 N _ k v).trans ?_
    simp only [ih]
    exact L238_3_nat N v (Lp238_3 N n) (kk238_3 k)
theorem lh238_3 (N : Nat) : ∀ s k r, LH238_3 N s k = some r → vround (X238 N ) (findLoop 3 (loopsIn (bodyOf Try.f238))) 3 N s k = some r := by
  intro s k r h
  unfold LH238_3 at h
  split at h
  · rename_i z0 z1 z2 hm
    rw [mS_bS hm]
    exact (q238_3 N k N (z0, z1, z2)).trans h
  · cases h
theorem b238 (N : Nat) (a1 : Int) : vbody (X238 N ) Try.f238 (bodyOf Try.f238) [.sc (.int .i64 a1)] [] (fun rs bx => some ⟨rs, bx⟩) = T238 N a1 (fun r => some ⟨[.sc (.int .i64 r)], []⟩) := by kernel_rfl
theorem s238 (N : Nat) (a1 : Int) (r : Int) (h : D238 N a1 = some r) : CallSpec Try.prog E0 238 [.sc (.int .i64 a1)] [] [.sc (.int .i64 r)] [] := by
  refine body_ok (X := X238 N ) (CR := CRG Try.prog E0) Try.func238 (code := bodyOf Try.f238) (by kernel_rfl) rfl (by decide) mixed0 tyok0 rfl contracts_ok (cs_none) (LoopsBy.of fun p hp => ?_) (by kernel_rfl) (Nat.le_of_ble_eq_true (by kernel_rfl)) ?_
  · rw [show loopsIn (bodyOf Try.f238) = [(3, findLoop 3 (loopsIn (bodyOf Try.f238)))] from by kernel_rfl] at hp
    simp only [List.mem_cons, List.not_mem_nil, or_false] at hp
    subst hp
    exact vround_of (fun s k => rfl) (by kernel_rfl) (lh238_3 N)
  · rw [b238, T238_nat, h]; rfl

/-! 234: loop.example/g01286/impl.sorted -/
def L234_3 {ρ : Type} (N : Nat) (v : List Int × Int × Int) (rec : (List Int × Int × Int) → Option ρ) (k : ((List Int × Int × Int × Bool)) → Option ρ) : Option ρ :=
  bif (iLt v.2.2 v.2.1) then (
  bif capB (List.length (v.1 ++ [(wrapF .i64 (v.2.2 + (Int.ofNat 1)))])) then (
  rec ((v.1 ++ [(wrapF .i64 (v.2.2 + (Int.ofNat 1)))]), v.2.1, (wrapF .i64 (v.2.2 + (Int.ofNat 1)))))
  else none)
  else (
  k (v.1, v.2.1, v.2.2, (iLt v.2.2 v.2.1)))
def Lp234_3 (N : Nat) : Nat → (List Int × Int × Int) → Option ((List Int × Int × Int × Bool)) := fun n => Nat.rec (motive := fun _ => (List Int × Int × Int) → Option ((List Int × Int × Int × Bool))) (fun _ => none) (fun _ ih v => L234_3 N v ih some) n
theorem L234_3_nat {ρ : Type} (N : Nat) (v : List Int × Int × Int) (rec : (List Int × Int × Int) → Option ((List Int × Int × Int × Bool))) (k : ((List Int × Int × Int × Bool)) → Option ρ) : L234_3 N v (fun v => (rec v).bind k) k = (L234_3 N v rec some).bind k := by
  unfold L234_3
  simp only [Option.bind_assoc, bif_bind, elim_bind, Option.bind_some, Option.bind_none]
def T234 {ρ : Type} (N : Nat) (a1 : Int) (k : (List Int) → Option ρ) : Option ρ :=
  (Lp234_3 N N ([], a1, (Int.ofNat 0))).bind fun w2 =>
  k w2.1
def D234 (N : Nat) (a1 : Int) : Option (List Int) := T234 N a1 some
theorem T234_nat {ρ : Type} (N : Nat) (a1 : Int) (k : (List Int) → Option ρ) : T234 N a1 k = (D234 N a1).bind k := by
  unfold D234 T234
  simp only [Option.bind_assoc, bif_bind, elim_bind, Option.bind_some, Option.bind_none]
def H234 (D : Int → Option (List Int)) : Hd := fun az bx k => match az, bx with
  | [c0], [] => cI .i64 c0 fun y0 => (D y0).bind fun r => k [.ow (.ints .i64 r)] []
  | _, _ => none
theorem fnok234 : FnOK Try.prog 234 := ⟨Try.f234, Try.func234, rfl, by decide⟩
theorem h234 {D : Int → Option (List Int)} (hD : ∀ (y0 : Int), ∀ r, D y0 = some r → CallSpec Try.prog E0 234 [.sc (.int .i64 y0)] [] [.ow (.ints .i64 r)] []) : HSound Try.prog E0 234 (H234 D) := by
  intro az bx k r h
  unfold H234 at h
  split at h
  · rename_i c0
    obtain ⟨y0, l0, h⟩ := cI_some h
    obtain ⟨r, hr, h⟩ := Option.bind_eq_some_iff.1 h
    exact ⟨_, _, ⟨(hD y0 r hr).le ⟨l0, trivial⟩ trivial, fnok234, Nat.le_of_ble_eq_true rfl⟩, h⟩
  · cases h
def kp234 : Nat → List Tm.Loc := fun i => ([[.slot 0], [.slot 0, .slot 3], [.slot 3, .slot 6, .slot 7], [.slot 3, .slot 6, .slot 7, .slot 8], [.slot 3, .slot 4, .slot 6, .slot 7], [.slot 3, .slot 6, .slot 7], [.slot 3, .slot 6, .slot 7], [.slot 2]] : List (List Tm.Loc)).getD i []
def lp234 : Nat → LpS := fun i => bif Nat.beq i 3 then ⟨[], [], [.slot 3, .slot 6, .slot 7]⟩ else default
def sk234_3 : List (Tm.Loc × SkV) := [(.slot 3, .rf 100000003), (.tok 100000003, .tI .i64), (.slot 6, .int .i64), (.slot 7, .int .i64)]
def kk234_3 (k : Ex → St → Option RT) : ((List Int × Int × Int × Bool)) → Option RT := (fun r => k (.ext 0) [(.slot 8, .v (.sc (.bool false))), (.slot 3, .v (.rf 100000003)), (.tok 100000003, .t 0 (.ints .i64 r.1)), (.slot 6, .v (.sc (.int .i64 r.2.1))), (.slot 7, .v (.sc (.int .i64 r.2.2.1))), (.slot 8, .v (.sc (.bool r.2.2.2)))])
def LH234_3 (N : Nat) : St → (Ex → St → Option RT) → Option RT := fun s k => match mS sk234_3 s with
  | some [.L z0, .I z1, .I z2] => (Lp234_3 N N (z0, z1, z2)).bind (kk234_3 k)
  | _ => none
def X234 (N : Nat) : Env := { n := 17, K := K0, C := hNone, L := fun i s k => bif Nat.beq i 3 then LH234_3 N (normL (lp234 3) s) k else none, keep := kp234, lp := lp234 }
theorem st234_3 (N : Nat) (V : St → Option RT) (k : Ex → St → Option RT) (v : List Int × Int × Int) : vexec (X234 N ) (findLoop 3 (loopsIn (bodyOf Try.f234))) (bS sk234_3 [.L v.1, .I v.2.1, .I v.2.2]) (vstep V (lp234 3) k) = L234_3 N v (fun v => V (bS sk234_3 [.L v.1, .I v.2.1, .I v.2.2])) (kk234_3 k) := by kernel_rfl
theorem q234_3 (N : Nat) (k : Ex → St → Option RT) : ∀ n (v : List Int × Int × Int), vround (X234 N ) (findLoop 3 (loopsIn (bodyOf Try.f234))) 3 n (bS sk234_3 [.L v.1, .I v.2.1, .I v.2.2]) k = (Lp234_3 N n v).bind (kk234_3 k) := by
  intro n
  induction n with
  | zero => intro v; rfl
  | succ n ih =>
    intro v
    rw [vround_succ]
    refine (st234_3 N _ k v).trans ?_
    simp only [ih]
    exact L234_3_nat N v (Lp234_3 N n) (kk234_3 k)
theorem lh234_3 (N : Nat) : ∀ s k r, LH234_3 N s k = some r → vround (X234 N ) (findLoop 3 (loopsIn (bodyOf Try.f234))) 3 N s k = some r := by
  intro s k r h
  unfold LH234_3 at h
  split at h
  · rename_i z0 z1 z2 hm
    rw [mS_bS hm]
    exact (q234_3 N k N (z0, z1, z2)).trans h
  · cases h
theorem b234 (N : Nat) (a1 : Int) : vbody (X234 N ) Try.f234 (bodyOf Try.f234) [.sc (.int .i64 a1)] [] (fun rs bx => some ⟨rs, bx⟩) = T234 N a1 (fun r => some ⟨[.ow (.ints .i64 r)], []⟩) := by kernel_rfl
theorem s234 (N : Nat) (a1 : Int) (r : List Int) (h : D234 N a1 = some r) : CallSpec Try.prog E0 234 [.sc (.int .i64 a1)] [] [.ow (.ints .i64 r)] [] := by
  refine body_ok (X := X234 N ) (CR := CRG Try.prog E0) Try.func234 (code := bodyOf Try.f234) (by kernel_rfl) rfl (by decide) mixed0 tyok0 rfl contracts_ok (cs_none) (LoopsBy.of fun p hp => ?_) (by kernel_rfl) (Nat.le_of_ble_eq_true (by kernel_rfl)) ?_
  · rw [show loopsIn (bodyOf Try.f234) = [(3, findLoop 3 (loopsIn (bodyOf Try.f234)))] from by kernel_rfl] at hp
    simp only [List.mem_cons, List.not_mem_nil, or_false] at hp
    subst hp
    exact vround_of (fun s k => rfl) (by kernel_rfl) (lh234_3 N)
  · rw [b234, T234_nat, h]; rfl

/-! 261: slices.Delete[[]int,int] -/
def ren_delete261 : Shelf.Ren := { f := fun _ => 261, t := fun k => bif Nat.beq k 0 then 0 else bif Nat.beq k 3 then 3 else bif Nat.beq k 4 then 4 else bif Nat.beq k 22 then 29 else 0, g := fun _ => 0 }
theorem lays_delete261 : Lays2.n23 Try.prog ren_delete261 := { mixed := mixed0, f23 := Try.func261, t0 := Try.underlying0, a0 := Try.isAgg0, z0 := Try.sizeOf0, v0 := Try.zeroValue0, t3 := Try.underlying3, a3 := Try.isAgg3, z3 := Try.sizeOf3, v3 := Try.zeroValue3, t4 := Try.underlying4, a4 := Try.isAgg4, z4 := Try.sizeOf4, v4 := Try.zeroValue4, t22 := Try.underlying29, a22 := Try.isAgg29, z22 := Try.sizeOf29, v22 := Try.zeroValue29, i3 := rfl }

def D261 (N : Nat) (a1 : List Int) (a2 a3 : Int) : Option (List Int) := DDelete a1 a2 a3
theorem s261 (N : Nat) (a1 : List Int) (a2 a3 : Int) (r : List Int) (h : D261 N a1 a2 a3 = some r) : CallSpec Try.prog E0 261 [.ow (.ints .i64 a1), .sc (.int .i64 a2), .sc (.int .i64 a3)] [] [.ow (.ints .i64 r)] [] := delete_ok (ρ := ren_delete261) lays_delete261 rfl a1 a2 a3 r h
def H261 (D : (List Int) → Int → Int → Option (List Int)) : Hd := fun az bx k => match az, bx with
  | [c0, c1, c2], [] => cLo .i64 c0 fun y0 => cI .i64 c1 fun y1 => cI .i64 c2 fun y2 => (D y0 y1 y2).bind fun r => k [.ow (.ints .i64 r)] []
  | _, _ => none
theorem fnok261 : FnOK Try.prog 261 := ⟨Try.f261, Try.func261, rfl, by decide⟩
theorem h261 {D : (List Int) → Int → Int → Option (List Int)} (hD : ∀ (y0 : List Int), ∀ (y1 : Int), ∀ (y2 : Int), ∀ r, D y0 y1 y2 = some r → CallSpec Try.prog E0 261 [.ow (.ints .i64 y0), .sc (.int .i64 y1), .sc (.int .i64 y2)] [] [.ow (.ints .i64 r)] []) : HSound Try.prog E0 261 (H261 D) := by
  intro az bx k r h
  unfold H261 at h
  split at h
  · rename_i c0 c1 c2
    obtain ⟨y0, l0, h⟩ := cLo_some h
    obtain ⟨y1, l1, h⟩ := cI_some h
    obtain ⟨y2, l2, h⟩ := cI_some h
    obtain ⟨r, hr, h⟩ := Option.bind_eq_some_iff.1 h
    exact ⟨_, _, ⟨(hD y0 y1 y2 r hr).le ⟨l0, ⟨l1, ⟨l2, trivial⟩⟩⟩ trivial, fnok261, Nat.le_of_ble_eq_true rfl⟩, h⟩
  · cases h

/-! 239: loop.example/g01286/impl.orderAt -/
def L239_2 {ρ : Type} (N : Nat) (v : Int × List Int × List Int) (rec : (Int × List Int × List Int) → Option ρ) (k : ((Int × List Int × List Int × Bool)) → Option ρ) : Option ρ :=
  bif (iLt (Int.ofNat 0) (Int.ofNat (List.length v.2.1))) then (
  (D238 N (wrapF .i64 ((Int.ofNat (List.length v.2.1)) - (Int.ofNat 1)))).bind fun r4 =>
  bif (!(iEq r4 (Int.ofNat 0))) then (
  bif (!(iEq r4 (Int.ofNat 0))) then (
  bif inB (wrapF .i64 (Int.tdiv v.1 r4)) (List.length v.2.1) then (
  bif capB (List.length (v.2.2 ++ [(List.getD v.2.1 (Int.toNat (wrapF .i64 (Int.tdiv v.1 r4))) (Int.ofNat 0))])) then (
  (D261 N v.2.1 (wrapF .i64 (Int.tdiv v.1 r4)) (wrapF .i64 ((wrapF .i64 (Int.tdiv v.1 r4)) + (Int.ofNat 1)))).bind fun r5 =>
  rec ((Int.tmod v.1 r4), r5, (v.2.2 ++ [(List.getD v.2.1 (Int.toNat (wrapF .i64 (Int.tdiv v.1 r4))) (Int.ofNat 0))])))
  else none)
  else none)
  else none)
  else none)
  else (
  k (v.1, v.2.1, v.2.2, (iLt (Int.ofNat 0) (Int.ofNat (List.length v.2.1)))))
def Lp239_2 (N : Nat) : Nat → (Int × List Int × List Int) → Option ((Int × List Int × List Int × Bool)) := fun n => Nat.rec (motive := fun _ => (Int × List Int × List Int) → Option ((Int × List Int × List Int × Bool))) (fun _ => none) (fun _ ih v => L239_2 N v ih some) n
theorem L239_2_nat {ρ : Type} (N : Nat) (v : Int × List Int × List Int) (rec : (Int × List Int × List Int) → Option ((Int × List Int × List Int × Bool))) (k : ((Int × List Int × List Int × Bool)) → Option ρ) : L239_2 N v (fun v => (rec v).bind k) k = (L239_2 N v rec some).bind k := by
  unfold L239_2
  simp only [Option.bind_assoc, bif_bind, elim_bind, Option.bind_some, Option.bind_none]
def T239 {ρ : Type} (N : Nat) (a1 : Int) (a2 : Int) (k : (List Int) → Option ρ) : Option ρ :=
  (D234 N a1).bind fun r3 =>
  (Lp239_2 N N (a2, r3, [])).bind fun w6 =>
  k w6.2.2.1
def D239 (N : Nat) (a1 : Int) (a2 : Int) : Option (List Int) := T239 N a1 a2 some
theorem T239_nat {ρ : Type} (N : Nat) (a1 : Int) (a2 : Int) (k : (List Int) → Option ρ) : T239 N a1 a2 k = (D239 N a1 a2).bind k := by
  unfold D239 T239
  simp only [Option.bind_assoc, bif_bind, elim_bind, Option.bind_some, Option.bind_none]
def H239 (D : Int → Int → Option (List Int)) : Hd := fun az bx k => match az, bx with
  | [c0, c1], [] => cI .i64 c0 fun y0 => cI .i64 c1 fun y1 => (D y0 y1).bind fun r => k [.ow (.ints .i64 r)] []
  | _, _ => none
theorem fnok239 : FnOK Try.prog 239 := ⟨Try.f239, Try.func239, rfl, by decide⟩
theorem h239 {D : Int → Int → Option (List Int)} (hD : ∀ (y0 : Int), ∀ (y1 : Int), ∀ r, D y0 y1 = some r → CallSpec Try.prog E0 239 [.sc (.int .i64 y0), .sc (.int .i64 y1)] [] [.ow (.ints .i64 r)] []) : HSound Try.prog E0 239 (H239 D) := by
  intro az bx k r h
  unfold H239 at h
  split at h
  · rename_i c0 c1
    obtain ⟨y0, l0, h⟩ := cI_some h
    obtain ⟨y1, l1, h⟩ := cI_some h
    obtain ⟨r, hr, h⟩ := Option.bind_eq_some_iff.1 h
    exact ⟨_, _, ⟨(hD y0 y1 r hr).le ⟨l0, ⟨l1, trivial⟩⟩ trivial, fnok239, Nat.le_of_ble_eq_true rfl⟩, h⟩
  · cases h
def kp239 : Nat → List Tm.Loc := fun i => ([[.slot 0, .slot 1], [.slot 1, .slot 5, .slot 6], [.slot 1, .slot 5, .slot 6, .slot 14], [.slot 1, .slot 5, .slot 6, .slot 7], [.slot 1, .slot 5, .slot 6, .slot 7, .slot 8], [.slot 1, .slot 5, .slot 6, .slot 8], [.slot 1, .slot 5, .slot 6, .slot 8], [.slot 1, .slot 5, .slot 6], [.slot 4]] : List (List Tm.Loc)).getD i []
def lp239 : Nat → LpS := fun i => bif Nat.beq i 2 then ⟨[], [], [.slot 1, .slot 5, .slot 6]⟩ else default
def sk239_2 : List (Tm.Loc × SkV) := [(.slot 1, .int .i64), (.slot 5, .rf 100000005), (.tok 100000005, .tI .i64), (.slot 6, .rf 100000006), (.tok 100000006, .tI .i64)]
def kk239_2 (k : Ex → St → Option RT) : ((Int × List Int × List Int × Bool)) → Option RT := (fun r => k (.ext 0) [(.slot 14, .v (.sc (.bool false))), (.slot 1, .v (.sc (.int .i64 r.1))), (.slot 5, .v (.rf 100000005)), (.tok 100000005, .t 0 (.ints .i64 r.2.1)), (.slot 6, .v (.rf 100000006)), (.tok 100000006, .t 0 (.ints .i64 r.2.2.1)), (.slot 14, .v (.sc (.bool r.2.2.2)))])
def LH239_2 (N : Nat) : St → (Ex → St → Option RT) → Option RT := fun s k => match mS sk239_2 s with
  | some [.I z0, .L z1, .L z2] => (Lp239_2 N N (z0, z1, z2)).bind (kk239_2 k)
  | _ => none
def X239 (N : Nat) : Env := { n := 38, K := K0, C := hSel 234 (H234 (D234 N)) (hSel 238 (H238 (D238 N)) (hSel 261 (H261 (D261 N)) (hNone))), L := fun i s k => bif Nat.beq i 2 then LH239_2 N (normL (lp239 2) s) k else none, keep := kp239, lp := lp239 }
theorem st239_2 (N : Nat) (V : St → Option RT) (k : Ex → St → Option RT) (v : Int × List Int × List Int) : vexec (X239 N ) (findLoop 2 (loopsIn (bodyOf Try.f239))) (bS sk239_2 [.I v.1, .L v.2.1, .L v.2.2]) (vstep V (lp239 2) k) = L239_2 N v (fun v => V (bS sk239_2 [.I v.1, .L v.2.1, .L v.2.2])) (kk239_2 k) := by kernel_rfl
theorem q239_2 (N : Nat) (k : Ex → St → Option RT) : ∀ n (v : Int × List Int × List Int), vround (X239 N ) (findLoop 2 (loopsIn (bodyOf Try.f239))) 2 n (bS sk239_2 [.I v.1, .L v.2.1, .L v.2.2]) k = (Lp239_2 N n v).bind (kk239_2 k) := by
  intro n
  induction n with
  | zero => intro v; rfl
  | succ n ih =>
    intro v
    rw [vround_succ]
    refine (st239_2 N _ k v).trans ?_
    simp only [ih]
    exact L239_2_nat N v (Lp239_2 N n) (kk239_2 k)
theorem lh239_2 (N : Nat) : ∀ s k r, LH239_2 N s k = some r → vround (X239 N ) (findLoop 2 (loopsIn (bodyOf Try.f239))) 2 N s k = some r := by
  intro s k r h
  unfold LH239_2 at h
  split at h
  · rename_i z0 z1 z2 hm
    rw [mS_bS hm]
    exact (q239_2 N k N (z0, z1, z2)).trans h
  · cases h
theorem b239 (N : Nat) (a1 : Int) (a2 : Int) : vbody (X239 N ) Try.f239 (bodyOf Try.f239) [.sc (.int .i64 a1), .sc (.int .i64 a2)] [] (fun rs bx => some ⟨rs, bx⟩) = T239 N a1 a2 (fun r => some ⟨[.ow (.ints .i64 r)], []⟩) := by kernel_rfl
theorem s239 (N : Nat) (a1 : Int) (a2 : Int) (r : List Int) (h : D239 N a1 a2 = some r) : CallSpec Try.prog E0 239 [.sc (.int .i64 a1), .sc (.int .i64 a2)] [] [.ow (.ints .i64 r)] [] := by
  refine body_ok (X := X239 N ) (CR := CRG Try.prog E0) Try.func239 (code := bodyOf Try.f239) (by kernel_rfl) rfl (by decide) mixed0 tyok0 rfl contracts_ok (cs_sel (h234 (s234 N)) (cs_sel (h238 (s238 N)) (cs_sel (h261 (s261 N)) (cs_none)))) (LoopsBy.of fun p hp => ?_) (by kernel_rfl) (Nat.le_of_ble_eq_true (by kernel_rfl)) ?_
  · rw [show loopsIn (bodyOf Try.f239) = [(2, findLoop 2 (loopsIn (bodyOf Try.f239)))] from by kernel_rfl] at hp
    simp only [List.mem_cons, List.not_mem_nil, or_false] at hp
    subst hp
    exact vround_of (fun s k => rfl) (by kernel_rfl) (lh239_2 N)
  · rw [b239, T239_nat, h]; rfl

/-! 186: loop.example/g01286/impl.allOrders -/
def L186_3 {ρ : Type} (N : Nat) (v : Int × List (List Int) × Int × Int) (rec : (Int × List (List Int) × Int × Int) → Option ρ) (k : ((Int × List (List Int) × Int × Int × Bool)) → Option ρ) : Option ρ :=
  bif (iLt v.2.2.2 v.2.2.1) then (
  (D239 N v.1 v.2.2.2).bind fun r3 =>
  bif capB (List.length (v.2.1 ++ [r3])) then (
  rec (v.1, (v.2.1 ++ [r3]), v.2.2.1, (wrapF .i64 (v.2.2.2 + (Int.ofNat 1)))))
  else none)
  else (
  k (v.1, v.2.1, v.2.2.1, v.2.2.2, (iLt v.2.2.2 v.2.2.1)))
def Lp186_3 (N : Nat) : Nat → (Int × List (List Int) × Int × Int) → Option ((Int × List (List Int) × Int × Int × Bool)) := fun n => Nat.rec (motive := fun _ => (Int × List (List Int) × Int × Int) → Option ((Int × List (List Int) × Int × Int × Bool))) (fun _ => none) (fun _ ih v => L186_3 N v ih some) n
theorem L186_3_nat {ρ : Type} (N : Nat) (v : Int × List (List Int) × Int × Int) (rec : (Int × List (List Int) × Int × Int) → Option ((Int × List (List Int) × Int × Int × Bool))) (k : ((Int × List (List Int) × Int × Int × Bool)) → Option ρ) : L186_3 N v (fun v => (rec v).bind k) k = (L186_3 N v rec some).bind k := by
  unfold L186_3
  simp only [Option.bind_assoc, bif_bind, elim_bind, Option.bind_some, Option.bind_none]
def T186 {ρ : Type} (N : Nat) (a1 : Int) (k : (List (List Int)) → Option ρ) : Option ρ :=
  (D238 N a1).bind fun r2 =>
  (Lp186_3 N N (a1, [], r2, (Int.ofNat 0))).bind fun w4 =>
  k w4.2.1
def D186 (N : Nat) (a1 : Int) : Option (List (List Int)) := T186 N a1 some
theorem T186_nat {ρ : Type} (N : Nat) (a1 : Int) (k : (List (List Int)) → Option ρ) : T186 N a1 k = (D186 N a1).bind k := by
  unfold D186 T186
  simp only [Option.bind_assoc, bif_bind, elim_bind, Option.bind_some, Option.bind_none]
def H186 (D : Int → Option (List (List Int))) : Hd := fun az bx k => match az, bx with
  | [c0], [] => cI .i64 c0 fun y0 => (D y0).bind fun r => k [.ow (.rows true r)] []
  | _, _ => none
theorem fnok186 : FnOK Try.prog 186 := ⟨Try.f186, Try.func186, rfl, by decide⟩
theorem h186 {D : Int → Option (List (List Int))} (hD : ∀ (y0 : Int), ∀ r, D y0 = some r → CallSpec Try.prog E0 186 [.sc (.int .i64 y0)] [] [.ow (.rows true r)] []) : HSound Try.prog E0 186 (H186 D) := by
  intro az bx k r h
  unfold H186 at h
  split at h
  · rename_i c0
    obtain ⟨y0, l0, h⟩ := cI_some h
    obtain ⟨r, hr, h⟩ := Option.bind_eq_some_iff.1 h
    exact ⟨_, _, ⟨(hD y0 r hr).le ⟨l0, trivial⟩ trivial, fnok186, Nat.le_of_ble_eq_true rfl⟩, h⟩
  · cases h
def kp186 : Nat → List Tm.Loc := fun i => ([[.slot 0], [.slot 0, .slot 3], [.slot 0, .slot 3, .slot 7, .slot 8], [.slot 0, .slot 3, .slot 7, .slot 8, .slot 9], [.slot 0, .slot 3, .slot 4, .slot 7, .slot 8], [.slot 0, .slot 3, .slot 7, .slot 8], [.slot 0, .slot 3, .slot 7, .slot 8], [.slot 2]] : List (List Tm.Loc)).getD i []
def lp186 : Nat → LpS := fun i => bif Nat.beq i 3 then ⟨[], [], [.slot 0, .slot 3, .slot 7, .slot 8]⟩ else default
def sk186_3 : List (Tm.Loc × SkV) := [(.slot 0, .int .i64), (.slot 3, .rf 100000003), (.tok 100000003, .tR true), (.slot 7, .int .i64), (.slot 8, .int .i64)]
def kk186_3 (k : Ex → St → Option RT) : ((Int × List (List Int) × Int × Int × Bool)) → Option RT := (fun r => k (.ext 0) [(.slot 9, .v (.sc (.bool false))), (.slot 0, .v (.sc (.int .i64 r.1))), (.slot 3, .v (.rf 100000003)), (.tok 100000003, .t 0 (.rows true r.2.1)), (.slot 7, .v (.sc (.int .i64 r.2.2.1))), (.slot 8, .v (.sc (.int .i64 r.2.2.2.1))), (.slot 9, .v (.sc (.bool r.2.2.2.2)))])
def LH186_3 (N : Nat) : St → (Ex → St → Option RT) → Option RT := fun s k => match mS sk186_3 s with
  | some [.I z0, .R z1, .I z2, .I z3] => (Lp186_3 N N (z0, z1, z2, z3)).bind (kk186_3 k)
  | _ => none
def X186 (N : Nat) : Env := { n := 19, K := K0, C := hSel 238 (H238 (D238 N)) (hSel 239 (H239 (D239 N)) (hNone)), L := fun i s k => bif Nat.beq i 3 then LH186_3 N (normL (lp186 3) s) k else none, keep := kp186, lp := lp186 }
theorem st186_3 (N : Nat) (V : St → Option RT) (k : Ex → St → Option RT) (v : Int × List (List Int) × Int × Int) : vexec (X186 N ) (findLoop 3 (loopsIn (bodyOf Try.f186))) (bS sk186_3 [.I v.1, .R v.2.1, .I v.2.2.1, .I v.2.2.2]) (vstep V (lp186 3) k) = L186_3 N v (fun v => V (bS sk186_3 [.I v.1, .R v.2.1, .I v.2.2.1, .I v.2.2.2])) (kk186_3 k) := by kernel_rfl
theorem q186_3 (N : Nat) (k : Ex → St → Option RT) : ∀ n (v : Int × List (List Int) × Int × Int), vround (X186 N ) (findLoop 3 (loopsIn (bodyOf Try.f186))) 3 n (bS sk186_3 [.I v.1, .R v.2.1, .I v.2.2.1, .I v.2.2.2]) k = (Lp186_3 N n v).bind (kk186_3 k) := by
  intro n
  induction n with
  | zero => intro v; rfl
  | succ n ih =>
    intro v
    rw [vround_succ]
    refine (st186_3 N _ k v).trans ?_
    simp only [ih]
    exact L186_3_nat N v (Lp186_3 N n) (kk186_3 k)
theorem lh186_3 (N : Nat) : ∀ s k r, LH186_3 N s k = some r → vround (X186 N ) (findLoop 3 (loopsIn (bodyOf Try.f186))) 3 N s k = some r := by
  intro s k r h
  unfold LH186_3 at h
  split at h
  · rename_i z0 z1 z2 z3 hm
    rw [mS_bS hm]
    exact (q186_3 N k N (z0, z1, z2, z3)).trans h
  · cases h
theorem b186 (N : Nat) (a1 : Int) : vbody (X186 N ) Try.f186 (bodyOf Try.f186) [.sc (.int .i64 a1)] [] (fun rs bx => some ⟨rs, bx⟩) = T186 N a1 (fun r => some ⟨[.ow (.rows true r)], []⟩) := by kernel_rfl
theorem s186 (N : Nat) (a1 : Int) (r : List (List Int)) (h : D186 N a1 = some r) : CallSpec Try.prog E0 186 [.sc (.int .i64 a1)] [] [.ow (.rows true r)] [] := by
  refine body_ok (X := X186 N ) (CR := CRG Try.prog E0) Try.func186 (code := bodyOf Try.f186) (by kernel_rfl) rfl (by decide) mixed0 tyok0 rfl contracts_ok (cs_sel (h238 (s238 N)) (cs_sel (h239 (s239 N)) (cs_none))) (LoopsBy.of fun p hp => ?_) (by kernel_rfl) (Nat.le_of_ble_eq_true (by kernel_rfl)) ?_
  · rw [show loopsIn (bodyOf Try.f186) = [(3, findLoop 3 (loopsIn (bodyOf Try.f186)))] from by kernel_rfl] at hp
    simp only [List.mem_cons, List.not_mem_nil, or_false] at hp
    subst hp
    exact vround_of (fun s k => rfl) (by kernel_rfl) (lh186_3 N)
  · rw [b186, T186_nat, h]; rfl

/-! 216: loop.example/g01286/impl.at -/
def L216_3 {ρ : Type} (N : Nat) (v : List Int × List Int × List Int × Int × Int) (rec : (List Int × List Int × List Int × Int × Int) → Option ρ) (k : ((List Int × List Int × List Int × Int × Int × Bool)) → Option ρ) : Option ρ :=
  bif (iLt v.2.2.2.2 v.2.2.2.1) then (
  bif inB v.2.2.2.2 (List.length v.2.2.1) then (
  bif inB (List.getD v.2.2.1 (Int.toNat v.2.2.2.2) (Int.ofNat 0)) (List.length v.1) then (
  bif capB (List.length (v.2.1 ++ [(List.getD v.1 (Int.toNat (List.getD v.2.2.1 (Int.toNat v.2.2.2.2) (Int.ofNat 0))) (Int.ofNat 0))])) then (
  rec (v.1, (v.2.1 ++ [(List.getD v.1 (Int.toNat (List.getD v.2.2.1 (Int.toNat v.2.2.2.2) (Int.ofNat 0))) (Int.ofNat 0))]), v.2.2.1, v.2.2.2.1, (wrapF .i64 (v.2.2.2.2 + (Int.ofNat 1)))))
  else none)
  else none)
  else none)
  else (
  k (v.1, v.2.1, v.2.2.1, v.2.2.2.1, v.2.2.2.2, (iLt v.2.2.2.2 v.2.2.2.1)))
def Lp216_3 (N : Nat) : Nat → (List Int × List Int × List Int × Int × Int) → Option ((List Int × List Int × List Int × Int × Int × Bool)) := fun n => Nat.rec (motive := fun _ => (List Int × List Int × List Int × Int × Int) → Option ((List Int × List Int × List Int × Int × Int × Bool))) (fun _ => none) (fun _ ih v => L216_3 N v ih some) n
theorem L216_3_nat {ρ : Type} (N : Nat) (v : List Int × List Int × List Int × Int × Int) (rec : (List Int × List Int × List Int × Int × Int) → Option ((List Int × List Int × List Int × Int × Int × Bool))) (k : ((List Int × List Int × List Int × Int × Int × Bool)) → Option ρ) : L216_3 N v (fun v => (rec v).bind k) k = (L216_3 N v rec some).bind k := by
  unfold L216_3
  simp only [Option.bind_assoc, bif_bind, elim_bind, Option.bind_some, Option.bind_none]
def T216 {ρ : Type} (N : Nat) (a1 : List Int) (a2 : List Int) (k : (List Int) → Option ρ) : Option ρ :=
  (Lp216_3 N N (a1, [], a2, (Int.ofNat (List.length a2)), (Int.ofNat 0))).bind fun w3 =>
  k w3.2.1
def D216 (N : Nat) (a1 : List Int) (a2 : List Int) : Option (List Int) := T216 N a1 a2 some
theorem T216_nat {ρ : Type} (N : Nat) (a1 : List Int) (a2 : List Int) (k : (List Int) → Option ρ) : T216 N a1 a2 k = (D216 N a1 a2).bind k := by
  unfold D216 T216
  simp only [Option.bind_assoc, bif_bind, elim_bind, Option.bind_some, Option.bind_none]
def H216 (D : (List Int) → (List Int) → Option (List Int)) : Hd := fun az bx k => match az, bx with
  | [c0, c1], [] => cL .i64 c0 fun y0 => cL .i64 c1 fun y1 => (D y0 y1).bind fun r => k [.ow (.ints .i64 r)] []
  | _, _ => none
theorem fnok216 : FnOK Try.prog 216 := ⟨Try.f216, Try.func216, rfl, by decide⟩
theorem h216 {D : (List Int) → (List Int) → Option (List Int)} (hD : ∀ (y0 : List Int), ∀ (y1 : List Int), ∀ r, D y0 y1 = some r → CallSpec Try.prog E0 216 [.sc (.ints .i64 y0), .sc (.ints .i64 y1)] [] [.ow (.ints .i64 r)] []) : HSound Try.prog E0 216 (H216 D) := by
  intro az bx k r h
  unfold H216 at h
  split at h
  · rename_i c0 c1
    obtain ⟨y0, l0, h⟩ := cL_some h
    obtain ⟨y1, l1, h⟩ := cL_some h
    obtain ⟨r, hr, h⟩ := Option.bind_eq_some_iff.1 h
    exact ⟨_, _, ⟨(hD y0 y1 r hr).le ⟨l0, ⟨l1, trivial⟩⟩ trivial, fnok216, Nat.le_of_ble_eq_true rfl⟩, h⟩
  · cases h
def kp216 : Nat → List Tm.Loc := fun i => ([[.slot 0, .slot 1], [.slot 0, .slot 1, .slot 5], [.slot 0, .slot 5, .slot 9, .slot 10, .slot 11], [.slot 0, .slot 5, .slot 9, .slot 10, .slot 11, .slot 12], [.slot 0, .slot 5, .slot 7, .slot 9, .slot 10, .slot 11], [.slot 0, .slot 5, .slot 9, .slot 10, .slot 11], [.slot 0, .slot 5, .slot 9, .slot 10, .slot 11], [.slot 4]] : List (List Tm.Loc)).getD i []
def lp216 : Nat → LpS := fun i => bif Nat.beq i 3 then ⟨[], [], [.slot 0, .slot 5, .slot 9, .slot 10, .slot 11]⟩ else default
def sk216_3 : List (Tm.Loc × SkV) := [(.slot 0, .ints .i64), (.slot 5, .rf 100000005), (.tok 100000005, .tI .i64), (.slot 9, .ints .i64), (.slot 10, .int .i64), (.slot 11, .int .i64)]
def kk216_3 (k : Ex → St → Option RT) : ((List Int × List Int × List Int × Int × Int × Bool)) → Option RT := (fun r => k (.ext 0) [(.slot 12, .v (.sc (.bool false))), (.slot 0, .v (.sc (.ints .i64 r.1))), (.slot 5, .v (.rf 100000005)), (.tok 100000005, .t 0 (.ints .i64 r.2.1)), (.slot 9, .v (.sc (.ints .i64 r.2.2.1))), (.slot 10, .v (.sc (.int .i64 r.2.2.2.1))), (.slot 11, .v (.sc (.int .i64 r.2.2.2.2.1))), (.slot 12, .v (.sc (.bool r.2.2.2.2.2)))])
def LH216_3 (N : Nat) : St → (Ex → St → Option RT) → Option RT := fun s k => match mS sk216_3 s with
  | some [.L z0, .L z1, .L z2, .I z3, .I z4] => (Lp216_3 N N (z0, z1, z2, z3, z4)).bind (kk216_3 k)
  | _ => none
def X216 (N : Nat) : Env := { n := 24, K := K0, C := hNone, L := fun i s k => bif Nat.beq i 3 then LH216_3 N (normL (lp216 3) s) k else none, keep := kp216, lp := lp216 }
theorem st216_3 (N : Nat) (V : St → Option RT) (k : Ex → St → Option RT) (v : List Int × List Int × List Int × Int × Int) : vexec (X216 N ) (findLoop 3 (loopsIn (bodyOf Try.f216))) (bS sk216_3 [.L v.1, .L v.2.1, .L v.2.2.1, .I v.2.2.2.1, .I v.2.2.2.2]) (vstep V (lp216 3) k) = L216_3 N v (fun v => V (bS sk216_3 [.L v.1, .L v.2.1, .L v.2.2.1, .I v.2.2.2.1, .I v.2.2.2.2])) (kk216_3 k) := by kernel_rfl
theorem q216_3 (N : Nat) (k : Ex → St → Option RT) : ∀ n (v : List Int × List Int × List Int × Int × Int), vround (X216 N ) (findLoop 3 (loopsIn (bodyOf Try.f216))) 3 n (bS sk216_3 [.L v.1, .L v.2.1, .L v.2.2.1, .I v.2.2.2.1, .I v.2.2.2.2]) k = (Lp216_3 N n v).bind (kk216_3 k) := by
  intro n
  induction n with
  | zero => intro v; rfl
  | succ n ih =>
    intro v
    rw [vround_succ]
    refine (st216_3 N _ k v).trans ?_
    simp only [ih]
    exact L216_3_nat N v (Lp216_3 N n) (kk216_3 k)
theorem lh216_3 (N : Nat) : ∀ s k r, LH216_3 N s k = some r → vround (X216 N ) (findLoop 3 (loopsIn (bodyOf Try.f216))) 3 N s k = some r := by
  intro s k r h
  unfold LH216_3 at h
  split at h
  · rename_i z0 z1 z2 z3 z4 hm
    rw [mS_bS hm]
    exact (q216_3 N k N (z0, z1, z2, z3, z4)).trans h
  · cases h
theorem b216 (N : Nat) (a1 : List Int) (a2 : List Int) : vbody (X216 N ) Try.f216 (bodyOf Try.f216) [.sc (.ints .i64 a1), .sc (.ints .i64 a2)] [] (fun rs bx => some ⟨rs, bx⟩) = T216 N a1 a2 (fun r => some ⟨[.ow (.ints .i64 r)], []⟩) := by kernel_rfl
theorem s216 (N : Nat) (a1 : List Int) (a2 : List Int) (r : List Int) (h : D216 N a1 a2 = some r) : CallSpec Try.prog E0 216 [.sc (.ints .i64 a1), .sc (.ints .i64 a2)] [] [.ow (.ints .i64 r)] [] := by
  refine body_ok (X := X216 N ) (CR := CRG Try.prog E0) Try.func216 (code := bodyOf Try.f216) (by kernel_rfl) rfl (by decide) mixed0 tyok0 rfl contracts_ok (cs_none) (LoopsBy.of fun p hp => ?_) (by kernel_rfl) (Nat.le_of_ble_eq_true (by kernel_rfl)) ?_
  · rw [show loopsIn (bodyOf Try.f216) = [(3, findLoop 3 (loopsIn (bodyOf Try.f216)))] from by kernel_rfl] at hp
    simp only [List.mem_cons, List.not_mem_nil, or_false] at hp
    subst hp
    exact vround_of (fun s k => rfl) (by kernel_rfl) (lh216_3 N)
  · rw [b216, T216_nat, h]; rfl

/-! 272: cmp.isNaN[int] -/
def T272 {ρ : Type} (N : Nat) (a1 : Int) (k : Bool → Option ρ) : Option ρ :=
  k (!(iEq a1 a1))
def D272 (N : Nat) (a1 : Int) : Option (Bool) := T272 N a1 some
theorem T272_nat {ρ : Type} (N : Nat) (a1 : Int) (k : Bool → Option ρ) : T272 N a1 k = (D272 N a1).bind k := by
  unfold D272 T272
  simp only [Option.bind_assoc, bif_bind, elim_bind, Option.bind_some, Option.bind_none]
def H272 (D : Int → Option (Bool)) : Hd := fun az bx k => match az, bx with
  | [c0], [] => cI .i64 c0 fun y0 => (D y0).bind fun r => k [.sc (.bool r)] []
  | _, _ => none
theorem fnok272 : FnOK Try.prog 272 := ⟨Try.f272, Try.func272, rfl, by decide⟩
theorem h272 {D : Int → Option (Bool)} (hD : ∀ (y0 : Int), ∀ r, D y0 = some r → CallSpec Try.prog E0 272 [.sc (.int .i64 y0)] [] [.sc (.bool r)] []) : HSound Try.prog E0 272 (H272 D) := by
  intro az bx k r h
  unfold H272 at h
  split at h
  · rename_i c0
    obtain ⟨y0, l0, h⟩ := cI_some h
    obtain ⟨r, hr, h⟩ := Option.bind_eq_some_iff.1 h
    exact ⟨_, _, ⟨(hD y0 r hr).le ⟨l0, trivial⟩ trivial, fnok272, Nat.le_of_ble_eq_true rfl⟩, h⟩
  · cases h
def kp272 : Nat → List Tm.Loc := fun i => ([[.slot 0], [.slot 2]] : List (List Tm.Loc)).getD i []
def lp272 : Nat → LpS := fun i => default
def X272 (N : Nat) : Env := { n := 6, K := K0, C := hNone, L := fun i s k => none, keep := kp272, lp := lp272 }
theorem b272 (N : Nat) (a1 : Int) : vbody (X272 N ) Try.f272 (bodyOf Try.f272) [.sc (.int .i64 a1)] [] (fun rs bx => some ⟨rs, bx⟩) = T272 N a1 (fun r => some ⟨[.sc (.bool r)], []⟩) := by kernel_rfl
theorem s272 (N : Nat) (a1 : Int) (r : Bool) (h : D272 N a1 = some r) : CallSpec Try.prog E0 272 [.sc (.int .i64 a1)] [] [.sc (.bool r)] [] := by
  refine body_ok (X := X272 N ) (CR := CRG Try.prog E0) Try.func272 (code := bodyOf Try.f272) (by kernel_rfl) rfl (by decide) mixed0 tyok0 rfl contracts_ok (cs_none) (LoopsBy.of fun p hp => ?_) (by kernel_rfl) (Nat.le_of_ble_eq_true (by kernel_rfl)) ?_
  · rw [show loopsIn (bodyOf Try.f272) = [] from by kernel_rfl] at hp
    cases hp
  · rw [b272, T272_nat, h]; rfl

/-! 254: cmp.Less[int] -/
def T254 {ρ : Type} (N : Nat) (a1 : Int) (a2 : Int) (k : Bool → Option ρ) : Option ρ :=
  (D272 N a1).bind fun r3 =>
  bif r3 then (
  (D272 N a2).bind fun r4 =>
  bif (!(!r4)) then (
  k (iLt a1 a2))
  else (
  k true))
  else (
  k (iLt a1 a2))
def D254 (N : Nat) (a1 : Int) (a2 : Int) : Option (Bool) := T254 N a1 a2 some
theorem T254_nat {ρ : Type} (N : Nat) (a1 : Int) (a2 : Int) (k : Bool → Option ρ) : T254 N a1 a2 k = (D254 N a1 a2).bind k := by
  unfold D254 T254
  simp only [Option.bind_assoc, bif_bind, elim_bind, Option.bind_some, Option.bind_none]
def H254 (D : Int → Int → Option (Bool)) : Hd := fun az bx k => match az, bx with
  | [c0, c1], [] => cI .i64 c0 fun y0 => cI .i64 c1 fun y1 => (D y0 y1).bind fun r => k [.sc (.bool r)] []
  | _, _ => none
theorem fnok254 : FnOK Try.prog 254 := ⟨Try.f254, Try.func254, rfl, by decide⟩
theorem h254 {D : Int → Int → Option (Bool)} (hD : ∀ (y0 : Int), ∀ (y1 : Int), ∀ r, D y0 y1 = some r → CallSpec Try.prog E0 254 [.sc (.int .i64 y0), .sc (.int .i64 y1)] [] [.sc (.bool r)] []) : HSound Try.prog E0 254 (H254 D) := by
  intro az bx k r h
  unfold H254 at h
  split at h
  · rename_i c0 c1
    obtain ⟨y0, l0, h⟩ := cI_some h
    obtain ⟨y1, l1, h⟩ := cI_some h
    obtain ⟨r, hr, h⟩ := Option.bind_eq_some_iff.1 h
    exact ⟨_, _, ⟨(hD y0 y1 r hr).le ⟨l0, ⟨l1, trivial⟩⟩ trivial, fnok254, Nat.le_of_ble_eq_true rfl⟩, h⟩
  · cases h
def kp254 : Nat → List Tm.Loc := fun i => ([[.slot 0, .slot 1, .slot 8, .slot 9, .slot 10, .slot 13, .slot 14, .slot 15], [.slot 4]] : List (List Tm.Loc)).getD i []
def lp254 : Nat → LpS := fun i => default
def X254 (N : Nat) : Env := { n := 17, K := K0, C := hSel 272 (H272 (D272 N)) (hNone), L := fun i s k => none, keep := kp254, lp := lp254 }
theorem b254 (N : Nat) (a1 : Int) (a2 : Int) : vbody (X254 N ) Try.f254 (bodyOf Try.f254) [.sc (.int .i64 a1), .sc (.int .i64 a2)] [] (fun rs bx => some ⟨rs, bx⟩) = T254 N a1 a2 (fun r => some ⟨[.sc (.bool r)], []⟩) := by kernel_rfl
theorem s254 (N : Nat) (a1 : Int) (a2 : Int) (r : Bool) (h : D254 N a1 a2 = some r) : CallSpec Try.prog E0 254 [.sc (.int .i64 a1), .sc (.int .i64 a2)] [] [.sc (.bool r)] [] := by
  refine body_ok (X := X254 N ) (CR := CRG Try.prog E0) Try.func254 (code := bodyOf Try.f254) (by kernel_rfl) rfl (by decide) mixed0 tyok0 rfl contracts_ok (cs_sel (h272 (s272 N)) (cs_none)) (LoopsBy.of fun p hp => ?_) (by kernel_rfl) (Nat.le_of_ble_eq_true (by kernel_rfl)) ?_
  · rw [show loopsIn (bodyOf Try.f254) = [] from by kernel_rfl] at hp
    cases hp
  · rw [b254, T254_nat, h]; rfl

/-! 219: slices.IsSorted[[]int,int] -/
def L219_2 {ρ : Type} (N : Nat) (v : List Int × Int) (rec : (List Int × Int) → Option ρ) (k : (Unit ⊕ (List Int × Int × Bool)) → Option ρ) : Option ρ :=
  bif (iLt (Int.ofNat 0) v.2) then (
  bif inB v.2 (List.length v.1) then (
  bif inB (wrapF .i64 (v.2 - (Int.ofNat 1))) (List.length v.1) then (
  (D254 N (List.getD v.1 (Int.toNat v.2) (Int.ofNat 0)) (List.getD v.1 (Int.toNat (wrapF .i64 (v.2 - (Int.ofNat 1)))) (Int.ofNat 0))).bind fun r2 =>
  bif r2 then (
  k (.inl (())))
  else (
  rec (v.1, (wrapF .i64 (v.2 - (Int.ofNat 1))))))
  else none)
  else none)
  else (
  k (.inr ((v.1, v.2, (iLt (Int.ofNat 0) v.2)))))
def Lp219_2 (N : Nat) : Nat → (List Int × Int) → Option (Unit ⊕ (List Int × Int × Bool)) := fun n => Nat.rec (motive := fun _ => (List Int × Int) → Option (Unit ⊕ (List Int × Int × Bool))) (fun _ => none) (fun _ ih v => L219_2 N v ih some) n
theorem L219_2_nat {ρ : Type} (N : Nat) (v : List Int × Int) (rec : (List Int × Int) → Option (Unit ⊕ (List Int × Int × Bool))) (k : (Unit ⊕ (List Int × Int × Bool)) → Option ρ) : L219_2 N v (fun v => (rec v).bind k) k = (L219_2 N v rec some).bind k := by
  unfold L219_2
  simp only [Option.bind_assoc, bif_bind, elim_bind, Option.bind_some, Option.bind_none]
def T219 {ρ : Type} (N : Nat) (a1 : List Int) (k : Bool → Option ρ) : Option ρ :=
  (Lp219_2 N N (a1, (wrapF .i64 ((Int.ofNat (List.length a1)) - (Int.ofNat 1))))).bind (Sum.elim (fun _ =>
  k false) (fun w4 =>
  k true))
def D219 (N : Nat) (a1 : List Int) : Option (Bool) := T219 N a1 some
theorem T219_nat {ρ : Type} (N : Nat) (a1 : List Int) (k : Bool → Option ρ) : T219 N a1 k = (D219 N a1).bind k := by
  unfold D219 T219
  simp only [Option.bind_assoc, bif_bind, elim_bind, Option.bind_some, Option.bind_none]
def H219 (D : (List Int) → Option (Bool)) : Hd := fun az bx k => match az, bx with
  | [c0], [] => cL .i64 c0 fun y0 => (D y0).bind fun r => k [.sc (.bool r)] []
  | _, _ => none
theorem fnok219 : FnOK Try.prog 219 := ⟨Try.f219, Try.func219, rfl, by decide⟩
theorem h219 {D : (List Int) → Option (Bool)} (hD : ∀ (y0 : List Int), ∀ r, D y0 = some r → CallSpec Try.prog E0 219 [.sc (.ints .i64 y0)] [] [.sc (.bool r)] []) : HSound Try.prog E0 219 (H219 D) := by
  intro az bx k r h
  unfold H219 at h
  split at h
  · rename_i c0
    obtain ⟨y0, l0, h⟩ := cL_some h
    obtain ⟨r, hr, h⟩ := Option.bind_eq_some_iff.1 h
    exact ⟨_, _, ⟨(hD y0 r hr).le ⟨l0, trivial⟩ trivial, fnok219, Nat.le_of_ble_eq_true rfl⟩, h⟩
  · cases h
def kp219 : Nat → List Tm.Loc := fun i => ([[.slot 0], [.slot 0, .slot 3], [.slot 0, .slot 3, .slot 8], [.slot 0, .slot 3], [.slot 0, .slot 3, .slot 20], [.slot 2], [.slot 2]] : List (List Tm.Loc)).getD i []
def lp219 : Nat → LpS := fun i => bif Nat.beq i 2 then ⟨[], [], [.slot 0, .slot 3]⟩ else default
def sk219_2 : List (Tm.Loc × SkV) := [(.slot 0, .ints .i64), (.slot 3, .int .i64)]
def kk219_2 (k : Ex → St → Option RT) : (Unit ⊕ (List Int × Int × Bool)) → Option RT := (Sum.elim (fun r => k .ret [(.slot 2, .v (.sc (.bool false)))]) (fun r => k (.ext 0) [(.slot 8, .v (.sc (.bool false))), (.slot 0, .v (.sc (.ints .i64 r.1))), (.slot 3, .v (.sc (.int .i64 r.2.1))), (.slot 8, .v (.sc (.bool r.2.2)))]))
def LH219_2 (N : Nat) : St → (Ex → St → Option RT) → Option RT := fun s k => match mS sk219_2 s with
  | some [.L z0, .I z1] => (Lp219_2 N N (z0, z1)).bind (kk219_2 k)
  | _ => none
def X219 (N : Nat) : Env := { n := 21, K := K0, C := hSel 254 (H254 (D254 N)) (hNone), L := fun i s k => bif Nat.beq i 2 then LH219_2 N (normL (lp219 2) s) k else none, keep := kp219, lp := lp219 }
theorem st219_2 (N : Nat) (V : St → Option RT) (k : Ex → St → Option RT) (v : List Int × Int) : vexec (X219 N ) (findLoop 2 (loopsIn (bodyOf Try.f219))) (bS sk219_2 [.L v.1, .I v.2]) (vstep V (lp219 2) k) = L219_2 N v (fun v => V (bS sk219_2 [.L v.1, .I v.2])) (kk219_2 k) := by kernel_rfl
theorem q219_2 (N : Nat) (k : Ex → St → Option RT) : ∀ n (v : List Int × Int), vround (X219 N ) (findLoop 2 (loopsIn (bodyOf Try.f219))) 2 n (bS sk219_2 [.L v.1, .I v.2]) k = (Lp219_2 N n v).bind (kk219_2 k) := by
  intro n
  induction n with
  | zero => intro v; rfl
  | succ n ih =>
    intro v
    rw [vround_succ]
    refine (st219_2 N _ k v).trans ?_
    simp only [ih]
    exact L219_2_nat N v (Lp219_2 N n) (kk219_2 k)
theorem lh219_2 (N : Nat) : ∀ s k r, LH219_2 N s k = some r → vround (X219 N ) (findLoop 2 (loopsIn (bodyOf Try.f219))) 2 N s k = some r := by
  intro s k r h
  unfold LH219_2 at h
  split at h
  · rename_i z0 z1 hm
    rw [mS_bS hm]
    exact (q219_2 N k N (z0, z1)).trans h
  · cases h
theorem b219 (N : Nat) (a1 : List Int) : vbody (X219 N ) Try.f219 (bodyOf Try.f219) [.sc (.ints .i64 a1)] [] (fun rs bx => some ⟨rs, bx⟩) = T219 N a1 (fun r => some ⟨[.sc (.bool r)], []⟩) := by kernel_rfl
theorem s219 (N : Nat) (a1 : List Int) (r : Bool) (h : D219 N a1 = some r) : CallSpec Try.prog E0 219 [.sc (.ints .i64 a1)] [] [.sc (.bool r)] [] := by
  refine body_ok (X := X219 N ) (CR := CRG Try.prog E0) Try.func219 (code := bodyOf Try.f219) (by kernel_rfl) rfl (by decide) mixed0 tyok0 rfl contracts_ok (cs_sel (h254 (s254 N)) (cs_none)) (LoopsBy.of fun p hp => ?_) (by kernel_rfl) (Nat.le_of_ble_eq_true (by kernel_rfl)) ?_
  · rw [show loopsIn (bodyOf Try.f219) = [(2, findLoop 2 (loopsIn (bodyOf Try.f219)))] from by kernel_rfl] at hp
    simp only [List.mem_cons, List.not_mem_nil, or_false] at hp
    subst hp
    exact vround_of (fun s k => rfl) (by kernel_rfl) (lh219_2 N)
  · rw [b219, T219_nat, h]; rfl

/-! 114: loop.example/g01286/impl.isSorted -/
def T114 {ρ : Type} (N : Nat) (a1 : List Int) (k : Bool → Option ρ) : Option ρ :=
  (D219 N a1).bind fun r2 =>
  k r2
def D114 (N : Nat) (a1 : List Int) : Option (Bool) := T114 N a1 some
theorem T114_nat {ρ : Type} (N : Nat) (a1 : List Int) (k : Bool → Option ρ) : T114 N a1 k = (D114 N a1).bind k := by
  unfold D114 T114
  simp only [Option.bind_assoc, bif_bind, elim_bind, Option.bind_some, Option.bind_none]
def H114 (D : (List Int) → Option (Bool)) : Hd := fun az bx k => match az, bx with
  | [c0], [] => cL .i64 c0 fun y0 => (D y0).bind fun r => k [.sc (.bool r)] []
  | _, _ => none
theorem fnok114 : FnOK Try.prog 114 := ⟨Try.f114, Try.func114, rfl, by decide⟩
theorem h114 {D : (List Int) → Option (Bool)} (hD : ∀ (y0 : List Int), ∀ r, D y0 = some r → CallSpec Try.prog E0 114 [.sc (.ints .i64 y0)] [] [.sc (.bool r)] []) : HSound Try.prog E0 114 (H114 D) := by
  intro az bx k r h
  unfold H114 at h
  split at h
  · rename_i c0
    obtain ⟨y0, l0, h⟩ := cL_some h
    obtain ⟨r, hr, h⟩ := Option.bind_eq_some_iff.1 h
    exact ⟨_, _, ⟨(hD y0 r hr).le ⟨l0, trivial⟩ trivial, fnok114, Nat.le_of_ble_eq_true rfl⟩, h⟩
  · cases h
def kp114 : Nat → List Tm.Loc := fun i => ([[.slot 0], [.slot 2]] : List (List Tm.Loc)).getD i []
def lp114 : Nat → LpS := fun i => default
def X114 (N : Nat) : Env := { n := 5, K := K0, C := hSel 219 (H219 (D219 N)) (hNone), L := fun i s k => none, keep := kp114, lp := lp114 }
theorem b114 (N : Nat) (a1 : List Int) : vbody (X114 N ) Try.f114 (bodyOf Try.f114) [.sc (.ints .i64 a1)] [] (fun rs bx => some ⟨rs, bx⟩) = T114 N a1 (fun r => some ⟨[.sc (.bool r)], []⟩) := by kernel_rfl
theorem s114 (N : Nat) (a1 : List Int) (r : Bool) (h : D114 N a1 = some r) : CallSpec Try.prog E0 114 [.sc (.ints .i64 a1)] [] [.sc (.bool r)] [] := by
  refine body_ok (X := X114 N ) (CR := CRG Try.prog E0) Try.func114 (code := bodyOf Try.f114) (by kernel_rfl) rfl (by decide) mixed0 tyok0 rfl contracts_ok (cs_sel (h219 (s219 N)) (cs_none)) (LoopsBy.of fun p hp => ?_) (by kernel_rfl) (Nat.le_of_ble_eq_true (by kernel_rfl)) ?_
  · rw [show loopsIn (bodyOf Try.f114) = [] from by kernel_rfl] at hp
    cases hp
  · rw [b114, T114_nat, h]; rfl

/-! 215: loop.example/g01286/impl.longest$1 -/
def T215 {ρ : Type} (N : Nat) (a1 : List Int) (a2 : List Int) (a3 : List (List Int)) (k : (Bool × List Int × List (List Int)) → Option ρ) : Option ρ :=
  (D216 N a2 a1).bind fun r4 =>
  (D114 N r4).bind fun r5 =>
  bif r5 then (
  bif capB (List.length (a3 ++ [r4])) then (
  k (false, a2, (a3 ++ [r4])))
  else none)
  else (
  k (false, a2, a3))
def D215 (N : Nat) (a1 : List Int) (a2 : List Int) (a3 : List (List Int)) : Option (Bool × List Int × List (List Int)) := T215 N a1 a2 a3 some
theorem T215_nat {ρ : Type} (N : Nat) (a1 : List Int) (a2 : List Int) (a3 : List (List Int)) (k : (Bool × List Int × List (List Int)) → Option ρ) : T215 N a1 a2 a3 k = (D215 N a1 a2 a3).bind k := by
  unfold D215 T215
  simp only [Option.bind_assoc, bif_bind, elim_bind, Option.bind_some, Option.bind_none]
def H215 (D : (List Int) → (List Int) → (List (List Int)) → Option (Bool × List Int × List (List Int))) : Hd := fun az bx k => match az, bx with
  | [c0, c1, c2, c3], [d0, d1, d2] => cL .i64 c0 fun y0 => cP 0 c1 fun _ => cP 1 c2 fun _ => cP 2 c3 fun _ => cL .i64 d0 fun y1 => cF 114 [] d1 fun _ => cRo true d2 fun y2 => (D y0 y1 y2).bind fun r => k [.sc (.bool r.1)] [.sc (.ints .i64 r.2.1), .fn 114 [], .ow (.rows true r.2.2)]
  | _, _ => none
theorem fnok215 : FnOK Try.prog 215 := ⟨Try.f215, Try.func215, rfl, by decide⟩
theorem h215 {D : (List Int) → (List Int) → (List (List Int)) → Option (Bool × List Int × List (List Int))} (hD : ∀ (y0 : List Int), ∀ (y1 : List Int), ∀ (y2 : List (List Int)), ∀ r, D y0 y1 y2 = some r → CallSpec Try.prog E0 215 [.sc (.ints .i64 y0), .pt 0, .pt 1, .pt 2] [.sc (.ints .i64 y1), .fn 114 [], .ow (.rows true y2)] [.sc (.bool r.1)] [.sc (.ints .i64 r.2.1), .fn 114 [], .ow (.rows true r.2.2)]) : HSound Try.prog E0 215 (H215 D) := by
  intro az bx k r h
  unfold H215 at h
  split at h
  · rename_i c0 c1 c2 c3 d0 d1 d2
    obtain ⟨y0, l0, h⟩ := cL_some h
    obtain ⟨l1, h⟩ := cP_some h
    obtain ⟨l2, h⟩ := cP_some h
    obtain ⟨l3, h⟩ := cP_some h
    obtain ⟨y1, l4, h⟩ := cL_some h
    obtain ⟨l5, h⟩ := cF_some h
    obtain ⟨y2, l6, h⟩ := cRo_some h
    obtain ⟨r, hr, h⟩ := Option.bind_eq_some_iff.1 h
    exact ⟨_, _, ⟨(hD y0 y1 y2 r hr).le ⟨l0, ⟨l1, ⟨l2, ⟨l3, trivial⟩⟩⟩⟩ ⟨l4, ⟨l5, ⟨l6, trivial⟩⟩⟩, fnok215, Nat.le_of_ble_eq_true rfl⟩, h⟩
  · cases h
def kp215 : Nat → List Tm.Loc := fun i => ([[.slot 0, .slot 1, .slot 2, .slot 3, .box (.par 0), .box (.par 1), .box (.par 2)], [.slot 2, .slot 3, .slot 6, .box (.par 0), .box (.par 1), .box (.par 2)], [.slot 3, .slot 6, .slot 12, .box (.par 0), .box (.par 1), .box (.par 2)], [.box (.par 0), .box (.par 1), .box (.par 2)], [.slot 5, .box (.par 0), .box (.par 1), .box (.par 2)]] : List (List Tm.Loc)).getD i []
def lp215 : Nat → LpS := fun i => default
def X215 (N : Nat) : Env := { n := 17, K := K0, C := hSel 216 (H216 (D216 N)) (hSel 114 (H114 (D114 N)) (hNone)), L := fun i s k => none, keep := kp215, lp := lp215 }
theorem b215 (N : Nat) (a1 : List Int) (a2 : List Int) (a3 : List (List Int)) : vbody (X215 N ) Try.f215 (bodyOf Try.f215) [.sc (.ints .i64 a1), .pt 0, .pt 1, .pt 2] [.sc (.ints .i64 a2), .fn 114 [], .ow (.rows true a3)] (fun rs bx => some ⟨rs, bx⟩) = T215 N a1 a2 a3 (fun r => some ⟨[.sc (.bool r.1)], [.sc (.ints .i64 r.2.1), .fn 114 [], .ow (.rows true r.2.2)]⟩) := by kernel_rfl
theorem s215 (N : Nat) (a1 : List Int) (a2 : List Int) (a3 : List (List Int)) (r : Bool × List Int × List (List Int)) (h : D215 N a1 a2 a3 = some r) : CallSpec Try.prog E0 215 [.sc (.ints .i64 a1), .pt 0, .pt 1, .pt 2] [.sc (.ints .i64 a2), .fn 114 [], .ow (.rows true a3)] [.sc (.bool r.1)] [.sc (.ints .i64 r.2.1), .fn 114 [], .ow (.rows true r.2.2)] := by
  refine body_ok (X := X215 N ) (CR := CRG Try.prog E0) Try.func215 (code := bodyOf Try.f215) (by kernel_rfl) rfl (by decide) mixed0 tyok0 rfl contracts_ok (cs_sel (h216 (s216 N)) (cs_sel (h114 (s114 N)) (cs_none))) (LoopsBy.of fun p hp => ?_) (by kernel_rfl) (Nat.le_of_ble_eq_true (by kernel_rfl)) ?_
  · rw [show loopsIn (bodyOf Try.f215) = [] from by kernel_rfl] at hp
    cases hp
  · rw [b215, T215_nat, h]; rfl

/-! 154: slices.Clone[[]int,int] -/
def ren_clone154 : Shelf.Ren := { f := fun _ => 154, t := fun k => bif Nat.beq k 3 then 3 else bif Nat.beq k 4 then 4 else bif Nat.beq k 22 then 29 else 0, g := fun _ => 0 }
theorem lays_clone154 : Lays2.n15 Try.prog ren_clone154 := { mixed := mixed0, f15 := Try.func154, t3 := Try.underlying3, a3 := Try.isAgg3, z3 := Try.sizeOf3, v3 := Try.zeroValue3, t4 := Try.underlying4, a4 := Try.isAgg4, z4 := Try.sizeOf4, v4 := Try.zeroValue4, t22 := Try.underlying29, a22 := Try.isAgg29, z22 := Try.sizeOf29, v22 := Try.zeroValue29, i3 := rfl }

def D154 (N : Nat) (a1 : List Int) : Option (List Int) := DClone a1
theorem s154 (N : Nat) (a1 r : List Int) (h : D154 N a1 = some r) : CallSpec Try.prog E0 154 [.sc (.ints .i64 a1)] [] [.ow (.ints .i64 r)] [] := clone_ok (ρ := ren_clone154) lays_clone154 rfl a1 r h
def H154 (D : (List Int) → Option (List Int)) : Hd := fun az bx k => match az, bx with
  | [c0], [] => cL .i64 c0 fun y0 => (D y0).bind fun r => k [.ow (.ints .i64 r)] []
  | _, _ => none
theorem fnok154 : FnOK Try.prog 154 := ⟨Try.f154, Try.func154, rfl, by decide⟩
theorem h154 {D : (List Int) → Option (List Int)} (hD : ∀ (y0 : List Int), ∀ r, D y0 = some r → CallSpec Try.prog E0 154 [.sc (.ints .i64 y0)] [] [.ow (.ints .i64 r)] []) : HSound Try.prog E0 154 (H154 D) := by
  intro az bx k r h
  unfold H154 at h
  split at h
  · rename_i c0
    obtain ⟨y0, l0, h⟩ := cL_some h
    obtain ⟨r, hr, h⟩ := Option.bind_eq_some_iff.1 h
    exact ⟨_, _, ⟨(hD y0 r hr).le ⟨l0, trivial⟩ trivial, fnok154, Nat.le_of_ble_eq_true rfl⟩, h⟩
  · cases h

/-! 252: loop.example/g01286/impl.choose$1 -/
def L252_4 {ρ : Type} (N : Nat) (recf : (List Int × Int × Int × Int × List Int × List (List Int)) → Option (Bool × Int × Int × List Int × List (List Int))) (v : List Int × Int × Int × Int × List Int × List (List Int)) (rec : (List Int × Int × Int × Int × List Int × List (List Int)) → Option ρ) (k : ((Int × Int × List Int × List (List Int)) ⊕ (List Int × Int × Bool × Int × Int × List Int × List (List Int))) → Option ρ) : Option ρ :=
  bif (iLt v.2.1 v.2.2.2.1) then (
  (D154 N v.1).bind fun r2 =>
  bif capB (List.length (r2 ++ [v.2.1])) then (
  (recf ((r2 ++ [v.2.1]), (wrapF .i64 (v.2.1 + (Int.ofNat 1))), v.2.2.1, v.2.2.2.1, v.2.2.2.2.1, v.2.2.2.2.2)).bind fun r3 =>
  bif r3.1 then (
  k (.inl ((r3.2.1, r3.2.2.1, r3.2.2.2.1, r3.2.2.2.2))))
  else (
  rec (v.1, (wrapF .i64 (v.2.1 + (Int.ofNat 1))), r3.2.1, r3.2.2.1, r3.2.2.2.1, r3.2.2.2.2)))
  else none)
  else (
  k (.inr ((v.1, v.2.1, (iLt v.2.1 v.2.2.2.1), v.2.2.1, v.2.2.2.1, v.2.2.2.2.1, v.2.2.2.2.2))))
def Lp252_4 (N : Nat) (recf : (List Int × Int × Int × Int × List Int × List (List Int)) → Option (Bool × Int × Int × List Int × List (List Int))) : Nat → (List Int × Int × Int × Int × List Int × List (List Int)) → Option ((Int × Int × List Int × List (List Int)) ⊕ (List Int × Int × Bool × Int × Int × List Int × List (List Int))) := fun n => Nat.rec (motive := fun _ => (List Int × Int × Int × Int × List Int × List (List Int)) → Option ((Int × Int × List Int × List (List Int)) ⊕ (List Int × Int × Bool × Int × Int × List Int × List (List Int)))) (fun _ => none) (fun _ ih v => L252_4 N recf v ih some) n
theorem L252_4_nat {ρ : Type} (N : Nat) (recf : (List Int × Int × Int × Int × List Int × List (List Int)) → Option (Bool × Int × Int × List Int × List (List Int))) (v : List Int × Int × Int × Int × List Int × List (List Int)) (rec : (List Int × Int × Int × Int × List Int × List (List Int)) → Option ((Int × Int × List Int × List (List Int)) ⊕ (List Int × Int × Bool × Int × Int × List Int × List (List Int)))) (k : ((Int × Int × List Int × List (List Int)) ⊕ (List Int × Int × Bool × Int × Int × List Int × List (List Int))) → Option ρ) : L252_4 N recf v (fun v => (rec v).bind k) k = (L252_4 N recf v rec some).bind k := by
  unfold L252_4
  simp only [Option.bind_assoc, bif_bind, elim_bind, Option.bind_some, Option.bind_none]
def T252 {ρ : Type} (N : Nat) (recf : (List Int × Int × Int × Int × List Int × List (List Int)) → Option (Bool × Int × Int × List Int × List (List Int))) (a : List Int × Int × Int × Int × List Int × List (List Int)) (k : (Bool × Int × Int × List Int × List (List Int)) → Option ρ) : Option ρ :=
  bif (iEq (Int.ofNat (List.length a.1)) a.2.2.1) then (
  (D215 N a.1 a.2.2.2.2.1 a.2.2.2.2.2).bind fun r1 =>
  k (r1.1, a.2.2.1, a.2.2.2.1, r1.2.1, r1.2.2))
  else (
  (Lp252_4 N recf N (a.1, a.2.1, a.2.2.1, a.2.2.2.1, a.2.2.2.2.1, a.2.2.2.2.2)).bind (Sum.elim (fun w4 =>
  k (true, w4.1, w4.2.1, w4.2.2.1, w4.2.2.2)) (fun w5 =>
  k (false, w5.2.2.2.1, w5.2.2.2.2.1, w5.2.2.2.2.2.1, w5.2.2.2.2.2.2))))
def D252 (N : Nat) : Nat → (List Int × Int × Int × Int × List Int × List (List Int)) → Option (Bool × Int × Int × List Int × List (List Int)) := fun n => Nat.rec (motive := fun _ => (List Int × Int × Int × Int × List Int × List (List Int)) → Option (Bool × Int × Int × List Int × List (List Int))) (fun _ => none) (fun _ ih a => T252 N ih a some) n
theorem T252_nat {ρ : Type} (N : Nat) (recf : (List Int × Int × Int × Int × List Int × List (List Int)) → Option (Bool × Int × Int × List Int × List (List Int))) (a : List Int × Int × Int × Int × List Int × List (List Int)) (k : (Bool × Int × Int × List Int × List (List Int)) → Option ρ) : T252 N recf a k = (T252 N recf a some).bind k := by
  unfold T252
  simp only [Option.bind_assoc, bif_bind, elim_bind, Option.bind_some, Option.bind_none]
def H252 (D : (List Int × Int × Int × Int × List Int × List (List Int)) → Option (Bool × Int × Int × List Int × List (List Int))) : Hd := fun az bx k => match az, bx with
  | [c0, c1, c2, c3, c4, c5], [d0, d1, d2, d3, d4, d5, d6] => cL .i64 c0 fun y0 => cI .i64 c1 fun y1 => cP 0 c2 fun _ => cP 1 c3 fun _ => cP 2 c4 fun _ => cP 3 c5 fun _ => cI .i64 d0 fun y2 => cF 215 [4, 5, 6] d1 fun _ => cI .i64 d2 fun y3 => cF 252 [0, 1, 2, 3] d3 fun _ => cL .i64 d4 fun y4 => cF 114 [] d5 fun _ => cRo true d6 fun y5 => (D (y0, y1, y2, y3, y4, y5)).bind fun r => k [.sc (.bool r.1)] [.sc (.int .i64 r.2.1), .fn 215 [4, 5, 6], .sc (.int .i64 r.2.2.1), .fn 252 [0, 1, 2, 3], .sc (.ints .i64 r.2.2.2.1), .fn 114 [], .ow (.rows true r.2.2.2.2)]
  | _, _ => none
theorem fnok252 : FnOK Try.prog 252 := ⟨Try.f252, Try.func252, rfl, by decide⟩
theorem h252 {D : (List Int × Int × Int × Int × List Int × List (List Int)) → Option (Bool × Int × Int × List Int × List (List Int))} (hD : ∀ (y0 : List Int), ∀ (y1 : Int), ∀ (y2 : Int), ∀ (y3 : Int), ∀ (y4 : List Int), ∀ (y5 : List (List Int)), ∀ r, D (y0, y1, y2, y3, y4, y5) = some r → CallSpec Try.prog E0 252 [.sc (.ints .i64 y0), .sc (.int .i64 y1), .pt 0, .pt 1, .pt 2, .pt 3] [.sc (.int .i64 y2), .fn 215 [4, 5, 6], .sc (.int .i64 y3), .fn 252 [0, 1, 2, 3], .sc (.ints .i64 y4), .fn 114 [], .ow (.rows true y5)] [.sc (.bool r.1)] [.sc (.int .i64 r.2.1), .fn 215 [4, 5, 6], .sc (.int .i64 r.2.2.1), .fn 252 [0, 1, 2, 3], .sc (.ints .i64 r.2.2.2.1), .fn 114 [], .ow (.rows true r.2.2.2.2)]) : HSound Try.prog E0 252 (H252 D) := by
  intro az bx k r h
  unfold H252 at h
  split at h
  · rename_i c0 c1 c2 c3 c4 c5 d0 d1 d2 d3 d4 d5 d6
    obtain ⟨y0, l0, h⟩ := cL_some h
    obtain ⟨y1, l1, h⟩ := cI_some h
    obtain ⟨l2, h⟩ := cP_some h
    obtain ⟨l3, h⟩ := cP_some h
    obtain ⟨l4, h⟩ := cP_some h
    obtain ⟨l5, h⟩ := cP_some h
    obtain ⟨y2, l6, h⟩ := cI_some h
    obtain ⟨l7, h⟩ := cF_some h
    obtain ⟨y3, l8, h⟩ := cI_some h
    obtain ⟨l9, h⟩ := cF_some h
    obtain ⟨y4, l10, h⟩ := cL_some h
    obtain ⟨l11, h⟩ := cF_some h
    obtain ⟨y5, l12, h⟩ := cRo_some h
    obtain ⟨r, hr, h⟩ := Option.bind_eq_some_iff.1 h
    exact ⟨_, _, ⟨(hD y0 y1 y2 y3 y4 y5 r hr).le ⟨l0, ⟨l1, ⟨l2, ⟨l3, ⟨l4, ⟨l5, trivial⟩⟩⟩⟩⟩⟩ ⟨l6, ⟨l7, ⟨l8, ⟨l9, ⟨l10, ⟨l11, ⟨l12, trivial⟩⟩⟩⟩⟩⟩⟩, fnok252, Nat.le_of_ble_eq_true rfl⟩, h⟩
  · cases h
def kp252 : Nat → List Tm.Loc := fun i => ([[.slot 0, .slot 1, .slot 2, .slot 3, .slot 4, .slot 5, .box (.par 0), .box (.par 1), .box (.par 2), .box (.par 3), .box (.par 4), .box (.par 5), .box (.par 6)], [.slot 0, .slot 1, .slot 3, .slot 4, .slot 5, .slot 13, .box (.par 0), .box (.par 1), .box (.par 2), .box (.par 3), .box (.par 4), .box (.par 5), .box (.par 6)], [.slot 8, .box (.par 0), .box (.par 1), .box (.par 2), .box (.par 3), .box (.par 4), .box (.par 5), .box (.par 6)], [.slot 0, .slot 4, .slot 5, .slot 9, .box (.par 0), .box (.par 1), .box (.par 2), .box (.par 3), .box (.par 4), .box (.par 5), .box (.par 6)], [.slot 0, .slot 4, .slot 5, .slot 9, .slot 20, .box (.par 0), .box (.par 1), .box (.par 2), .box (.par 3), .box (.par 4), .box (.par 5), .box (.par 6)], [.slot 0, .slot 4, .slot 5, .slot 9, .box (.par 0), .box (.par 1), .box (.par 2), .box (.par 3), .box (.par 4), .box (.par 5), .box (.par 6)], [.slot 0, .slot 4, .slot 5, .slot 9, .slot 31, .box (.par 0), .box (.par 1), .box (.par 2), .box (.par 3), .box (.par 4), .box (.par 5), .box (.par 6)], [.slot 8, .box (.par 0), .box (.par 1), .box (.par 2), .box (.par 3), .box (.par 4), .box (.par 5), .box (.par 6)], [.slot 8, .box (.par 0), .box (.par 1), .box (.par 2), .box (.par 3), .box (.par 4), .box (.par 5), .box (.par 6)]] : List (List Tm.Loc)).getD i []
def lp252 : Nat → LpS := fun i => bif Nat.beq i 4 then ⟨[], [], [.slot 0, .slot 4, .slot 5, .slot 9, .box (.par 0), .box (.par 1), .box (.par 2), .box (.par 3), .box (.par 4), .box (.par 5), .box (.par 6)]⟩ else default
def sk252_4 : List (Tm.Loc × SkV) := [(.slot 0, .ints .i64), (.slot 4, .pt (.par 2)), (.slot 5, .pt (.par 3)), (.slot 9, .int .i64), (.box (.par 0), .int .i64), (.box (.par 1), .fn 215 [.par 4, .par 5, .par 6]), (.box (.par 2), .int .i64), (.box (.par 3), .fn 252 [.par 0, .par 1, .par 2, .par 3]), (.box (.par 4), .ints .i64), (.box (.par 5), .fn 114 []), (.box (.par 6), .rf 300000006), (.tok 300000006, .tR true)]
def kk252_4 (k : Ex → St → Option RT) : ((Int × Int × List Int × List (List Int)) ⊕ (List Int × Int × Bool × Int × Int × List Int × List (List Int))) → Option RT := (Sum.elim (fun r => k .ret [(.slot 8, .v (.sc (.bool true))), (.box (.par 0), .v (.sc (.int .i64 r.1))), (.box (.par 1), .v (.fn 215 [.par 4, .par 5, .par 6])), (.box (.par 2), .v (.sc (.int .i64 r.2.1))), (.box (.par 3), .v (.fn 252 [.par 0, .par 1, .par 2, .par 3])), (.box (.par 4), .v (.sc (.ints .i64 r.2.2.1))), (.box (.par 5), .v (.fn 114 [])), (.box (.par 6), .v (.rf 300000006)), (.tok 300000006, .t 0 (.rows true r.2.2.2))]) (fun r => k (.ext 0) [(.slot 20, .v (.sc (.bool false))), (.slot 0, .v (.sc (.ints .i64 r.1))), (.slot 4, .v (.pt (.par 2))), (.slot 5, .v (.pt (.par 3))), (.slot 9, .v (.sc (.int .i64 r.2.1))), (.slot 20, .v (.sc (.bool r.2.2.1))), (.box (.par 0), .v (.sc (.int .i64 r.2.2.2.1))), (.box (.par 1), .v (.fn 215 [.par 4, .par 5, .par 6])), (.box (.par 2), .v (.sc (.int .i64 r.2.2.2.2.1))), (.box (.par 3), .v (.fn 252 [.par 0, .par 1, .par 2, .par 3])), (.box (.par 4), .v (.sc (.ints .i64 r.2.2.2.2.2.1))), (.box (.par 5), .v (.fn 114 [])), (.box (.par 6), .v (.rf 300000006)), (.tok 300000006, .t 0 (.rows true r.2.2.2.2.2.2))]))
def LH252_4 (N : Nat) (recf : (List Int × Int × Int × Int × List Int × List (List Int)) → Option (Bool × Int × Int × List Int × List (List Int))) : St → (Ex → St → Option RT) → Option RT := fun s k => match mS sk252_4 s with
  | some [.L z0, .I z1, .I z2, .I z3, .L z4, .R z5] => (Lp252_4 N recf N (z0, z1, z2, z3, z4, z5)).bind (kk252_4 k)
  | _ => none
def X252 (N : Nat) (recf : (List Int × Int × Int × Int × List Int × List (List Int)) → Option (Bool × Int × Int × List Int × List (List Int))) : Env := { n := 32, K := K0, C := hSel 215 (H215 (D215 N)) (hSel 154 (H154 (D154 N)) (hSel 252 (H252 recf) (hNone))), L := fun i s k => bif Nat.beq i 4 then LH252_4 N recf (normL (lp252 4) s) k else none, keep := kp252, lp := lp252 }
theorem st252_4 (N : Nat) (recf : (List Int × Int × Int × Int × List Int × List (List Int)) → Option (Bool × Int × Int × List Int × List (List Int))) (V : St → Option RT) (k : Ex → St → Option RT) (v : List Int × Int × Int × Int × List Int × List (List Int)) : vexec (X252 N recf ) (findLoop 4 (loopsIn (bodyOf Try.f252))) (bS sk252_4 [.L v.1, .I v.2.1, .I v.2.2.1, .I v.2.2.2.1, .L v.2.2.2.2.1, .R v.2.2.2.2.2]) (vstep V (lp252 4) k) = L252_4 N recf v (fun v => V (bS sk252_4 [.L v.1, .I v.2.1, .I v.2.2.1, .I v.2.2.2.1, .L v.2.2.2.2.1, .R v.2.2.2.2.2])) (kk252_4 k) := by kernel_rfl
theorem q252_4 (N : Nat) (recf : (List Int × Int × Int × Int × List Int × List (List Int)) → Option (Bool × Int × Int × List Int × List (List Int))) (k : Ex → St → Option RT) : ∀ n (v : List Int × Int × Int × Int × List Int × List (List Int)), vround (X252 N recf ) (findLoop 4 (loopsIn (bodyOf Try.f252))) 4 n (bS sk252_4 [.L v.1, .I v.2.1, .I v.2.2.1, .I v.2.2.2.1, .L v.2.2.2.2.1, .R v.2.2.2.2.2]) k = (Lp252_4 N recf n v).bind (kk252_4 k) := by
  intro n
  induction n with
  | zero => intro v; rfl
  | succ n ih =>
    intro v
    rw [vround_succ]
    refine (st252_4 N recf _ k v).trans ?_
    simp only [ih]
    exact L252_4_nat N recf v (Lp252_4 N recf n) (kk252_4 k)
theorem lh252_4 (N : Nat) (recf : (List Int × Int × Int × Int × List Int × List (List Int)) → Option (Bool × Int × Int × List Int × List (List Int))) : ∀ s k r, LH252_4 N recf s k = some r → vround (X252 N recf ) (findLoop 4 (loopsIn (bodyOf Try.f252))) 4 N s k = some r := by
  intro s k r h
  unfold LH252_4 at h
  split at h
  · rename_i z0 z1 z2 z3 z4 z5 hm
    rw [mS_bS hm]
    exact (q252_4 N recf k N (z0, z1, z2, z3, z4, z5)).trans h
  · cases h
theorem b252 (N : Nat) (recf : (List Int × Int × Int × Int × List Int × List (List Int)) → Option (Bool × Int × Int × List Int × List (List Int))) (a : List Int × Int × Int × Int × List Int × List (List Int)) : vbody (X252 N recf ) Try.f252 (bodyOf Try.f252) [.sc (.ints .i64 a.1), .sc (.int .i64 a.2.1), .pt 0, .pt 1, .pt 2, .pt 3] [.sc (.int .i64 a.2.2.1), .fn 215 [4, 5, 6], .sc (.int .i64 a.2.2.2.1), .fn 252 [0, 1, 2, 3], .sc (.ints .i64 a.2.2.2.2.1), .fn 114 [], .ow (.rows true a.2.2.2.2.2)] (fun rs bx => some ⟨rs, bx⟩) = T252 N recf a (fun r => some ⟨[.sc (.bool r.1)], [.sc (.int .i64 r.2.1), .fn 215 [4, 5, 6], .sc (.int .i64 r.2.2.1), .fn 252 [0, 1, 2, 3], .sc (.ints .i64 r.2.2.2.1), .fn 114 [], .ow (.rows true r.2.2.2.2)]⟩) := by kernel_rfl
theorem sx252 (N : Nat) (recf : (List Int × Int × Int × Int × List Int × List (List Int)) → Option (Bool × Int × Int × List Int × List (List Int))) (hrec : ∀ (y0 : List Int), ∀ (y1 : Int), ∀ (y2 : Int), ∀ (y3 : Int), ∀ (y4 : List Int), ∀ (y5 : List (List Int)), ∀ r, recf (y0, y1, y2, y3, y4, y5) = some r → CallSpec Try.prog E0 252 [.sc (.ints .i64 y0), .sc (.int .i64 y1), .pt 0, .pt 1, .pt 2, .pt 3] [.sc (.int .i64 y2), .fn 215 [4, 5, 6], .sc (.int .i64 y3), .fn 252 [0, 1, 2, 3], .sc (.ints .i64 y4), .fn 114 [], .ow (.rows true y5)] [.sc (.bool r.1)] [.sc (.int .i64 r.2.1), .fn 215 [4, 5, 6], .sc (.int .i64 r.2.2.1), .fn 252 [0, 1, 2, 3], .sc (.ints .i64 r.2.2.2.1), .fn 114 [], .ow (.rows true r.2.2.2.2)]) (a : List Int × Int × Int × Int × List Int × List (List Int)) (r : Bool × Int × Int × List Int × List (List Int)) (h : T252 N recf a some = some r) : CallSpec Try.prog E0 252 [.sc (.ints .i64 a.1), .sc (.int .i64 a.2.1), .pt 0, .pt 1, .pt 2, .pt 3] [.sc (.int .i64 a.2.2.1), .fn 215 [4, 5, 6], .sc (.int .i64 a.2.2.2.1), .fn 252 [0, 1, 2, 3], .sc (.ints .i64 a.2.2.2.2.1), .fn 114 [], .ow (.rows true a.2.2.2.2.2)] [.sc (.bool r.1)] [.sc (.int .i64 r.2.1), .fn 215 [4, 5, 6], .sc (.int .i64 r.2.2.1), .fn 252 [0, 1, 2, 3], .sc (.ints .i64 r.2.2.2.1), .fn 114 [], .ow (.rows true r.2.2.2.2)] := by
  refine body_ok (X := X252 N recf ) (CR := CRG Try.prog E0) Try.func252 (code := bodyOf Try.f252) (by kernel_rfl) rfl (by decide) mixed0 tyok0 rfl contracts_ok (cs_sel (h215 (s215 N)) (cs_sel (h154 (s154 N)) (cs_sel (h252 hrec) (cs_none)))) (LoopsBy.of fun p hp => ?_) (by kernel_rfl) (Nat.le_of_ble_eq_true (by kernel_rfl)) ?_
  · rw [show loopsIn (bodyOf Try.f252) = [(4, findLoop 4 (loopsIn (bodyOf Try.f252)))] from by kernel_rfl] at hp
    simp only [List.mem_cons, List.not_mem_nil, or_false] at hp
    subst hp
    exact vround_of (fun s k => rfl) (by kernel_rfl) (lh252_4 N recf)
  · rw [b252, T252_nat, h]; rfl
theorem s252 (N : Nat) : ∀ (y0 : List Int), ∀ (y1 : Int), ∀ (y2 : Int), ∀ (y3 : Int), ∀ (y4 : List Int), ∀ (y5 : List (List Int)), ∀ r, D252 N N (y0, y1, y2, y3, y4, y5) = some r → CallSpec Try.prog E0 252 [.sc (.ints .i64 y0), .sc (.int .i64 y1), .pt 0, .pt 1, .pt 2, .pt 3] [.sc (.int .i64 y2), .fn 215 [4, 5, 6], .sc (.int .i64 y3), .fn 252 [0, 1, 2, 3], .sc (.ints .i64 y4), .fn 114 [], .ow (.rows true y5)] [.sc (.bool r.1)] [.sc (.int .i64 r.2.1), .fn 215 [4, 5, 6], .sc (.int .i64 r.2.2.1), .fn 252 [0, 1, 2, 3], .sc (.ints .i64 r.2.2.2.1), .fn 114 [], .ow (.rows true r.2.2.2.2)] := by
  have key : ∀ n (a : List Int × Int × Int × Int × List Int × List (List Int)) r, D252 N n a = some r → CallSpec Try.prog E0 252 [.sc (.ints .i64 a.1), .sc (.int .i64 a.2.1), .pt 0, .pt 1, .pt 2, .pt 3] [.sc (.int .i64 a.2.2.1), .fn 215 [4, 5, 6], .sc (.int .i64 a.2.2.2.1), .fn 252 [0, 1, 2, 3], .sc (.ints .i64 a.2.2.2.2.1), .fn 114 [], .ow (.rows true a.2.2.2.2.2)] [.sc (.bool r.1)] [.sc (.int .i64 r.2.1), .fn 215 [4, 5, 6], .sc (.int .i64 r.2.2.1), .fn 252 [0, 1, 2, 3], .sc (.ints .i64 r.2.2.2.1), .fn 114 [], .ow (.rows true r.2.2.2.2)] := by
    intro n
    induction n with
    | zero => intro a r h; cases h
    | succ n ih => intro a r h; exact sx252 N (D252 N n) (fun y0 y1 y2 y3 y4 y5 r h => ih (y0, y1, y2, y3, y4, y5) r h) a r h
  intro y0 y1 y2 y3 y4 y5 r h
  exact key N (y0, y1, y2, y3, y4, y5) r h

/-! 214: loop.example/g01286/impl.choose -/
def T214 {ρ : Type} (N : Nat) (a1 : Int) (a2 : Int) (a3 : List Int) (a4 : List (List Int)) (k : (List Int × List (List Int)) → Option ρ) : Option ρ :=
  (D252 N N ([], (Int.ofNat 0), a2, a1, a3, a4)).bind fun r5 =>
  k (r5.2.2.2.1, r5.2.2.2.2)
def D214 (N : Nat) (a1 : Int) (a2 : Int) (a3 : List Int) (a4 : List (List Int)) : Option (List Int × List (List Int)) := T214 N a1 a2 a3 a4 some
theorem T214_nat {ρ : Type} (N : Nat) (a1 : Int) (a2 : Int) (a3 : List Int) (a4 : List (List Int)) (k : (List Int × List (List Int)) → Option ρ) : T214 N a1 a2 a3 a4 k = (D214 N a1 a2 a3 a4).bind k := by
  unfold D214 T214
  simp only [Option.bind_assoc, bif_bind, elim_bind, Option.bind_some, Option.bind_none]
def H214 (D : Int → Int → (List Int) → (List (List Int)) → Option (List Int × List (List Int))) : Hd := fun az bx k => match az, bx with
  | [c0, c1, c2], [d0, d1, d2] => cI .i64 c0 fun y0 => cI .i64 c1 fun y1 => cF 215 [0, 1, 2] c2 fun _ => cL .i64 d0 fun y2 => cF 114 [] d1 fun _ => cRo true d2 fun y3 => (D y0 y1 y2 y3).bind fun r => k [] [.sc (.ints .i64 r.1), .fn 114 [], .ow (.rows true r.2)]
  | _, _ => none
theorem fnok214 : FnOK Try.prog 214 := ⟨Try.f214, Try.func214, rfl, by decide⟩
theorem h214 {D : Int → Int → (List Int) → (List (List Int)) → Option (List Int × List (List Int))} (hD : ∀ (y0 : Int), ∀ (y1 : Int), ∀ (y2 : List Int), ∀ (y3 : List (List Int)), ∀ r, D y0 y1 y2 y3 = some r → CallSpec Try.prog E0 214 [.sc (.int .i64 y0), .sc (.int .i64 y1), .fn 215 [0, 1, 2]] [.sc (.ints .i64 y2), .fn 114 [], .ow (.rows true y3)] [] [.sc (.ints .i64 r.1), .fn 114 [], .ow (.rows true r.2)]) : HSound Try.prog E0 214 (H214 D) := by
  intro az bx k r h
  unfold H214 at h
  split at h
  · rename_i c0 c1 c2 d0 d1 d2
    obtain ⟨y0, l0, h⟩ := cI_some h
    obtain ⟨y1, l1, h⟩ := cI_some h
    obtain ⟨l2, h⟩ := cF_some h
    obtain ⟨y2, l3, h⟩ := cL_some h
    obtain ⟨l4, h⟩ := cF_some h
    obtain ⟨y3, l5, h⟩ := cRo_some h
    obtain ⟨r, hr, h⟩ := Option.bind_eq_some_iff.1 h
    exact ⟨_, _, ⟨(hD y0 y1 y2 y3 r hr).le ⟨l0, ⟨l1, ⟨l2, trivial⟩⟩⟩ ⟨l3, ⟨l4, ⟨l5, trivial⟩⟩⟩, fnok214, Nat.le_of_ble_eq_true rfl⟩, h⟩
  · cases h
def kp214 : Nat → List Tm.Loc := fun i => ([[.slot 3, .slot 4, .slot 5, .box (.own 3), .box (.own 4), .box (.own 5), .box (.par 0), .box (.par 1), .box (.par 2)], [.slot 3, .slot 4, .slot 5, .slot 6, .box (.own 3), .box (.own 4), .box (.own 5), .box (.own 6), .box (.par 0), .box (.par 1), .box (.par 2)], [.slot 6, .box (.own 3), .box (.own 4), .box (.own 5), .box (.own 6), .box (.par 0), .box (.par 1), .box (.par 2)], [.box (.par 0), .box (.par 1), .box (.par 2)]] : List (List Tm.Loc)).getD i []
def lp214 : Nat → LpS := fun i => default
def X214 (N : Nat) : Env := { n := 11, K := K0, C := hSel 252 (H252 (D252 N N)) (hNone), L := fun i s k => none, keep := kp214, lp := lp214 }
theorem b214 (N : Nat) (a1 : Int) (a2 : Int) (a3 : List Int) (a4 : List (List Int)) : vbody (X214 N ) Try.f214 (bodyOf Try.f214) [.sc (.int .i64 a1), .sc (.int .i64 a2), .fn 215 [0, 1, 2]] [.sc (.ints .i64 a3), .fn 114 [], .ow (.rows true a4)] (fun rs bx => some ⟨rs, bx⟩) = T214 N a1 a2 a3 a4 (fun r => some ⟨[], [.sc (.ints .i64 r.1), .fn 114 [], .ow (.rows true r.2)]⟩) := by kernel_rfl
theorem s214 (N : Nat) (a1 : Int) (a2 : Int) (a3 : List Int) (a4 : List (List Int)) (r : List Int × List (List Int)) (h : D214 N a1 a2 a3 a4 = some r) : CallSpec Try.prog E0 214 [.sc (.int .i64 a1), .sc (.int .i64 a2), .fn 215 [0, 1, 2]] [.sc (.ints .i64 a3), .fn 114 [], .ow (.rows true a4)] [] [.sc (.ints .i64 r.1), .fn 114 [], .ow (.rows true r.2)] := by
  refine body_ok (X := X214 N ) (CR := CRG Try.prog E0) Try.func214 (code := bodyOf Try.f214) (by kernel_rfl) rfl (by decide) mixed0 tyok0 rfl contracts_ok (cs_sel (h252 (s252 N)) (cs_none)) (LoopsBy.of fun p hp => ?_) (by kernel_rfl) (Nat.le_of_ble_eq_true (by kernel_rfl)) ?_
  · rw [show loopsIn (bodyOf Try.f214) = [] from by kernel_rfl] at hp
    cases hp
  · rw [b214, T214_nat, h]; rfl

/-! 253: cmp.Compare[int] -/
def T253 {ρ : Type} (N : Nat) (a1 : Int) (a2 : Int) (k : Int → Option ρ) : Option ρ :=
  (D272 N a1).bind fun r3 =>
  (D272 N a2).bind fun r4 =>
  bif r3 then (
  bif r4 then (
  k (Int.ofNat 0))
  else (
  k (Int.negSucc 0)))
  else (
  bif r4 then (
  k (Int.ofNat 1))
  else (
  bif (iLt a1 a2) then (
  k (Int.negSucc 0))
  else (
  bif (iLt a2 a1) then (
  k (Int.ofNat 1))
  else (
  k (Int.ofNat 0)))))
def D253 (N : Nat) (a1 : Int) (a2 : Int) : Option (Int) := T253 N a1 a2 some
theorem T253_nat {ρ : Type} (N : Nat) (a1 : Int) (a2 : Int) (k : Int → Option ρ) : T253 N a1 a2 k = (D253 N a1 a2).bind k := by
  unfold D253 T253
  simp only [Option.bind_assoc, bif_bind, elim_bind, Option.bind_some, Option.bind_none]
def H253 (D : Int → Int → Option (Int)) : Hd := fun az bx k => match az, bx with
  | [c0, c1], [] => cI .i64 c0 fun y0 => cI .i64 c1 fun y1 => (D y0 y1).bind fun r => k [.sc (.int .i64 r)] []
  | _, _ => none
theorem fnok253 : FnOK Try.prog 253 := ⟨Try.f253, Try.func253, rfl, by decide⟩
theorem h253 {D : Int → Int → Option (Int)} (hD : ∀ (y0 : Int), ∀ (y1 : Int), ∀ r, D y0 y1 = some r → CallSpec Try.prog E0 253 [.sc (.int .i64 y0), .sc (.int .i64 y1)] [] [.sc (.int .i64 r)] []) : HSound Try.prog E0 253 (H253 D) := by
  intro az bx k r h
  unfold H253 at h
  split at h
  · rename_i c0 c1
    obtain ⟨y0, l0, h⟩ := cI_some h
    obtain ⟨y1, l1, h⟩ := cI_some h
    obtain ⟨r, hr, h⟩ := Option.bind_eq_some_iff.1 h
    exact ⟨_, _, ⟨(hD y0 y1 r hr).le ⟨l0, ⟨l1, trivial⟩⟩ trivial, fnok253, Nat.le_of_ble_eq_true rfl⟩, h⟩
  · cases h
def kp253 : Nat → List Tm.Loc := fun i => ([[.slot 0, .slot 1], [.slot 0, .slot 1, .slot 5], [.slot 0, .slot 1, .slot 5, .slot 6], [.slot 0, .slot 1, .slot 6, .slot 11], [.slot 12], [.slot 4], [.slot 4], [.slot 0, .slot 1, .slot 13], [.slot 4], [.slot 0, .slot 1, .slot 16], [.slot 4], [.slot 19], [.slot 4], [.slot 4]] : List (List Tm.Loc)).getD i []
def lp253 : Nat → LpS := fun i => default
def X253 (N : Nat) : Env := { n := 20, K := K0, C := hSel 272 (H272 (D272 N)) (hNone), L := fun i s k => none, keep := kp253, lp := lp253 }
theorem b253 (N : Nat) (a1 : Int) (a2 : Int) : vbody (X253 N ) Try.f253 (bodyOf Try.f253) [.sc (.int .i64 a1), .sc (.int .i64 a2)] [] (fun rs bx => some ⟨rs, bx⟩) = T253 N a1 a2 (fun r => some ⟨[.sc (.int .i64 r)], []⟩) := by kernel_rfl
theorem s253 (N : Nat) (a1 : Int) (a2 : Int) (r : Int) (h : D253 N a1 a2 = some r) : CallSpec Try.prog E0 253 [.sc (.int .i64 a1), .sc (.int .i64 a2)] [] [.sc (.int .i64 r)] [] := by
  refine body_ok (X := X253 N ) (CR := CRG Try.prog E0) Try.func253 (code := bodyOf Try.f253) (by kernel_rfl) rfl (by decide) mixed0 tyok0 rfl contracts_ok (cs_sel (h272 (s272 N)) (cs_none)) (LoopsBy.of fun p hp => ?_) (by kernel_rfl) (Nat.le_of_ble_eq_true (by kernel_rfl)) ?_
  · rw [show loopsIn (bodyOf Try.f253) = [] from by kernel_rfl] at hp
    cases hp
  · rw [b253, T253_nat, h]; rfl

/-! 218: slices.Compare[[]int,int] -/
def L218_2 {ρ : Type} (N : Nat) (v : List Int × List Int × List Int × Int × Int) (rec : (List Int × List Int × List Int × Int × Int) → Option ρ) (k : (Unit ⊕ Int ⊕ (List Int × List Int × List Int × Int × Int × Bool)) → Option ρ) : Option ρ :=
  bif (iLt v.2.2.2.2 v.2.2.2.1) then (
  bif inB v.2.2.2.2 (List.length v.2.2.1) then (
  bif (iLe (Int.ofNat (List.length v.2.1)) v.2.2.2.2) then (
  k (.inl (())))
  else (
  bif inB v.2.2.2.2 (List.length v.2.1) then (
  (D253 N (List.getD v.2.2.1 (Int.toNat v.2.2.2.2) (Int.ofNat 0)) (List.getD v.2.1 (Int.toNat v.2.2.2.2) (Int.ofNat 0))).bind fun r3 =>
  bif (!(iEq r3 (Int.ofNat 0))) then (
  k (.inr (.inl (r3))))
  else (
  rec (v.1, v.2.1, v.2.2.1, v.2.2.2.1, (wrapF .i64 (v.2.2.2.2 + (Int.ofNat 1))))))
  else none))
  else none)
  else (
  k (.inr (.inr ((v.1, v.2.1, v.2.2.1, v.2.2.2.1, v.2.2.2.2, (iLt v.2.2.2.2 v.2.2.2.1))))))
def Lp218_2 (N : Nat) : Nat → (List Int × List Int × List Int × Int × Int) → Option (Unit ⊕ Int ⊕ (List Int × List Int × List Int × Int × Int × Bool)) := fun n => Nat.rec (motive := fun _ => (List Int × List Int × List Int × Int × Int) → Option (Unit ⊕ Int ⊕ (List Int × List Int × List Int × Int × Int × Bool))) (fun _ => none) (fun _ ih v => L218_2 N v ih some) n
theorem L218_2_nat {ρ : Type} (N : Nat) (v : List Int × List Int × List Int × Int × Int) (rec : (List Int × List Int × List Int × Int × Int) → Option (Unit ⊕ Int ⊕ (List Int × List Int × List Int × Int × Int × Bool))) (k : (Unit ⊕ Int ⊕ (List Int × List Int × List Int × Int × Int × Bool)) → Option ρ) : L218_2 N v (fun v => (rec v).bind k) k = (L218_2 N v rec some).bind k := by
  unfold L218_2
  simp only [Option.bind_assoc, bif_bind, elim_bind, Option.bind_some, Option.bind_none]
def T218 {ρ : Type} (N : Nat) (a1 : List Int) (a2 : List Int) (k : Int → Option ρ) : Option ρ :=
  (Lp218_2 N N (a1, a2, a1, (Int.ofNat (List.length a1)), (Int.ofNat 0))).bind (Sum.elim (fun _ =>
  k (Int.ofNat 1)) (Sum.elim (fun w5 =>
  k w5) (fun w6 =>
  bif (iLt (Int.ofNat (List.length w6.1)) (Int.ofNat (List.length w6.2.1))) then (
  k (Int.negSucc 0))
  else (
  k (Int.ofNat 0)))))
def D218 (N : Nat) (a1 : List Int) (a2 : List Int) : Option (Int) := T218 N a1 a2 some
theorem T218_nat {ρ : Type} (N : Nat) (a1 : List Int) (a2 : List Int) (k : Int → Option ρ) : T218 N a1 a2 k = (D218 N a1 a2).bind k := by
  unfold D218 T218
  simp only [Option.bind_assoc, bif_bind, elim_bind, Option.bind_some, Option.bind_none]
def H218 (D : (List Int) → (List Int) → Option (Int)) : Hd := fun az bx k => match az, bx with
  | [c0, c1], [] => cL .i64 c0 fun y0 => cL .i64 c1 fun y1 => (D y0 y1).bind fun r => k [.sc (.int .i64 r)] []
  | _, _ => none
theorem fnok218 : FnOK Try.prog 218 := ⟨Try.f218, Try.func218, rfl, by decide⟩
theorem h218 {D : (List Int) → (List Int) → Option (Int)} (hD : ∀ (y0 : List Int), ∀ (y1 : List Int), ∀ r, D y0 y1 = some r → CallSpec Try.prog E0 218 [.sc (.ints .i64 y0), .sc (.ints .i64 y1)] [] [.sc (.int .i64 r)] []) : HSound Try.prog E0 218 (H218 D) := by
  intro az bx k r h
  unfold H218 at h
  split at h
  · rename_i c0 c1
    obtain ⟨y0, l0, h⟩ := cL_some h
    obtain ⟨y1, l1, h⟩ := cL_some h
    obtain ⟨r, hr, h⟩ := Option.bind_eq_some_iff.1 h
    exact ⟨_, _, ⟨(hD y0 y1 r hr).le ⟨l0, ⟨l1, trivial⟩⟩ trivial, fnok218, Nat.le_of_ble_eq_true rfl⟩, h⟩
  · cases h
def kp218 : Nat → List Tm.Loc := fun i => ([[.slot 0, .slot 1], [.slot 0, .slot 1, .slot 9, .slot 10, .slot 11], [.slot 0, .slot 1, .slot 9, .slot 10, .slot 11, .slot 12], [.slot 0, .slot 1, .slot 5, .slot 6, .slot 9, .slot 10, .slot 11], [.slot 0, .slot 1, .slot 5, .slot 6, .slot 9, .slot 10, .slot 11, .slot 19], [.slot 4], [.slot 0, .slot 1, .slot 6, .slot 7, .slot 9, .slot 10, .slot 11], [.slot 0, .slot 1, .slot 8, .slot 9, .slot 10, .slot 11], [.slot 0, .slot 1, .slot 8, .slot 9, .slot 10, .slot 11, .slot 28], [.slot 4], [.slot 0, .slot 1, .slot 9, .slot 10, .slot 11], [.slot 35], [.slot 4], [.slot 4]] : List (List Tm.Loc)).getD i []
def lp218 : Nat → LpS := fun i => bif Nat.beq i 2 then ⟨[], [], [.slot 0, .slot 1, .slot 9, .slot 10, .slot 11]⟩ else default
def sk218_2 : List (Tm.Loc × SkV) := [(.slot 0, .ints .i64), (.slot 1, .ints .i64), (.slot 9, .ints .i64), (.slot 10, .int .i64), (.slot 11, .int .i64)]
def kk218_2 (k : Ex → St → Option RT) : (Unit ⊕ Int ⊕ (List Int × List Int × List Int × Int × Int × Bool)) → Option RT := (Sum.elim (fun r => k .ret [(.slot 4, .v (.sc (.int .i64 (Int.ofNat 1))))]) (Sum.elim (fun r => k .ret [(.slot 4, .v (.sc (.int .i64 r)))]) (fun r => k (.ext 0) [(.slot 12, .v (.sc (.bool false))), (.slot 0, .v (.sc (.ints .i64 r.1))), (.slot 1, .v (.sc (.ints .i64 r.2.1))), (.slot 9, .v (.sc (.ints .i64 r.2.2.1))), (.slot 10, .v (.sc (.int .i64 r.2.2.2.1))), (.slot 11, .v (.sc (.int .i64 r.2.2.2.2.1))), (.slot 12, .v (.sc (.bool r.2.2.2.2.2)))])))
def LH218_2 (N : Nat) : St → (Ex → St → Option RT) → Option RT := fun s k => match mS sk218_2 s with
  | some [.L z0, .L z1, .L z2, .I z3, .I z4] => (Lp218_2 N N (z0, z1, z2, z3, z4)).bind (kk218_2 k)
  | _ => none
def X218 (N : Nat) : Env := { n := 36, K := K0, C := hSel 253 (H253 (D253 N)) (hNone), L := fun i s k => bif Nat.beq i 2 then LH218_2 N (normL (lp218 2) s) k else none, keep := kp218, lp := lp218 }
theorem st218_2 (N : Nat) (V : St → Option RT) (k : Ex → St → Option RT) (v : List Int × List Int × List Int × Int × Int) : vexec (X218 N ) (findLoop 2 (loopsIn (bodyOf Try.f218))) (bS sk218_2 [.L v.1, .L v.2.1, .L v.2.2.1, .I v.2.2.2.1, .I v.2.2.2.2]) (vstep V (lp218 2) k) = L218_2 N v (fun v => V (bS sk218_2 [.L v.1, .L v.2.1, .L v.2.2.1, .I v.2.2.2.1, .I v.2.2.2.2])) (kk218_2 k) := by kernel_rfl
theorem q218_2 (N : Nat) (k : Ex → St → Option RT) : ∀ n (v : List Int × List Int × List Int × Int × Int), vround (X218 N ) (findLoop 2 (loopsIn (bodyOf Try.f218))) 2 n (bS sk218_2 [.L v.1, .L v.2.1, .L v.2.2.1, .I v.2.2.2.1, .I v.2.2.2.2]) k = (Lp218_2 N n v).bind (kk218_2 k) := by
  intro n
  induction n with
  | zero => intro v; rfl
  | succ n ih =>
    intro v
    rw [vround_succ]
    refine (st218_2 N _ k v).trans ?_
    simp only [ih]
    exact L218_2_nat N v (Lp218_2 N n) (kk218_2 k)
theorem lh218_2 (N : Nat) : ∀ s k r, LH218_2 N s k = some r → vround (X218 N ) (findLoop 2 (loopsIn (bodyOf Try.f218))) 2 N s k = some r := by
  intro s k r h
  unfold LH218_2 at h
  split at h
  · rename_i z0 z1 z2 z3 z4 hm
    rw [mS_bS hm]
    exact (q218_2 N k N (z0, z1, z2, z3, z4)).trans h
  · cases h
theorem b218 (N : Nat) (a1 : List Int) (a2 : List Int) : vbody (X218 N ) Try.f218 (bodyOf Try.f218) [.sc (.ints .i64 a1), .sc (.ints .i64 a2)] [] (fun rs bx => some ⟨rs, bx⟩) = T218 N a1 a2 (fun r => some ⟨[.sc (.int .i64 r)], []⟩) := by kernel_rfl
theorem s218 (N : Nat) (a1 : List Int) (a2 : List Int) (r : Int) (h : D218 N a1 a2 = some r) : CallSpec Try.prog E0 218 [.sc (.ints .i64 a1), .sc (.ints .i64 a2)] [] [.sc (.int .i64 r)] [] := by
  refine body_ok (X := X218 N ) (CR := CRG Try.prog E0) Try.func218 (code := bodyOf Try.f218) (by kernel_rfl) rfl (by decide) mixed0 tyok0 rfl contracts_ok (cs_sel (h253 (s253 N)) (cs_none)) (LoopsBy.of fun p hp => ?_) (by kernel_rfl) (Nat.le_of_ble_eq_true (by kernel_rfl)) ?_
  · rw [show loopsIn (bodyOf Try.f218) = [(2, findLoop 2 (loopsIn (bodyOf Try.f218)))] from by kernel_rfl] at hp
    simp only [List.mem_cons, List.not_mem_nil, or_false] at hp
    subst hp
    exact vround_of (fun s k => rfl) (by kernel_rfl) (lh218_2 N)
  · rw [b218, T218_nat, h]; rfl

/-! 217: slices.MinFunc[[][]int,[]int] -/
def L217_5 {ρ : Type} (N : Nat) (v : List (List Int) × List Int × Int) (rec : (List (List Int) × List Int × Int) → Option ρ) (k : ((List (List Int) × List Int × Int × Bool)) → Option ρ) : Option ρ :=
  bif (iLt v.2.2 (Int.ofNat (List.length v.1))) then (
  bif inB v.2.2 (List.length v.1) then (
  (D218 N (List.getD v.1 (Int.toNat v.2.2) []) v.2.1).bind fun r2 =>
  bif (iLt r2 (Int.ofNat 0)) then (
  bif inB v.2.2 (List.length v.1) then (
  rec (v.1, (List.getD v.1 (Int.toNat v.2.2) []), (wrapF .i64 (v.2.2 + (Int.ofNat 1)))))
  else none)
  else (
  rec (v.1, v.2.1, (wrapF .i64 (v.2.2 + (Int.ofNat 1))))))
  else none)
  else (
  k (v.1, v.2.1, v.2.2, (iLt v.2.2 (Int.ofNat (List.length v.1)))))
def Lp217_5 (N : Nat) : Nat → (List (List Int) × List Int × Int) → Option ((List (List Int) × List Int × Int × Bool)) := fun n => Nat.rec (motive := fun _ => (List (List Int) × List Int × Int) → Option ((List (List Int) × List Int × Int × Bool))) (fun _ => none) (fun _ ih v => L217_5 N v ih some) n
theorem L217_5_nat {ρ : Type} (N : Nat) (v : List (List Int) × List Int × Int) (rec : (List (List Int) × List Int × Int) → Option ((List (List Int) × List Int × Int × Bool))) (k : ((List (List Int) × List Int × Int × Bool)) → Option ρ) : L217_5 N v (fun v => (rec v).bind k) k = (L217_5 N v rec some).bind k := by
  unfold L217_5
  simp only [Option.bind_assoc, bif_bind, elim_bind, Option.bind_some, Option.bind_none]
def T217 {ρ : Type} (N : Nat) (a1 : List (List Int)) (k : (List Int) → Option ρ) : Option ρ :=
  bif (iLt (Int.ofNat (List.length a1)) (Int.ofNat 1)) then (
  none)
  else (
  bif inB (Int.ofNat 0) (List.length a1) then (
  (Lp217_5 N N (a1, (List.getD a1 0 []), (Int.ofNat 1))).bind fun w3 =>
  k w3.2.1)
  else none)
def D217 (N : Nat) (a1 : List (List Int)) : Option (List Int) := T217 N a1 some
theorem T217_nat {ρ : Type} (N : Nat) (a1 : List (List Int)) (k : (List Int) → Option ρ) : T217 N a1 k = (D217 N a1).bind k := by
  unfold D217 T217
  simp only [Option.bind_assoc, bif_bind, elim_bind, Option.bind_some, Option.bind_none]
def H217 (D : (List (List Int)) → Option (List Int)) : Hd := fun az bx k => match az, bx with
  | [c0, c1], [] => cR c0 fun y0 => cF 218 [] c1 fun _ => (D y0).bind fun r => k [.sc (.ints .i64 r)] []
  | _, _ => none
theorem fnok217 : FnOK Try.prog 217 := ⟨Try.f217, Try.func217, rfl, by decide⟩
theorem h217 {D : (List (List Int)) → Option (List Int)} (hD : ∀ (y0 : List (List Int)), ∀ r, D y0 = some r → CallSpec Try.prog E0 217 [.sc (.rows y0), .fn 218 []] [] [.sc (.ints .i64 r)] []) : HSound Try.prog E0 217 (H217 D) := by
  intro az bx k r h
  unfold H217 at h
  split at h
  · rename_i c0 c1
    obtain ⟨y0, l0, h⟩ := cR_some h
    obtain ⟨l1, h⟩ := cF_some h
    obtain ⟨r, hr, h⟩ := Option.bind_eq_some_iff.1 h
    exact ⟨_, _, ⟨(hD y0 r hr).le ⟨l0, ⟨l1, trivial⟩⟩ trivial, fnok217, Nat.le_of_ble_eq_true rfl⟩, h⟩
  · cases h
def kp217 : Nat → List Tm.Loc := fun i => ([[.slot 0, .slot 1], [.slot 0, .slot 1, .slot 9], [.slot 0, .slot 1], [.slot 0, .slot 1, .slot 5], [.slot 0, .slot 1, .slot 5, .slot 6], [.slot 0, .slot 1, .slot 5, .slot 6, .slot 17], [.slot 0, .slot 1, .slot 5, .slot 6], [.slot 0, .slot 1, .slot 5, .slot 6, .slot 27], [.slot 0, .slot 1, .slot 5, .slot 6], [.slot 4]] : List (List Tm.Loc)).getD i []
def lp217 : Nat → LpS := fun i => bif Nat.beq i 5 then ⟨[], [], [.slot 0, .slot 1, .slot 5, .slot 6]⟩ else default
def sk217_5 : List (Tm.Loc × SkV) := [(.slot 0, .rows), (.slot 1, .fn 218 []), (.slot 5, .ints .i64), (.slot 6, .int .i64)]
def kk217_5 (k : Ex → St → Option RT) : ((List (List Int) × List Int × Int × Bool)) → Option RT := (fun r => k (.ext 0) [(.slot 17, .v (.sc (.bool false))), (.slot 0, .v (.sc (.rows r.1))), (.slot 1, .v (.fn 218 [])), (.slot 5, .v (.sc (.ints .i64 r.2.1))), (.slot 6, .v (.sc (.int .i64 r.2.2.1))), (.slot 17, .v (.sc (.bool r.2.2.2)))])
def LH217_5 (N : Nat) : St → (Ex → St → Option RT) → Option RT := fun s k => match mS sk217_5 s with
  | some [.R z0, .L z1, .I z2] => (Lp217_5 N N (z0, z1, z2)).bind (kk217_5 k)
  | _ => none
def X217 (N : Nat) : Env := { n := 33, K := K0, C := hSel 218 (H218 (D218 N)) (hNone), L := fun i s k => bif Nat.beq i 5 then LH217_5 N (normL (lp217 5) s) k else none, keep := kp217, lp := lp217 }
theorem st217_5 (N : Nat) (V : St → Option RT) (k : Ex → St → Option RT) (v : List (List Int) × List Int × Int) : vexec (X217 N ) (findLoop 5 (loopsIn (bodyOf Try.f217))) (bS sk217_5 [.R v.1, .L v.2.1, .I v.2.2]) (vstep V (lp217 5) k) = L217_5 N v (fun v => V (bS sk217_5 [.R v.1, .L v.2.1, .I v.2.2])) (kk217_5 k) := by kernel_rfl
theorem q217_5 (N : Nat) (k : Ex → St → Option RT) : ∀ n (v : List (List Int) × List Int × Int), vround (X217 N ) (findLoop 5 (loopsIn (bodyOf Try.f217))) 5 n (bS sk217_5 [.R v.1, .L v.2.1, .I v.2.2]) k = (Lp217_5 N n v).bind (kk217_5 k) := by
  intro n
  induction n with
  | zero => intro v; rfl
  | succ n ih =>
    intro v
    rw [vround_succ]
    refine (st217_5 N _ k v).trans ?_
    simp only [ih]
    exact L217_5_nat N v (Lp217_5 N n) (kk217_5 k)
theorem lh217_5 (N : Nat) : ∀ s k r, LH217_5 N s k = some r → vround (X217 N ) (findLoop 5 (loopsIn (bodyOf Try.f217))) 5 N s k = some r := by
  intro s k r h
  unfold LH217_5 at h
  split at h
  · rename_i z0 z1 z2 hm
    rw [mS_bS hm]
    exact (q217_5 N k N (z0, z1, z2)).trans h
  · cases h
theorem b217 (N : Nat) (a1 : List (List Int)) : vbody (X217 N ) Try.f217 (bodyOf Try.f217) [.sc (.rows a1), .fn 218 []] [] (fun rs bx => some ⟨rs, bx⟩) = T217 N a1 (fun r => some ⟨[.sc (.ints .i64 r)], []⟩) := by kernel_rfl
theorem s217 (N : Nat) (a1 : List (List Int)) (r : List Int) (h : D217 N a1 = some r) : CallSpec Try.prog E0 217 [.sc (.rows a1), .fn 218 []] [] [.sc (.ints .i64 r)] [] := by
  refine body_ok (X := X217 N ) (CR := CRG Try.prog E0) Try.func217 (code := bodyOf Try.f217) (by kernel_rfl) rfl (by decide) mixed0 tyok0 rfl contracts_ok (cs_sel (h218 (s218 N)) (cs_none)) (LoopsBy.of fun p hp => ?_) (by kernel_rfl) (Nat.le_of_ble_eq_true (by kernel_rfl)) ?_
  · rw [show loopsIn (bodyOf Try.f217) = [(5, findLoop 5 (loopsIn (bodyOf Try.f217)))] from by kernel_rfl] at hp
    simp only [List.mem_cons, List.not_mem_nil, or_false] at hp
    subst hp
    exact vround_of (fun s k => rfl) (by kernel_rfl) (lh217_5 N)
  · rw [b217, T217_nat, h]; rfl

/-! 113: loop.example/g01286/impl.longest -/
def L113_2 {ρ : Type} (N : Nat) (v : Int × List Int) (rec : (Int × List Int) → Option ρ) (k : ((List Int) ⊕ (Int × Bool × List Int)) → Option ρ) : Option ρ :=
  bif (iLt (Int.ofNat 0) v.1) then (
  (D214 N (Int.ofNat (List.length v.2)) v.1 v.2 []).bind fun r2 =>
  bif (iLt (Int.ofNat 0) (Int.ofNat (List.length r2.2))) then (
  (D217 N r2.2).bind fun r3 =>
  k (.inl (r3)))
  else (
  rec ((wrapF .i64 (v.1 - (Int.ofNat 1))), r2.1)))
  else (
  k (.inr ((v.1, (iLt (Int.ofNat 0) v.1), v.2))))
def Lp113_2 (N : Nat) : Nat → (Int × List Int) → Option ((List Int) ⊕ (Int × Bool × List Int)) := fun n => Nat.rec (motive := fun _ => (Int × List Int) → Option ((List Int) ⊕ (Int × Bool × List Int))) (fun _ => none) (fun _ ih v => L113_2 N v ih some) n
theorem L113_2_nat {ρ : Type} (N : Nat) (v : Int × List Int) (rec : (Int × List Int) → Option ((List Int) ⊕ (Int × Bool × List Int))) (k : ((List Int) ⊕ (Int × Bool × List Int)) → Option ρ) : L113_2 N v (fun v => (rec v).bind k) k = (L113_2 N v rec some).bind k := by
  unfold L113_2
  simp only [Option.bind_assoc, bif_bind, elim_bind, Option.bind_some, Option.bind_none]
def T113 {ρ : Type} (N : Nat) (a1 : List Int) (k : (List Int) → Option ρ) : Option ρ :=
  (Lp113_2 N N ((Int.ofNat (List.length a1)), a1)).bind (Sum.elim (fun w4 =>
  k w4) (fun w5 =>
  k []))
def D113 (N : Nat) (a1 : List Int) : Option (List Int) := T113 N a1 some
theorem T113_nat {ρ : Type} (N : Nat) (a1 : List Int) (k : (List Int) → Option ρ) : T113 N a1 k = (D113 N a1).bind k := by
  unfold D113 T113
  simp only [Option.bind_assoc, bif_bind, elim_bind, Option.bind_some, Option.bind_none]
def H113 (D : (List Int) → Option (List Int)) : Hd := fun az bx k => match az, bx with
  | [c0, c1], [] => cL .i64 c0 fun y0 => cF 114 [] c1 fun _ => (D y0).bind fun r => k [.sc (.ints .i64 r)] []
  | _, _ => none
theorem fnok113 : FnOK Try.prog 113 := ⟨Try.f113, Try.func113, rfl, by decide⟩
theorem h113 {D : (List Int) → Option (List Int)} (hD : ∀ (y0 : List Int), ∀ r, D y0 = some r → CallSpec Try.prog E0 113 [.sc (.ints .i64 y0), .fn 114 []] [] [.sc (.ints .i64 r)] []) : HSound Try.prog E0 113 (H113 D) := by
  intro az bx k r h
  unfold H113 at h
  split at h
  · rename_i c0 c1
    obtain ⟨y0, l0, h⟩ := cL_some h
    obtain ⟨l1, h⟩ := cF_some h
    obtain ⟨r, hr, h⟩ := Option.bind_eq_some_iff.1 h
    exact ⟨_, _, ⟨(hD y0 r hr).le ⟨l0, ⟨l1, trivial⟩⟩ trivial, fnok113, Nat.le_of_ble_eq_true rfl⟩, h⟩
  · cases h
def kp113 : Nat → List Tm.Loc := fun i => ([[.slot 2, .slot 3, .box (.own 2), .box (.own 3)], [.slot 2, .slot 3, .slot 5, .box (.own 2), .box (.own 3)], [.slot 2, .slot 3, .slot 5, .slot 10, .box (.own 2), .box (.own 3)], [.slot 2, .slot 3, .slot 5, .box (.own 2), .box (.own 3)], [.slot 2, .slot 3, .slot 5, .slot 6, .box (.own 2), .box (.own 3), .box (.own 6)], [.slot 2, .slot 3, .slot 5, .slot 6, .box (.own 2), .box (.own 3), .box (.own 6)], [.slot 2, .slot 3, .slot 5, .slot 6, .slot 21, .box (.own 2), .box (.own 3), .box (.own 6)], [.slot 4], [.slot 4]] : List (List Tm.Loc)).getD i []
def lp113 : Nat → LpS := fun i => bif Nat.beq i 2 then ⟨[], [], [.slot 2, .slot 3, .slot 5, .box (.own 2), .box (.own 3)]⟩ else default
def sk113_2 : List (Tm.Loc × SkV) := [(.slot 2, .pt (.own 2)), (.slot 3, .pt (.own 3)), (.slot 5, .int .i64), (.box (.own 2), .ints .i64), (.box (.own 3), .fn 114 [])]
def kk113_2 (k : Ex → St → Option RT) : ((List Int) ⊕ (Int × Bool × List Int)) → Option RT := (Sum.elim (fun r => k .ret [(.slot 4, .v (.sc (.ints .i64 r)))]) (fun r => k (.ext 0) [(.slot 10, .v (.sc (.bool false))), (.slot 2, .v (.pt (.own 2))), (.slot 3, .v (.pt (.own 3))), (.slot 5, .v (.sc (.int .i64 r.1))), (.slot 10, .v (.sc (.bool r.2.1))), (.box (.own 2), .v (.sc (.ints .i64 r.2.2))), (.box (.own 3), .v (.fn 114 []))]))
def LH113_2 (N : Nat) : St → (Ex → St → Option RT) → Option RT := fun s k => match mS sk113_2 s with
  | some [.I z0, .L z1] => (Lp113_2 N N (z0, z1)).bind (kk113_2 k)
  | _ => none
def X113 (N : Nat) : Env := { n := 24, K := K0, C := hSel 214 (H214 (D214 N)) (hSel 217 (H217 (D217 N)) (hNone)), L := fun i s k => bif Nat.beq i 2 then LH113_2 N (normL (lp113 2) s) k else none, keep := kp113, lp := lp113, rim := fun i => Nat.beq i 0 }
theorem st113_2 (N : Nat) (V : St → Option RT) (k : Ex → St → Option RT) (v : Int × List Int) : vexec (X113 N ) (findLoop 2 (loopsIn (bodyOf Try.f113))) (bS sk113_2 [.I v.1, .L v.2]) (vstep V (lp113 2) k) = L113_2 N v (fun v => V (bS sk113_2 [.I v.1, .L v.2])) (kk113_2 k) := by kernel_rfl
theorem q113_2 (N : Nat) (k : Ex → St → Option RT) : ∀ n (v : Int × List Int), vround (X113 N ) (findLoop 2 (loopsIn (bodyOf Try.f113))) 2 n (bS sk113_2 [.I v.1, .L v.2]) k = (Lp113_2 N n v).bind (kk113_2 k) := by
  intro n
  induction n with
  | zero => intro v; rfl
  | succ n ih =>
    intro v
    rw [vround_succ]
    refine (st113_2 N _ k v).trans ?_
    simp only [ih]
    exact L113_2_nat N v (Lp113_2 N n) (kk113_2 k)
theorem lh113_2 (N : Nat) : ∀ s k r, LH113_2 N s k = some r → vround (X113 N ) (findLoop 2 (loopsIn (bodyOf Try.f113))) 2 N s k = some r := by
  intro s k r h
  unfold LH113_2 at h
  split at h
  · rename_i z0 z1 hm
    rw [mS_bS hm]
    exact (q113_2 N k N (z0, z1)).trans h
  · cases h
theorem b113 (N : Nat) (a1 : List Int) : vbody (X113 N ) Try.f113 (bodyOf Try.f113) [.sc (.ints .i64 a1), .fn 114 []] [] (fun rs bx => some ⟨rs, bx⟩) = T113 N a1 (fun r => some ⟨[.sc (.ints .i64 r)], []⟩) := by kernel_rfl
theorem s113 (N : Nat) (a1 : List Int) (r : List Int) (h : D113 N a1 = some r) : CallSpec Try.prog E0 113 [.sc (.ints .i64 a1), .fn 114 []] [] [.sc (.ints .i64 r)] [] := by
  refine body_ok (X := X113 N ) (CR := CRG Try.prog E0) Try.func113 (code := bodyOf Try.f113) (by kernel_rfl) rfl (by decide) mixed0 tyok0 rfl contracts_ok (cs_sel (h214 (s214 N)) (cs_sel (h217 (s217 N)) (cs_none))) (LoopsBy.of fun p hp => ?_) (by kernel_rfl) (Nat.le_of_ble_eq_true (by kernel_rfl)) ?_
  · rw [show loopsIn (bodyOf Try.f113) = [(2, findLoop 2 (loopsIn (bodyOf Try.f113)))] from by kernel_rfl] at hp
    simp only [List.mem_cons, List.not_mem_nil, or_false] at hp
    subst hp
    exact vround_of (fun s k => rfl) (by kernel_rfl) (lh113_2 N)
  · rw [b113, T113_nat, h]; rfl

/-! 112: loop.example/g01286/impl.MeanRise$1 -/
def T112 {ρ : Type} (N : Nat) (a1 : List Int) (k : Int → Option ρ) : Option ρ :=
  (D113 N a1).bind fun r2 =>
  k (Int.ofNat (List.length r2))
def D112 (N : Nat) (a1 : List Int) : Option (Int) := T112 N a1 some
theorem T112_nat {ρ : Type} (N : Nat) (a1 : List Int) (k : Int → Option ρ) : T112 N a1 k = (D112 N a1).bind k := by
  unfold D112 T112
  simp only [Option.bind_assoc, bif_bind, elim_bind, Option.bind_some, Option.bind_none]
def H112 (D : (List Int) → Option (Int)) : Hd := fun az bx k => match az, bx with
  | [c0], [] => cL .i64 c0 fun y0 => (D y0).bind fun r => k [.sc (.int .i64 r)] []
  | _, _ => none
theorem fnok112 : FnOK Try.prog 112 := ⟨Try.f112, Try.func112, rfl, by decide⟩
theorem h112 {D : (List Int) → Option (Int)} (hD : ∀ (y0 : List Int), ∀ r, D y0 = some r → CallSpec Try.prog E0 112 [.sc (.ints .i64 y0)] [] [.sc (.int .i64 r)] []) : HSound Try.prog E0 112 (H112 D) := by
  intro az bx k r h
  unfold H112 at h
  split at h
  · rename_i c0
    obtain ⟨y0, l0, h⟩ := cL_some h
    obtain ⟨r, hr, h⟩ := Option.bind_eq_some_iff.1 h
    exact ⟨_, _, ⟨(hD y0 r hr).le ⟨l0, trivial⟩ trivial, fnok112, Nat.le_of_ble_eq_true rfl⟩, h⟩
  · cases h
def kp112 : Nat → List Tm.Loc := fun i => ([[.slot 0], [.slot 2]] : List (List Tm.Loc)).getD i []
def lp112 : Nat → LpS := fun i => default
def X112 (N : Nat) : Env := { n := 6, K := K0, C := hSel 113 (H113 (D113 N)) (hNone), L := fun i s k => none, keep := kp112, lp := lp112 }
theorem b112 (N : Nat) (a1 : List Int) : vbody (X112 N ) Try.f112 (bodyOf Try.f112) [.sc (.ints .i64 a1)] [] (fun rs bx => some ⟨rs, bx⟩) = T112 N a1 (fun r => some ⟨[.sc (.int .i64 r)], []⟩) := by kernel_rfl
theorem s112 (N : Nat) (a1 : List Int) (r : Int) (h : D112 N a1 = some r) : CallSpec Try.prog E0 112 [.sc (.ints .i64 a1)] [] [.sc (.int .i64 r)] [] := by
  refine body_ok (X := X112 N ) (CR := CRG Try.prog E0) Try.func112 (code := bodyOf Try.f112) (by kernel_rfl) rfl (by decide) mixed0 tyok0 rfl contracts_ok (cs_sel (h113 (s113 N)) (cs_none)) (LoopsBy.of fun p hp => ?_) (by kernel_rfl) (Nat.le_of_ble_eq_true (by kernel_rfl)) ?_
  · rw [show loopsIn (bodyOf Try.f112) = [] from by kernel_rfl] at hp
    cases hp
  · rw [b112, T112_nat, h]; rfl

/-! 251: loop.example/g01286/impl.fraction -/
def L251_2 {ρ : Type} (N : Nat) (v : Int × Int × Int × Int × List Int) (rec : (Int × Int × Int × Int × List Int) → Option ρ) (k : ((Int × Int × Int × Int × Bool × List Int)) → Option ρ) : Option ρ :=
  bif (!(iEq v.2.2.2.1 (Int.ofNat 0))) then (
  bif (!(iEq v.2.2.2.1 (Int.ofNat 0))) then (
  rec (v.1, v.2.1, v.2.2.2.1, (Int.tmod v.2.2.1 v.2.2.2.1), v.2.2.2.2))
  else none)
  else (
  k (v.1, v.2.1, v.2.2.1, v.2.2.2.1, (!(iEq v.2.2.2.1 (Int.ofNat 0))), v.2.2.2.2))
def Lp251_2 (N : Nat) : Nat → (Int × Int × Int × Int × List Int) → Option ((Int × Int × Int × Int × Bool × List Int)) := fun n => Nat.rec (motive := fun _ => (Int × Int × Int × Int × List Int) → Option ((Int × Int × Int × Int × Bool × List Int))) (fun _ => none) (fun _ ih v => L251_2 N v ih some) n
theorem L251_2_nat {ρ : Type} (N : Nat) (v : Int × Int × Int × Int × List Int) (rec : (Int × Int × Int × Int × List Int) → Option ((Int × Int × Int × Int × Bool × List Int))) (k : ((Int × Int × Int × Int × Bool × List Int)) → Option ρ) : L251_2 N v (fun v => (rec v).bind k) k = (L251_2 N v rec some).bind k := by
  unfold L251_2
  simp only [Option.bind_assoc, bif_bind, elim_bind, Option.bind_some, Option.bind_none]
def T251 {ρ : Type} (N : Nat) (a1 : Int) (a2 : Int) (k : (List Int) → Option ρ) : Option ρ :=
  (Lp251_2 N N (a1, a2, a1, a2, (List.replicate 2 0))).bind fun w3 =>
  bif (!(iEq w3.2.2.1 (Int.ofNat 0))) then (
  bif (!(iEq w3.2.2.1 (Int.ofNat 0))) then (
  k [(wrapF .i64 (Int.tdiv w3.1 w3.2.2.1)), (wrapF .i64 (Int.tdiv w3.2.1 w3.2.2.1))])
  else none)
  else none
def D251 (N : Nat) (a1 : Int) (a2 : Int) : Option (List Int) := T251 N a1 a2 some
theorem T251_nat {ρ : Type} (N : Nat) (a1 : Int) (a2 : Int) (k : (List Int) → Option ρ) : T251 N a1 a2 k = (D251 N a1 a2).bind k := by
  unfold D251 T251
  simp only [Option.bind_assoc, bif_bind, elim_bind, Option.bind_some, Option.bind_none]
def H251 (D : Int → Int → Option (List Int)) : Hd := fun az bx k => match az, bx with
  | [c0, c1], [] => cI .i64 c0 fun y0 => cI .i64 c1 fun y1 => (D y0 y1).bind fun r => k [.sc (.arr .i64 2 r)] []
  | _, _ => none
theorem fnok251 : FnOK Try.prog 251 := ⟨Try.f251, Try.func251, rfl, by decide⟩
theorem h251 {D : Int → Int → Option (List Int)} (hD : ∀ (y0 : Int), ∀ (y1 : Int), ∀ r, D y0 y1 = some r → CallSpec Try.prog E0 251 [.sc (.int .i64 y0), .sc (.int .i64 y1)] [] [.sc (.arr .i64 2 r)] []) : HSound Try.prog E0 251 (H251 D) := by
  intro az bx k r h
  unfold H251 at h
  split at h
  · rename_i c0 c1
    obtain ⟨y0, l0, h⟩ := cI_some h
    obtain ⟨y1, l1, h⟩ := cI_some h
    obtain ⟨r, hr, h⟩ := Option.bind_eq_some_iff.1 h
    exact ⟨_, _, ⟨(hD y0 y1 r hr).le ⟨l0, ⟨l1, trivial⟩⟩ trivial, fnok251, Nat.le_of_ble_eq_true rfl⟩, h⟩
  · cases h
def kp251 : Nat → List Tm.Loc := fun i => ([[.slot 0, .slot 1, .slot 4, .box (.own 4)], [.slot 0, .slot 1, .slot 4, .slot 5, .slot 6, .box (.own 4)], [.slot 0, .slot 1, .slot 4, .slot 5, .slot 6, .slot 10, .box (.own 4)], [.slot 0, .slot 1, .slot 4, .slot 5, .slot 6, .box (.own 4)], [.slot 4, .box (.own 4)]] : List (List Tm.Loc)).getD i []
def lp251 : Nat → LpS := fun i => bif Nat.beq i 2 then ⟨[], [], [.slot 0, .slot 1, .slot 4, .slot 5, .slot 6, .box (.own 4)]⟩ else default
def sk251_2 : List (Tm.Loc × SkV) := [(.slot 0, .int .i64), (.slot 1, .int .i64), (.slot 4, .pt (.own 4)), (.slot 5, .int .i64), (.slot 6, .int .i64), (.box (.own 4), .arr .i64 2)]
def kk251_2 (k : Ex → St → Option RT) : ((Int × Int × Int × Int × Bool × List Int)) → Option RT := (fun r => k (.ext 0) [(.slot 10, .v (.sc (.bool false))), (.slot 0, .v (.sc (.int .i64 r.1))), (.slot 1, .v (.sc (.int .i64 r.2.1))), (.slot 4, .v (.pt (.own 4))), (.slot 5, .v (.sc (.int .i64 r.2.2.1))), (.slot 6, .v (.sc (.int .i64 r.2.2.2.1))), (.slot 10, .v (.sc (.bool r.2.2.2.2.1))), (.box (.own 4), .v (.sc (.arr .i64 2 r.2.2.2.2.2)))])
def LH251_2 (N : Nat) : St → (Ex → St → Option RT) → Option RT := fun s k => match mS sk251_2 s with
  | some [.I z0, .I z1, .I z2, .I z3, .L z4] => (Lp251_2 N N (z0, z1, z2, z3, z4)).bind (kk251_2 k)
  | _ => none
def X251 (N : Nat) : Env := { n := 22, K := K0, C := hNone, L := fun i s k => bif Nat.beq i 2 then LH251_2 N (normL (lp251 2) s) k else none, keep := kp251, lp := lp251 }
theorem st251_2 (N : Nat) (V : St → Option RT) (k : Ex → St → Option RT) (v : Int × Int × Int × Int × List Int) : vexec (X251 N ) (findLoop 2 (loopsIn (bodyOf Try.f251))) (bS sk251_2 [.I v.1, .I v.2.1, .I v.2.2.1, .I v.2.2.2.1, .L v.2.2.2.2]) (vstep V (lp251 2) k) = L251_2 N v (fun v => V (bS sk251_2 [.I v.1, .I v.2.1, .I v.2.2.1, .I v.2.2.2.1, .L v.2.2.2.2])) (kk251_2 k) := by kernel_rfl
theorem q251_2 (N : Nat) (k : Ex → St → Option RT) : ∀ n (v : Int × Int × Int × Int × List Int), vround (X251 N ) (findLoop 2 (loopsIn (bodyOf Try.f251))) 2 n (bS sk251_2 [.I v.1, .I v.2.1, .I v.2.2.1, .I v.2.2.2.1, .L v.2.2.2.2]) k = (Lp251_2 N n v).bind (kk251_2 k) := by
  intro n
  induction n with
  | zero => intro v; rfl
  | succ n ih =>
    intro v
    rw [vround_succ]
    refine (st251_2 N _ k v).trans ?_
    simp only [ih]
    exact L251_2_nat N v (Lp251_2 N n) (kk251_2 k)
theorem lh251_2 (N : Nat) : ∀ s k r, LH251_2 N s k = some r → vround (X251 N ) (findLoop 2 (loopsIn (bodyOf Try.f251))) 2 N s k = some r := by
  intro s k r h
  unfold LH251_2 at h
  split at h
  · rename_i z0 z1 z2 z3 z4 hm
    rw [mS_bS hm]
    exact (q251_2 N k N (z0, z1, z2, z3, z4)).trans h
  · cases h
theorem b251 (N : Nat) (a1 : Int) (a2 : Int) : vbody (X251 N ) Try.f251 (bodyOf Try.f251) [.sc (.int .i64 a1), .sc (.int .i64 a2)] [] (fun rs bx => some ⟨rs, bx⟩) = T251 N a1 a2 (fun r => some ⟨[.sc (.arr .i64 2 r)], []⟩) := by kernel_rfl
theorem s251 (N : Nat) (a1 : Int) (a2 : Int) (r : List Int) (h : D251 N a1 a2 = some r) : CallSpec Try.prog E0 251 [.sc (.int .i64 a1), .sc (.int .i64 a2)] [] [.sc (.arr .i64 2 r)] [] := by
  refine body_ok (X := X251 N ) (CR := CRG Try.prog E0) Try.func251 (code := bodyOf Try.f251) (by kernel_rfl) rfl (by decide) mixed0 tyok0 rfl contracts_ok (cs_none) (LoopsBy.of fun p hp => ?_) (by kernel_rfl) (Nat.le_of_ble_eq_true (by kernel_rfl)) ?_
  · rw [show loopsIn (bodyOf Try.f251) = [(2, findLoop 2 (loopsIn (bodyOf Try.f251)))] from by kernel_rfl] at hp
    simp only [List.mem_cons, List.not_mem_nil, or_false] at hp
    subst hp
    exact vround_of (fun s k => rfl) (by kernel_rfl) (lh251_2 N)
  · rw [b251, T251_nat, h]; rfl

/-! 213: loop.example/g01286/impl.mean -/
def L213_3 {ρ : Type} (N : Nat) (v : Int × Int × List (List Int) × Int × Int × List Int) (rec : (Int × Int × List (List Int) × Int × Int × List Int) → Option ρ) (k : ((Int × Int × List (List Int) × Int × Int × Bool × List Int)) → Option ρ) : Option ρ :=
  bif (iLt v.2.2.2.2.1 v.2.2.2.1) then (
  bif inB v.2.2.2.2.1 (List.length v.2.2.1) then (
  (D112 N (List.getD v.2.2.1 (Int.toNat v.2.2.2.2.1) [])).bind fun r3 =>
  rec (v.1, (wrapF .i64 (v.2.1 + r3)), v.2.2.1, v.2.2.2.1, (wrapF .i64 (v.2.2.2.2.1 + (Int.ofNat 1))), v.2.2.2.2.2))
  else none)
  else (
  k (v.1, v.2.1, v.2.2.1, v.2.2.2.1, v.2.2.2.2.1, (iLt v.2.2.2.2.1 v.2.2.2.1), v.2.2.2.2.2))
def Lp213_3 (N : Nat) : Nat → (Int × Int × List (List Int) × Int × Int × List Int) → Option ((Int × Int × List (List Int) × Int × Int × Bool × List Int)) := fun n => Nat.rec (motive := fun _ => (Int × Int × List (List Int) × Int × Int × List Int) → Option ((Int × Int × List (List Int) × Int × Int × Bool × List Int))) (fun _ => none) (fun _ ih v => L213_3 N v ih some) n
theorem L213_3_nat {ρ : Type} (N : Nat) (v : Int × Int × List (List Int) × Int × Int × List Int) (rec : (Int × Int × List (List Int) × Int × Int × List Int) → Option ((Int × Int × List (List Int) × Int × Int × Bool × List Int))) (k : ((Int × Int × List (List Int) × Int × Int × Bool × List Int)) → Option ρ) : L213_3 N v (fun v => (rec v).bind k) k = (L213_3 N v rec some).bind k := by
  unfold L213_3
  simp only [Option.bind_assoc, bif_bind, elim_bind, Option.bind_some, Option.bind_none]
def T213 {ρ : Type} (N : Nat) (a1 : Int) (k : (List Int) → Option ρ) : Option ρ :=
  (D186 N a1).bind fun r2 =>
  (Lp213_3 N N (a1, (Int.ofNat 0), r2, (Int.ofNat (List.length r2)), (Int.ofNat 0), (List.replicate 2 0))).bind fun w4 =>
  (D238 N w4.1).bind fun r5 =>
  (D251 N w4.2.1 r5).bind fun r6 =>
  k r6
def D213 (N : Nat) (a1 : Int) : Option (List Int) := T213 N a1 some
theorem T213_nat {ρ : Type} (N : Nat) (a1 : Int) (k : (List Int) → Option ρ) : T213 N a1 k = (D213 N a1).bind k := by
  unfold D213 T213
  simp only [Option.bind_assoc, bif_bind, elim_bind, Option.bind_some, Option.bind_none]
def H213 (D : Int → Option (List Int)) : Hd := fun az bx k => match az, bx with
  | [c0, c1], [] => cI .i64 c0 fun y0 => cF 112 [] c1 fun _ => (D y0).bind fun r => k [.sc (.arr .i64 2 r)] []
  | _, _ => none
theorem fnok213 : FnOK Try.prog 213 := ⟨Try.f213, Try.func213, rfl, by decide⟩
theorem h213 {D : Int → Option (List Int)} (hD : ∀ (y0 : Int), ∀ r, D y0 = some r → CallSpec Try.prog E0 213 [.sc (.int .i64 y0), .fn 112 []] [] [.sc (.arr .i64 2 r)] []) : HSound Try.prog E0 213 (H213 D) := by
  intro az bx k r h
  unfold H213 at h
  split at h
  · rename_i c0 c1
    obtain ⟨y0, l0, h⟩ := cI_some h
    obtain ⟨l1, h⟩ := cF_some h
    obtain ⟨r, hr, h⟩ := Option.bind_eq_some_iff.1 h
    exact ⟨_, _, ⟨(hD y0 r hr).le ⟨l0, ⟨l1, trivial⟩⟩ trivial, fnok213, Nat.le_of_ble_eq_true rfl⟩, h⟩
  · cases h
def kp213 : Nat → List Tm.Loc := fun i => ([[.slot 0, .slot 1, .slot 4, .box (.own 4)], [.slot 0, .slot 1, .slot 4, .slot 5, .box (.own 4)], [.slot 0, .slot 1, .slot 4, .slot 5, .slot 9, .slot 10, .slot 11, .box (.own 4)], [.slot 0, .slot 1, .slot 4, .slot 5, .slot 9, .slot 10, .slot 11, .slot 12, .box (.own 4)], [.slot 0, .slot 1, .slot 4, .slot 5, .slot 7, .slot 9, .slot 10, .slot 11, .box (.own 4)], [.slot 0, .slot 1, .slot 4, .slot 5, .slot 9, .slot 10, .slot 11, .box (.own 4)], [.slot 0, .slot 1, .slot 4, .slot 5, .slot 9, .slot 10, .slot 11, .box (.own 4)], [.slot 4, .box (.own 4)]] : List (List Tm.Loc)).getD i []
def lp213 : Nat → LpS := fun i => bif Nat.beq i 3 then ⟨[], [], [.slot 0, .slot 1, .slot 4, .slot 5, .slot 9, .slot 10, .slot 11, .box (.own 4)]⟩ else default
def sk213_3 : List (Tm.Loc × SkV) := [(.slot 0, .int .i64), (.slot 1, .fn 112 []), (.slot 4, .pt (.own 4)), (.slot 5, .int .i64), (.slot 9, .rf 100000009), (.tok 100000009, .tR true), (.slot 10, .int .i64), (.slot 11, .int .i64), (.box (.own 4), .arr .i64 2)]
def kk213_3 (k : Ex → St → Option RT) : ((Int × Int × List (List Int) × Int × Int × Bool × List Int)) → Option RT := (fun r => k (.ext 0) [(.slot 12, .v (.sc (.bool false))), (.slot 0, .v (.sc (.int .i64 r.1))), (.slot 1, .v (.fn 112 [])), (.slot 4, .v (.pt (.own 4))), (.slot 5, .v (.sc (.int .i64 r.2.1))), (.slot 9, .v (.rf 100000009)), (.tok 100000009, .t 0 (.rows true r.2.2.1)), (.slot 10, .v (.sc (.int .i64 r.2.2.2.1))), (.slot 11, .v (.sc (.int .i64 r.2.2.2.2.1))), (.slot 12, .v (.sc (.bool r.2.2.2.2.2.1))), (.box (.own 4), .v (.sc (.arr .i64 2 r.2.2.2.2.2.2)))])
def LH213_3 (N : Nat) : St → (Ex → St → Option RT) → Option RT := fun s k => match mS sk213_3 s with
  | some [.I z0, .I z1, .R z2, .I z3, .I z4, .L z5] => (Lp213_3 N N (z0, z1, z2, z3, z4, z5)).bind (kk213_3 k)
  | _ => none
def X213 (N : Nat) : Env := { n := 25, K := K0, C := hSel 186 (H186 (D186 N)) (hSel 112 (H112 (D112 N)) (hSel 238 (H238 (D238 N)) (hSel 251 (H251 (D251 N)) (hNone)))), L := fun i s k => bif Nat.beq i 3 then LH213_3 N (normL (lp213 3) s) k else none, keep := kp213, lp := lp213 }
theorem st213_3 (N : Nat) (V : St → Option RT) (k : Ex → St → Option RT) (v : Int × Int × List (List Int) × Int × Int × List Int) : vexec (X213 N ) (findLoop 3 (loopsIn (bodyOf Try.f213))) (bS sk213_3 [.I v.1, .I v.2.1, .R v.2.2.1, .I v.2.2.2.1, .I v.2.2.2.2.1, .L v.2.2.2.2.2]) (vstep V (lp213 3) k) = L213_3 N v (fun v => V (bS sk213_3 [.I v.1, .I v.2.1, .R v.2.2.1, .I v.2.2.2.1, .I v.2.2.2.2.1, .L v.2.2.2.2.2])) (kk213_3 k) := by kernel_rfl
theorem q213_3 (N : Nat) (k : Ex → St → Option RT) : ∀ n (v : Int × Int × List (List Int) × Int × Int × List Int), vround (X213 N ) (findLoop 3 (loopsIn (bodyOf Try.f213))) 3 n (bS sk213_3 [.I v.1, .I v.2.1, .R v.2.2.1, .I v.2.2.2.1, .I v.2.2.2.2.1, .L v.2.2.2.2.2]) k = (Lp213_3 N n v).bind (kk213_3 k) := by
  intro n
  induction n with
  | zero => intro v; rfl
  | succ n ih =>
    intro v
    rw [vround_succ]
    refine (st213_3 N _ k v).trans ?_
    simp only [ih]
    exact L213_3_nat N v (Lp213_3 N n) (kk213_3 k)
theorem lh213_3 (N : Nat) : ∀ s k r, LH213_3 N s k = some r → vround (X213 N ) (findLoop 3 (loopsIn (bodyOf Try.f213))) 3 N s k = some r := by
  intro s k r h
  unfold LH213_3 at h
  split at h
  · rename_i z0 z1 z2 z3 z4 z5 hm
    rw [mS_bS hm]
    exact (q213_3 N k N (z0, z1, z2, z3, z4, z5)).trans h
  · cases h
theorem b213 (N : Nat) (a1 : Int) : vbody (X213 N ) Try.f213 (bodyOf Try.f213) [.sc (.int .i64 a1), .fn 112 []] [] (fun rs bx => some ⟨rs, bx⟩) = T213 N a1 (fun r => some ⟨[.sc (.arr .i64 2 r)], []⟩) := by kernel_rfl
theorem s213 (N : Nat) (a1 : Int) (r : List Int) (h : D213 N a1 = some r) : CallSpec Try.prog E0 213 [.sc (.int .i64 a1), .fn 112 []] [] [.sc (.arr .i64 2 r)] [] := by
  refine body_ok (X := X213 N ) (CR := CRG Try.prog E0) Try.func213 (code := bodyOf Try.f213) (by kernel_rfl) rfl (by decide) mixed0 tyok0 rfl contracts_ok (cs_sel (h186 (s186 N)) (cs_sel (h112 (s112 N)) (cs_sel (h238 (s238 N)) (cs_sel (h251 (s251 N)) (cs_none))))) (LoopsBy.of fun p hp => ?_) (by kernel_rfl) (Nat.le_of_ble_eq_true (by kernel_rfl)) ?_
  · rw [show loopsIn (bodyOf Try.f213) = [(3, findLoop 3 (loopsIn (bodyOf Try.f213)))] from by kernel_rfl] at hp
    simp only [List.mem_cons, List.not_mem_nil, or_false] at hp
    subst hp
    exact vround_of (fun s k => rfl) (by kernel_rfl) (lh213_3 N)
  · rw [b213, T213_nat, h]; rfl

/-! 111: loop.example/g01286/impl.drawnMean -/
def T111 {ρ : Type} (N : Nat) (a1 : Int) (a2 : Bool) (k : (List Int × Bool) → Option ρ) : Option ρ :=
  (D212 N a1).bind fun r3 =>
  bif (!(!r3)) then (
  bif (!a2) then (
  k ([(Int.ofNat 0), (Int.ofNat 0)], false))
  else (
  (D213 N a1).bind fun r4 =>
  k (r4, true)))
  else (
  k ([(Int.ofNat 0), (Int.ofNat 0)], false))
def D111 (N : Nat) (a1 : Int) (a2 : Bool) : Option (List Int × Bool) := T111 N a1 a2 some
theorem T111_nat {ρ : Type} (N : Nat) (a1 : Int) (a2 : Bool) (k : (List Int × Bool) → Option ρ) : T111 N a1 a2 k = (D111 N a1 a2).bind k := by
  unfold D111 T111
  simp only [Option.bind_assoc, bif_bind, elim_bind, Option.bind_some, Option.bind_none]
def H111 (D : Int → Bool → Option (List Int × Bool)) : Hd := fun az bx k => match az, bx with
  | [c0, c1, c2], [] => cI .i64 c0 fun y0 => cB c1 fun y1 => cF 112 [] c2 fun _ => (D y0 y1).bind fun r => k [.sc (.arr .i64 2 r.1), .sc (.bool r.2)] []
  | _, _ => none
theorem fnok111 : FnOK Try.prog 111 := ⟨Try.f111, Try.func111, rfl, by decide⟩
theorem h111 {D : Int → Bool → Option (List Int × Bool)} (hD : ∀ (y0 : Int), ∀ (y1 : Bool), ∀ r, D y0 y1 = some r → CallSpec Try.prog E0 111 [.sc (.int .i64 y0), .sc (.bool y1), .fn 112 []] [] [.sc (.arr .i64 2 r.1), .sc (.bool r.2)] []) : HSound Try.prog E0 111 (H111 D) := by
  intro az bx k r h
  unfold H111 at h
  split at h
  · rename_i c0 c1 c2
    obtain ⟨y0, l0, h⟩ := cI_some h
    obtain ⟨y1, l1, h⟩ := cB_some h
    obtain ⟨l2, h⟩ := cF_some h
    obtain ⟨r, hr, h⟩ := Option.bind_eq_some_iff.1 h
    exact ⟨_, _, ⟨(hD y0 y1 r hr).le ⟨l0, ⟨l1, ⟨l2, trivial⟩⟩⟩ trivial, fnok111, Nat.le_of_ble_eq_true rfl⟩, h⟩
  · cases h
def kp111 : Nat → List Tm.Loc := fun i => ([[.slot 0, .slot 1, .slot 2, .slot 6, .slot 12, .slot 13, .box (.own 6)], [.slot 0, .slot 2, .slot 6, .slot 14, .box (.own 6)], [.slot 6, .slot 7, .box (.own 6)], [.slot 6, .slot 7, .box (.own 6)]] : List (List Tm.Loc)).getD i []
def lp111 : Nat → LpS := fun i => default
def X111 (N : Nat) : Env := { n := 19, K := K0, C := hSel 212 (H212 (D212 N)) (hSel 213 (H213 (D213 N)) (hNone)), L := fun i s k => none, keep := kp111, lp := lp111 }
theorem b111 (N : Nat) (a1 : Int) (a2 : Bool) : vbody (X111 N ) Try.f111 (bodyOf Try.f111) [.sc (.int .i64 a1), .sc (.bool a2), .fn 112 []] [] (fun rs bx => some ⟨rs, bx⟩) = T111 N a1 a2 (fun r => some ⟨[.sc (.arr .i64 2 r.1), .sc (.bool r.2)], []⟩) := by kernel_rfl
theorem s111 (N : Nat) (a1 : Int) (a2 : Bool) (r : List Int × Bool) (h : D111 N a1 a2 = some r) : CallSpec Try.prog E0 111 [.sc (.int .i64 a1), .sc (.bool a2), .fn 112 []] [] [.sc (.arr .i64 2 r.1), .sc (.bool r.2)] [] := by
  refine body_ok (X := X111 N ) (CR := CRG Try.prog E0) Try.func111 (code := bodyOf Try.f111) (by kernel_rfl) rfl (by decide) mixed0 tyok0 rfl contracts_ok (cs_sel (h212 (s212 N)) (cs_sel (h213 (s213 N)) (cs_none))) (LoopsBy.of fun p hp => ?_) (by kernel_rfl) (Nat.le_of_ble_eq_true (by kernel_rfl)) ?_
  · rw [show loopsIn (bodyOf Try.f111) = [] from by kernel_rfl] at hp
    cases hp
  · rw [b111, T111_nat, h]; rfl

/-! 12: loop.example/g01286/impl.MeanRise -/
def T12 {ρ : Type} (N : Nat) (a1 : Int) (k : (List Int × Bool) → Option ρ) : Option ρ :=
  (D111 N a1 true).bind fun r2 =>
  k (r2.1, r2.2)
def D12 (N : Nat) (a1 : Int) : Option (List Int × Bool) := T12 N a1 some
theorem T12_nat {ρ : Type} (N : Nat) (a1 : Int) (k : (List Int × Bool) → Option ρ) : T12 N a1 k = (D12 N a1).bind k := by
  unfold D12 T12
  simp only [Option.bind_assoc, bif_bind, elim_bind, Option.bind_some, Option.bind_none]
def H12 (D : Int → Option (List Int × Bool)) : Hd := fun az bx k => match az, bx with
  | [c0], [] => cI .i64 c0 fun y0 => (D y0).bind fun r => k [.sc (.arr .i64 2 r.1), .sc (.bool r.2)] []
  | _, _ => none
theorem fnok12 : FnOK Try.prog 12 := ⟨Try.f12, Try.func12, rfl, by decide⟩
theorem h12 {D : Int → Option (List Int × Bool)} (hD : ∀ (y0 : Int), ∀ r, D y0 = some r → CallSpec Try.prog E0 12 [.sc (.int .i64 y0)] [] [.sc (.arr .i64 2 r.1), .sc (.bool r.2)] []) : HSound Try.prog E0 12 (H12 D) := by
  intro az bx k r h
  unfold H12 at h
  split at h
  · rename_i c0
    obtain ⟨y0, l0, h⟩ := cI_some h
    obtain ⟨r, hr, h⟩ := Option.bind_eq_some_iff.1 h
    exact ⟨_, _, ⟨(hD y0 r hr).le ⟨l0, trivial⟩ trivial, fnok12, Nat.le_of_ble_eq_true rfl⟩, h⟩
  · cases h
def kp12 : Nat → List Tm.Loc := fun i => ([[.slot 0, .slot 2, .box (.own 2)], [.slot 2, .slot 3, .box (.own 2)]] : List (List Tm.Loc)).getD i []
def lp12 : Nat → LpS := fun i => default
def X12 (N : Nat) : Env := { n := 8, K := K0, C := hSel 111 (H111 (D111 N)) (hNone), L := fun i s k => none, keep := kp12, lp := lp12 }
theorem b12 (N : Nat) (a1 : Int) : vbody (X12 N ) Try.f12 (bodyOf Try.f12) [.sc (.int .i64 a1)] [] (fun rs bx => some ⟨rs, bx⟩) = T12 N a1 (fun r => some ⟨[.sc (.arr .i64 2 r.1), .sc (.bool r.2)], []⟩) := by kernel_rfl
theorem s12 (N : Nat) (a1 : Int) (r : List Int × Bool) (h : D12 N a1 = some r) : CallSpec Try.prog E0 12 [.sc (.int .i64 a1)] [] [.sc (.arr .i64 2 r.1), .sc (.bool r.2)] [] := by
  refine body_ok (X := X12 N ) (CR := CRG Try.prog E0) Try.func12 (code := bodyOf Try.f12) (by kernel_rfl) rfl (by decide) mixed0 tyok0 rfl contracts_ok (cs_sel (h111 (s111 N)) (cs_none)) (LoopsBy.of fun p hp => ?_) (by kernel_rfl) (Nat.le_of_ble_eq_true (by kernel_rfl)) ?_
  · rw [show loopsIn (bodyOf Try.f12) = [] from by kernel_rfl] at hp
    cases hp
  · rw [b12, T12_nat, h]; rfl

/-! 13: loop.example/g01286/laws.eqIntA2 -/
def L13_2 {ρ : Type} (N : Nat) (v : Int × List Int × List Int) (rec : (Int × List Int × List Int) → Option ρ) (k : (Unit ⊕ (Int × Bool × List Int × List Int)) → Option ρ) : Option ρ :=
  bif (iLt v.1 (Int.ofNat 2)) then (
  bif inB v.1 2 then (
  bif inB v.1 2 then (
  bif (!(iEq (List.getD v.2.1 (Int.toNat v.1) (Int.ofNat 0)) (List.getD v.2.2 (Int.toNat v.1) (Int.ofNat 0)))) then (
  k (.inl (())))
  else (
  rec ((wrapF .i64 (v.1 + (Int.ofNat 1))), v.2.1, v.2.2)))
  else none)
  else none)
  else (
  k (.inr ((v.1, (iLt v.1 (Int.ofNat 2)), v.2.1, v.2.2))))
def Lp13_2 (N : Nat) : Nat → (Int × List Int × List Int) → Option (Unit ⊕ (Int × Bool × List Int × List Int)) := fun n => Nat.rec (motive := fun _ => (Int × List Int × List Int) → Option (Unit ⊕ (Int × Bool × List Int × List Int))) (fun _ => none) (fun _ ih v => L13_2 N v ih some) n
theorem L13_2_nat {ρ : Type} (N : Nat) (v : Int × List Int × List Int) (rec : (Int × List Int × List Int) → Option (Unit ⊕ (Int × Bool × List Int × List Int))) (k : (Unit ⊕ (Int × Bool × List Int × List Int)) → Option ρ) : L13_2 N v (fun v => (rec v).bind k) k = (L13_2 N v rec some).bind k := by
  unfold L13_2
  simp only [Option.bind_assoc, bif_bind, elim_bind, Option.bind_some, Option.bind_none]
def T13 {ρ : Type} (N : Nat) (a1 : List Int) (a2 : List Int) (k : Bool → Option ρ) : Option ρ :=
  (Lp13_2 N N ((Int.ofNat 0), a1, a2)).bind (Sum.elim (fun _ =>
  k false) (fun w4 =>
  k true))
def D13 (N : Nat) (a1 : List Int) (a2 : List Int) : Option (Bool) := T13 N a1 a2 some
theorem T13_nat {ρ : Type} (N : Nat) (a1 : List Int) (a2 : List Int) (k : Bool → Option ρ) : T13 N a1 a2 k = (D13 N a1 a2).bind k := by
  unfold D13 T13
  simp only [Option.bind_assoc, bif_bind, elim_bind, Option.bind_some, Option.bind_none]
def H13 (D : (List Int) → (List Int) → Option (Bool)) : Hd := fun az bx k => match az, bx with
  | [c0, c1], [] => cA .i64 2 c0 fun y0 => cA .i64 2 c1 fun y1 => (D y0 y1).bind fun r => k [.sc (.bool r)] []
  | _, _ => none
theorem fnok13 : FnOK Try.prog 13 := ⟨Try.f13, Try.func13, rfl, by decide⟩
theorem h13 {D : (List Int) → (List Int) → Option (Bool)} (hD : ∀ (y0 : List Int), ∀ (y1 : List Int), ∀ r, D y0 y1 = some r → CallSpec Try.prog E0 13 [.sc (.arr .i64 2 y0), .sc (.arr .i64 2 y1)] [] [.sc (.bool r)] []) : HSound Try.prog E0 13 (H13 D) := by
  intro az bx k r h
  unfold H13 at h
  split at h
  · rename_i c0 c1
    obtain ⟨y0, l0, h⟩ := cA_some h
    obtain ⟨y1, l1, h⟩ := cA_some h
    obtain ⟨r, hr, h⟩ := Option.bind_eq_some_iff.1 h
    exact ⟨_, _, ⟨(hD y0 y1 r hr).le ⟨l0, ⟨l1, trivial⟩⟩ trivial, fnok13, Nat.le_of_ble_eq_true rfl⟩, h⟩
  · cases h
def kp13 : Nat → List Tm.Loc := fun i => ([[.slot 2, .slot 3, .box (.own 2), .box (.own 3)], [.slot 2, .slot 3, .slot 5, .box (.own 2), .box (.own 3)], [.slot 2, .slot 3, .slot 5, .slot 7, .box (.own 2), .box (.own 3)], [.slot 2, .slot 3, .slot 5, .box (.own 2), .box (.own 3)], [.slot 2, .slot 3, .slot 5, .slot 16, .box (.own 2), .box (.own 3)], [.slot 4], [.slot 4]] : List (List Tm.Loc)).getD i []
def lp13 : Nat → LpS := fun i => bif Nat.beq i 2 then ⟨[], [], [.slot 2, .slot 3, .slot 5, .box (.own 2), .box (.own 3)]⟩ else default
def sk13_2 : List (Tm.Loc × SkV) := [(.slot 2, .pt (.own 2)), (.slot 3, .pt (.own 3)), (.slot 5, .int .i64), (.box (.own 2), .arr .i64 2), (.box (.own 3), .arr .i64 2)]
def kk13_2 (k : Ex → St → Option RT) : (Unit ⊕ (Int × Bool × List Int × List Int)) → Option RT := (Sum.elim (fun r => k .ret [(.slot 4, .v (.sc (.bool false)))]) (fun r => k (.ext 0) [(.slot 7, .v (.sc (.bool false))), (.slot 2, .v (.pt (.own 2))), (.slot 3, .v (.pt (.own 3))), (.slot 5, .v (.sc (.int .i64 r.1))), (.slot 7, .v (.sc (.bool r.2.1))), (.box (.own 2), .v (.sc (.arr .i64 2 r.2.2.1))), (.box (.own 3), .v (.sc (.arr .i64 2 r.2.2.2)))]))
def LH13_2 (N : Nat) : St → (Ex → St → Option RT) → Option RT := fun s k => match mS sk13_2 s with
  | some [.I z0, .L z1, .L z2] => (Lp13_2 N N (z0, z1, z2)).bind (kk13_2 k)
  | _ => none
def X13 (N : Nat) : Env := { n := 17, K := K0, C := hNone, L := fun i s k => bif Nat.beq i 2 then LH13_2 N (normL (lp13 2) s) k else none, keep := kp13, lp := lp13 }
theorem st13_2 (N : Nat) (V : St → Option RT) (k : Ex → St → Option RT) (v : Int × List Int × List Int) : vexec (X13 N ) (findLoop 2 (loopsIn (bodyOf Try.f13))) (bS sk13_2 [.I v.1, .L v.2.1, .L v.2.2]) (vstep V (lp13 2) k) = L13_2 N v (fun v => V (bS sk13_2 [.I v.1, .L v.2.1, .L v.2.2])) (kk13_2 k) := by kernel_rfl
theorem q13_2 (N : Nat) (k : Ex → St → Option RT) : ∀ n (v : Int × List Int × List Int), vround (X13 N ) (findLoop 2 (loopsIn (bodyOf Try.f13))) 2 n (bS sk13_2 [.I v.1, .L v.2.1, .L v.2.2]) k = (Lp13_2 N n v).bind (kk13_2 k) := by
  intro n
  induction n with
  | zero => intro v; rfl
  | succ n ih =>
    intro v
    rw [vround_succ]
    refine (st13_2 N _ k v).trans ?_
    simp only [ih]
    exact L13_2_nat N v (Lp13_2 N n) (kk13_2 k)
theorem lh13_2 (N : Nat) : ∀ s k r, LH13_2 N s k = some r → vround (X13 N ) (findLoop 2 (loopsIn (bodyOf Try.f13))) 2 N s k = some r := by
  intro s k r h
  unfold LH13_2 at h
  split at h
  · rename_i z0 z1 z2 hm
    rw [mS_bS hm]
    exact (q13_2 N k N (z0, z1, z2)).trans h
  · cases h
theorem b13 (N : Nat) (a1 : List Int) (a2 : List Int) : vbody (X13 N ) Try.f13 (bodyOf Try.f13) [.sc (.arr .i64 2 a1), .sc (.arr .i64 2 a2)] [] (fun rs bx => some ⟨rs, bx⟩) = T13 N a1 a2 (fun r => some ⟨[.sc (.bool r)], []⟩) := by kernel_rfl
theorem s13 (N : Nat) (a1 : List Int) (a2 : List Int) (r : Bool) (h : D13 N a1 a2 = some r) : CallSpec Try.prog E0 13 [.sc (.arr .i64 2 a1), .sc (.arr .i64 2 a2)] [] [.sc (.bool r)] [] := by
  refine body_ok (X := X13 N ) (CR := CRG Try.prog E0) Try.func13 (code := bodyOf Try.f13) (by kernel_rfl) rfl (by decide) mixed0 tyok0 rfl contracts_ok (cs_none) (LoopsBy.of fun p hp => ?_) (by kernel_rfl) (Nat.le_of_ble_eq_true (by kernel_rfl)) ?_
  · rw [show loopsIn (bodyOf Try.f13) = [(2, findLoop 2 (loopsIn (bodyOf Try.f13)))] from by kernel_rfl] at hp
    simp only [List.mem_cons, List.not_mem_nil, or_false] at hp
    subst hp
    exact vround_of (fun s k => rfl) (by kernel_rfl) (lh13_2 N)
  · rw [b13, T13_nat, h]; rfl

/-! 3: loop.example/g01286/laws.FnExactMeanRise -/
def T3 {ρ : Type} (N : Nat) (a1 : Int) (k : Bool → Option ρ) : Option ρ :=
  (D11 N a1).bind fun r2 =>
  (D12 N a1).bind fun r3 =>
  (D13 N r3.1 r2.1).bind fun r4 =>
  bif (!(!r4)) then (
  bif (!(r3.2 == r2.2)) then (
  k false)
  else (
  k true))
  else (
  k false)
def D3 (N : Nat) (a1 : Int) : Option (Bool) := T3 N a1 some
theorem T3_nat {ρ : Type} (N : Nat) (a1 : Int) (k : Bool → Option ρ) : T3 N a1 k = (D3 N a1).bind k := by
  unfold D3 T3
  simp only [Option.bind_assoc, bif_bind, elim_bind, Option.bind_some, Option.bind_none]
def H3 (D : Int → Option (Bool)) : Hd := fun az bx k => match az, bx with
  | [c0], [] => cI .i64 c0 fun y0 => (D y0).bind fun r => k [.sc (.bool r)] []
  | _, _ => none
theorem fnok3 : FnOK Try.prog 3 := ⟨Try.f3, Try.func3, rfl, by decide⟩
theorem h3 {D : Int → Option (Bool)} (hD : ∀ (y0 : Int), ∀ r, D y0 = some r → CallSpec Try.prog E0 3 [.sc (.int .i64 y0)] [] [.sc (.bool r)] []) : HSound Try.prog E0 3 (H3 D) := by
  intro az bx k r h
  unfold H3 at h
  split at h
  · rename_i c0
    obtain ⟨y0, l0, h⟩ := cI_some h
    obtain ⟨r, hr, h⟩ := Option.bind_eq_some_iff.1 h
    exact ⟨_, _, ⟨(hD y0 r hr).le ⟨l0, trivial⟩ trivial, fnok3, Nat.le_of_ble_eq_true rfl⟩, h⟩
  · cases h
def kp3 : Nat → List Tm.Loc := fun i => ([[.slot 0, .slot 22, .slot 23, .slot 24], [.slot 0, .slot 3, .slot 4, .slot 22, .slot 23, .slot 24, .box (.own 3)], [.slot 3, .slot 4, .slot 5, .slot 6, .slot 22, .slot 23, .slot 24, .box (.own 3), .box (.own 5)], [.slot 25], [.slot 2], [.slot 2]] : List (List Tm.Loc)).getD i []
def lp3 : Nat → LpS := fun i => default
def X3 (N : Nat) : Env := { n := 26, K := K0, C := hSel 11 (H11 (D11 N)) (hSel 12 (H12 (D12 N)) (hSel 13 (H13 (D13 N)) (hNone))), L := fun i s k => none, keep := kp3, lp := lp3 }
theorem b3 (N : Nat) (a1 : Int) : vbody (X3 N ) Try.f3 (bodyOf Try.f3) [.sc (.int .i64 a1)] [] (fun rs bx => some ⟨rs, bx⟩) = T3 N a1 (fun r => some ⟨[.sc (.bool r)], []⟩) := by kernel_rfl
theorem s3 (N : Nat) (a1 : Int) (r : Bool) (h : D3 N a1 = some r) : CallSpec Try.prog E0 3 [.sc (.int .i64 a1)] [] [.sc (.bool r)] [] := by
  refine body_ok (X := X3 N ) (CR := CRG Try.prog E0) Try.func3 (code := bodyOf Try.f3) (by kernel_rfl) rfl (by decide) mixed0 tyok0 rfl contracts_ok (cs_sel (h11 (s11 N)) (cs_sel (h12 (s12 N)) (cs_sel (h13 (s13 N)) (cs_none)))) (LoopsBy.of fun p hp => ?_) (by kernel_rfl) (Nat.le_of_ble_eq_true (by kernel_rfl)) ?_
  · rw [show loopsIn (bodyOf Try.f3) = [] from by kernel_rfl] at hp
    cases hp
  · rw [b3, T3_nat, h]; rfl

end Go.Proofs.Ytmcldnoofgkidaa
