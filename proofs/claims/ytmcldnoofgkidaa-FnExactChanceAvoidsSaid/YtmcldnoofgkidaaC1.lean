/- The functions of the program: what they compute, and their contracts. Printed by gen.py. -/
import Derived.Test.YtmcldnoofgkidaaC0
set_option linter.unusedVariables false
set_option linter.unusedSimpArgs false
set_option maxRecDepth 100000
namespace Go.Proofs.Ytmcldnoofgkidaa
open Go.Tm

/-! 256: slices.IndexFunc[[][]int,[]int] -/
def L256x1_2 {ρ : Type} (N : Nat) (v : List (List Int) × Int × Int × List Int) (rec : (List (List Int) × Int × Int × List Int) → Option ρ) (k : ((Int × List Int) ⊕ (List (List Int) × Int × Int × Bool × List Int)) → Option ρ) : Option ρ :=
  bif (iLt v.2.2.1 v.2.1) then (
  bif inB v.2.2.1 (List.length v.1) then (
  (D226 N (List.getD v.1 (Int.toNat v.2.2.1) []) v.2.2.2).bind fun r3 =>
  bif r3.1 then (
  k (.inl ((v.2.2.1, r3.2))))
  else (
  rec (v.1, v.2.1, (wrapF .i64 (v.2.2.1 + (Int.ofNat 1))), r3.2)))
  else none)
  else (
  k (.inr ((v.1, v.2.1, v.2.2.1, (iLt v.2.2.1 v.2.1), v.2.2.2))))
def Lp256x1_2 (N : Nat) : Nat → (List (List Int) × Int × Int × List Int) → Option ((Int × List Int) ⊕ (List (List Int) × Int × Int × Bool × List Int)) := fun n => Nat.rec (motive := fun _ => (List (List Int) × Int × Int × List Int) → Option ((Int × List Int) ⊕ (List (List Int) × Int × Int × Bool × List Int))) (fun _ => none) (fun _ ih v => L256x1_2 N v ih some) n
theorem L256x1_2_nat {ρ : Type} (N : Nat) (v : List (List Int) × Int × Int × List Int) (rec : (List (List Int) × Int × Int × List Int) → Option ((Int × List Int) ⊕ (List (List Int) × Int × Int × Bool × List Int))) (k : ((Int × List Int) ⊕ (List (List Int) × Int × Int × Bool × List Int)) → Option ρ) : L256x1_2 N v (fun v => (rec v).bind k) k = (L256x1_2 N v rec some).bind k := by
  unfold L256x1_2
  simp only [Option.bind_assoc, bif_bind, elim_bind, Option.bind_some, Option.bind_none]
def T256x1 {ρ : Type} (N : Nat) (a1 : List (List Int)) (a2 : List Int) (k : (Int × List Int) → Option ρ) : Option ρ :=
  (Lp256x1_2 N N (a1, (Int.ofNat (List.length a1)), (Int.ofNat 0), a2)).bind (Sum.elim (fun w4 =>
  k (w4.1, w4.2)) (fun w5 =>
  k ((Int.negSucc 0), w5.2.2.2.2)))
def D256x1 (N : Nat) (a1 : List (List Int)) (a2 : List Int) : Option (Int × List Int) := T256x1 N a1 a2 some
theorem T256x1_nat {ρ : Type} (N : Nat) (a1 : List (List Int)) (a2 : List Int) (k : (Int × List Int) → Option ρ) : T256x1 N a1 a2 k = (D256x1 N a1 a2).bind k := by
  unfold D256x1 T256x1
  simp only [Option.bind_assoc, bif_bind, elim_bind, Option.bind_some, Option.bind_none]
def H256x1 (D : (List (List Int)) → (List Int) → Option (Int × List Int)) : Hd := fun az bx k => match az, bx with
  | [c0, c1], [d0] => cR c0 fun y0 => cF 226 [0] c1 fun _ => cL .i64 d0 fun y1 => (D y0 y1).bind fun r => k [.sc (.int .i64 r.1)] [.sc (.ints .i64 r.2)]
  | _, _ => none
theorem fnok256x1 : FnOK Try.prog 256 := ⟨Try.f256, Try.func256, rfl, by decide⟩
theorem h256x1 {D : (List (List Int)) → (List Int) → Option (Int × List Int)} (hD : ∀ (y0 : List (List Int)), ∀ (y1 : List Int), ∀ r, D y0 y1 = some r → CallSpec Try.prog E0 256 [.sc (.rows y0), .fn 226 [0]] [.sc (.ints .i64 y1)] [.sc (.int .i64 r.1)] [.sc (.ints .i64 r.2)]) : HSound Try.prog E0 256 (H256x1 D) := by
  intro az bx k r h
  unfold H256x1 at h
  split at h
  · rename_i c0 c1 d0
    obtain ⟨y0, l0, h⟩ := cR_some h
    obtain ⟨l1, h⟩ := cF_some h
    obtain ⟨y1, l2, h⟩ := cL_some h
    obtain ⟨r, hr, h⟩ := Option.bind_eq_some_iff.1 h
    exact ⟨_, _, ⟨(hD y0 y1 r hr).le ⟨l0, ⟨l1, trivial⟩⟩ ⟨l2, trivial⟩, fnok256x1, Nat.le_of_ble_eq_true rfl⟩, h⟩
  · cases h
def kp256x1 : Nat → List Tm.Loc := fun i => ([[.slot 0, .slot 1, .box (.par 0)], [.slot 0, .slot 1, .slot 7, .slot 8, .box (.par 0)], [.slot 0, .slot 1, .slot 7, .slot 8, .slot 9, .box (.par 0)], [.slot 0, .slot 1, .slot 5, .slot 7, .slot 8, .box (.par 0)], [.slot 0, .slot 1, .slot 5, .slot 7, .slot 8, .slot 16, .box (.par 0)], [.slot 4, .box (.par 0)], [.slot 0, .slot 1, .slot 7, .slot 8, .box (.par 0)], [.slot 4, .box (.par 0)]] : List (List Tm.Loc)).getD i []
def lp256x1 : Nat → LpS := fun i => bif Nat.beq i 2 then ⟨[], [], [.slot 0, .slot 1, .slot 7, .slot 8, .box (.par 0)]⟩ else default
def sk256x1_2 : List (Tm.Loc × SkV) := [(.slot 0, .rows), (.slot 1, .fn 226 [.par 0]), (.slot 7, .int .i64), (.slot 8, .int .i64), (.box (.par 0), .ints .i64)]
def kk256x1_2 (k : Ex → St → Option RT) : ((Int × List Int) ⊕ (List (List Int) × Int × Int × Bool × List Int)) → Option RT := (Sum.elim (fun r => k .ret [(.slot 4, .v (.sc (.int .i64 r.1))), (.box (.par 0), .v (.sc (.ints .i64 r.2)))]) (fun r => k (.ext 0) [(.slot 9, .v (.sc (.bool false))), (.slot 0, .v (.sc (.rows r.1))), (.slot 1, .v (.fn 226 [.par 0])), (.slot 7, .v (.sc (.int .i64 r.2.1))), (.slot 8, .v (.sc (.int .i64 r.2.2.1))), (.slot 9, .v (.sc (.bool r.2.2.2.1))), (.box (.par 0), .v (.sc (.ints .i64 r.2.2.2.2)))]))
def LH256x1_2 (N : Nat) : St → (Ex → St → Option RT) → Option RT := fun s k => match mS sk256x1_2 s with
  | some [.R z0, .I z1, .I z2, .L z3] => (Lp256x1_2 N N (z0, z1, z2, z3)).bind (kk256x1_2 k)
  | _ => none
def X256x1 (N : Nat) : Env := { n := 19, K := K0, C := hSel 226 (H226 (D226 N)) (hNone), L := fun i s k => bif Nat.beq i 2 then LH256x1_2 N (normL (lp256x1 2) s) k else none, keep := kp256x1, lp := lp256x1 }
theorem st256x1_2 (N : Nat) (V : St → Option RT) (k : Ex → St → Option RT) (v : List (List Int) × Int × Int × List Int) : vexec (X256x1 N ) (findLoop 2 (loopsIn (bodyOf Try.f256))) (bS sk256x1_2 [.R v.1, .I v.2.1, .I v.2.2.1, .L v.2.2.2]) (vstep V (lp256x1 2) k) = L256x1_2 N v (fun v => V (bS sk256x1_2 [.R v.1, .I v.2.1, .I v.2.2.1, .L v.2.2.2])) (kk256x1_2 k) := by kernel_rfl
theorem q256x1_2 (N : Nat) (k : Ex → St → Option RT) : ∀ n (v : List (List Int) × Int × Int × List Int), vround (X256x1 N ) (findLoop 2 (loopsIn (bodyOf Try.f256))) 2 n (bS sk256x1_2 [.R v.1, .I v.2.1, .I v.2.2.1, .L v.2.2.2]) k = (Lp256x1_2 N n v).bind (kk256x1_2 k) := by
  intro n
  induction n with
  | zero => intro v; rfl
  | succ n ih =>
    intro v
    rw [vround_succ]
    refine (st256x1_2 N _ k v).trans ?_
    simp only [ih]
    exact L256x1_2_nat N v (Lp256x1_2 N n) (kk256x1_2 k)
theorem lh256x1_2 (N : Nat) : ∀ s k r, LH256x1_2 N s k = some r → vround (X256x1 N ) (findLoop 2 (loopsIn (bodyOf Try.f256))) 2 N s k = some r := by
  intro s k r h
  unfold LH256x1_2 at h
  split at h
  · rename_i z0 z1 z2 z3 hm
    rw [mS_bS hm]
    exact (q256x1_2 N k N (z0, z1, z2, z3)).trans h
  · cases h
theorem b256x1 (N : Nat) (a1 : List (List Int)) (a2 : List Int) : vbody (X256x1 N ) Try.f256 (bodyOf Try.f256) [.sc (.rows a1), .fn 226 [0]] [.sc (.ints .i64 a2)] (fun rs bx => some ⟨rs, bx⟩) = T256x1 N a1 a2 (fun r => some ⟨[.sc (.int .i64 r.1)], [.sc (.ints .i64 r.2)]⟩) := by kernel_rfl
theorem s256x1 (N : Nat) (a1 : List (List Int)) (a2 : List Int) (r : Int × List Int) (h : D256x1 N a1 a2 = some r) : CallSpec Try.prog E0 256 [.sc (.rows a1), .fn 226 [0]] [.sc (.ints .i64 a2)] [.sc (.int .i64 r.1)] [.sc (.ints .i64 r.2)] := by
  refine body_ok (X := X256x1 N ) (CR := CRG Try.prog E0) Try.func256 (code := bodyOf Try.f256) (by kernel_rfl) rfl (by decide) mixed0 tyok0 rfl contracts_ok (cs_sel (h226 (s226 N)) (cs_none)) (LoopsBy.of fun p hp => ?_) (by kernel_rfl) (Nat.le_of_ble_eq_true (by kernel_rfl)) ?_
  · rw [show loopsIn (bodyOf Try.f256) = [(2, findLoop 2 (loopsIn (bodyOf Try.f256)))] from by kernel_rfl] at hp
    simp only [List.mem_cons, List.not_mem_nil, or_false] at hp
    subst hp
    exact vround_of (fun s k => rfl) (by kernel_rfl) (lh256x1_2 N)
  · rw [b256x1, T256x1_nat, h]; rfl

/-! 224: slices.ContainsFunc[[][]int,[]int] -/
def T224x1 {ρ : Type} (N : Nat) (a1 : List (List Int)) (a2 : List Int) (k : (Bool × List Int) → Option ρ) : Option ρ :=
  (D256x1 N a1 a2).bind fun r3 =>
  k ((iLe (Int.ofNat 0) r3.1), r3.2)
def D224x1 (N : Nat) (a1 : List (List Int)) (a2 : List Int) : Option (Bool × List Int) := T224x1 N a1 a2 some
theorem T224x1_nat {ρ : Type} (N : Nat) (a1 : List (List Int)) (a2 : List Int) (k : (Bool × List Int) → Option ρ) : T224x1 N a1 a2 k = (D224x1 N a1 a2).bind k := by
  unfold D224x1 T224x1
  simp only [Option.bind_assoc, bif_bind, elim_bind, Option.bind_some, Option.bind_none]
def H224x1 (D : (List (List Int)) → (List Int) → Option (Bool × List Int)) : Hd := fun az bx k => match az, bx with
  | [c0, c1], [d0] => cR c0 fun y0 => cF 226 [0] c1 fun _ => cL .i64 d0 fun y1 => (D y0 y1).bind fun r => k [.sc (.bool r.1)] [.sc (.ints .i64 r.2)]
  | _, _ => none
theorem fnok224x1 : FnOK Try.prog 224 := ⟨Try.f224, Try.func224, rfl, by decide⟩
theorem h224x1 {D : (List (List Int)) → (List Int) → Option (Bool × List Int)} (hD : ∀ (y0 : List (List Int)), ∀ (y1 : List Int), ∀ r, D y0 y1 = some r → CallSpec Try.prog E0 224 [.sc (.rows y0), .fn 226 [0]] [.sc (.ints .i64 y1)] [.sc (.bool r.1)] [.sc (.ints .i64 r.2)]) : HSound Try.prog E0 224 (H224x1 D) := by
  intro az bx k r h
  unfold H224x1 at h
  split at h
  · rename_i c0 c1 d0
    obtain ⟨y0, l0, h⟩ := cR_some h
    obtain ⟨l1, h⟩ := cF_some h
    obtain ⟨y1, l2, h⟩ := cL_some h
    obtain ⟨r, hr, h⟩ := Option.bind_eq_some_iff.1 h
    exact ⟨_, _, ⟨(hD y0 y1 r hr).le ⟨l0, ⟨l1, trivial⟩⟩ ⟨l2, trivial⟩, fnok224x1, Nat.le_of_ble_eq_true rfl⟩, h⟩
  · cases h
def kp224x1 : Nat → List Tm.Loc := fun i => ([[.slot 0, .slot 1, .box (.par 0)], [.slot 4, .box (.par 0)]] : List (List Tm.Loc)).getD i []
def lp224x1 : Nat → LpS := fun i => default
def X224x1 (N : Nat) : Env := { n := 9, K := K0, C := hSel 256 (H256x1 (D256x1 N)) (hNone), L := fun i s k => none, keep := kp224x1, lp := lp224x1 }
theorem b224x1 (N : Nat) (a1 : List (List Int)) (a2 : List Int) : vbody (X224x1 N ) Try.f224 (bodyOf Try.f224) [.sc (.rows a1), .fn 226 [0]] [.sc (.ints .i64 a2)] (fun rs bx => some ⟨rs, bx⟩) = T224x1 N a1 a2 (fun r => some ⟨[.sc (.bool r.1)], [.sc (.ints .i64 r.2)]⟩) := by kernel_rfl
theorem s224x1 (N : Nat) (a1 : List (List Int)) (a2 : List Int) (r : Bool × List Int) (h : D224x1 N a1 a2 = some r) : CallSpec Try.prog E0 224 [.sc (.rows a1), .fn 226 [0]] [.sc (.ints .i64 a2)] [.sc (.bool r.1)] [.sc (.ints .i64 r.2)] := by
  refine body_ok (X := X224x1 N ) (CR := CRG Try.prog E0) Try.func224 (code := bodyOf Try.f224) (by kernel_rfl) rfl (by decide) mixed0 tyok0 rfl contracts_ok (cs_sel (h256x1 (s256x1 N)) (cs_none)) (LoopsBy.of fun p hp => ?_) (by kernel_rfl) (Nat.le_of_ble_eq_true (by kernel_rfl)) ?_
  · rw [show loopsIn (bodyOf Try.f224) = [] from by kernel_rfl] at hp
    cases hp
  · rw [b224x1, T224x1_nat, h]; rfl

/-! 139: loop.example/g01286/impl.avoids -/
def T139 {ρ : Type} (N : Nat) (a1 : List Int) (a2 : List (List Int)) (k : Bool → Option ρ) : Option ρ :=
  (D224x1 N a2 a1).bind fun r3 =>
  k (!r3.1)
def D139 (N : Nat) (a1 : List Int) (a2 : List (List Int)) : Option (Bool) := T139 N a1 a2 some
theorem T139_nat {ρ : Type} (N : Nat) (a1 : List Int) (a2 : List (List Int)) (k : Bool → Option ρ) : T139 N a1 a2 k = (D139 N a1 a2).bind k := by
  unfold D139 T139
  simp only [Option.bind_assoc, bif_bind, elim_bind, Option.bind_some, Option.bind_none]
def H139 (D : (List Int) → (List (List Int)) → Option (Bool)) : Hd := fun az bx k => match az, bx with
  | [c0, c1], [] => cL .i64 c0 fun y0 => cR c1 fun y1 => (D y0 y1).bind fun r => k [.sc (.bool r)] []
  | _, _ => none
theorem fnok139 : FnOK Try.prog 139 := ⟨Try.f139, Try.func139, rfl, by decide⟩
theorem h139 {D : (List Int) → (List (List Int)) → Option (Bool)} (hD : ∀ (y0 : List Int), ∀ (y1 : List (List Int)), ∀ r, D y0 y1 = some r → CallSpec Try.prog E0 139 [.sc (.ints .i64 y0), .sc (.rows y1)] [] [.sc (.bool r)] []) : HSound Try.prog E0 139 (H139 D) := by
  intro az bx k r h
  unfold H139 at h
  split at h
  · rename_i c0 c1
    obtain ⟨y0, l0, h⟩ := cL_some h
    obtain ⟨y1, l1, h⟩ := cR_some h
    obtain ⟨r, hr, h⟩ := Option.bind_eq_some_iff.1 h
    exact ⟨_, _, ⟨(hD y0 y1 r hr).le ⟨l0, ⟨l1, trivial⟩⟩ trivial, fnok139, Nat.le_of_ble_eq_true rfl⟩, h⟩
  · cases h
def kp139 : Nat → List Tm.Loc := fun i => ([[.slot 1, .slot 2, .box (.own 2)], [.slot 4]] : List (List Tm.Loc)).getD i []
def lp139 : Nat → LpS := fun i => default
def X139 (N : Nat) : Env := { n := 9, K := K0, C := hSel 224 (H224x1 (D224x1 N)) (hNone), L := fun i s k => none, keep := kp139, lp := lp139 }
theorem b139 (N : Nat) (a1 : List Int) (a2 : List (List Int)) : vbody (X139 N ) Try.f139 (bodyOf Try.f139) [.sc (.ints .i64 a1), .sc (.rows a2)] [] (fun rs bx => some ⟨rs, bx⟩) = T139 N a1 a2 (fun r => some ⟨[.sc (.bool r)], []⟩) := by kernel_rfl
theorem s139 (N : Nat) (a1 : List Int) (a2 : List (List Int)) (r : Bool) (h : D139 N a1 a2 = some r) : CallSpec Try.prog E0 139 [.sc (.ints .i64 a1), .sc (.rows a2)] [] [.sc (.bool r)] [] := by
  refine body_ok (X := X139 N ) (CR := CRG Try.prog E0) Try.func139 (code := bodyOf Try.f139) (by kernel_rfl) rfl (by decide) mixed0 tyok0 rfl contracts_ok (cs_sel (h224x1 (s224x1 N)) (cs_none)) (LoopsBy.of fun p hp => ?_) (by kernel_rfl) (Nat.le_of_ble_eq_true (by kernel_rfl)) ?_
  · rw [show loopsIn (bodyOf Try.f139) = [] from by kernel_rfl] at hp
    cases hp
  · rw [b139, T139_nat, h]; rfl

/-! 138: loop.example/g01286/impl.ChanceAvoids$1 -/
def T138 {ρ : Type} (N : Nat) (a1 : List Int) (a2 : List (List Int)) (k : (Bool × List (List Int)) → Option ρ) : Option ρ :=
  (D139 N a1 a2).bind fun r3 =>
  k (r3, a2)
def D138 (N : Nat) (a1 : List Int) (a2 : List (List Int)) : Option (Bool × List (List Int)) := T138 N a1 a2 some
theorem T138_nat {ρ : Type} (N : Nat) (a1 : List Int) (a2 : List (List Int)) (k : (Bool × List (List Int)) → Option ρ) : T138 N a1 a2 k = (D138 N a1 a2).bind k := by
  unfold D138 T138
  simp only [Option.bind_assoc, bif_bind, elim_bind, Option.bind_some, Option.bind_none]
def H138 (D : (List Int) → (List (List Int)) → Option (Bool × List (List Int))) : Hd := fun az bx k => match az, bx with
  | [c0, c1], [d0] => cL .i64 c0 fun y0 => cP 0 c1 fun _ => cR d0 fun y1 => (D y0 y1).bind fun r => k [.sc (.bool r.1)] [.sc (.rows r.2)]
  | _, _ => none
theorem fnok138 : FnOK Try.prog 138 := ⟨Try.f138, Try.func138, rfl, by decide⟩
theorem h138 {D : (List Int) → (List (List Int)) → Option (Bool × List (List Int))} (hD : ∀ (y0 : List Int), ∀ (y1 : List (List Int)), ∀ r, D y0 y1 = some r → CallSpec Try.prog E0 138 [.sc (.ints .i64 y0), .pt 0] [.sc (.rows y1)] [.sc (.bool r.1)] [.sc (.rows r.2)]) : HSound Try.prog E0 138 (H138 D) := by
  intro az bx k r h
  unfold H138 at h
  split at h
  · rename_i c0 c1 d0
    obtain ⟨y0, l0, h⟩ := cL_some h
    obtain ⟨l1, h⟩ := cP_some h
    obtain ⟨y1, l2, h⟩ := cR_some h
    obtain ⟨r, hr, h⟩ := Option.bind_eq_some_iff.1 h
    exact ⟨_, _, ⟨(hD y0 y1 r hr).le ⟨l0, ⟨l1, trivial⟩⟩ ⟨l2, trivial⟩, fnok138, Nat.le_of_ble_eq_true rfl⟩, h⟩
  · cases h
def kp138 : Nat → List Tm.Loc := fun i => ([[.slot 0, .slot 1, .box (.par 0)], [.slot 3, .box (.par 0)]] : List (List Tm.Loc)).getD i []
def lp138 : Nat → LpS := fun i => default
def X138 (N : Nat) : Env := { n := 7, K := K0, C := hSel 139 (H139 (D139 N)) (hNone), L := fun i s k => none, keep := kp138, lp := lp138 }
theorem b138 (N : Nat) (a1 : List Int) (a2 : List (List Int)) : vbody (X138 N ) Try.f138 (bodyOf Try.f138) [.sc (.ints .i64 a1), .pt 0] [.sc (.rows a2)] (fun rs bx => some ⟨rs, bx⟩) = T138 N a1 a2 (fun r => some ⟨[.sc (.bool r.1)], [.sc (.rows r.2)]⟩) := by kernel_rfl
theorem s138 (N : Nat) (a1 : List Int) (a2 : List (List Int)) (r : Bool × List (List Int)) (h : D138 N a1 a2 = some r) : CallSpec Try.prog E0 138 [.sc (.ints .i64 a1), .pt 0] [.sc (.rows a2)] [.sc (.bool r.1)] [.sc (.rows r.2)] := by
  refine body_ok (X := X138 N ) (CR := CRG Try.prog E0) Try.func138 (code := bodyOf Try.f138) (by kernel_rfl) rfl (by decide) mixed0 tyok0 rfl contracts_ok (cs_sel (h139 (s139 N)) (cs_none)) (LoopsBy.of fun p hp => ?_) (by kernel_rfl) (Nat.le_of_ble_eq_true (by kernel_rfl)) ?_
  · rw [show loopsIn (bodyOf Try.f138) = [] from by kernel_rfl] at hp
    cases hp
  · rw [b138, T138_nat, h]; rfl

/-! 223: loop.example/g01286/impl.drawnChance$1 -/
def T223 {ρ : Type} (N : Nat) (a1 : List Int) (a2 : List (List Int)) (k : (Int × List (List Int)) → Option ρ) : Option ρ :=
  (D138 N a1 a2).bind fun r3 =>
  bif r3.1 then (
  k ((Int.ofNat 1), r3.2))
  else (
  k ((Int.ofNat 0), r3.2))
def D223 (N : Nat) (a1 : List Int) (a2 : List (List Int)) : Option (Int × List (List Int)) := T223 N a1 a2 some
theorem T223_nat {ρ : Type} (N : Nat) (a1 : List Int) (a2 : List (List Int)) (k : (Int × List (List Int)) → Option ρ) : T223 N a1 a2 k = (D223 N a1 a2).bind k := by
  unfold D223 T223
  simp only [Option.bind_assoc, bif_bind, elim_bind, Option.bind_some, Option.bind_none]
def H223 (D : (List Int) → (List (List Int)) → Option (Int × List (List Int))) : Hd := fun az bx k => match az, bx with
  | [c0, c1], [d0, d1] => cL .i64 c0 fun y0 => cP 0 c1 fun _ => cF 138 [1] d0 fun _ => cR d1 fun y1 => (D y0 y1).bind fun r => k [.sc (.int .i64 r.1)] [.fn 138 [1], .sc (.rows r.2)]
  | _, _ => none
theorem fnok223 : FnOK Try.prog 223 := ⟨Try.f223, Try.func223, rfl, by decide⟩
theorem h223 {D : (List Int) → (List (List Int)) → Option (Int × List (List Int))} (hD : ∀ (y0 : List Int), ∀ (y1 : List (List Int)), ∀ r, D y0 y1 = some r → CallSpec Try.prog E0 223 [.sc (.ints .i64 y0), .pt 0] [.fn 138 [1], .sc (.rows y1)] [.sc (.int .i64 r.1)] [.fn 138 [1], .sc (.rows r.2)]) : HSound Try.prog E0 223 (H223 D) := by
  intro az bx k r h
  unfold H223 at h
  split at h
  · rename_i c0 c1 d0 d1
    obtain ⟨y0, l0, h⟩ := cL_some h
    obtain ⟨l1, h⟩ := cP_some h
    obtain ⟨l2, h⟩ := cF_some h
    obtain ⟨y1, l3, h⟩ := cR_some h
    obtain ⟨r, hr, h⟩ := Option.bind_eq_some_iff.1 h
    exact ⟨_, _, ⟨(hD y0 y1 r hr).le ⟨l0, ⟨l1, trivial⟩⟩ ⟨l2, ⟨l3, trivial⟩⟩, fnok223, Nat.le_of_ble_eq_true rfl⟩, h⟩
  · cases h
def kp223 : Nat → List Tm.Loc := fun i => ([[.slot 0, .slot 1, .box (.par 0), .box (.par 1)], [.slot 6, .box (.par 0), .box (.par 1)], [.slot 3, .box (.par 0), .box (.par 1)], [.slot 3, .box (.par 0), .box (.par 1)]] : List (List Tm.Loc)).getD i []
def lp223 : Nat → LpS := fun i => default
def X223 (N : Nat) : Env := { n := 7, K := K0, C := hSel 138 (H138 (D138 N)) (hNone), L := fun i s k => none, keep := kp223, lp := lp223 }
theorem b223 (N : Nat) (a1 : List Int) (a2 : List (List Int)) : vbody (X223 N ) Try.f223 (bodyOf Try.f223) [.sc (.ints .i64 a1), .pt 0] [.fn 138 [1], .sc (.rows a2)] (fun rs bx => some ⟨rs, bx⟩) = T223 N a1 a2 (fun r => some ⟨[.sc (.int .i64 r.1)], [.fn 138 [1], .sc (.rows r.2)]⟩) := by kernel_rfl
theorem s223 (N : Nat) (a1 : List Int) (a2 : List (List Int)) (r : Int × List (List Int)) (h : D223 N a1 a2 = some r) : CallSpec Try.prog E0 223 [.sc (.ints .i64 a1), .pt 0] [.fn 138 [1], .sc (.rows a2)] [.sc (.int .i64 r.1)] [.fn 138 [1], .sc (.rows r.2)] := by
  refine body_ok (X := X223 N ) (CR := CRG Try.prog E0) Try.func223 (code := bodyOf Try.f223) (by kernel_rfl) rfl (by decide) mixed0 tyok0 rfl contracts_ok (cs_sel (h138 (s138 N)) (cs_none)) (LoopsBy.of fun p hp => ?_) (by kernel_rfl) (Nat.le_of_ble_eq_true (by kernel_rfl)) ?_
  · rw [show loopsIn (bodyOf Try.f223) = [] from by kernel_rfl] at hp
    cases hp
  · rw [b223, T223_nat, h]; rfl

/-! 251: loop.example/g01286/impl.fraction -/
def L251_2 {ρ : Type} (N : Nat) (v : Int × Int × Int × Int × List Int) (rec : (Int × Int × Int × Int × List Int) → Option ρ) (k : ((Int × Int × Int × Int × Bool × List Int)) → Option ρ) : Option ρ :=
  bif (!(iEq v.2.2.2.1 (Int.ofNat 0))) then (
  bif (!(iEq v.2.2.2.1 (Int.ofNat 0))) then (
  rec (v.1, v.2.1, v.2.2.2.1, (Int.tmod v.2.2.1 v.2.2.2.1), v.2.2.2.2))
  else none)
  else (
  k (v.1, v.2.1, v.2.2.1, v.2.2.2.1, (!(iEq v.2.2.2.1 (Int.ofNat 0))), v.2.2.2.2))
def Lp251_2 (N : Nat) : Nat → (Int × Int × Int × Int × List Int) → Option ((Int × Int × Int × Int × Bool × List Int)) := fun n => Nat.rec (motive := fun _ => (Int × Int × Int × Int × List Int) → Option ((Int × Int × Int × Int × Bool × List Int))) (fun _ => none) (fun _ ih v => L251_2 N v ih some) n
theorem L251_2_nat {ρ : Type} (N : Nat) (v : Int × Int × Int × Int × List Int) (rec : (Int × Int × Int × Int × List Int) → Option ((Int × Int × Int × Int × Bool × List Int))) (k : ((Int × Int × Int × Int × Bool × List Int)) → Option ρ) : L251_2 N v (fun v => (rec v).bind k) k = (L251_2 N v rec some).bind k := by
  unfold L251_2
  simp only [Option.bind_assoc, bif_bind, elim_bind, Option.bind_some, Option.bind_none]
def T251 {ρ : Type} (N : Nat) (a1 : Int) (a2 : Int) (k : (List Int) → Option ρ) : Option ρ :=
  (Lp251_2 N N (a1, a2, a1, a2, (List.replicate 2 0))).bind fun w3 =>
  bif (!(iEq w3.2.2.1 (Int.ofNat 0))) then (
  bif (!(iEq w3.2.2.1 (Int.ofNat 0))) then (
  k [(wrapF .i64 (Int.tdiv w3.1 w3.2.2.1)), (wrapF .i64 (Int.tdiv w3.2.1 w3.2.2.1))])
  else none)
  else none
def D251 (N : Nat) (a1 : Int) (a2 : Int) : Option (List Int) := T251 N a1 a2 some
theorem T251_nat {ρ : Type} (N : Nat) (a1 : Int) (a2 : Int) (k : (List Int) → Option ρ) : T251 N a1 a2 k = (D251 N a1 a2).bind k := by
  unfold D251 T251
  simp only [Option.bind_assoc, bif_bind, elim_bind, Option.bind_some, Option.bind_none]
def H251 (D : Int → Int → Option (List Int)) : Hd := fun az bx k => match az, bx with
  | [c0, c1], [] => cI .i64 c0 fun y0 => cI .i64 c1 fun y1 => (D y0 y1).bind fun r => k [.sc (.arr .i64 2 r)] []
  | _, _ => none
theorem fnok251 : FnOK Try.prog 251 := ⟨Try.f251, Try.func251, rfl, by decide⟩
theorem h251 {D : Int → Int → Option (List Int)} (hD : ∀ (y0 : Int), ∀ (y1 : Int), ∀ r, D y0 y1 = some r → CallSpec Try.prog E0 251 [.sc (.int .i64 y0), .sc (.int .i64 y1)] [] [.sc (.arr .i64 2 r)] []) : HSound Try.prog E0 251 (H251 D) := by
  intro az bx k r h
  unfold H251 at h
  split at h
  · rename_i c0 c1
    obtain ⟨y0, l0, h⟩ := cI_some h
    obtain ⟨y1, l1, h⟩ := cI_some h
    obtain ⟨r, hr, h⟩ := Option.bind_eq_some_iff.1 h
    exact ⟨_, _, ⟨(hD y0 y1 r hr).le ⟨l0, ⟨l1, trivial⟩⟩ trivial, fnok251, Nat.le_of_ble_eq_true rfl⟩, h⟩
  · cases h
def kp251 : Nat → List Tm.Loc := fun i => ([[.slot 0, .slot 1, .slot 4, .box (.own 4)], [.slot 0, .slot 1, .slot 4, .slot 5, .slot 6, .box (.own 4)], [.slot 0, .slot 1, .slot 4, .slot 5, .slot 6, .slot 10, .box (.own 4)], [.slot 0, .slot 1, .slot 4, .slot 5, .slot 6, .box (.own 4)], [.slot 4, .box (.own 4)]] : List (List Tm.Loc)).getD i []
def lp251 : Nat → LpS := fun i => bif Nat.beq i 2 then ⟨[], [], [.slot 0, .slot 1, .slot 4, .slot 5, .slot 6, .box (.own 4)]⟩ else default
def sk251_2 : List (Tm.Loc × SkV) := [(.slot 0, .int .i64), (.slot 1, .int .i64), (.slot 4, .pt (.own 4)), (.slot 5, .int .i64), (.slot 6, .int .i64), (.box (.own 4), .arr .i64 2)]
def kk251_2 (k : Ex → St → Option RT) : ((Int × Int × Int × Int × Bool × List Int)) → Option RT := (fun r => k (.ext 0) [(.slot 10, .v (.sc (.bool false))), (.slot 0, .v (.sc (.int .i64 r.1))), (.slot 1, .v (.sc (.int .i64 r.2.1))), (.slot 4, .v (.pt (.own 4))), (.slot 5, .v (.sc (.int .i64 r.2.2.1))), (.slot 6, .v (.sc (.int .i64 r.2.2.2.1))), (.slot 10, .v (.sc (.bool r.2.2.2.2.1))), (.box (.own 4), .v (.sc (.arr .i64 2 r.2.2.2.2.2)))])
def LH251_2 (N : Nat) : St → (Ex → St → Option RT) → Option RT := fun s k => match mS sk251_2 s with
  | some [.I z0, .I z1, .I z2, .I z3, .L z4] => (Lp251_2 N N (z0, z1, z2, z3, z4)).bind (kk251_2 k)
  | _ => none
def X251 (N : Nat) : Env := { n := 22, K := K0, C := hNone, L := fun i s k => bif Nat.beq i 2 then LH251_2 N (normL (lp251 2) s) k else none, keep := kp251, lp := lp251 }
theorem st251_2 (N : Nat) (V : St → Option RT) (k : Ex → St → Option RT) (v : Int × Int × Int × Int × List Int) : vexec (X251 N ) (findLoop 2 (loopsIn (bodyOf Try.f251))) (bS sk251_2 [.I v.1, .I v.2.1, .I v.2.2.1, .I v.2.2.2.1, .L v.2.2.2.2]) (vstep V (lp251 2) k) = L251_2 N v (fun v => V (bS sk251_2 [.I v.1, .I v.2.1, .I v.2.2.1, .I v.2.2.2.1, .L v.2.2.2.2])) (kk251_2 k) := by kernel_rfl
theorem q251_2 (N : Nat) (k : Ex → St → Option RT) : ∀ n (v : Int × Int × Int × Int × List Int), vround (X251 N ) (findLoop 2 (loopsIn (bodyOf Try.f251))) 2 n (bS sk251_2 [.I v.1, .I v.2.1, .I v.2.2.1, .I v.2.2.2.1, .L v.2.2.2.2]) k = (Lp251_2 N n v).bind (kk251_2 k) := by
  intro n
  induction n with
  | zero => intro v; rfl
  | succ n ih =>
    intro v
    rw [vround_succ]
    refine (st251_2 N _ k v).trans ?_
    simp only [ih]
    exact L251_2_nat N v (Lp251_2 N n) (kk251_2 k)
theorem lh251_2 (N : Nat) : ∀ s k r, LH251_2 N s k = some r → vround (X251 N ) (findLoop 2 (loopsIn (bodyOf Try.f251))) 2 N s k = some r := by
  intro s k r h
  unfold LH251_2 at h
  split at h
  · rename_i z0 z1 z2 z3 z4 hm
    rw [mS_bS hm]
    exact (q251_2 N k N (z0, z1, z2, z3, z4)).trans h
  · cases h
theorem b251 (N : Nat) (a1 : Int) (a2 : Int) : vbody (X251 N ) Try.f251 (bodyOf Try.f251) [.sc (.int .i64 a1), .sc (.int .i64 a2)] [] (fun rs bx => some ⟨rs, bx⟩) = T251 N a1 a2 (fun r => some ⟨[.sc (.arr .i64 2 r)], []⟩) := by kernel_rfl
theorem s251 (N : Nat) (a1 : Int) (a2 : Int) (r : List Int) (h : D251 N a1 a2 = some r) : CallSpec Try.prog E0 251 [.sc (.int .i64 a1), .sc (.int .i64 a2)] [] [.sc (.arr .i64 2 r)] [] := by
  refine body_ok (X := X251 N ) (CR := CRG Try.prog E0) Try.func251 (code := bodyOf Try.f251) (by kernel_rfl) rfl (by decide) mixed0 tyok0 rfl contracts_ok (cs_none) (LoopsBy.of fun p hp => ?_) (by kernel_rfl) (Nat.le_of_ble_eq_true (by kernel_rfl)) ?_
  · rw [show loopsIn (bodyOf Try.f251) = [(2, findLoop 2 (loopsIn (bodyOf Try.f251)))] from by kernel_rfl] at hp
    simp only [List.mem_cons, List.not_mem_nil, or_false] at hp
    subst hp
    exact vround_of (fun s k => rfl) (by kernel_rfl) (lh251_2 N)
  · rw [b251, T251_nat, h]; rfl

/-! 213: loop.example/g01286/impl.mean -/
def L213_3 {ρ : Type} (N : Nat) (v : Int × Int × List (List Int) × Int × Int × List Int × List (List Int)) (rec : (Int × Int × List (List Int) × Int × Int × List Int × List (List Int)) → Option ρ) (k : ((Int × Int × List (List Int) × Int × Int × Bool × List Int × List (List Int))) → Option ρ) : Option ρ :=
  bif (iLt v.2.2.2.2.1 v.2.2.2.1) then (
  bif inB v.2.2.2.2.1 (List.length v.2.2.1) then (
  (D223 N (List.getD v.2.2.1 (Int.toNat v.2.2.2.2.1) []) v.2.2.2.2.2.2).bind fun r4 =>
  rec (v.1, (wrapF .i64 (v.2.1 + r4.1)), v.2.2.1, v.2.2.2.1, (wrapF .i64 (v.2.2.2.2.1 + (Int.ofNat 1))), v.2.2.2.2.2.1, r4.2))
  else none)
  else (
  k (v.1, v.2.1, v.2.2.1, v.2.2.2.1, v.2.2.2.2.1, (iLt v.2.2.2.2.1 v.2.2.2.1), v.2.2.2.2.2.1, v.2.2.2.2.2.2))
def Lp213_3 (N : Nat) : Nat → (Int × Int × List (List Int) × Int × Int × List Int × List (List Int)) → Option ((Int × Int × List (List Int) × Int × Int × Bool × List Int × List (List Int))) := fun n => Nat.rec (motive := fun _ => (Int × Int × List (List Int) × Int × Int × List Int × List (List Int)) → Option ((Int × Int × List (List Int) × Int × Int × Bool × List Int × List (List Int)))) (fun _ => none) (fun _ ih v => L213_3 N v ih some) n
theorem L213_3_nat {ρ : Type} (N : Nat) (v : Int × Int × List (List Int) × Int × Int × List Int × List (List Int)) (rec : (Int × Int × List (List Int) × Int × Int × List Int × List (List Int)) → Option ((Int × Int × List (List Int) × Int × Int × Bool × List Int × List (List Int)))) (k : ((Int × Int × List (List Int) × Int × Int × Bool × List Int × List (List Int))) → Option ρ) : L213_3 N v (fun v => (rec v).bind k) k = (L213_3 N v rec some).bind k := by
  unfold L213_3
  simp only [Option.bind_assoc, bif_bind, elim_bind, Option.bind_some, Option.bind_none]
def T213 {ρ : Type} (N : Nat) (a1 : Int) (a2 : List (List Int)) (k : (List Int × List (List Int)) → Option ρ) : Option ρ :=
  (D186 N a1).bind fun r3 =>
  (Lp213_3 N N (a1, (Int.ofNat 0), r3, (Int.ofNat (List.length r3)), (Int.ofNat 0), (List.replicate 2 0), a2)).bind fun w5 =>
  (D238 N w5.1).bind fun r6 =>
  (D251 N w5.2.1 r6).bind fun r7 =>
  k (r7, w5.2.2.2.2.2.2.2)
def D213 (N : Nat) (a1 : Int) (a2 : List (List Int)) : Option (List Int × List (List Int)) := T213 N a1 a2 some
theorem T213_nat {ρ : Type} (N : Nat) (a1 : Int) (a2 : List (List Int)) (k : (List Int × List (List Int)) → Option ρ) : T213 N a1 a2 k = (D213 N a1 a2).bind k := by
  unfold D213 T213
  simp only [Option.bind_assoc, bif_bind, elim_bind, Option.bind_some, Option.bind_none]
def H213 (D : Int → (List (List Int)) → Option (List Int × List (List Int))) : Hd := fun az bx k => match az, bx with
  | [c0, c1], [d0, d1] => cI .i64 c0 fun y0 => cF 223 [0] c1 fun _ => cF 138 [1] d0 fun _ => cR d1 fun y1 => (D y0 y1).bind fun r => k [.sc (.arr .i64 2 r.1)] [.fn 138 [1], .sc (.rows r.2)]
  | _, _ => none
theorem fnok213 : FnOK Try.prog 213 := ⟨Try.f213, Try.func213, rfl, by decide⟩
theorem h213 {D : Int → (List (List Int)) → Option (List Int × List (List Int))} (hD : ∀ (y0 : Int), ∀ (y1 : List (List Int)), ∀ r, D y0 y1 = some r → CallSpec Try.prog E0 213 [.sc (.int .i64 y0), .fn 223 [0]] [.fn 138 [1], .sc (.rows y1)] [.sc (.arr .i64 2 r.1)] [.fn 138 [1], .sc (.rows r.2)]) : HSound Try.prog E0 213 (H213 D) := by
  intro az bx k r h
  unfold H213 at h
  split at h
  · rename_i c0 c1 d0 d1
    obtain ⟨y0, l0, h⟩ := cI_some h
    obtain ⟨l1, h⟩ := cF_some h
    obtain ⟨l2, h⟩ := cF_some h
    obtain ⟨y1, l3, h⟩ := cR_some h
    obtain ⟨r, hr, h⟩ := Option.bind_eq_some_iff.1 h
    exact ⟨_, _, ⟨(hD y0 y1 r hr).le ⟨l0, ⟨l1, trivial⟩⟩ ⟨l2, ⟨l3, trivial⟩⟩, fnok213, Nat.le_of_ble_eq_true rfl⟩, h⟩
  · cases h
def kp213 : Nat → List Tm.Loc := fun i => ([[.slot 0, .slot 1, .slot 4, .box (.own 4), .box (.par 0), .box (.par 1)], [.slot 0, .slot 1, .slot 4, .slot 5, .box (.own 4), .box (.par 0), .box (.par 1)], [.slot 0, .slot 1, .slot 4, .slot 5, .slot 9, .slot 10, .slot 11, .box (.own 4), .box (.par 0), .box (.par 1)], [.slot 0, .slot 1, .slot 4, .slot 5, .slot 9, .slot 10, .slot 11, .slot 12, .box (.own 4), .box (.par 0), .box (.par 1)], [.slot 0, .slot 1, .slot 4, .slot 5, .slot 7, .slot 9, .slot 10, .slot 11, .box (.own 4), .box (.par 0), .box (.par 1)], [.slot 0, .slot 1, .slot 4, .slot 5, .slot 9, .slot 10, .slot 11, .box (.own 4), .box (.par 0), .box (.par 1)], [.slot 0, .slot 1, .slot 4, .slot 5, .slot 9, .slot 10, .slot 11, .box (.own 4), .box (.par 0), .box (.par 1)], [.slot 4, .box (.own 4), .box (.par 0), .box (.par 1)]] : List (List Tm.Loc)).getD i []
def lp213 : Nat → LpS := fun i => bif Nat.beq i 3 then ⟨[.slot 9], [], [.slot 0, .slot 1, .slot 4, .slot 5, .slot 9, .slot 10, .slot 11, .box (.own 4), .box (.par 0), .box (.par 1)]⟩ else default
def sk213_3 : List (Tm.Loc × SkV) := [(.slot 0, .int .i64), (.slot 1, .fn 223 [.par 0]), (.slot 4, .pt (.own 4)), (.slot 5, .int .i64), (.slot 9, .rows), (.slot 10, .int .i64), (.slot 11, .int .i64), (.box (.own 4), .arr .i64 2), (.box (.par 0), .fn 138 [.par 1]), (.box (.par 1), .rows)]
def kk213_3 (k : Ex → St → Option RT) : ((Int × Int × List (List Int) × Int × Int × Bool × List Int × List (List Int))) → Option RT := (fun r => k (.ext 0) [(.slot 12, .v (.sc (.bool false))), (.slot 0, .v (.sc (.int .i64 r.1))), (.slot 1, .v (.fn 223 [.par 0])), (.slot 4, .v (.pt (.own 4))), (.slot 5, .v (.sc (.int .i64 r.2.1))), (.slot 9, .v (.sc (.rows r.2.2.1))), (.slot 10, .v (.sc (.int .i64 r.2.2.2.1))), (.slot 11, .v (.sc (.int .i64 r.2.2.2.2.1))), (.slot 12, .v (.sc (.bool r.2.2.2.2.2.1))), (.box (.own 4), .v (.sc (.arr .i64 2 r.2.2.2.2.2.2.1))), (.box (.par 0), .v (.fn 138 [.par 1])), (.box (.par 1), .v (.sc (.rows r.2.2.2.2.2.2.2)))])
def LH213_3 (N : Nat) : St → (Ex → St → Option RT) → Option RT := fun s k => match mS sk213_3 s with
  | some [.I z0, .I z1, .R z2, .I z3, .I z4, .L z5, .R z6] => (Lp213_3 N N (z0, z1, z2, z3, z4, z5, z6)).bind (kk213_3 k)
  | _ => none
def X213 (N : Nat) : Env := { n := 25, K := K0, C := hSel 186 (H186 (D186 N)) (hSel 223 (H223 (D223 N)) (hSel 238 (H238 (D238 N)) (hSel 251 (H251 (D251 N)) (hNone)))), L := fun i s k => bif Nat.beq i 3 then LH213_3 N (normL (lp213 3) s) k else none, keep := kp213, lp := lp213 }
theorem st213_3 (N : Nat) (V : St → Option RT) (k : Ex → St → Option RT) (v : Int × Int × List (List Int) × Int × Int × List Int × List (List Int)) : vexec (X213 N ) (findLoop 3 (loopsIn (bodyOf Try.f213))) (bS sk213_3 [.I v.1, .I v.2.1, .R v.2.2.1, .I v.2.2.2.1, .I v.2.2.2.2.1, .L v.2.2.2.2.2.1, .R v.2.2.2.2.2.2]) (vstep V (lp213 3) k) = L213_3 N v (fun v => V (bS sk213_3 [.I v.1, .I v.2.1, .R v.2.2.1, .I v.2.2.2.1, .I v.2.2.2.2.1, .L v.2.2.2.2.2.1, .R v.2.2.2.2.2.2])) (kk213_3 k) := by kernel_rfl
theorem q213_3 (N : Nat) (k : Ex → St → Option RT) : ∀ n (v : Int × Int × List (List Int) × Int × Int × List Int × List (List Int)), vround (X213 N ) (findLoop 3 (loopsIn (bodyOf Try.f213))) 3 n (bS sk213_3 [.I v.1, .I v.2.1, .R v.2.2.1, .I v.2.2.2.1, .I v.2.2.2.2.1, .L v.2.2.2.2.2.1, .R v.2.2.2.2.2.2]) k = (Lp213_3 N n v).bind (kk213_3 k) := by
  intro n
  induction n with
  | zero => intro v; rfl
  | succ n ih =>
    intro v
    rw [vround_succ]
    refine (st213_3 N _ k v).trans ?_
    simp only [ih]
    exact L213_3_nat N v (Lp213_3 N n) (kk213_3 k)
theorem lh213_3 (N : Nat) : ∀ s k r, LH213_3 N s k = some r → vround (X213 N ) (findLoop 3 (loopsIn (bodyOf Try.f213))) 3 N s k = some r := by
  intro s k r h
  unfold LH213_3 at h
  split at h
  · rename_i z0 z1 z2 z3 z4 z5 z6 hm
    rw [mS_bS hm]
    exact (q213_3 N k N (z0, z1, z2, z3, z4, z5, z6)).trans h
  · cases h
theorem b213 (N : Nat) (a1 : Int) (a2 : List (List Int)) : vbody (X213 N ) Try.f213 (bodyOf Try.f213) [.sc (.int .i64 a1), .fn 223 [0]] [.fn 138 [1], .sc (.rows a2)] (fun rs bx => some ⟨rs, bx⟩) = T213 N a1 a2 (fun r => some ⟨[.sc (.arr .i64 2 r.1)], [.fn 138 [1], .sc (.rows r.2)]⟩) := by kernel_rfl
theorem s213 (N : Nat) (a1 : Int) (a2 : List (List Int)) (r : List Int × List (List Int)) (h : D213 N a1 a2 = some r) : CallSpec Try.prog E0 213 [.sc (.int .i64 a1), .fn 223 [0]] [.fn 138 [1], .sc (.rows a2)] [.sc (.arr .i64 2 r.1)] [.fn 138 [1], .sc (.rows r.2)] := by
  refine body_ok (X := X213 N ) (CR := CRG Try.prog E0) Try.func213 (code := bodyOf Try.f213) (by kernel_rfl) rfl (by decide) mixed0 tyok0 rfl contracts_ok (cs_sel (h186 (s186 N)) (cs_sel (h223 (s223 N)) (cs_sel (h238 (s238 N)) (cs_sel (h251 (s251 N)) (cs_none))))) (LoopsBy.of fun p hp => ?_) (by kernel_rfl) (Nat.le_of_ble_eq_true (by kernel_rfl)) ?_
  · rw [show loopsIn (bodyOf Try.f213) = [(3, findLoop 3 (loopsIn (bodyOf Try.f213)))] from by kernel_rfl] at hp
    simp only [List.mem_cons, List.not_mem_nil, or_false] at hp
    subst hp
    exact vround_of (fun s k => rfl) (by kernel_rfl) (lh213_3 N)
  · rw [b213, T213_nat, h]; rfl

/-! 111: loop.example/g01286/impl.drawnMean -/
def T111 {ρ : Type} (N : Nat) (a1 : Int) (a2 : Bool) (a3 : List (List Int)) (k : (List Int × Bool × List (List Int)) → Option ρ) : Option ρ :=
  (D212 N a1).bind fun r4 =>
  bif (!(!r4)) then (
  bif (!a2) then (
  k ([(Int.ofNat 0), (Int.ofNat 0)], false, a3))
  else (
  (D213 N a1 a3).bind fun r5 =>
  k (r5.1, true, r5.2)))
  else (
  k ([(Int.ofNat 0), (Int.ofNat 0)], false, a3))
def D111 (N : Nat) (a1 : Int) (a2 : Bool) (a3 : List (List Int)) : Option (List Int × Bool × List (List Int)) := T111 N a1 a2 a3 some
theorem T111_nat {ρ : Type} (N : Nat) (a1 : Int) (a2 : Bool) (a3 : List (List Int)) (k : (List Int × Bool × List (List Int)) → Option ρ) : T111 N a1 a2 a3 k = (D111 N a1 a2 a3).bind k := by
  unfold D111 T111
  simp only [Option.bind_assoc, bif_bind, elim_bind, Option.bind_some, Option.bind_none]
def H111 (D : Int → Bool → (List (List Int)) → Option (List Int × Bool × List (List Int))) : Hd := fun az bx k => match az, bx with
  | [c0, c1, c2], [d0, d1] => cI .i64 c0 fun y0 => cB c1 fun y1 => cF 223 [0] c2 fun _ => cF 138 [1] d0 fun _ => cR d1 fun y2 => (D y0 y1 y2).bind fun r => k [.sc (.arr .i64 2 r.1), .sc (.bool r.2.1)] [.fn 138 [1], .sc (.rows r.2.2)]
  | _, _ => none
theorem fnok111 : FnOK Try.prog 111 := ⟨Try.f111, Try.func111, rfl, by decide⟩
theorem h111 {D : Int → Bool → (List (List Int)) → Option (List Int × Bool × List (List Int))} (hD : ∀ (y0 : Int), ∀ (y1 : Bool), ∀ (y2 : List (List Int)), ∀ r, D y0 y1 y2 = some r → CallSpec Try.prog E0 111 [.sc (.int .i64 y0), .sc (.bool y1), .fn 223 [0]] [.fn 138 [1], .sc (.rows y2)] [.sc (.arr .i64 2 r.1), .sc (.bool r.2.1)] [.fn 138 [1], .sc (.rows r.2.2)]) : HSound Try.prog E0 111 (H111 D) := by
  intro az bx k r h
  unfold H111 at h
  split at h
  · rename_i c0 c1 c2 d0 d1
    obtain ⟨y0, l0, h⟩ := cI_some h
    obtain ⟨y1, l1, h⟩ := cB_some h
    obtain ⟨l2, h⟩ := cF_some h
    obtain ⟨l3, h⟩ := cF_some h
    obtain ⟨y2, l4, h⟩ := cR_some h
    obtain ⟨r, hr, h⟩ := Option.bind_eq_some_iff.1 h
    exact ⟨_, _, ⟨(hD y0 y1 y2 r hr).le ⟨l0, ⟨l1, ⟨l2, trivial⟩⟩⟩ ⟨l3, ⟨l4, trivial⟩⟩, fnok111, Nat.le_of_ble_eq_true rfl⟩, h⟩
  · cases h
def kp111 : Nat → List Tm.Loc := fun i => ([[.slot 0, .slot 1, .slot 2, .slot 6, .slot 12, .slot 13, .box (.own 6), .box (.par 0), .box (.par 1)], [.slot 0, .slot 2, .slot 6, .slot 14, .box (.own 6), .box (.par 0), .box (.par 1)], [.slot 6, .slot 7, .box (.own 6), .box (.par 0), .box (.par 1)], [.slot 6, .slot 7, .box (.own 6), .box (.par 0), .box (.par 1)]] : List (List Tm.Loc)).getD i []
def lp111 : Nat → LpS := fun i => default
def X111 (N : Nat) : Env := { n := 19, K := K0, C := hSel 212 (H212 (D212 N)) (hSel 213 (H213 (D213 N)) (hNone)), L := fun i s k => none, keep := kp111, lp := lp111 }
theorem b111 (N : Nat) (a1 : Int) (a2 : Bool) (a3 : List (List Int)) : vbody (X111 N ) Try.f111 (bodyOf Try.f111) [.sc (.int .i64 a1), .sc (.bool a2), .fn 223 [0]] [.fn 138 [1], .sc (.rows a3)] (fun rs bx => some ⟨rs, bx⟩) = T111 N a1 a2 a3 (fun r => some ⟨[.sc (.arr .i64 2 r.1), .sc (.bool r.2.1)], [.fn 138 [1], .sc (.rows r.2.2)]⟩) := by kernel_rfl
theorem s111 (N : Nat) (a1 : Int) (a2 : Bool) (a3 : List (List Int)) (r : List Int × Bool × List (List Int)) (h : D111 N a1 a2 a3 = some r) : CallSpec Try.prog E0 111 [.sc (.int .i64 a1), .sc (.bool a2), .fn 223 [0]] [.fn 138 [1], .sc (.rows a3)] [.sc (.arr .i64 2 r.1), .sc (.bool r.2.1)] [.fn 138 [1], .sc (.rows r.2.2)] := by
  refine body_ok (X := X111 N ) (CR := CRG Try.prog E0) Try.func111 (code := bodyOf Try.f111) (by kernel_rfl) rfl (by decide) mixed0 tyok0 rfl contracts_ok (cs_sel (h212 (s212 N)) (cs_sel (h213 (s213 N)) (cs_none))) (LoopsBy.of fun p hp => ?_) (by kernel_rfl) (Nat.le_of_ble_eq_true (by kernel_rfl)) ?_
  · rw [show loopsIn (bodyOf Try.f111) = [] from by kernel_rfl] at hp
    cases hp
  · rw [b111, T111_nat, h]; rfl

/-! 136: loop.example/g01286/impl.drawnChance -/
def T136 {ρ : Type} (N : Nat) (a1 : Int) (a2 : Bool) (a3 : List (List Int)) (k : (List Int × Bool × List (List Int)) → Option ρ) : Option ρ :=
  (D111 N a1 a2 a3).bind fun r4 =>
  k (r4.1, r4.2.1, r4.2.2)
def D136 (N : Nat) (a1 : Int) (a2 : Bool) (a3 : List (List Int)) : Option (List Int × Bool × List (List Int)) := T136 N a1 a2 a3 some
theorem T136_nat {ρ : Type} (N : Nat) (a1 : Int) (a2 : Bool) (a3 : List (List Int)) (k : (List Int × Bool × List (List Int)) → Option ρ) : T136 N a1 a2 a3 k = (D136 N a1 a2 a3).bind k := by
  unfold D136 T136
  simp only [Option.bind_assoc, bif_bind, elim_bind, Option.bind_some, Option.bind_none]
def H136 (D : Int → Bool → (List (List Int)) → Option (List Int × Bool × List (List Int))) : Hd := fun az bx k => match az, bx with
  | [c0, c1, c2], [d0] => cI .i64 c0 fun y0 => cB c1 fun y1 => cF 138 [0] c2 fun _ => cR d0 fun y2 => (D y0 y1 y2).bind fun r => k [.sc (.arr .i64 2 r.1), .sc (.bool r.2.1)] [.sc (.rows r.2.2)]
  | _, _ => none
theorem fnok136 : FnOK Try.prog 136 := ⟨Try.f136, Try.func136, rfl, by decide⟩
theorem h136 {D : Int → Bool → (List (List Int)) → Option (List Int × Bool × List (List Int))} (hD : ∀ (y0 : Int), ∀ (y1 : Bool), ∀ (y2 : List (List Int)), ∀ r, D y0 y1 y2 = some r → CallSpec Try.prog E0 136 [.sc (.int .i64 y0), .sc (.bool y1), .fn 138 [0]] [.sc (.rows y2)] [.sc (.arr .i64 2 r.1), .sc (.bool r.2.1)] [.sc (.rows r.2.2)]) : HSound Try.prog E0 136 (H136 D) := by
  intro az bx k r h
  unfold H136 at h
  split at h
  · rename_i c0 c1 c2 d0
    obtain ⟨y0, l0, h⟩ := cI_some h
    obtain ⟨y1, l1, h⟩ := cB_some h
    obtain ⟨l2, h⟩ := cF_some h
    obtain ⟨y2, l3, h⟩ := cR_some h
    obtain ⟨r, hr, h⟩ := Option.bind_eq_some_iff.1 h
    exact ⟨_, _, ⟨(hD y0 y1 y2 r hr).le ⟨l0, ⟨l1, ⟨l2, trivial⟩⟩⟩ ⟨l3, trivial⟩, fnok136, Nat.le_of_ble_eq_true rfl⟩, h⟩
  · cases h
def kp136 : Nat → List Tm.Loc := fun i => ([[.slot 0, .slot 1, .slot 5, .slot 6, .box (.own 5), .box (.own 6), .box (.par 0)], [.slot 6, .slot 7, .box (.own 6), .box (.par 0)]] : List (List Tm.Loc)).getD i []
def lp136 : Nat → LpS := fun i => default
def X136 (N : Nat) : Env := { n := 14, K := K0, C := hSel 111 (H111 (D111 N)) (hNone), L := fun i s k => none, keep := kp136, lp := lp136 }
theorem b136 (N : Nat) (a1 : Int) (a2 : Bool) (a3 : List (List Int)) : vbody (X136 N ) Try.f136 (bodyOf Try.f136) [.sc (.int .i64 a1), .sc (.bool a2), .fn 138 [0]] [.sc (.rows a3)] (fun rs bx => some ⟨rs, bx⟩) = T136 N a1 a2 a3 (fun r => some ⟨[.sc (.arr .i64 2 r.1), .sc (.bool r.2.1)], [.sc (.rows r.2.2)]⟩) := by kernel_rfl
theorem s136 (N : Nat) (a1 : Int) (a2 : Bool) (a3 : List (List Int)) (r : List Int × Bool × List (List Int)) (h : D136 N a1 a2 a3 = some r) : CallSpec Try.prog E0 136 [.sc (.int .i64 a1), .sc (.bool a2), .fn 138 [0]] [.sc (.rows a3)] [.sc (.arr .i64 2 r.1), .sc (.bool r.2.1)] [.sc (.rows r.2.2)] := by
  refine body_ok (X := X136 N ) (CR := CRG Try.prog E0) Try.func136 (code := bodyOf Try.f136) (by kernel_rfl) rfl (by decide) mixed0 tyok0 rfl contracts_ok (cs_sel (h111 (s111 N)) (cs_none)) (LoopsBy.of fun p hp => ?_) (by kernel_rfl) (Nat.le_of_ble_eq_true (by kernel_rfl)) ?_
  · rw [show loopsIn (bodyOf Try.f136) = [] from by kernel_rfl] at hp
    cases hp
  · rw [b136, T136_nat, h]; rfl

/-! 34: loop.example/g01286/impl.ChanceAvoids -/
def T34 {ρ : Type} (N : Nat) (a1 : Int) (a2 : List (List Int)) (k : (List Int × Bool) → Option ρ) : Option ρ :=
  (D137 N a2).bind fun r3 =>
  (D136 N a1 r3 a2).bind fun r4 =>
  k (r4.1, r4.2.1)
def D34 (N : Nat) (a1 : Int) (a2 : List (List Int)) : Option (List Int × Bool) := T34 N a1 a2 some
theorem T34_nat {ρ : Type} (N : Nat) (a1 : Int) (a2 : List (List Int)) (k : (List Int × Bool) → Option ρ) : T34 N a1 a2 k = (D34 N a1 a2).bind k := by
  unfold D34 T34
  simp only [Option.bind_assoc, bif_bind, elim_bind, Option.bind_some, Option.bind_none]
def H34 (D : Int → (List (List Int)) → Option (List Int × Bool)) : Hd := fun az bx k => match az, bx with
  | [c0, c1], [] => cI .i64 c0 fun y0 => cR c1 fun y1 => (D y0 y1).bind fun r => k [.sc (.arr .i64 2 r.1), .sc (.bool r.2)] []
  | _, _ => none
theorem fnok34 : FnOK Try.prog 34 := ⟨Try.f34, Try.func34, rfl, by decide⟩
theorem h34 {D : Int → (List (List Int)) → Option (List Int × Bool)} (hD : ∀ (y0 : Int), ∀ (y1 : List (List Int)), ∀ r, D y0 y1 = some r → CallSpec Try.prog E0 34 [.sc (.int .i64 y0), .sc (.rows y1)] [] [.sc (.arr .i64 2 r.1), .sc (.bool r.2)] []) : HSound Try.prog E0 34 (H34 D) := by
  intro az bx k r h
  unfold H34 at h
  split at h
  · rename_i c0 c1
    obtain ⟨y0, l0, h⟩ := cI_some h
    obtain ⟨y1, l1, h⟩ := cR_some h
    obtain ⟨r, hr, h⟩ := Option.bind_eq_some_iff.1 h
    exact ⟨_, _, ⟨(hD y0 y1 r hr).le ⟨l0, ⟨l1, trivial⟩⟩ trivial, fnok34, Nat.le_of_ble_eq_true rfl⟩, h⟩
  · cases h
def kp34 : Nat → List Tm.Loc := fun i => ([[.slot 0, .slot 3, .slot 4, .box (.own 3), .box (.own 4)], [.slot 4, .slot 5, .box (.own 4)]] : List (List Tm.Loc)).getD i []
def lp34 : Nat → LpS := fun i => default
def X34 (N : Nat) : Env := { n := 13, K := K0, C := hSel 137 (H137 (D137 N)) (hSel 136 (H136 (D136 N)) (hNone)), L := fun i s k => none, keep := kp34, lp := lp34 }
theorem b34 (N : Nat) (a1 : Int) (a2 : List (List Int)) : vbody (X34 N ) Try.f34 (bodyOf Try.f34) [.sc (.int .i64 a1), .sc (.rows a2)] [] (fun rs bx => some ⟨rs, bx⟩) = T34 N a1 a2 (fun r => some ⟨[.sc (.arr .i64 2 r.1), .sc (.bool r.2)], []⟩) := by kernel_rfl
theorem s34 (N : Nat) (a1 : Int) (a2 : List (List Int)) (r : List Int × Bool) (h : D34 N a1 a2 = some r) : CallSpec Try.prog E0 34 [.sc (.int .i64 a1), .sc (.rows a2)] [] [.sc (.arr .i64 2 r.1), .sc (.bool r.2)] [] := by
  refine body_ok (X := X34 N ) (CR := CRG Try.prog E0) Try.func34 (code := bodyOf Try.f34) (by kernel_rfl) rfl (by decide) mixed0 tyok0 rfl contracts_ok (cs_sel (h137 (s137 N)) (cs_sel (h136 (s136 N)) (cs_none))) (LoopsBy.of fun p hp => ?_) (by kernel_rfl) (Nat.le_of_ble_eq_true (by kernel_rfl)) ?_
  · rw [show loopsIn (bodyOf Try.f34) = [] from by kernel_rfl] at hp
    cases hp
  · rw [b34, T34_nat, h]; rfl

/-! 13: loop.example/g01286/laws.eqIntA2 -/
def L13_2 {ρ : Type} (N : Nat) (v : Int × List Int × List Int) (rec : (Int × List Int × List Int) → Option ρ) (k : (Unit ⊕ (Int × Bool × List Int × List Int)) → Option ρ) : Option ρ :=
  bif (iLt v.1 (Int.ofNat 2)) then (
  bif inB v.1 2 then (
  bif inB v.1 2 then (
  bif (!(iEq (List.getD v.2.1 (Int.toNat v.1) (Int.ofNat 0)) (List.getD v.2.2 (Int.toNat v.1) (Int.ofNat 0)))) then (
  k (.inl (())))
  else (
  rec ((wrapF .i64 (v.1 + (Int.ofNat 1))), v.2.1, v.2.2)))
  else none)
  else none)
  else (
  k (.inr ((v.1, (iLt v.1 (Int.ofNat 2)), v.2.1, v.2.2))))
def Lp13_2 (N : Nat) : Nat → (Int × List Int × List Int) → Option (Unit ⊕ (Int × Bool × List Int × List Int)) := fun n => Nat.rec (motive := fun _ => (Int × List Int × List Int) → Option (Unit ⊕ (Int × Bool × List Int × List Int))) (fun _ => none) (fun _ ih v => L13_2 N v ih some) n
theorem L13_2_nat {ρ : Type} (N : Nat) (v : Int × List Int × List Int) (rec : (Int × List Int × List Int) → Option (Unit ⊕ (Int × Bool × List Int × List Int))) (k : (Unit ⊕ (Int × Bool × List Int × List Int)) → Option ρ) : L13_2 N v (fun v => (rec v).bind k) k = (L13_2 N v rec some).bind k := by
  unfold L13_2
  simp only [Option.bind_assoc, bif_bind, elim_bind, Option.bind_some, Option.bind_none]
def T13 {ρ : Type} (N : Nat) (a1 : List Int) (a2 : List Int) (k : Bool → Option ρ) : Option ρ :=
  (Lp13_2 N N ((Int.ofNat 0), a1, a2)).bind (Sum.elim (fun _ =>
  k false) (fun w4 =>
  k true))
def D13 (N : Nat) (a1 : List Int) (a2 : List Int) : Option (Bool) := T13 N a1 a2 some
theorem T13_nat {ρ : Type} (N : Nat) (a1 : List Int) (a2 : List Int) (k : Bool → Option ρ) : T13 N a1 a2 k = (D13 N a1 a2).bind k := by
  unfold D13 T13
  simp only [Option.bind_assoc, bif_bind, elim_bind, Option.bind_some, Option.bind_none]
def H13 (D : (List Int) → (List Int) → Option (Bool)) : Hd := fun az bx k => match az, bx with
  | [c0, c1], [] => cA .i64 2 c0 fun y0 => cA .i64 2 c1 fun y1 => (D y0 y1).bind fun r => k [.sc (.bool r)] []
  | _, _ => none
theorem fnok13 : FnOK Try.prog 13 := ⟨Try.f13, Try.func13, rfl, by decide⟩
theorem h13 {D : (List Int) → (List Int) → Option (Bool)} (hD : ∀ (y0 : List Int), ∀ (y1 : List Int), ∀ r, D y0 y1 = some r → CallSpec Try.prog E0 13 [.sc (.arr .i64 2 y0), .sc (.arr .i64 2 y1)] [] [.sc (.bool r)] []) : HSound Try.prog E0 13 (H13 D) := by
  intro az bx k r h
  unfold H13 at h
  split at h
  · rename_i c0 c1
    obtain ⟨y0, l0, h⟩ := cA_some h
    obtain ⟨y1, l1, h⟩ := cA_some h
    obtain ⟨r, hr, h⟩ := Option.bind_eq_some_iff.1 h
    exact ⟨_, _, ⟨(hD y0 y1 r hr).le ⟨l0, ⟨l1, trivial⟩⟩ trivial, fnok13, Nat.le_of_ble_eq_true rfl⟩, h⟩
  · cases h
def kp13 : Nat → List Tm.Loc := fun i => ([[.slot 2, .slot 3, .box (.own 2), .box (.own 3)], [.slot 2, .slot 3, .slot 5, .box (.own 2), .box (.own 3)], [.slot 2, .slot 3, .slot 5, .slot 7, .box (.own 2), .box (.own 3)], [.slot 2, .slot 3, .slot 5, .box (.own 2), .box (.own 3)], [.slot 2, .slot 3, .slot 5, .slot 16, .box (.own 2), .box (.own 3)], [.slot 4], [.slot 4]] : List (List Tm.Loc)).getD i []
def lp13 : Nat → LpS := fun i => bif Nat.beq i 2 then ⟨[], [], [.slot 2, .slot 3, .slot 5, .box (.own 2), .box (.own 3)]⟩ else default
def sk13_2 : List (Tm.Loc × SkV) := [(.slot 2, .pt (.own 2)), (.slot 3, .pt (.own 3)), (.slot 5, .int .i64), (.box (.own 2), .arr .i64 2), (.box (.own 3), .arr .i64 2)]
def kk13_2 (k : Ex → St → Option RT) : (Unit ⊕ (Int × Bool × List Int × List Int)) → Option RT := (Sum.elim (fun r => k .ret [(.slot 4, .v (.sc (.bool false)))]) (fun r => k (.ext 0) [(.slot 7, .v (.sc (.bool false))), (.slot 2, .v (.pt (.own 2))), (.slot 3, .v (.pt (.own 3))), (.slot 5, .v (.sc (.int .i64 r.1))), (.slot 7, .v (.sc (.bool r.2.1))), (.box (.own 2), .v (.sc (.arr .i64 2 r.2.2.1))), (.box (.own 3), .v (.sc (.arr .i64 2 r.2.2.2)))]))
def LH13_2 (N : Nat) : St → (Ex → St → Option RT) → Option RT := fun s k => match mS sk13_2 s with
  | some [.I z0, .L z1, .L z2] => (Lp13_2 N N (z0, z1, z2)).bind (kk13_2 k)
  | _ => none
def X13 (N : Nat) : Env := { n := 17, K := K0, C := hNone, L := fun i s k => bif Nat.beq i 2 then LH13_2 N (normL (lp13 2) s) k else none, keep := kp13, lp := lp13 }
theorem st13_2 (N : Nat) (V : St → Option RT) (k : Ex → St → Option RT) (v : Int × List Int × List Int) : vexec (X13 N ) (findLoop 2 (loopsIn (bodyOf Try.f13))) (bS sk13_2 [.I v.1, .L v.2.1, .L v.2.2]) (vstep V (lp13 2) k) = L13_2 N v (fun v => V (bS sk13_2 [.I v.1, .L v.2.1, .L v.2.2])) (kk13_2 k) := by kernel_rfl
theorem q13_2 (N : Nat) (k : Ex → St → Option RT) : ∀ n (v : Int × List Int × List Int), vround (X13 N ) (findLoop 2 (loopsIn (bodyOf Try.f13))) 2 n (bS sk13_2 [.I v.1, .L v.2.1, .L v.2.2]) k = (Lp13_2 N n v).bind (kk13_2 k) := by
  intro n
  induction n with
  | zero => intro v; rfl
  | succ n ih =>
    intro v
    rw [vround_succ]
    refine (st13_2 N _ k v).trans ?_
    simp only [ih]
    exact L13_2_nat N v (Lp13_2 N n) (kk13_2 k)
theorem lh13_2 (N : Nat) : ∀ s k r, LH13_2 N s k = some r → vround (X13 N ) (findLoop 2 (loopsIn (bodyOf Try.f13))) 2 N s k = some r := by
  intro s k r h
  unfold LH13_2 at h
  split at h
  · rename_i z0 z1 z2 hm
    rw [mS_bS hm]
    exact (q13_2 N k N (z0, z1, z2)).trans h
  · cases h
theorem b13 (N : Nat) (a1 : List Int) (a2 : List Int) : vbody (X13 N ) Try.f13 (bodyOf Try.f13) [.sc (.arr .i64 2 a1), .sc (.arr .i64 2 a2)] [] (fun rs bx => some ⟨rs, bx⟩) = T13 N a1 a2 (fun r => some ⟨[.sc (.bool r)], []⟩) := by kernel_rfl
theorem s13 (N : Nat) (a1 : List Int) (a2 : List Int) (r : Bool) (h : D13 N a1 a2 = some r) : CallSpec Try.prog E0 13 [.sc (.arr .i64 2 a1), .sc (.arr .i64 2 a2)] [] [.sc (.bool r)] [] := by
  refine body_ok (X := X13 N ) (CR := CRG Try.prog E0) Try.func13 (code := bodyOf Try.f13) (by kernel_rfl) rfl (by decide) mixed0 tyok0 rfl contracts_ok (cs_none) (LoopsBy.of fun p hp => ?_) (by kernel_rfl) (Nat.le_of_ble_eq_true (by kernel_rfl)) ?_
  · rw [show loopsIn (bodyOf Try.f13) = [(2, findLoop 2 (loopsIn (bodyOf Try.f13)))] from by kernel_rfl] at hp
    simp only [List.mem_cons, List.not_mem_nil, or_false] at hp
    subst hp
    exact vround_of (fun s k => rfl) (by kernel_rfl) (lh13_2 N)
  · rw [b13, T13_nat, h]; rfl

/-! 140: loop.example/g01286/laws.eqIntS -/
def L140_4 {ρ : Type} (N : Nat) (v : List Int × List Int × Int) (rec : (List Int × List Int × Int) → Option ρ) (k : (Unit ⊕ (List Int × List Int × Int × Bool)) → Option ρ) : Option ρ :=
  bif (iLt v.2.2 (Int.ofNat (List.length v.1))) then (
  bif inB v.2.2 (List.length v.1) then (
  bif inB v.2.2 (List.length v.2.1) then (
  bif (!(iEq (List.getD v.1 (Int.toNat v.2.2) (Int.ofNat 0)) (List.getD v.2.1 (Int.toNat v.2.2) (Int.ofNat 0)))) then (
  k (.inl (())))
  else (
  rec (v.1, v.2.1, (wrapF .i64 (v.2.2 + (Int.ofNat 1))))))
  else none)
  else none)
  else (
  k (.inr ((v.1, v.2.1, v.2.2, (iLt v.2.2 (Int.ofNat (List.length v.1)))))))
def Lp140_4 (N : Nat) : Nat → (List Int × List Int × Int) → Option (Unit ⊕ (List Int × List Int × Int × Bool)) := fun n => Nat.rec (motive := fun _ => (List Int × List Int × Int) → Option (Unit ⊕ (List Int × List Int × Int × Bool))) (fun _ => none) (fun _ ih v => L140_4 N v ih some) n
theorem L140_4_nat {ρ : Type} (N : Nat) (v : List Int × List Int × Int) (rec : (List Int × List Int × Int) → Option (Unit ⊕ (List Int × List Int × Int × Bool))) (k : (Unit ⊕ (List Int × List Int × Int × Bool)) → Option ρ) : L140_4 N v (fun v => (rec v).bind k) k = (L140_4 N v rec some).bind k := by
  unfold L140_4
  simp only [Option.bind_assoc, bif_bind, elim_bind, Option.bind_some, Option.bind_none]
def T140 {ρ : Type} (N : Nat) (a1 : List Int) (a2 : List Int) (k : Bool → Option ρ) : Option ρ :=
  bif (!(iEq (Int.ofNat (List.length a1)) (Int.ofNat (List.length a2)))) then (
  k false)
  else (
  (Lp140_4 N N (a1, a2, (Int.ofNat 0))).bind (Sum.elim (fun _ =>
  k false) (fun w4 =>
  k true)))
def D140 (N : Nat) (a1 : List Int) (a2 : List Int) : Option (Bool) := T140 N a1 a2 some
theorem T140_nat {ρ : Type} (N : Nat) (a1 : List Int) (a2 : List Int) (k : Bool → Option ρ) : T140 N a1 a2 k = (D140 N a1 a2).bind k := by
  unfold D140 T140
  simp only [Option.bind_assoc, bif_bind, elim_bind, Option.bind_some, Option.bind_none]
def H140 (D : (List Int) → (List Int) → Option (Bool)) : Hd := fun az bx k => match az, bx with
  | [c0, c1], [] => cL .i64 c0 fun y0 => cL .i64 c1 fun y1 => (D y0 y1).bind fun r => k [.sc (.bool r)] []
  | _, _ => none
theorem fnok140 : FnOK Try.prog 140 := ⟨Try.f140, Try.func140, rfl, by decide⟩
theorem h140 {D : (List Int) → (List Int) → Option (Bool)} (hD : ∀ (y0 : List Int), ∀ (y1 : List Int), ∀ r, D y0 y1 = some r → CallSpec Try.prog E0 140 [.sc (.ints .i64 y0), .sc (.ints .i64 y1)] [] [.sc (.bool r)] []) : HSound Try.prog E0 140 (H140 D) := by
  intro az bx k r h
  unfold H140 at h
  split at h
  · rename_i c0 c1
    obtain ⟨y0, l0, h⟩ := cL_some h
    obtain ⟨y1, l1, h⟩ := cL_some h
    obtain ⟨r, hr, h⟩ := Option.bind_eq_some_iff.1 h
    exact ⟨_, _, ⟨(hD y0 y1 r hr).le ⟨l0, ⟨l1, trivial⟩⟩ trivial, fnok140, Nat.le_of_ble_eq_true rfl⟩, h⟩
  · cases h
def kp140 : Nat → List Tm.Loc := fun i => ([[.slot 0, .slot 1], [.slot 0, .slot 1, .slot 10], [.slot 4], [.slot 0, .slot 1, .slot 5], [.slot 0, .slot 1, .slot 5, .slot 14], [.slot 0, .slot 1, .slot 5], [.slot 0, .slot 1, .slot 5, .slot 25], [.slot 4], [.slot 4]] : List (List Tm.Loc)).getD i []
def lp140 : Nat → LpS := fun i => bif Nat.beq i 4 then ⟨[], [], [.slot 0, .slot 1, .slot 5]⟩ else default
def sk140_4 : List (Tm.Loc × SkV) := [(.slot 0, .ints .i64), (.slot 1, .ints .i64), (.slot 5, .int .i64)]
def kk140_4 (k : Ex → St → Option RT) : (Unit ⊕ (List Int × List Int × Int × Bool)) → Option RT := (Sum.elim (fun r => k .ret [(.slot 4, .v (.sc (.bool false)))]) (fun r => k (.ext 0) [(.slot 14, .v (.sc (.bool false))), (.slot 0, .v (.sc (.ints .i64 r.1))), (.slot 1, .v (.sc (.ints .i64 r.2.1))), (.slot 5, .v (.sc (.int .i64 r.2.2.1))), (.slot 14, .v (.sc (.bool r.2.2.2)))]))
def LH140_4 (N : Nat) : St → (Ex → St → Option RT) → Option RT := fun s k => match mS sk140_4 s with
  | some [.L z0, .L z1, .I z2] => (Lp140_4 N N (z0, z1, z2)).bind (kk140_4 k)
  | _ => none
def X140 (N : Nat) : Env := { n := 26, K := K0, C := hNone, L := fun i s k => bif Nat.beq i 4 then LH140_4 N (normL (lp140 4) s) k else none, keep := kp140, lp := lp140 }
theorem st140_4 (N : Nat) (V : St → Option RT) (k : Ex → St → Option RT) (v : List Int × List Int × Int) : vexec (X140 N ) (findLoop 4 (loopsIn (bodyOf Try.f140))) (bS sk140_4 [.L v.1, .L v.2.1, .I v.2.2]) (vstep V (lp140 4) k) = L140_4 N v (fun v => V (bS sk140_4 [.L v.1, .L v.2.1, .I v.2.2])) (kk140_4 k) := by kernel_rfl
theorem q140_4 (N : Nat) (k : Ex → St → Option RT) : ∀ n (v : List Int × List Int × Int), vround (X140 N ) (findLoop 4 (loopsIn (bodyOf Try.f140))) 4 n (bS sk140_4 [.L v.1, .L v.2.1, .I v.2.2]) k = (Lp140_4 N n v).bind (kk140_4 k) := by
  intro n
  induction n with
  | zero => intro v; rfl
  | succ n ih =>
    intro v
    rw [vround_succ]
    refine (st140_4 N _ k v).trans ?_
    simp only [ih]
    exact L140_4_nat N v (Lp140_4 N n) (kk140_4 k)
theorem lh140_4 (N : Nat) : ∀ s k r, LH140_4 N s k = some r → vround (X140 N ) (findLoop 4 (loopsIn (bodyOf Try.f140))) 4 N s k = some r := by
  intro s k r h
  unfold LH140_4 at h
  split at h
  · rename_i z0 z1 z2 hm
    rw [mS_bS hm]
    exact (q140_4 N k N (z0, z1, z2)).trans h
  · cases h
theorem b140 (N : Nat) (a1 : List Int) (a2 : List Int) : vbody (X140 N ) Try.f140 (bodyOf Try.f140) [.sc (.ints .i64 a1), .sc (.ints .i64 a2)] [] (fun rs bx => some ⟨rs, bx⟩) = T140 N a1 a2 (fun r => some ⟨[.sc (.bool r)], []⟩) := by kernel_rfl
theorem s140 (N : Nat) (a1 : List Int) (a2 : List Int) (r : Bool) (h : D140 N a1 a2 = some r) : CallSpec Try.prog E0 140 [.sc (.ints .i64 a1), .sc (.ints .i64 a2)] [] [.sc (.bool r)] [] := by
  refine body_ok (X := X140 N ) (CR := CRG Try.prog E0) Try.func140 (code := bodyOf Try.f140) (by kernel_rfl) rfl (by decide) mixed0 tyok0 rfl contracts_ok (cs_none) (LoopsBy.of fun p hp => ?_) (by kernel_rfl) (Nat.le_of_ble_eq_true (by kernel_rfl)) ?_
  · rw [show loopsIn (bodyOf Try.f140) = [(4, findLoop 4 (loopsIn (bodyOf Try.f140)))] from by kernel_rfl] at hp
    simp only [List.mem_cons, List.not_mem_nil, or_false] at hp
    subst hp
    exact vround_of (fun s k => rfl) (by kernel_rfl) (lh140_4 N)
  · rw [b140, T140_nat, h]; rfl

/-! 35: loop.example/g01286/laws.eqIntSS -/
def L35_4 {ρ : Type} (N : Nat) (v : List (List Int) × List (List Int) × Int) (rec : (List (List Int) × List (List Int) × Int) → Option ρ) (k : (Unit ⊕ (List (List Int) × List (List Int) × Int × Bool)) → Option ρ) : Option ρ :=
  bif (iLt v.2.2 (Int.ofNat (List.length v.1))) then (
  bif inB v.2.2 (List.length v.1) then (
  bif inB v.2.2 (List.length v.2.1) then (
  (D140 N (List.getD v.1 (Int.toNat v.2.2) []) (List.getD v.2.1 (Int.toNat v.2.2) [])).bind fun r3 =>
  bif (!r3) then (
  k (.inl (())))
  else (
  rec (v.1, v.2.1, (wrapF .i64 (v.2.2 + (Int.ofNat 1))))))
  else none)
  else none)
  else (
  k (.inr ((v.1, v.2.1, v.2.2, (iLt v.2.2 (Int.ofNat (List.length v.1)))))))
def Lp35_4 (N : Nat) : Nat → (List (List Int) × List (List Int) × Int) → Option (Unit ⊕ (List (List Int) × List (List Int) × Int × Bool)) := fun n => Nat.rec (motive := fun _ => (List (List Int) × List (List Int) × Int) → Option (Unit ⊕ (List (List Int) × List (List Int) × Int × Bool))) (fun _ => none) (fun _ ih v => L35_4 N v ih some) n
theorem L35_4_nat {ρ : Type} (N : Nat) (v : List (List Int) × List (List Int) × Int) (rec : (List (List Int) × List (List Int) × Int) → Option (Unit ⊕ (List (List Int) × List (List Int) × Int × Bool))) (k : (Unit ⊕ (List (List Int) × List (List Int) × Int × Bool)) → Option ρ) : L35_4 N v (fun v => (rec v).bind k) k = (L35_4 N v rec some).bind k := by
  unfold L35_4
  simp only [Option.bind_assoc, bif_bind, elim_bind, Option.bind_some, Option.bind_none]
def T35 {ρ : Type} (N : Nat) (a1 : List (List Int)) (a2 : List (List Int)) (k : Bool → Option ρ) : Option ρ :=
  bif (!(iEq (Int.ofNat (List.length a1)) (Int.ofNat (List.length a2)))) then (
  k false)
  else (
  (Lp35_4 N N (a1, a2, (Int.ofNat 0))).bind (Sum.elim (fun _ =>
  k false) (fun w5 =>
  k true)))
def D35 (N : Nat) (a1 : List (List Int)) (a2 : List (List Int)) : Option (Bool) := T35 N a1 a2 some
theorem T35_nat {ρ : Type} (N : Nat) (a1 : List (List Int)) (a2 : List (List Int)) (k : Bool → Option ρ) : T35 N a1 a2 k = (D35 N a1 a2).bind k := by
  unfold D35 T35
  simp only [Option.bind_assoc, bif_bind, elim_bind, Option.bind_some, Option.bind_none]
def H35 (D : (List (List Int)) → (List (List Int)) → Option (Bool)) : Hd := fun az bx k => match az, bx with
  | [c0, c1], [] => cR c0 fun y0 => cR c1 fun y1 => (D y0 y1).bind fun r => k [.sc (.bool r)] []
  | _, _ => none
theorem fnok35 : FnOK Try.prog 35 := ⟨Try.f35, Try.func35, rfl, by decide⟩
theorem h35 {D : (List (List Int)) → (List (List Int)) → Option (Bool)} (hD : ∀ (y0 : List (List Int)), ∀ (y1 : List (List Int)), ∀ r, D y0 y1 = some r → CallSpec Try.prog E0 35 [.sc (.rows y0), .sc (.rows y1)] [] [.sc (.bool r)] []) : HSound Try.prog E0 35 (H35 D) := by
  intro az bx k r h
  unfold H35 at h
  split at h
  · rename_i c0 c1
    obtain ⟨y0, l0, h⟩ := cR_some h
    obtain ⟨y1, l1, h⟩ := cR_some h
    obtain ⟨r, hr, h⟩ := Option.bind_eq_some_iff.1 h
    exact ⟨_, _, ⟨(hD y0 y1 r hr).le ⟨l0, ⟨l1, trivial⟩⟩ trivial, fnok35, Nat.le_of_ble_eq_true rfl⟩, h⟩
  · cases h
def kp35 : Nat → List Tm.Loc := fun i => ([[.slot 0, .slot 1], [.slot 0, .slot 1, .slot 10], [.slot 4], [.slot 0, .slot 1, .slot 5], [.slot 0, .slot 1, .slot 5, .slot 14], [.slot 0, .slot 1, .slot 5], [.slot 0, .slot 1, .slot 5, .slot 26], [.slot 4], [.slot 4]] : List (List Tm.Loc)).getD i []
def lp35 : Nat → LpS := fun i => bif Nat.beq i 4 then ⟨[], [], [.slot 0, .slot 1, .slot 5]⟩ else default
def sk35_4 : List (Tm.Loc × SkV) := [(.slot 0, .rows), (.slot 1, .rows), (.slot 5, .int .i64)]
def kk35_4 (k : Ex → St → Option RT) : (Unit ⊕ (List (List Int) × List (List Int) × Int × Bool)) → Option RT := (Sum.elim (fun r => k .ret [(.slot 4, .v (.sc (.bool false)))]) (fun r => k (.ext 0) [(.slot 14, .v (.sc (.bool false))), (.slot 0, .v (.sc (.rows r.1))), (.slot 1, .v (.sc (.rows r.2.1))), (.slot 5, .v (.sc (.int .i64 r.2.2.1))), (.slot 14, .v (.sc (.bool r.2.2.2)))]))
def LH35_4 (N : Nat) : St → (Ex → St → Option RT) → Option RT := fun s k => match mS sk35_4 s with
  | some [.R z0, .R z1, .I z2] => (Lp35_4 N N (z0, z1, z2)).bind (kk35_4 k)
  | _ => none
def X35 (N : Nat) : Env := { n := 27, K := K0, C := hSel 140 (H140 (D140 N)) (hNone), L := fun i s k => bif Nat.beq i 4 then LH35_4 N (normL (lp35 4) s) k else none, keep := kp35, lp := lp35 }
theorem st35_4 (N : Nat) (V : St → Option RT) (k : Ex → St → Option RT) (v : List (List Int) × List (List Int) × Int) : vexec (X35 N ) (findLoop 4 (loopsIn (bodyOf Try.f35))) (bS sk35_4 [.R v.1, .R v.2.1, .I v.2.2]) (vstep V (lp35 4) k) = L35_4 N v (fun v => V (bS sk35_4 [.R v.1, .R v.2.1, .I v.2.2])) (kk35_4 k) := by kernel_rfl
theorem q35_4 (N : Nat) (k : Ex → St → Option RT) : ∀ n (v : List (List Int) × List (List Int) × Int), vround (X35 N ) (findLoop 4 (loopsIn (bodyOf Try.f35))) 4 n (bS sk35_4 [.R v.1, .R v.2.1, .I v.2.2]) k = (Lp35_4 N n v).bind (kk35_4 k) := by
  intro n
  induction n with
  | zero => intro v; rfl
  | succ n ih =>
    intro v
    rw [vround_succ]
    refine (st35_4 N _ k v).trans ?_
    simp only [ih]
    exact L35_4_nat N v (Lp35_4 N n) (kk35_4 k)
theorem lh35_4 (N : Nat) : ∀ s k r, LH35_4 N s k = some r → vround (X35 N ) (findLoop 4 (loopsIn (bodyOf Try.f35))) 4 N s k = some r := by
  intro s k r h
  unfold LH35_4 at h
  split at h
  · rename_i z0 z1 z2 hm
    rw [mS_bS hm]
    exact (q35_4 N k N (z0, z1, z2)).trans h
  · cases h
theorem b35 (N : Nat) (a1 : List (List Int)) (a2 : List (List Int)) : vbody (X35 N ) Try.f35 (bodyOf Try.f35) [.sc (.rows a1), .sc (.rows a2)] [] (fun rs bx => some ⟨rs, bx⟩) = T35 N a1 a2 (fun r => some ⟨[.sc (.bool r)], []⟩) := by kernel_rfl
theorem s35 (N : Nat) (a1 : List (List Int)) (a2 : List (List Int)) (r : Bool) (h : D35 N a1 a2 = some r) : CallSpec Try.prog E0 35 [.sc (.rows a1), .sc (.rows a2)] [] [.sc (.bool r)] [] := by
  refine body_ok (X := X35 N ) (CR := CRG Try.prog E0) Try.func35 (code := bodyOf Try.f35) (by kernel_rfl) rfl (by decide) mixed0 tyok0 rfl contracts_ok (cs_sel (h140 (s140 N)) (cs_none)) (LoopsBy.of fun p hp => ?_) (by kernel_rfl) (Nat.le_of_ble_eq_true (by kernel_rfl)) ?_
  · rw [show loopsIn (bodyOf Try.f35) = [(4, findLoop 4 (loopsIn (bodyOf Try.f35)))] from by kernel_rfl] at hp
    simp only [List.mem_cons, List.not_mem_nil, or_false] at hp
    subst hp
    exact vround_of (fun s k => rfl) (by kernel_rfl) (lh35_4 N)
  · rw [b35, T35_nat, h]; rfl

/-! 5: loop.example/g01286/laws.FnExactChanceAvoids -/
def T5 {ρ : Type} (N : Nat) (a1 : Int) (a2 : List (List Int)) (k : Bool → Option ρ) : Option ρ :=
  (D31 N a2 (Int.ofNat 1048576)).bind fun r3 =>
  bif (iLt r3 (Int.ofNat 0)) then (
  k true)
  else (
  (D33 N a2).bind fun r4 =>
  (D32 N a1 r4).bind fun r5 =>
  (D33 N a2).bind fun r6 =>
  (D34 N a1 r6).bind fun r7 =>
  (D13 N r7.1 r5.1).bind fun r8 =>
  bif (!(!r8)) then (
  bif (!(r7.2 == r5.2)) then (
  k false)
  else (
  (D33 N a2).bind fun r9 =>
  (D35 N r6 r9).bind fun r10 =>
  bif (!r10) then (
  k false)
  else (
  k true)))
  else (
  k false))
def D5 (N : Nat) (a1 : Int) (a2 : List (List Int)) : Option (Bool) := T5 N a1 a2 some
theorem T5_nat {ρ : Type} (N : Nat) (a1 : Int) (a2 : List (List Int)) (k : Bool → Option ρ) : T5 N a1 a2 k = (D5 N a1 a2).bind k := by
  unfold D5 T5
  simp only [Option.bind_assoc, bif_bind, elim_bind, Option.bind_some, Option.bind_none]
def H5 (D : Int → (List (List Int)) → Option (Bool)) : Hd := fun az bx k => match az, bx with
  | [c0, c1], [] => cI .i64 c0 fun y0 => cR c1 fun y1 => (D y0 y1).bind fun r => k [.sc (.bool r)] []
  | _, _ => none
theorem fnok5 : FnOK Try.prog 5 := ⟨Try.f5, Try.func5, rfl, by decide⟩
theorem h5 {D : Int → (List (List Int)) → Option (Bool)} (hD : ∀ (y0 : Int), ∀ (y1 : List (List Int)), ∀ r, D y0 y1 = some r → CallSpec Try.prog E0 5 [.sc (.int .i64 y0), .sc (.rows y1)] [] [.sc (.bool r)] []) : HSound Try.prog E0 5 (H5 D) := by
  intro az bx k r h
  unfold H5 at h
  split at h
  · rename_i c0 c1
    obtain ⟨y0, l0, h⟩ := cI_some h
    obtain ⟨y1, l1, h⟩ := cR_some h
    obtain ⟨r, hr, h⟩ := Option.bind_eq_some_iff.1 h
    exact ⟨_, _, ⟨(hD y0 y1 r hr).le ⟨l0, ⟨l1, trivial⟩⟩ trivial, fnok5, Nat.le_of_ble_eq_true rfl⟩, h⟩
  · cases h
def kp5 : Nat → List Tm.Loc := fun i => ([[.slot 0, .slot 1, .slot 36, .slot 37, .slot 38], [.slot 0, .slot 1, .slot 5, .slot 36, .slot 37, .slot 38], [.slot 0, .slot 1, .slot 5, .slot 36, .slot 37, .slot 38], [.slot 0, .slot 1, .slot 15, .slot 36, .slot 37, .slot 38], [.slot 4], [.slot 0, .slot 1, .slot 6, .slot 7, .slot 36, .slot 37, .slot 38, .box (.own 6)], [.slot 0, .slot 1, .slot 6, .slot 7, .slot 8, .slot 36, .slot 37, .slot 38, .box (.own 6)], [.slot 1, .slot 6, .slot 7, .slot 8, .slot 9, .slot 10, .slot 36, .slot 37, .slot 38, .box (.own 6), .box (.own 9)], [.slot 1, .slot 8, .slot 39], [.slot 4], [.slot 44], [.slot 4], [.slot 4]] : List (List Tm.Loc)).getD i []
def lp5 : Nat → LpS := fun i => default
def X5 (N : Nat) : Env := { n := 45, K := K0, C := hSel 31 (H31 (D31 N)) (hSel 33 (H33 (D33 N)) (hSel 32 (H32 (D32 N)) (hSel 34 (H34 (D34 N)) (hSel 13 (H13 (D13 N)) (hSel 35 (H35 (D35 N)) (hNone)))))), L := fun i s k => none, keep := kp5, lp := lp5 }
theorem b5 (N : Nat) (a1 : Int) (a2 : List (List Int)) : vbody (X5 N ) Try.f5 (bodyOf Try.f5) [.sc (.int .i64 a1), .sc (.rows a2)] [] (fun rs bx => some ⟨rs, bx⟩) = T5 N a1 a2 (fun r => some ⟨[.sc (.bool r)], []⟩) := by kernel_rfl
theorem s5 (N : Nat) (a1 : Int) (a2 : List (List Int)) (r : Bool) (h : D5 N a1 a2 = some r) : CallSpec Try.prog E0 5 [.sc (.int .i64 a1), .sc (.rows a2)] [] [.sc (.bool r)] [] := by
  refine body_ok (X := X5 N ) (CR := CRG Try.prog E0) Try.func5 (code := bodyOf Try.f5) (by kernel_rfl) rfl (by decide) mixed0 tyok0 rfl contracts_ok (cs_sel (h31 (s31 N)) (cs_sel (h33 (s33 N)) (cs_sel (h32 (s32 N)) (cs_sel (h34 (s34 N)) (cs_sel (h13 (s13 N)) (cs_sel (h35 (s35 N)) (cs_none))))))) (LoopsBy.of fun p hp => ?_) (by kernel_rfl) (Nat.le_of_ble_eq_true (by kernel_rfl)) ?_
  · rw [show loopsIn (bodyOf Try.f5) = [] from by kernel_rfl] at hp
    cases hp
  · rw [b5, T5_nat, h]; rfl

end Go.Proofs.Ytmcldnoofgkidaa
