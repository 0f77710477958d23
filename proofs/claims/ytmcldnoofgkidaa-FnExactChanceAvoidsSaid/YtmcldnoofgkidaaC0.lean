/- The functions of the program: what they compute, and their contracts. Printed by gen.py. -/
import Derived.Test.YtmcldnoofgkidaaCB
set_option linter.unusedVariables false
set_option linter.unusedSimpArgs false
set_option maxRecDepth 100000
namespace Go.Proofs.Ytmcldnoofgkidaa
open Go.Tm

/-! 132: loop.example/g01286/laws.szIntS -/
def T132 {ρ : Type} (N : Nat) (a1 : List Int) (a2 : Int) (k : Int → Option ρ) : Option ρ :=
  bif (iLt (wrapF .i64 (a2 - (Int.ofNat (List.length a1)))) (Int.ofNat 0)) then (
  k (Int.negSucc 0))
  else (
  k (wrapF .i64 (a2 - (Int.ofNat (List.length a1)))))
def D132 (N : Nat) (a1 : List Int) (a2 : Int) : Option (Int) := T132 N a1 a2 some
theorem T132_nat {ρ : Type} (N : Nat) (a1 : List Int) (a2 : Int) (k : Int → Option ρ) : T132 N a1 a2 k = (D132 N a1 a2).bind k := by
  unfold D132 T132
  simp only [Option.bind_assoc, bif_bind, elim_bind, Option.bind_some, Option.bind_none]
def H132 (D : (List Int) → Int → Option (Int)) : Hd := fun az bx k => match az, bx with
  | [c0, c1], [] => cL .i64 c0 fun y0 => cI .i64 c1 fun y1 => (D y0 y1).bind fun r => k [.sc (.int .i64 r)] []
  | _, _ => none
theorem fnok132 : FnOK Try.prog 132 := ⟨Try.f132, Try.func132, rfl, by decide⟩
theorem h132 {D : (List Int) → Int → Option (Int)} (hD : ∀ (y0 : List Int), ∀ (y1 : Int), ∀ r, D y0 y1 = some r → CallSpec Try.prog E0 132 [.sc (.ints .i64 y0), .sc (.int .i64 y1)] [] [.sc (.int .i64 r)] []) : HSound Try.prog E0 132 (H132 D) := by
  intro az bx k r h
  unfold H132 at h
  split at h
  · rename_i c0 c1
    obtain ⟨y0, l0, h⟩ := cL_some h
    obtain ⟨y1, l1, h⟩ := cI_some h
    obtain ⟨r, hr, h⟩ := Option.bind_eq_some_iff.1 h
    exact ⟨_, _, ⟨(hD y0 y1 r hr).le ⟨l0, ⟨l1, trivial⟩⟩ trivial, fnok132, Nat.le_of_ble_eq_true rfl⟩, h⟩
  · cases h
def kp132 : Nat → List Tm.Loc := fun i => ([[.slot 0, .slot 1], [.slot 1], [.slot 1, .slot 10], [.slot 4], [.slot 4]] : List (List Tm.Loc)).getD i []
def lp132 : Nat → LpS := fun i => default
def X132 (N : Nat) : Env := { n := 12, K := K0, C := hNone, L := fun i s k => none, keep := kp132, lp := lp132 }
theorem b132 (N : Nat) (a1 : List Int) (a2 : Int) : vbody (X132 N ) Try.f132 (bodyOf Try.f132) [.sc (.ints .i64 a1), .sc (.int .i64 a2)] [] (fun rs bx => some ⟨rs, bx⟩) = T132 N a1 a2 (fun r => some ⟨[.sc (.int .i64 r)], []⟩) := by kernel_rfl
theorem s132 (N : Nat) (a1 : List Int) (a2 : Int) (r : Int) (h : D132 N a1 a2 = some r) : CallSpec Try.prog E0 132 [.sc (.ints .i64 a1), .sc (.int .i64 a2)] [] [.sc (.int .i64 r)] [] := by
  refine body_ok (X := X132 N ) (CR := CRG Try.prog E0) Try.func132 (code := bodyOf Try.f132) (by kernel_rfl) rfl (by decide) mixed0 tyok0 rfl contracts_ok (cs_none) (LoopsBy.of fun p hp => ?_) (by kernel_rfl) (Nat.le_of_ble_eq_true (by kernel_rfl)) ?_
  · rw [show loopsIn (bodyOf Try.f132) = [] from by kernel_rfl] at hp
    cases hp
  · rw [b132, T132_nat, h]; rfl

/-! 31: loop.example/g01286/laws.szIntSS -/
def L31_5 {ρ : Type} (N : Nat) (v : List (List Int) × Int × Int) (rec : (List (List Int) × Int × Int) → Option ρ) (k : (Unit ⊕ (List (List Int) × Int × Int × Bool)) → Option ρ) : Option ρ :=
  bif (iLt v.2.2 (Int.ofNat (List.length v.1))) then (
  bif inB v.2.2 (List.length v.1) then (
  (D132 N (List.getD v.1 (Int.toNat v.2.2) []) v.2.1).bind fun r3 =>
  bif (iLt r3 (Int.ofNat 0)) then (
  k (.inl (())))
  else (
  rec (v.1, r3, (wrapF .i64 (v.2.2 + (Int.ofNat 1))))))
  else none)
  else (
  k (.inr ((v.1, v.2.1, v.2.2, (iLt v.2.2 (Int.ofNat (List.length v.1)))))))
def Lp31_5 (N : Nat) : Nat → (List (List Int) × Int × Int) → Option (Unit ⊕ (List (List Int) × Int × Int × Bool)) := fun n => Nat.rec (motive := fun _ => (List (List Int) × Int × Int) → Option (Unit ⊕ (List (List Int) × Int × Int × Bool))) (fun _ => none) (fun _ ih v => L31_5 N v ih some) n
theorem L31_5_nat {ρ : Type} (N : Nat) (v : List (List Int) × Int × Int) (rec : (List (List Int) × Int × Int) → Option (Unit ⊕ (List (List Int) × Int × Int × Bool))) (k : (Unit ⊕ (List (List Int) × Int × Int × Bool)) → Option ρ) : L31_5 N v (fun v => (rec v).bind k) k = (L31_5 N v rec some).bind k := by
  unfold L31_5
  simp only [Option.bind_assoc, bif_bind, elim_bind, Option.bind_some, Option.bind_none]
def T31 {ρ : Type} (N : Nat) (a1 : List (List Int)) (a2 : Int) (k : Int → Option ρ) : Option ρ :=
  bif (iLt (wrapF .i64 (a2 - (Int.ofNat (List.length a1)))) (Int.ofNat 0)) then (
  k (Int.negSucc 0))
  else (
  (Lp31_5 N N (a1, (wrapF .i64 (a2 - (Int.ofNat (List.length a1)))), (Int.ofNat 0))).bind (Sum.elim (fun _ =>
  k (Int.negSucc 0)) (fun w5 =>
  k w5.2.1)))
def D31 (N : Nat) (a1 : List (List Int)) (a2 : Int) : Option (Int) := T31 N a1 a2 some
theorem T31_nat {ρ : Type} (N : Nat) (a1 : List (List Int)) (a2 : Int) (k : Int → Option ρ) : T31 N a1 a2 k = (D31 N a1 a2).bind k := by
  unfold D31 T31
  simp only [Option.bind_assoc, bif_bind, elim_bind, Option.bind_some, Option.bind_none]
def H31 (D : (List (List Int)) → Int → Option (Int)) : Hd := fun az bx k => match az, bx with
  | [c0, c1], [] => cR c0 fun y0 => cI .i64 c1 fun y1 => (D y0 y1).bind fun r => k [.sc (.int .i64 r)] []
  | _, _ => none
theorem fnok31 : FnOK Try.prog 31 := ⟨Try.f31, Try.func31, rfl, by decide⟩
theorem h31 {D : (List (List Int)) → Int → Option (Int)} (hD : ∀ (y0 : List (List Int)), ∀ (y1 : Int), ∀ r, D y0 y1 = some r → CallSpec Try.prog E0 31 [.sc (.rows y0), .sc (.int .i64 y1)] [] [.sc (.int .i64 r)] []) : HSound Try.prog E0 31 (H31 D) := by
  intro az bx k r h
  unfold H31 at h
  split at h
  · rename_i c0 c1
    obtain ⟨y0, l0, h⟩ := cR_some h
    obtain ⟨y1, l1, h⟩ := cI_some h
    obtain ⟨r, hr, h⟩ := Option.bind_eq_some_iff.1 h
    exact ⟨_, _, ⟨(hD y0 y1 r hr).le ⟨l0, ⟨l1, trivial⟩⟩ trivial, fnok31, Nat.le_of_ble_eq_true rfl⟩, h⟩
  · cases h
def kp31 : Nat → List Tm.Loc := fun i => ([[.slot 0, .slot 1], [.slot 0, .slot 1], [.slot 0, .slot 1, .slot 11], [.slot 4], [.slot 0, .slot 1, .slot 5], [.slot 0, .slot 1, .slot 5, .slot 15], [.slot 0, .slot 1, .slot 5], [.slot 0, .slot 1, .slot 5], [.slot 0, .slot 1, .slot 5, .slot 25], [.slot 4], [.slot 4]] : List (List Tm.Loc)).getD i []
def lp31 : Nat → LpS := fun i => bif Nat.beq i 5 then ⟨[], [], [.slot 0, .slot 1, .slot 5]⟩ else default
def sk31_5 : List (Tm.Loc × SkV) := [(.slot 0, .rows), (.slot 1, .int .i64), (.slot 5, .int .i64)]
def kk31_5 (k : Ex → St → Option RT) : (Unit ⊕ (List (List Int) × Int × Int × Bool)) → Option RT := (Sum.elim (fun r => k .ret [(.slot 4, .v (.sc (.int .i64 (Int.negSucc 0))))]) (fun r => k (.ext 0) [(.slot 15, .v (.sc (.bool false))), (.slot 0, .v (.sc (.rows r.1))), (.slot 1, .v (.sc (.int .i64 r.2.1))), (.slot 5, .v (.sc (.int .i64 r.2.2.1))), (.slot 15, .v (.sc (.bool r.2.2.2)))]))
def LH31_5 (N : Nat) : St → (Ex → St → Option RT) → Option RT := fun s k => match mS sk31_5 s with
  | some [.R z0, .I z1, .I z2] => (Lp31_5 N N (z0, z1, z2)).bind (kk31_5 k)
  | _ => none
def X31 (N : Nat) : Env := { n := 27, K := K0, C := hSel 132 (H132 (D132 N)) (hNone), L := fun i s k => bif Nat.beq i 5 then LH31_5 N (normL (lp31 5) s) k else none, keep := kp31, lp := lp31 }
theorem st31_5 (N : Nat) (V : St → Option RT) (k : Ex → St → Option RT) (v : List (List Int) × Int × Int) : vexec (X31 N ) (findLoop 5 (loopsIn (bodyOf Try.f31))) (bS sk31_5 [.R v.1, .I v.2.1, .I v.2.2]) (vstep V (lp31 5) k) = L31_5 N v (fun v => V (bS sk31_5 [.R v.1, .I v.2.1, .I v.2.2])) (kk31_5 k) := by kernel_rfl
theorem q31_5 (N : Nat) (k : Ex → St → Option RT) : ∀ n (v : List (List Int) × Int × Int), vround (X31 N ) (findLoop 5 (loopsIn (bodyOf Try.f31))) 5 n (bS sk31_5 [.R v.1, .I v.2.1, .I v.2.2]) k = (Lp31_5 N n v).bind (kk31_5 k) := by
  intro n
  induction n with
  | zero => intro v; rfl
  | succ n ih =>
    intro v
    rw [vround_succ]
    refine (st31_5 N _ k v).trans ?_
    simp only [ih]
    exact L31_5_nat N v (Lp31_5 N n) (kk31_5 k)
theorem lh31_5 (N : Nat) : ∀ s k r, LH31_5 N s k = some r → vround (X31 N ) (findLoop 5 (loopsIn (bodyOf Try.f31))) 5 N s k = some r := by
  intro s k r h
  unfold LH31_5 at h
  split at h
  · rename_i z0 z1 z2 hm
    rw [mS_bS hm]
    exact (q31_5 N k N (z0, z1, z2)).trans h
  · cases h
theorem b31 (N : Nat) (a1 : List (List Int)) (a2 : Int) : vbody (X31 N ) Try.f31 (bodyOf Try.f31) [.sc (.rows a1), .sc (.int .i64 a2)] [] (fun rs bx => some ⟨rs, bx⟩) = T31 N a1 a2 (fun r => some ⟨[.sc (.int .i64 r)], []⟩) := by kernel_rfl
theorem s31 (N : Nat) (a1 : List (List Int)) (a2 : Int) (r : Int) (h : D31 N a1 a2 = some r) : CallSpec Try.prog E0 31 [.sc (.rows a1), .sc (.int .i64 a2)] [] [.sc (.int .i64 r)] [] := by
  refine body_ok (X := X31 N ) (CR := CRG Try.prog E0) Try.func31 (code := bodyOf Try.f31) (by kernel_rfl) rfl (by decide) mixed0 tyok0 rfl contracts_ok (cs_sel (h132 (s132 N)) (cs_none)) (LoopsBy.of fun p hp => ?_) (by kernel_rfl) (Nat.le_of_ble_eq_true (by kernel_rfl)) ?_
  · rw [show loopsIn (bodyOf Try.f31) = [(5, findLoop 5 (loopsIn (bodyOf Try.f31)))] from by kernel_rfl] at hp
    simp only [List.mem_cons, List.not_mem_nil, or_false] at hp
    subst hp
    exact vround_of (fun s k => rfl) (by kernel_rfl) (lh31_5 N)
  · rw [b31, T31_nat, h]; rfl

/-! 135: loop.example/g01286/laws.toIntS -/
def L135_3 {ρ : Type} (N : Nat) (v : List Int × List Int × Int) (rec : (List Int × List Int × Int) → Option ρ) (k : ((List Int × List Int × Int × Bool)) → Option ρ) : Option ρ :=
  bif (iLt v.2.2 (Int.ofNat (List.length v.1))) then (
  bif inB v.2.2 (List.length v.1) then (
  bif inB v.2.2 (List.length v.2.1) then (
  rec (v.1, (List.set v.2.1 (Int.toNat v.2.2) (List.getD v.1 (Int.toNat v.2.2) (Int.ofNat 0))), (wrapF .i64 (v.2.2 + (Int.ofNat 1)))))
  else none)
  else none)
  else (
  k (v.1, v.2.1, v.2.2, (iLt v.2.2 (Int.ofNat (List.length v.1)))))
def Lp135_3 (N : Nat) : Nat → (List Int × List Int × Int) → Option ((List Int × List Int × Int × Bool)) := fun n => Nat.rec (motive := fun _ => (List Int × List Int × Int) → Option ((List Int × List Int × Int × Bool))) (fun _ => none) (fun _ ih v => L135_3 N v ih some) n
theorem L135_3_nat {ρ : Type} (N : Nat) (v : List Int × List Int × Int) (rec : (List Int × List Int × Int) → Option ((List Int × List Int × Int × Bool))) (k : ((List Int × List Int × Int × Bool)) → Option ρ) : L135_3 N v (fun v => (rec v).bind k) k = (L135_3 N v rec some).bind k := by
  unfold L135_3
  simp only [Option.bind_assoc, bif_bind, elim_bind, Option.bind_some, Option.bind_none]
def T135 {ρ : Type} (N : Nat) (a1 : List Int) (k : (List Int) → Option ρ) : Option ρ :=
  bif (iLe (Int.ofNat 0) (Int.ofNat (List.length a1)) && iEq (Int.ofNat (List.length a1)) (Int.ofNat (List.length a1)) && capB (Int.toNat (Int.ofNat (List.length a1)))) then (
  (Lp135_3 N N (a1, (List.replicate (Int.toNat (Int.ofNat (List.length a1))) (Int.ofNat 0)), (Int.ofNat 0))).bind fun w2 =>
  k w2.2.1)
  else none
def D135 (N : Nat) (a1 : List Int) : Option (List Int) := T135 N a1 some
theorem T135_nat {ρ : Type} (N : Nat) (a1 : List Int) (k : (List Int) → Option ρ) : T135 N a1 k = (D135 N a1).bind k := by
  unfold D135 T135
  simp only [Option.bind_assoc, bif_bind, elim_bind, Option.bind_some, Option.bind_none]
def H135 (D : (List Int) → Option (List Int)) : Hd := fun az bx k => match az, bx with
  | [c0], [] => cL .i64 c0 fun y0 => (D y0).bind fun r => k [.ow (.ints .i64 r)] []
  | _, _ => none
theorem fnok135 : FnOK Try.prog 135 := ⟨Try.f135, Try.func135, rfl, by decide⟩
theorem h135 {D : (List Int) → Option (List Int)} (hD : ∀ (y0 : List Int), ∀ r, D y0 = some r → CallSpec Try.prog E0 135 [.sc (.ints .i64 y0)] [] [.ow (.ints .i64 r)] []) : HSound Try.prog E0 135 (H135 D) := by
  intro az bx k r h
  unfold H135 at h
  split at h
  · rename_i c0
    obtain ⟨y0, l0, h⟩ := cL_some h
    obtain ⟨r, hr, h⟩ := Option.bind_eq_some_iff.1 h
    exact ⟨_, _, ⟨(hD y0 r hr).le ⟨l0, trivial⟩ trivial, fnok135, Nat.le_of_ble_eq_true rfl⟩, h⟩
  · cases h
def kp135 : Nat → List Tm.Loc := fun i => ([[.slot 0], [.slot 0, .slot 3], [.slot 0, .slot 3, .slot 4], [.slot 0, .slot 3, .slot 4, .slot 11], [.slot 0, .slot 3, .slot 4], [.slot 0, .slot 3, .slot 4], [.slot 2]] : List (List Tm.Loc)).getD i []
def lp135 : Nat → LpS := fun i => bif Nat.beq i 3 then ⟨[], [], [.slot 0, .slot 3, .slot 4]⟩ else default
def sk135_3 : List (Tm.Loc × SkV) := [(.slot 0, .ints .i64), (.slot 3, .rf 100000003), (.tok 100000003, .tI .i64), (.slot 4, .int .i64)]
def kk135_3 (k : Ex → St → Option RT) : ((List Int × List Int × Int × Bool)) → Option RT := (fun r => k (.ext 0) [(.slot 11, .v (.sc (.bool false))), (.slot 0, .v (.sc (.ints .i64 r.1))), (.slot 3, .v (.rf 100000003)), (.tok 100000003, .t 0 (.ints .i64 r.2.1)), (.slot 4, .v (.sc (.int .i64 r.2.2.1))), (.slot 11, .v (.sc (.bool r.2.2.2)))])
def LH135_3 (N : Nat) : St → (Ex → St → Option RT) → Option RT := fun s k => match mS sk135_3 s with
  | some [.L z0, .L z1, .I z2] => (Lp135_3 N N (z0, z1, z2)).bind (kk135_3 k)
  | _ => none
def X135 (N : Nat) : Env := { n := 22, K := K0, C := hNone, L := fun i s k => bif Nat.beq i 3 then LH135_3 N (normL (lp135 3) s) k else none, keep := kp135, lp := lp135 }
theorem st135_3 (N : Nat) (V : St → Option RT) (k : Ex → St → Option RT) (v : List Int × List Int × Int) : vexec (X135 N ) (findLoop 3 (loopsIn (bodyOf Try.f135))) (bS sk135_3 [.L v.1, .L v.2.1, .I v.2.2]) (vstep V (lp135 3) k) = L135_3 N v (fun v => V (bS sk135_3 [.L v.1, .L v.2.1, .I v.2.2])) (kk135_3 k) := by kernel_rfl
theorem q135_3 (N : Nat) (k : Ex → St → Option RT) : ∀ n (v : List Int × List Int × Int), vround (X135 N ) (findLoop 3 (loopsIn (bodyOf Try.f135))) 3 n (bS sk135_3 [.L v.1, .L v.2.1, .I v.2.2]) k = (Lp135_3 N n v).bind (kk135_3 k) := by
  intro n
  induction n with
  | zero => intro v; rfl
  | succ n ih =>
    intro v
    rw [vround_succ]
    refine (st135_3 N _ k v).trans ?_
    simp only [ih]
    exact L135_3_nat N v (Lp135_3 N n) (kk135_3 k)
theorem lh135_3 (N : Nat) : ∀ s k r, LH135_3 N s k = some r → vround (X135 N ) (findLoop 3 (loopsIn (bodyOf Try.f135))) 3 N s k = some r := by
  intro s k r h
  unfold LH135_3 at h
  split at h
  · rename_i z0 z1 z2 hm
    rw [mS_bS hm]
    exact (q135_3 N k N (z0, z1, z2)).trans h
  · cases h
theorem b135 (N : Nat) (a1 : List Int) : vbody (X135 N ) Try.f135 (bodyOf Try.f135) [.sc (.ints .i64 a1)] [] (fun rs bx => some ⟨rs, bx⟩) = T135 N a1 (fun r => some ⟨[.ow (.ints .i64 r)], []⟩) := by kernel_rfl
theorem s135 (N : Nat) (a1 : List Int) (r : List Int) (h : D135 N a1 = some r) : CallSpec Try.prog E0 135 [.sc (.ints .i64 a1)] [] [.ow (.ints .i64 r)] [] := by
  refine body_ok (X := X135 N ) (CR := CRG Try.prog E0) Try.func135 (code := bodyOf Try.f135) (by kernel_rfl) rfl (by decide) mixed0 tyok0 rfl contracts_ok (cs_none) (LoopsBy.of fun p hp => ?_) (by kernel_rfl) (Nat.le_of_ble_eq_true (by kernel_rfl)) ?_
  · rw [show loopsIn (bodyOf Try.f135) = [(3, findLoop 3 (loopsIn (bodyOf Try.f135)))] from by kernel_rfl] at hp
    simp only [List.mem_cons, List.not_mem_nil, or_false] at hp
    subst hp
    exact vround_of (fun s k => rfl) (by kernel_rfl) (lh135_3 N)
  · rw [b135, T135_nat, h]; rfl

/-! 33: loop.example/g01286/laws.toIntSS -/
def L33_3 {ρ : Type} (N : Nat) (v : List (List Int) × List (List Int) × Int) (rec : (List (List Int) × List (List Int) × Int) → Option ρ) (k : ((List (List Int) × List (List Int) × Int × Bool)) → Option ρ) : Option ρ :=
  bif (iLt v.2.2 (Int.ofNat (List.length v.1))) then (
  bif inB v.2.2 (List.length v.1) then (
  (D135 N (List.getD v.1 (Int.toNat v.2.2) [])).bind fun r2 =>
  bif inB v.2.2 (List.length v.2.1) then (
  rec (v.1, (List.set v.2.1 (Int.toNat v.2.2) r2), (wrapF .i64 (v.2.2 + (Int.ofNat 1)))))
  else none)
  else none)
  else (
  k (v.1, v.2.1, v.2.2, (iLt v.2.2 (Int.ofNat (List.length v.1)))))
def Lp33_3 (N : Nat) : Nat → (List (List Int) × List (List Int) × Int) → Option ((List (List Int) × List (List Int) × Int × Bool)) := fun n => Nat.rec (motive := fun _ => (List (List Int) × List (List Int) × Int) → Option ((List (List Int) × List (List Int) × Int × Bool))) (fun _ => none) (fun _ ih v => L33_3 N v ih some) n
theorem L33_3_nat {ρ : Type} (N : Nat) (v : List (List Int) × List (List Int) × Int) (rec : (List (List Int) × List (List Int) × Int) → Option ((List (List Int) × List (List Int) × Int × Bool))) (k : ((List (List Int) × List (List Int) × Int × Bool)) → Option ρ) : L33_3 N v (fun v => (rec v).bind k) k = (L33_3 N v rec some).bind k := by
  unfold L33_3
  simp only [Option.bind_assoc, bif_bind, elim_bind, Option.bind_some, Option.bind_none]
def T33 {ρ : Type} (N : Nat) (a1 : List (List Int)) (k : (List (List Int)) → Option ρ) : Option ρ :=
  bif (iLe (Int.ofNat 0) (Int.ofNat (List.length a1)) && iEq (Int.ofNat (List.length a1)) (Int.ofNat (List.length a1)) && capB (Int.toNat (Int.ofNat (List.length a1)))) then (
  (Lp33_3 N N (a1, (List.replicate (Int.toNat (Int.ofNat (List.length a1))) []), (Int.ofNat 0))).bind fun w3 =>
  k w3.2.1)
  else none
def D33 (N : Nat) (a1 : List (List Int)) : Option (List (List Int)) := T33 N a1 some
theorem T33_nat {ρ : Type} (N : Nat) (a1 : List (List Int)) (k : (List (List Int)) → Option ρ) : T33 N a1 k = (D33 N a1).bind k := by
  unfold D33 T33
  simp only [Option.bind_assoc, bif_bind, elim_bind, Option.bind_some, Option.bind_none]
def H33 (D : (List (List Int)) → Option (List (List Int))) : Hd := fun az bx k => match az, bx with
  | [c0], [] => cR c0 fun y0 => (D y0).bind fun r => k [.ow (.rows true r)] []
  | _, _ => none
theorem fnok33 : FnOK Try.prog 33 := ⟨Try.f33, Try.func33, rfl, by decide⟩
theorem h33 {D : (List (List Int)) → Option (List (List Int))} (hD : ∀ (y0 : List (List Int)), ∀ r, D y0 = some r → CallSpec Try.prog E0 33 [.sc (.rows y0)] [] [.ow (.rows true r)] []) : HSound Try.prog E0 33 (H33 D) := by
  intro az bx k r h
  unfold H33 at h
  split at h
  · rename_i c0
    obtain ⟨y0, l0, h⟩ := cR_some h
    obtain ⟨r, hr, h⟩ := Option.bind_eq_some_iff.1 h
    exact ⟨_, _, ⟨(hD y0 r hr).le ⟨l0, trivial⟩ trivial, fnok33, Nat.le_of_ble_eq_true rfl⟩, h⟩
  · cases h
def kp33 : Nat → List Tm.Loc := fun i => ([[.slot 0], [.slot 0, .slot 3], [.slot 0, .slot 3, .slot 4], [.slot 0, .slot 3, .slot 4, .slot 11], [.slot 0, .slot 3, .slot 4], [.slot 0, .slot 3, .slot 4], [.slot 2]] : List (List Tm.Loc)).getD i []
def lp33 : Nat → LpS := fun i => bif Nat.beq i 3 then ⟨[], [], [.slot 0, .slot 3, .slot 4]⟩ else default
def sk33_3 : List (Tm.Loc × SkV) := [(.slot 0, .rows), (.slot 3, .rf 100000003), (.tok 100000003, .tR true), (.slot 4, .int .i64)]
def kk33_3 (k : Ex → St → Option RT) : ((List (List Int) × List (List Int) × Int × Bool)) → Option RT := (fun r => k (.ext 0) [(.slot 11, .v (.sc (.bool false))), (.slot 0, .v (.sc (.rows r.1))), (.slot 3, .v (.rf 100000003)), (.tok 100000003, .t 0 (.rows true r.2.1)), (.slot 4, .v (.sc (.int .i64 r.2.2.1))), (.slot 11, .v (.sc (.bool r.2.2.2)))])
def LH33_3 (N : Nat) : St → (Ex → St → Option RT) → Option RT := fun s k => match mS sk33_3 s with
  | some [.R z0, .R z1, .I z2] => (Lp33_3 N N (z0, z1, z2)).bind (kk33_3 k)
  | _ => none
def X33 (N : Nat) : Env := { n := 23, K := K0, C := hSel 135 (H135 (D135 N)) (hNone), L := fun i s k => bif Nat.beq i 3 then LH33_3 N (normL (lp33 3) s) k else none, keep := kp33, lp := lp33 }
theorem st33_3 (N : Nat) (V : St → Option RT) (k : Ex → St → Option RT) (v : List (List Int) × List (List Int) × Int) : vexec (X33 N ) (findLoop 3 (loopsIn (bodyOf Try.f33))) (bS sk33_3 [.R v.1, .R v.2.1, .I v.2.2]) (vstep V (lp33 3) k) = L33_3 N v (fun v => V (bS sk33_3 [.R v.1, .R v.2.1, .I v.2.2])) (kk33_3 k) := by kernel_rfl
theorem q33_3 (N : Nat) (k : Ex → St → Option RT) : ∀ n (v : List (List Int) × List (List Int) × Int), vround (X33 N ) (findLoop 3 (loopsIn (bodyOf Try.f33))) 3 n (bS sk33_3 [.R v.1, .R v.2.1, .I v.2.2]) k = (Lp33_3 N n v).bind (kk33_3 k) := by
  intro n
  induction n with
  | zero => intro v; rfl
  | succ n ih =>
    intro v
    rw [vround_succ]
    refine (st33_3 N _ k v).trans ?_
    simp only [ih]
    exact L33_3_nat N v (Lp33_3 N n) (kk33_3 k)
theorem lh33_3 (N : Nat) : ∀ s k r, LH33_3 N s k = some r → vround (X33 N ) (findLoop 3 (loopsIn (bodyOf Try.f33))) 3 N s k = some r := by
  intro s k r h
  unfold LH33_3 at h
  split at h
  · rename_i z0 z1 z2 hm
    rw [mS_bS hm]
    exact (q33_3 N k N (z0, z1, z2)).trans h
  · cases h
theorem b33 (N : Nat) (a1 : List (List Int)) : vbody (X33 N ) Try.f33 (bodyOf Try.f33) [.sc (.rows a1)] [] (fun rs bx => some ⟨rs, bx⟩) = T33 N a1 (fun r => some ⟨[.ow (.rows true r)], []⟩) := by kernel_rfl
theorem s33 (N : Nat) (a1 : List (List Int)) (r : List (List Int)) (h : D33 N a1 = some r) : CallSpec Try.prog E0 33 [.sc (.rows a1)] [] [.ow (.rows true r)] [] := by
  refine body_ok (X := X33 N ) (CR := CRG Try.prog E0) Try.func33 (code := bodyOf Try.f33) (by kernel_rfl) rfl (by decide) mixed0 tyok0 rfl contracts_ok (cs_sel (h135 (s135 N)) (cs_none)) (LoopsBy.of fun p hp => ?_) (by kernel_rfl) (Nat.le_of_ble_eq_true (by kernel_rfl)) ?_
  · rw [show loopsIn (bodyOf Try.f33) = [(3, findLoop 3 (loopsIn (bodyOf Try.f33)))] from by kernel_rfl] at hp
    simp only [List.mem_cons, List.not_mem_nil, or_false] at hp
    subst hp
    exact vround_of (fun s k => rfl) (by kernel_rfl) (lh33_3 N)
  · rw [b33, T33_nat, h]; rfl

/-! 188: loop.example/g01286/spec.l1In -/
def T188 {ρ : Type} (N : Nat) (a1 : Int) (a2 : Int) (a3 : Int) (k : Bool → Option ρ) : Option ρ :=
  bif (iLe a2 a1) then (
  k (iLe a1 a3))
  else (
  k false)
def D188 (N : Nat) (a1 : Int) (a2 : Int) (a3 : Int) : Option (Bool) := T188 N a1 a2 a3 some
theorem T188_nat {ρ : Type} (N : Nat) (a1 : Int) (a2 : Int) (a3 : Int) (k : Bool → Option ρ) : T188 N a1 a2 a3 k = (D188 N a1 a2 a3).bind k := by
  unfold D188 T188
  simp only [Option.bind_assoc, bif_bind, elim_bind, Option.bind_some, Option.bind_none]
def H188 (D : Int → Int → Int → Option (Bool)) : Hd := fun az bx k => match az, bx with
  | [c0, c1, c2], [] => cI .i64 c0 fun y0 => cI .i64 c1 fun y1 => cI .i64 c2 fun y2 => (D y0 y1 y2).bind fun r => k [.sc (.bool r)] []
  | _, _ => none
theorem fnok188 : FnOK Try.prog 188 := ⟨Try.f188, Try.func188, rfl, by decide⟩
theorem h188 {D : Int → Int → Int → Option (Bool)} (hD : ∀ (y0 : Int), ∀ (y1 : Int), ∀ (y2 : Int), ∀ r, D y0 y1 y2 = some r → CallSpec Try.prog E0 188 [.sc (.int .i64 y0), .sc (.int .i64 y1), .sc (.int .i64 y2)] [] [.sc (.bool r)] []) : HSound Try.prog E0 188 (H188 D) := by
  intro az bx k r h
  unfold H188 at h
  split at h
  · rename_i c0 c1 c2
    obtain ⟨y0, l0, h⟩ := cI_some h
    obtain ⟨y1, l1, h⟩ := cI_some h
    obtain ⟨y2, l2, h⟩ := cI_some h
    obtain ⟨r, hr, h⟩ := Option.bind_eq_some_iff.1 h
    exact ⟨_, _, ⟨(hD y0 y1 y2 r hr).le ⟨l0, ⟨l1, ⟨l2, trivial⟩⟩⟩ trivial, fnok188, Nat.le_of_ble_eq_true rfl⟩, h⟩
  · cases h
def kp188 : Nat → List Tm.Loc := fun i => ([[.slot 0, .slot 1, .slot 2, .slot 11, .slot 12, .slot 13], [.slot 6]] : List (List Tm.Loc)).getD i []
def lp188 : Nat → LpS := fun i => default
def X188 (N : Nat) : Env := { n := 15, K := K0, C := hNone, L := fun i s k => none, keep := kp188, lp := lp188 }
theorem b188 (N : Nat) (a1 : Int) (a2 : Int) (a3 : Int) : vbody (X188 N ) Try.f188 (bodyOf Try.f188) [.sc (.int .i64 a1), .sc (.int .i64 a2), .sc (.int .i64 a3)] [] (fun rs bx => some ⟨rs, bx⟩) = T188 N a1 a2 a3 (fun r => some ⟨[.sc (.bool r)], []⟩) := by kernel_rfl
theorem s188 (N : Nat) (a1 : Int) (a2 : Int) (a3 : Int) (r : Bool) (h : D188 N a1 a2 a3 = some r) : CallSpec Try.prog E0 188 [.sc (.int .i64 a1), .sc (.int .i64 a2), .sc (.int .i64 a3)] [] [.sc (.bool r)] [] := by
  refine body_ok (X := X188 N ) (CR := CRG Try.prog E0) Try.func188 (code := bodyOf Try.f188) (by kernel_rfl) rfl (by decide) mixed0 tyok0 rfl contracts_ok (cs_none) (LoopsBy.of fun p hp => ?_) (by kernel_rfl) (Nat.le_of_ble_eq_true (by kernel_rfl)) ?_
  · rw [show loopsIn (bodyOf Try.f188) = [] from by kernel_rfl] at hp
    cases hp
  · rw [b188, T188_nat, h]; rfl

/-! 107: loop.example/g01286/spec.l9Size -/
def T107 {ρ : Type} (N : Nat) (a1 : Int) (k : Bool → Option ρ) : Option ρ :=
  (D188 N a1 (Int.ofNat 1) (Int.ofNat 6)).bind fun r2 =>
  k r2
def D107 (N : Nat) (a1 : Int) : Option (Bool) := T107 N a1 some
theorem T107_nat {ρ : Type} (N : Nat) (a1 : Int) (k : Bool → Option ρ) : T107 N a1 k = (D107 N a1).bind k := by
  unfold D107 T107
  simp only [Option.bind_assoc, bif_bind, elim_bind, Option.bind_some, Option.bind_none]
def H107 (D : Int → Option (Bool)) : Hd := fun az bx k => match az, bx with
  | [c0], [] => cI .i64 c0 fun y0 => (D y0).bind fun r => k [.sc (.bool r)] []
  | _, _ => none
theorem fnok107 : FnOK Try.prog 107 := ⟨Try.f107, Try.func107, rfl, by decide⟩
theorem h107 {D : Int → Option (Bool)} (hD : ∀ (y0 : Int), ∀ r, D y0 = some r → CallSpec Try.prog E0 107 [.sc (.int .i64 y0)] [] [.sc (.bool r)] []) : HSound Try.prog E0 107 (H107 D) := by
  intro az bx k r h
  unfold H107 at h
  split at h
  · rename_i c0
    obtain ⟨y0, l0, h⟩ := cI_some h
    obtain ⟨r, hr, h⟩ := Option.bind_eq_some_iff.1 h
    exact ⟨_, _, ⟨(hD y0 r hr).le ⟨l0, trivial⟩ trivial, fnok107, Nat.le_of_ble_eq_true rfl⟩, h⟩
  · cases h
def kp107 : Nat → List Tm.Loc := fun i => ([[.slot 0], [.slot 2]] : List (List Tm.Loc)).getD i []
def lp107 : Nat → LpS := fun i => default
def X107 (N : Nat) : Env := { n := 5, K := K0, C := hSel 188 (H188 (D188 N)) (hNone), L := fun i s k => none, keep := kp107, lp := lp107 }
theorem b107 (N : Nat) (a1 : Int) : vbody (X107 N ) Try.f107 (bodyOf Try.f107) [.sc (.int .i64 a1)] [] (fun rs bx => some ⟨rs, bx⟩) = T107 N a1 (fun r => some ⟨[.sc (.bool r)], []⟩) := by kernel_rfl
theorem s107 (N : Nat) (a1 : Int) (r : Bool) (h : D107 N a1 = some r) : CallSpec Try.prog E0 107 [.sc (.int .i64 a1)] [] [.sc (.bool r)] [] := by
  refine body_ok (X := X107 N ) (CR := CRG Try.prog E0) Try.func107 (code := bodyOf Try.f107) (by kernel_rfl) rfl (by decide) mixed0 tyok0 rfl contracts_ok (cs_sel (h188 (s188 N)) (cs_none)) (LoopsBy.of fun p hp => ?_) (by kernel_rfl) (Nat.le_of_ble_eq_true (by kernel_rfl)) ?_
  · rw [show loopsIn (bodyOf Try.f107) = [] from by kernel_rfl] at hp
    cases hp
  · rw [b107, T107_nat, h]; rfl

/-! 229: loop.example/g01286/spec.l1Has -/
def L229_2 {ρ : Type} (N : Nat) (v : List Int × Int × Int) (rec : (List Int × Int × Int) → Option ρ) (k : (Unit ⊕ (List Int × Int × Int × Bool)) → Option ρ) : Option ρ :=
  bif (iLt v.2.2 (Int.ofNat (List.length v.1))) then (
  bif inB v.2.2 (List.length v.1) then (
  bif (iEq (List.getD v.1 (Int.toNat v.2.2) (Int.ofNat 0)) v.2.1) then (
  k (.inl (())))
  else (
  rec (v.1, v.2.1, (wrapF .i64 (v.2.2 + (Int.ofNat 1))))))
  else none)
  else (
  k (.inr ((v.1, v.2.1, v.2.2, (iLt v.2.2 (Int.ofNat (List.length v.1)))))))
def Lp229_2 (N : Nat) : Nat → (List Int × Int × Int) → Option (Unit ⊕ (List Int × Int × Int × Bool)) := fun n => Nat.rec (motive := fun _ => (List Int × Int × Int) → Option (Unit ⊕ (List Int × Int × Int × Bool))) (fun _ => none) (fun _ ih v => L229_2 N v ih some) n
theorem L229_2_nat {ρ : Type} (N : Nat) (v : List Int × Int × Int) (rec : (List Int × Int × Int) → Option (Unit ⊕ (List Int × Int × Int × Bool))) (k : (Unit ⊕ (List Int × Int × Int × Bool)) → Option ρ) : L229_2 N v (fun v => (rec v).bind k) k = (L229_2 N v rec some).bind k := by
  unfold L229_2
  simp only [Option.bind_assoc, bif_bind, elim_bind, Option.bind_some, Option.bind_none]
def T229 {ρ : Type} (N : Nat) (a1 : List Int) (a2 : Int) (k : Bool → Option ρ) : Option ρ :=
  (Lp229_2 N N (a1, a2, (Int.ofNat 0))).bind (Sum.elim (fun _ =>
  k true) (fun w4 =>
  k false))
def D229 (N : Nat) (a1 : List Int) (a2 : Int) : Option (Bool) := T229 N a1 a2 some
theorem T229_nat {ρ : Type} (N : Nat) (a1 : List Int) (a2 : Int) (k : Bool → Option ρ) : T229 N a1 a2 k = (D229 N a1 a2).bind k := by
  unfold D229 T229
  simp only [Option.bind_assoc, bif_bind, elim_bind, Option.bind_some, Option.bind_none]
def H229 (D : (List Int) → Int → Option (Bool)) : Hd := fun az bx k => match az, bx with
  | [c0, c1], [] => cL .i64 c0 fun y0 => cI .i64 c1 fun y1 => (D y0 y1).bind fun r => k [.sc (.bool r)] []
  | _, _ => none
theorem fnok229 : FnOK Try.prog 229 := ⟨Try.f229, Try.func229, rfl, by decide⟩
theorem h229 {D : (List Int) → Int → Option (Bool)} (hD : ∀ (y0 : List Int), ∀ (y1 : Int), ∀ r, D y0 y1 = some r → CallSpec Try.prog E0 229 [.sc (.ints .i64 y0), .sc (.int .i64 y1)] [] [.sc (.bool r)] []) : HSound Try.prog E0 229 (H229 D) := by
  intro az bx k r h
  unfold H229 at h
  split at h
  · rename_i c0 c1
    obtain ⟨y0, l0, h⟩ := cL_some h
    obtain ⟨y1, l1, h⟩ := cI_some h
    obtain ⟨r, hr, h⟩ := Option.bind_eq_some_iff.1 h
    exact ⟨_, _, ⟨(hD y0 y1 r hr).le ⟨l0, ⟨l1, trivial⟩⟩ trivial, fnok229, Nat.le_of_ble_eq_true rfl⟩, h⟩
  · cases h
def kp229 : Nat → List Tm.Loc := fun i => ([[.slot 0, .slot 1], [.slot 0, .slot 1, .slot 5], [.slot 0, .slot 1, .slot 5, .slot 9], [.slot 0, .slot 1, .slot 5], [.slot 0, .slot 1, .slot 5, .slot 17], [.slot 4], [.slot 4]] : List (List Tm.Loc)).getD i []
def lp229 : Nat → LpS := fun i => bif Nat.beq i 2 then ⟨[], [], [.slot 0, .slot 1, .slot 5]⟩ else default
def sk229_2 : List (Tm.Loc × SkV) := [(.slot 0, .ints .i64), (.slot 1, .int .i64), (.slot 5, .int .i64)]
def kk229_2 (k : Ex → St → Option RT) : (Unit ⊕ (List Int × Int × Int × Bool)) → Option RT := (Sum.elim (fun r => k .ret [(.slot 4, .v (.sc (.bool true)))]) (fun r => k (.ext 0) [(.slot 9, .v (.sc (.bool false))), (.slot 0, .v (.sc (.ints .i64 r.1))), (.slot 1, .v (.sc (.int .i64 r.2.1))), (.slot 5, .v (.sc (.int .i64 r.2.2.1))), (.slot 9, .v (.sc (.bool r.2.2.2)))]))
def LH229_2 (N : Nat) : St → (Ex → St → Option RT) → Option RT := fun s k => match mS sk229_2 s with
  | some [.L z0, .I z1, .I z2] => (Lp229_2 N N (z0, z1, z2)).bind (kk229_2 k)
  | _ => none
def X229 (N : Nat) : Env := { n := 18, K := K0, C := hNone, L := fun i s k => bif Nat.beq i 2 then LH229_2 N (normL (lp229 2) s) k else none, keep := kp229, lp := lp229 }
theorem st229_2 (N : Nat) (V : St → Option RT) (k : Ex → St → Option RT) (v : List Int × Int × Int) : vexec (X229 N ) (findLoop 2 (loopsIn (bodyOf Try.f229))) (bS sk229_2 [.L v.1, .I v.2.1, .I v.2.2]) (vstep V (lp229 2) k) = L229_2 N v (fun v => V (bS sk229_2 [.L v.1, .I v.2.1, .I v.2.2])) (kk229_2 k) := by kernel_rfl
theorem q229_2 (N : Nat) (k : Ex → St → Option RT) : ∀ n (v : List Int × Int × Int), vround (X229 N ) (findLoop 2 (loopsIn (bodyOf Try.f229))) 2 n (bS sk229_2 [.L v.1, .I v.2.1, .I v.2.2]) k = (Lp229_2 N n v).bind (kk229_2 k) := by
  intro n
  induction n with
  | zero => intro v; rfl
  | succ n ih =>
    intro v
    rw [vround_succ]
    refine (st229_2 N _ k v).trans ?_
    simp only [ih]
    exact L229_2_nat N v (Lp229_2 N n) (kk229_2 k)
theorem lh229_2 (N : Nat) : ∀ s k r, LH229_2 N s k = some r → vround (X229 N ) (findLoop 2 (loopsIn (bodyOf Try.f229))) 2 N s k = some r := by
  intro s k r h
  unfold LH229_2 at h
  split at h
  · rename_i z0 z1 z2 hm
    rw [mS_bS hm]
    exact (q229_2 N k N (z0, z1, z2)).trans h
  · cases h
theorem b229 (N : Nat) (a1 : List Int) (a2 : Int) : vbody (X229 N ) Try.f229 (bodyOf Try.f229) [.sc (.ints .i64 a1), .sc (.int .i64 a2)] [] (fun rs bx => some ⟨rs, bx⟩) = T229 N a1 a2 (fun r => some ⟨[.sc (.bool r)], []⟩) := by kernel_rfl
theorem s229 (N : Nat) (a1 : List Int) (a2 : Int) (r : Bool) (h : D229 N a1 a2 = some r) : CallSpec Try.prog E0 229 [.sc (.ints .i64 a1), .sc (.int .i64 a2)] [] [.sc (.bool r)] [] := by
  refine body_ok (X := X229 N ) (CR := CRG Try.prog E0) Try.func229 (code := bodyOf Try.f229) (by kernel_rfl) rfl (by decide) mixed0 tyok0 rfl contracts_ok (cs_none) (LoopsBy.of fun p hp => ?_) (by kernel_rfl) (Nat.le_of_ble_eq_true (by kernel_rfl)) ?_
  · rw [show loopsIn (bodyOf Try.f229) = [(2, findLoop 2 (loopsIn (bodyOf Try.f229)))] from by kernel_rfl] at hp
    simp only [List.mem_cons, List.not_mem_nil, or_false] at hp
    subst hp
    exact vround_of (fun s k => rfl) (by kernel_rfl) (lh229_2 N)
  · rw [b229, T229_nat, h]; rfl

/-! 145: loop.example/g01286/spec.l2Order -/
def L145_4 {ρ : Type} (N : Nat) (v : List Int × Int) (rec : (List Int × Int) → Option ρ) (k : (Unit ⊕ (List Int × Int × Bool)) → Option ρ) : Option ρ :=
  bif (iLt v.2 (Int.ofNat (List.length v.1))) then (
  bif inB v.2 (List.length v.1) then (
  (D188 N (List.getD v.1 (Int.toNat v.2) (Int.ofNat 0)) (Int.ofNat 1) (Int.ofNat (List.length v.1))).bind fun r3 =>
  bif (!r3) then (
  k (.inl (())))
  else (
  bif cutB (Int.ofNat 0) v.2 (List.length v.1) then (
  bif inB v.2 (List.length v.1) then (
  (D229 N (List.take ((Int.toNat v.2) - 0) (List.drop 0 v.1)) (List.getD v.1 (Int.toNat v.2) (Int.ofNat 0))).bind fun r4 =>
  bif r4 then (
  k (.inl (())))
  else (
  rec (v.1, (wrapF .i64 (v.2 + (Int.ofNat 1))))))
  else none)
  else none))
  else none)
  else (
  k (.inr ((v.1, v.2, (iLt v.2 (Int.ofNat (List.length v.1)))))))
def Lp145_4 (N : Nat) : Nat → (List Int × Int) → Option (Unit ⊕ (List Int × Int × Bool)) := fun n => Nat.rec (motive := fun _ => (List Int × Int) → Option (Unit ⊕ (List Int × Int × Bool))) (fun _ => none) (fun _ ih v => L145_4 N v ih some) n
theorem L145_4_nat {ρ : Type} (N : Nat) (v : List Int × Int) (rec : (List Int × Int) → Option (Unit ⊕ (List Int × Int × Bool))) (k : (Unit ⊕ (List Int × Int × Bool)) → Option ρ) : L145_4 N v (fun v => (rec v).bind k) k = (L145_4 N v rec some).bind k := by
  unfold L145_4
  simp only [Option.bind_assoc, bif_bind, elim_bind, Option.bind_some, Option.bind_none]
def T145 {ρ : Type} (N : Nat) (a1 : List Int) (k : Bool → Option ρ) : Option ρ :=
  (D188 N (Int.ofNat (List.length a1)) (Int.ofNat 1) (Int.ofNat 7)).bind fun r2 =>
  bif (!r2) then (
  k false)
  else (
  (Lp145_4 N N (a1, (Int.ofNat 0))).bind (Sum.elim (fun _ =>
  k false) (fun w6 =>
  k true)))
def D145 (N : Nat) (a1 : List Int) : Option (Bool) := T145 N a1 some
theorem T145_nat {ρ : Type} (N : Nat) (a1 : List Int) (k : Bool → Option ρ) : T145 N a1 k = (D145 N a1).bind k := by
  unfold D145 T145
  simp only [Option.bind_assoc, bif_bind, elim_bind, Option.bind_some, Option.bind_none]
def H145 (D : (List Int) → Option (Bool)) : Hd := fun az bx k => match az, bx with
  | [c0], [] => cL .i64 c0 fun y0 => (D y0).bind fun r => k [.sc (.bool r)] []
  | _, _ => none
theorem fnok145 : FnOK Try.prog 145 := ⟨Try.f145, Try.func145, rfl, by decide⟩
theorem h145 {D : (List Int) → Option (Bool)} (hD : ∀ (y0 : List Int), ∀ r, D y0 = some r → CallSpec Try.prog E0 145 [.sc (.ints .i64 y0)] [] [.sc (.bool r)] []) : HSound Try.prog E0 145 (H145 D) := by
  intro az bx k r h
  unfold H145 at h
  split at h
  · rename_i c0
    obtain ⟨y0, l0, h⟩ := cL_some h
    obtain ⟨r, hr, h⟩ := Option.bind_eq_some_iff.1 h
    exact ⟨_, _, ⟨(hD y0 r hr).le ⟨l0, trivial⟩ trivial, fnok145, Nat.le_of_ble_eq_true rfl⟩, h⟩
  · cases h
def kp145 : Nat → List Tm.Loc := fun i => ([[.slot 0, .slot 23, .slot 24, .slot 25, .slot 26, .slot 27, .slot 28, .slot 29, .slot 30], [.slot 0, .slot 7, .slot 23, .slot 24, .slot 25, .slot 26, .slot 27, .slot 28, .slot 29, .slot 30], [.slot 2], [.slot 0, .slot 3, .slot 23, .slot 24, .slot 25, .slot 26, .slot 27, .slot 28, .slot 29, .slot 30], [.slot 0, .slot 3, .slot 11, .slot 23, .slot 24, .slot 25, .slot 26, .slot 27, .slot 28, .slot 29, .slot 30], [.slot 0, .slot 3, .slot 23, .slot 24, .slot 25, .slot 26, .slot 27, .slot 28, .slot 29, .slot 30], [.slot 0, .slot 3, .slot 23, .slot 24, .slot 25, .slot 26, .slot 27, .slot 28, .slot 29, .slot 30, .slot 31], [.slot 2], [.slot 2]] : List (List Tm.Loc)).getD i []
def lp145 : Nat → LpS := fun i => bif Nat.beq i 4 then ⟨[], [], [.slot 0, .slot 3, .slot 28]⟩ else default
def sk145_4 : List (Tm.Loc × SkV) := [(.slot 0, .ints .i64), (.slot 3, .int .i64), (.slot 28, .un)]
def kk145_4 (k : Ex → St → Option RT) : (Unit ⊕ (List Int × Int × Bool)) → Option RT := (Sum.elim (fun r => k .ret [(.slot 2, .v (.sc (.bool false)))]) (fun r => k (.ext 0) [(.slot 11, .v (.sc (.bool false))), (.slot 0, .v (.sc (.ints .i64 r.1))), (.slot 3, .v (.sc (.int .i64 r.2.1))), (.slot 11, .v (.sc (.bool r.2.2))), (.slot 23, .v .un), (.slot 24, .v .un), (.slot 25, .v .un), (.slot 26, .v .un), (.slot 27, .v .un), (.slot 28, .v .un), (.slot 29, .v .un), (.slot 30, .v .un)]))
def LH145_4 (N : Nat) : St → (Ex → St → Option RT) → Option RT := fun s k => match mS sk145_4 s with
  | some [.L z0, .I z1] => (Lp145_4 N N (z0, z1)).bind (kk145_4 k)
  | _ => none
def X145 (N : Nat) : Env := { n := 32, K := K0, C := hSel 188 (H188 (D188 N)) (hSel 229 (H229 (D229 N)) (hNone)), L := fun i s k => bif Nat.beq i 4 then LH145_4 N (normL (lp145 4) s) k else none, keep := kp145, lp := lp145 }
theorem st145_4 (N : Nat) (V : St → Option RT) (k : Ex → St → Option RT) (v : List Int × Int) : vexec (X145 N ) (findLoop 4 (loopsIn (bodyOf Try.f145))) (bS sk145_4 [.L v.1, .I v.2]) (vstep V (lp145 4) k) = L145_4 N v (fun v => V (bS sk145_4 [.L v.1, .I v.2])) (kk145_4 k) := by kernel_rfl
theorem q145_4 (N : Nat) (k : Ex → St → Option RT) : ∀ n (v : List Int × Int), vround (X145 N ) (findLoop 4 (loopsIn (bodyOf Try.f145))) 4 n (bS sk145_4 [.L v.1, .I v.2]) k = (Lp145_4 N n v).bind (kk145_4 k) := by
  intro n
  induction n with
  | zero => intro v; rfl
  | succ n ih =>
    intro v
    rw [vround_succ]
    refine (st145_4 N _ k v).trans ?_
    simp only [ih]
    exact L145_4_nat N v (Lp145_4 N n) (kk145_4 k)
theorem lh145_4 (N : Nat) : ∀ s k r, LH145_4 N s k = some r → vround (X145 N ) (findLoop 4 (loopsIn (bodyOf Try.f145))) 4 N s k = some r := by
  intro s k r h
  unfold LH145_4 at h
  split at h
  · rename_i z0 z1 hm
    rw [mS_bS hm]
    exact (q145_4 N k N (z0, z1)).trans h
  · cases h
theorem b145 (N : Nat) (a1 : List Int) : vbody (X145 N ) Try.f145 (bodyOf Try.f145) [.sc (.ints .i64 a1)] [] (fun rs bx => some ⟨rs, bx⟩) = T145 N a1 (fun r => some ⟨[.sc (.bool r)], []⟩) := by kernel_rfl
theorem s145 (N : Nat) (a1 : List Int) (r : Bool) (h : D145 N a1 = some r) : CallSpec Try.prog E0 145 [.sc (.ints .i64 a1)] [] [.sc (.bool r)] [] := by
  refine body_ok (X := X145 N ) (CR := CRG Try.prog E0) Try.func145 (code := bodyOf Try.f145) (by kernel_rfl) rfl (by decide) mixed0 tyok0 rfl contracts_ok (cs_sel (h188 (s188 N)) (cs_sel (h229 (s229 N)) (cs_none))) (LoopsBy.of fun p hp => ?_) (by kernel_rfl) (Nat.le_of_ble_eq_true (by kernel_rfl)) ?_
  · rw [show loopsIn (bodyOf Try.f145) = [(4, findLoop 4 (loopsIn (bodyOf Try.f145)))] from by kernel_rfl] at hp
    simp only [List.mem_cons, List.not_mem_nil, or_false] at hp
    subst hp
    exact vround_of (fun s k => rfl) (by kernel_rfl) (lh145_4 N)
  · rw [b145, T145_nat, h]; rfl

/-! 133: loop.example/g01286/spec.l3Patterns -/
def L133_2 {ρ : Type} (N : Nat) (v : List (List Int) × Int) (rec : (List (List Int) × Int) → Option ρ) (k : (Unit ⊕ (List (List Int) × Int × Int × Bool × Bool) ⊕ (List (List Int) × Int)) → Option ρ) : Option ρ :=
  bif (iLt v.2 (Int.ofNat (List.length v.1))) then (
  bif (iLe v.2 (Int.ofNat 4)) then (
  bif inB v.2 (List.length v.1) then (
  (D145 N (List.getD v.1 (Int.toNat v.2) [])).bind fun r2 =>
  bif (!r2) then (
  k (.inl (())))
  else (
  rec (v.1, (wrapF .i64 (v.2 + (Int.ofNat 1))))))
  else none)
  else (
  k (.inr (.inl ((v.1, v.2, v.2, (iLe v.2 (Int.ofNat 4)), (iLe v.2 (Int.ofNat 4))))))))
  else (
  k (.inr (.inr ((v.1, v.2)))))
def Lp133_2 (N : Nat) : Nat → (List (List Int) × Int) → Option (Unit ⊕ (List (List Int) × Int × Int × Bool × Bool) ⊕ (List (List Int) × Int)) := fun n => Nat.rec (motive := fun _ => (List (List Int) × Int) → Option (Unit ⊕ (List (List Int) × Int × Int × Bool × Bool) ⊕ (List (List Int) × Int))) (fun _ => none) (fun _ ih v => L133_2 N v ih some) n
theorem L133_2_nat {ρ : Type} (N : Nat) (v : List (List Int) × Int) (rec : (List (List Int) × Int) → Option (Unit ⊕ (List (List Int) × Int × Int × Bool × Bool) ⊕ (List (List Int) × Int))) (k : (Unit ⊕ (List (List Int) × Int × Int × Bool × Bool) ⊕ (List (List Int) × Int)) → Option ρ) : L133_2 N v (fun v => (rec v).bind k) k = (L133_2 N v rec some).bind k := by
  unfold L133_2
  simp only [Option.bind_assoc, bif_bind, elim_bind, Option.bind_some, Option.bind_none]
def T133 {ρ : Type} (N : Nat) (a1 : List (List Int)) (k : Bool → Option ρ) : Option ρ :=
  (Lp133_2 N N (a1, (Int.ofNat 0))).bind (Sum.elim (fun _ =>
  k false) (Sum.elim (fun w4 =>
  k (iLe (Int.ofNat (List.length w4.1)) (Int.ofNat 4))) (fun w5 =>
  k (iLe (Int.ofNat (List.length w5.1)) (Int.ofNat 4)))))
def D133 (N : Nat) (a1 : List (List Int)) : Option (Bool) := T133 N a1 some
theorem T133_nat {ρ : Type} (N : Nat) (a1 : List (List Int)) (k : Bool → Option ρ) : T133 N a1 k = (D133 N a1).bind k := by
  unfold D133 T133
  simp only [Option.bind_assoc, bif_bind, elim_bind, Option.bind_some, Option.bind_none]
def H133 (D : (List (List Int)) → Option (Bool)) : Hd := fun az bx k => match az, bx with
  | [c0], [] => cR c0 fun y0 => (D y0).bind fun r => k [.sc (.bool r)] []
  | _, _ => none
theorem fnok133 : FnOK Try.prog 133 := ⟨Try.f133, Try.func133, rfl, by decide⟩
theorem h133 {D : (List (List Int)) → Option (Bool)} (hD : ∀ (y0 : List (List Int)), ∀ r, D y0 = some r → CallSpec Try.prog E0 133 [.sc (.rows y0)] [] [.sc (.bool r)] []) : HSound Try.prog E0 133 (H133 D) := by
  intro az bx k r h
  unfold H133 at h
  split at h
  · rename_i c0
    obtain ⟨y0, l0, h⟩ := cR_some h
    obtain ⟨r, hr, h⟩ := Option.bind_eq_some_iff.1 h
    exact ⟨_, _, ⟨(hD y0 r hr).le ⟨l0, trivial⟩ trivial, fnok133, Nat.le_of_ble_eq_true rfl⟩, h⟩
  · cases h
def kp133 : Nat → List Tm.Loc := fun i => ([[.slot 0, .slot 9, .slot 10], [.slot 0, .slot 3, .slot 9, .slot 10], [.slot 0, .slot 3, .slot 9, .slot 10, .slot 11], [.slot 0, .slot 3, .slot 9, .slot 10], [.slot 0, .slot 3, .slot 9, .slot 10, .slot 19], [.slot 2], [.slot 2]] : List (List Tm.Loc)).getD i []
def lp133 : Nat → LpS := fun i => bif Nat.beq i 2 then ⟨[], [], [.slot 0, .slot 3]⟩ else default
def sk133_2 : List (Tm.Loc × SkV) := [(.slot 0, .rows), (.slot 3, .int .i64)]
def kk133_2 (k : Ex → St → Option RT) : (Unit ⊕ (List (List Int) × Int × Int × Bool × Bool) ⊕ (List (List Int) × Int)) → Option RT := (Sum.elim (fun r => k .ret [(.slot 2, .v (.sc (.bool false)))]) (Sum.elim (fun r => k (.ext 0) [(.slot 11, .v (.sc (.bool false))), (.slot 0, .v (.sc (.rows r.1))), (.slot 3, .v (.sc (.int .i64 r.2.1))), (.slot 9, .v (.sc (.int .i64 r.2.2.1))), (.slot 10, .v (.sc (.bool r.2.2.2.1))), (.slot 11, .v (.sc (.bool r.2.2.2.2)))]) (fun r => k (.ext 0) [(.slot 11, .v (.sc (.bool false))), (.slot 0, .v (.sc (.rows r.1))), (.slot 3, .v (.sc (.int .i64 r.2))), (.slot 9, .v .ud), (.slot 10, .v .ud), (.slot 11, .v (.sc (.bool false)))])))
def LH133_2 (N : Nat) : St → (Ex → St → Option RT) → Option RT := fun s k => match mS sk133_2 s with
  | some [.R z0, .I z1] => (Lp133_2 N N (z0, z1)).bind (kk133_2 k)
  | _ => none
def X133 (N : Nat) : Env := { n := 23, K := K0, C := hSel 145 (H145 (D145 N)) (hNone), L := fun i s k => bif Nat.beq i 2 then LH133_2 N (normL (lp133 2) s) k else none, keep := kp133, lp := lp133 }
theorem st133_2 (N : Nat) (V : St → Option RT) (k : Ex → St → Option RT) (v : List (List Int) × Int) : vexec (X133 N ) (findLoop 2 (loopsIn (bodyOf Try.f133))) (bS sk133_2 [.R v.1, .I v.2]) (vstep V (lp133 2) k) = L133_2 N v (fun v => V (bS sk133_2 [.R v.1, .I v.2])) (kk133_2 k) := by kernel_rfl
theorem q133_2 (N : Nat) (k : Ex → St → Option RT) : ∀ n (v : List (List Int) × Int), vround (X133 N ) (findLoop 2 (loopsIn (bodyOf Try.f133))) 2 n (bS sk133_2 [.R v.1, .I v.2]) k = (Lp133_2 N n v).bind (kk133_2 k) := by
  intro n
  induction n with
  | zero => intro v; rfl
  | succ n ih =>
    intro v
    rw [vround_succ]
    refine (st133_2 N _ k v).trans ?_
    simp only [ih]
    exact L133_2_nat N v (Lp133_2 N n) (kk133_2 k)
theorem lh133_2 (N : Nat) : ∀ s k r, LH133_2 N s k = some r → vround (X133 N ) (findLoop 2 (loopsIn (bodyOf Try.f133))) 2 N s k = some r := by
  intro s k r h
  unfold LH133_2 at h
  split at h
  · rename_i z0 z1 hm
    rw [mS_bS hm]
    exact (q133_2 N k N (z0, z1)).trans h
  · cases h
theorem b133 (N : Nat) (a1 : List (List Int)) : vbody (X133 N ) Try.f133 (bodyOf Try.f133) [.sc (.rows a1)] [] (fun rs bx => some ⟨rs, bx⟩) = T133 N a1 (fun r => some ⟨[.sc (.bool r)], []⟩) := by kernel_rfl
theorem s133 (N : Nat) (a1 : List (List Int)) (r : Bool) (h : D133 N a1 = some r) : CallSpec Try.prog E0 133 [.sc (.rows a1)] [] [.sc (.bool r)] [] := by
  refine body_ok (X := X133 N ) (CR := CRG Try.prog E0) Try.func133 (code := bodyOf Try.f133) (by kernel_rfl) rfl (by decide) mixed0 tyok0 rfl contracts_ok (cs_sel (h145 (s145 N)) (cs_none)) (LoopsBy.of fun p hp => ?_) (by kernel_rfl) (Nat.le_of_ble_eq_true (by kernel_rfl)) ?_
  · rw [show loopsIn (bodyOf Try.f133) = [(2, findLoop 2 (loopsIn (bodyOf Try.f133)))] from by kernel_rfl] at hp
    simp only [List.mem_cons, List.not_mem_nil, or_false] at hp
    subst hp
    exact vround_of (fun s k => rfl) (by kernel_rfl) (lh133_2 N)
  · rw [b133, T133_nat, h]; rfl

/-! 221: loop.example/g01286/spec.l3Insert -/
def L221_3 {ρ : Type} (N : Nat) (v : List Int × Int × List Int × Int) (rec : (List Int × Int × List Int × Int) → Option ρ) (k : ((List Int × Int × List Int × Int × Bool)) → Option ρ) : Option ρ :=
  bif (iLt v.2.2.2 (Int.ofNat (List.length v.1))) then (
  bif inB v.2.2.2 (List.length v.1) then (
  bif (iLe v.2.1 (List.getD v.1 (Int.toNat v.2.2.2) (Int.ofNat 0))) then (
  bif capB (List.length (v.2.2.1 ++ [(wrapF .i64 ((List.getD v.1 (Int.toNat v.2.2.2) (Int.ofNat 0)) + (Int.ofNat 1)))])) then (
  rec (v.1, v.2.1, (v.2.2.1 ++ [(wrapF .i64 ((List.getD v.1 (Int.toNat v.2.2.2) (Int.ofNat 0)) + (Int.ofNat 1)))]), (wrapF .i64 (v.2.2.2 + (Int.ofNat 1)))))
  else none)
  else (
  bif capB (List.length (v.2.2.1 ++ [(List.getD v.1 (Int.toNat v.2.2.2) (Int.ofNat 0))])) then (
  rec (v.1, v.2.1, (v.2.2.1 ++ [(List.getD v.1 (Int.toNat v.2.2.2) (Int.ofNat 0))]), (wrapF .i64 (v.2.2.2 + (Int.ofNat 1)))))
  else none))
  else none)
  else (
  k (v.1, v.2.1, v.2.2.1, v.2.2.2, (iLt v.2.2.2 (Int.ofNat (List.length v.1)))))
def Lp221_3 (N : Nat) : Nat → (List Int × Int × List Int × Int) → Option ((List Int × Int × List Int × Int × Bool)) := fun n => Nat.rec (motive := fun _ => (List Int × Int × List Int × Int) → Option ((List Int × Int × List Int × Int × Bool))) (fun _ => none) (fun _ ih v => L221_3 N v ih some) n
theorem L221_3_nat {ρ : Type} (N : Nat) (v : List Int × Int × List Int × Int) (rec : (List Int × Int × List Int × Int) → Option ((List Int × Int × List Int × Int × Bool))) (k : ((List Int × Int × List Int × Int × Bool)) → Option ρ) : L221_3 N v (fun v => (rec v).bind k) k = (L221_3 N v rec some).bind k := by
  unfold L221_3
  simp only [Option.bind_assoc, bif_bind, elim_bind, Option.bind_some, Option.bind_none]
def T221 {ρ : Type} (N : Nat) (a1 : List Int) (a2 : Int) (k : (List Int) → Option ρ) : Option ρ :=
  (Lp221_3 N N (a1, a2, [], (Int.ofNat 0))).bind fun w3 =>
  bif capB (List.length (w3.2.2.1 ++ [w3.2.1])) then (
  k (w3.2.2.1 ++ [w3.2.1]))
  else none
def D221 (N : Nat) (a1 : List Int) (a2 : Int) : Option (List Int) := T221 N a1 a2 some
theorem T221_nat {ρ : Type} (N : Nat) (a1 : List Int) (a2 : Int) (k : (List Int) → Option ρ) : T221 N a1 a2 k = (D221 N a1 a2).bind k := by
  unfold D221 T221
  simp only [Option.bind_assoc, bif_bind, elim_bind, Option.bind_some, Option.bind_none]
def H221 (D : (List Int) → Int → Option (List Int)) : Hd := fun az bx k => match az, bx with
  | [c0, c1], [] => cL .i64 c0 fun y0 => cI .i64 c1 fun y1 => (D y0 y1).bind fun r => k [.ow (.ints .i64 r)] []
  | _, _ => none
theorem fnok221 : FnOK Try.prog 221 := ⟨Try.f221, Try.func221, rfl, by decide⟩
theorem h221 {D : (List Int) → Int → Option (List Int)} (hD : ∀ (y0 : List Int), ∀ (y1 : Int), ∀ r, D y0 y1 = some r → CallSpec Try.prog E0 221 [.sc (.ints .i64 y0), .sc (.int .i64 y1)] [] [.ow (.ints .i64 r)] []) : HSound Try.prog E0 221 (H221 D) := by
  intro az bx k r h
  unfold H221 at h
  split at h
  · rename_i c0 c1
    obtain ⟨y0, l0, h⟩ := cL_some h
    obtain ⟨y1, l1, h⟩ := cI_some h
    obtain ⟨r, hr, h⟩ := Option.bind_eq_some_iff.1 h
    exact ⟨_, _, ⟨(hD y0 y1 r hr).le ⟨l0, ⟨l1, trivial⟩⟩ trivial, fnok221, Nat.le_of_ble_eq_true rfl⟩, h⟩
  · cases h
def kp221 : Nat → List Tm.Loc := fun i => ([[.slot 0, .slot 1], [.slot 0, .slot 1, .slot 5], [.slot 0, .slot 1, .slot 5, .slot 6], [.slot 0, .slot 1, .slot 5, .slot 6, .slot 12], [.slot 0, .slot 1, .slot 5, .slot 6], [.slot 0, .slot 1, .slot 5, .slot 6, .slot 7], [.slot 0, .slot 1, .slot 5, .slot 6, .slot 7, .slot 21], [.slot 0, .slot 1, .slot 5, .slot 6, .slot 7], [.slot 0, .slot 1, .slot 5, .slot 6], [.slot 4]] : List (List Tm.Loc)).getD i []
def lp221 : Nat → LpS := fun i => bif Nat.beq i 3 then ⟨[], [], [.slot 0, .slot 1, .slot 5, .slot 6]⟩ else default
def sk221_3 : List (Tm.Loc × SkV) := [(.slot 0, .ints .i64), (.slot 1, .int .i64), (.slot 5, .rf 100000005), (.tok 100000005, .tI .i64), (.slot 6, .int .i64)]
def kk221_3 (k : Ex → St → Option RT) : ((List Int × Int × List Int × Int × Bool)) → Option RT := (fun r => k (.ext 0) [(.slot 12, .v (.sc (.bool false))), (.slot 0, .v (.sc (.ints .i64 r.1))), (.slot 1, .v (.sc (.int .i64 r.2.1))), (.slot 5, .v (.rf 100000005)), (.tok 100000005, .t 0 (.ints .i64 r.2.2.1)), (.slot 6, .v (.sc (.int .i64 r.2.2.2.1))), (.slot 12, .v (.sc (.bool r.2.2.2.2)))])
def LH221_3 (N : Nat) : St → (Ex → St → Option RT) → Option RT := fun s k => match mS sk221_3 s with
  | some [.L z0, .I z1, .L z2, .I z3] => (Lp221_3 N N (z0, z1, z2, z3)).bind (kk221_3 k)
  | _ => none
def X221 (N : Nat) : Env := { n := 32, K := K0, C := hNone, L := fun i s k => bif Nat.beq i 3 then LH221_3 N (normL (lp221 3) s) k else none, keep := kp221, lp := lp221 }
theorem st221_3 (N : Nat) (V : St → Option RT) (k : Ex → St → Option RT) (v : List Int × Int × List Int × Int) : vexec (X221 N ) (findLoop 3 (loopsIn (bodyOf Try.f221))) (bS sk221_3 [.L v.1, .I v.2.1, .L v.2.2.1, .I v.2.2.2]) (vstep V (lp221 3) k) = L221_3 N v (fun v => V (bS sk221_3 [.L v.1, .I v.2.1, .L v.2.2.1, .I v.2.2.2])) (kk221_3 k) := by kernel_rfl
theorem q221_3 (N : Nat) (k : Ex → St → Option RT) : ∀ n (v : List Int × Int × List Int × Int), vround (X221 N ) (findLoop 3 (loopsIn (bodyOf Try.f221))) 3 n (bS sk221_3 [.L v.1, .I v.2.1, .L v.2.2.1, .I v.2.2.2]) k = (Lp221_3 N n v).bind (kk221_3 k) := by
  intro n
  induction n with
  | zero => intro v; rfl
  | succ n ih =>
    intro v
    rw [vround_succ]
    refine (st221_3 N _ k v).trans ?_
    simp only [ih]
    exact L221_3_nat N v (Lp221_3 N n) (kk221_3 k)
theorem lh221_3 (N : Nat) : ∀ s k r, LH221_3 N s k = some r → vround (X221 N ) (findLoop 3 (loopsIn (bodyOf Try.f221))) 3 N s k = some r := by
  intro s k r h
  unfold LH221_3 at h
  split at h
  · rename_i z0 z1 z2 z3 hm
    rw [mS_bS hm]
    exact (q221_3 N k N (z0, z1, z2, z3)).trans h
  · cases h
theorem b221 (N : Nat) (a1 : List Int) (a2 : Int) : vbody (X221 N ) Try.f221 (bodyOf Try.f221) [.sc (.ints .i64 a1), .sc (.int .i64 a2)] [] (fun rs bx => some ⟨rs, bx⟩) = T221 N a1 a2 (fun r => some ⟨[.ow (.ints .i64 r)], []⟩) := by kernel_rfl
theorem s221 (N : Nat) (a1 : List Int) (a2 : Int) (r : List Int) (h : D221 N a1 a2 = some r) : CallSpec Try.prog E0 221 [.sc (.ints .i64 a1), .sc (.int .i64 a2)] [] [.ow (.ints .i64 r)] [] := by
  refine body_ok (X := X221 N ) (CR := CRG Try.prog E0) Try.func221 (code := bodyOf Try.f221) (by kernel_rfl) rfl (by decide) mixed0 tyok0 rfl contracts_ok (cs_none) (LoopsBy.of fun p hp => ?_) (by kernel_rfl) (Nat.le_of_ble_eq_true (by kernel_rfl)) ?_
  · rw [show loopsIn (bodyOf Try.f221) = [(3, findLoop 3 (loopsIn (bodyOf Try.f221)))] from by kernel_rfl] at hp
    simp only [List.mem_cons, List.not_mem_nil, or_false] at hp
    subst hp
    exact vround_of (fun s k => rfl) (by kernel_rfl) (lh221_3 N)
  · rw [b221, T221_nat, h]; rfl

/-! 281: loop.example/g01286/spec.l3Shape -/
def L281_7 {ρ : Type} (N : Nat) (v : List Int × List Int × Int × Int × Int) (rec : (List Int × List Int × Int × Int × Int) → Option ρ) (k : ((List Int × List Int × Int × Int × Int × Bool)) → Option ρ) : Option ρ :=
  bif (iLt v.2.2.2.2 (Int.ofNat (List.length v.1))) then (
  bif inB v.2.2.2.2 (List.length v.1) then (
  bif inB v.2.2.1 (List.length v.1) then (
  bif (iLt (List.getD v.1 (Int.toNat v.2.2.2.2) (Int.ofNat 0)) (List.getD v.1 (Int.toNat v.2.2.1) (Int.ofNat 0))) then (
  rec (v.1, v.2.1, v.2.2.1, (wrapF .i64 (v.2.2.2.1 + (Int.ofNat 1))), (wrapF .i64 (v.2.2.2.2 + (Int.ofNat 1)))))
  else (
  rec (v.1, v.2.1, v.2.2.1, v.2.2.2.1, (wrapF .i64 (v.2.2.2.2 + (Int.ofNat 1))))))
  else none)
  else none)
  else (
  k (v.1, v.2.1, v.2.2.1, v.2.2.2.1, v.2.2.2.2, (iLt v.2.2.2.2 (Int.ofNat (List.length v.1)))))
def Lp281_7 (N : Nat) : Nat → (List Int × List Int × Int × Int × Int) → Option ((List Int × List Int × Int × Int × Int × Bool)) := fun n => Nat.rec (motive := fun _ => (List Int × List Int × Int × Int × Int) → Option ((List Int × List Int × Int × Int × Int × Bool))) (fun _ => none) (fun _ ih v => L281_7 N v ih some) n
theorem L281_7_nat {ρ : Type} (N : Nat) (v : List Int × List Int × Int × Int × Int) (rec : (List Int × List Int × Int × Int × Int) → Option ((List Int × List Int × Int × Int × Int × Bool))) (k : ((List Int × List Int × Int × Int × Int × Bool)) → Option ρ) : L281_7 N v (fun v => (rec v).bind k) k = (L281_7 N v rec some).bind k := by
  unfold L281_7
  simp only [Option.bind_assoc, bif_bind, elim_bind, Option.bind_some, Option.bind_none]
def L281_3 {ρ : Type} (N : Nat) (v : List Int × List Int × Int) (rec : (List Int × List Int × Int) → Option ρ) (k : ((List Int × List Int × Int × Bool)) → Option ρ) : Option ρ :=
  bif (iLt v.2.2 (Int.ofNat (List.length v.1))) then (
  (Lp281_7 N N (v.1, v.2.1, v.2.2, (Int.ofNat 1), (Int.ofNat 0))).bind fun w2 =>
  bif capB (List.length (w2.2.1 ++ [w2.2.2.2.1])) then (
  rec (w2.1, (w2.2.1 ++ [w2.2.2.2.1]), (wrapF .i64 (w2.2.2.1 + (Int.ofNat 1)))))
  else none)
  else (
  k (v.1, v.2.1, v.2.2, (iLt v.2.2 (Int.ofNat (List.length v.1)))))
def Lp281_3 (N : Nat) : Nat → (List Int × List Int × Int) → Option ((List Int × List Int × Int × Bool)) := fun n => Nat.rec (motive := fun _ => (List Int × List Int × Int) → Option ((List Int × List Int × Int × Bool))) (fun _ => none) (fun _ ih v => L281_3 N v ih some) n
theorem L281_3_nat {ρ : Type} (N : Nat) (v : List Int × List Int × Int) (rec : (List Int × List Int × Int) → Option ((List Int × List Int × Int × Bool))) (k : ((List Int × List Int × Int × Bool)) → Option ρ) : L281_3 N v (fun v => (rec v).bind k) k = (L281_3 N v rec some).bind k := by
  unfold L281_3
  simp only [Option.bind_assoc, bif_bind, elim_bind, Option.bind_some, Option.bind_none]
def T281 {ρ : Type} (N : Nat) (a1 : List Int) (k : (List Int) → Option ρ) : Option ρ :=
  (Lp281_3 N N (a1, [], (Int.ofNat 0))).bind fun w3 =>
  k w3.2.1
def D281 (N : Nat) (a1 : List Int) : Option (List Int) := T281 N a1 some
theorem T281_nat {ρ : Type} (N : Nat) (a1 : List Int) (k : (List Int) → Option ρ) : T281 N a1 k = (D281 N a1).bind k := by
  unfold D281 T281
  simp only [Option.bind_assoc, bif_bind, elim_bind, Option.bind_some, Option.bind_none]
def H281 (D : (List Int) → Option (List Int)) : Hd := fun az bx k => match az, bx with
  | [c0], [] => cL .i64 c0 fun y0 => (D y0).bind fun r => k [.ow (.ints .i64 r)] []
  | _, _ => none
theorem fnok281 : FnOK Try.prog 281 := ⟨Try.f281, Try.func281, rfl, by decide⟩
theorem h281 {D : (List Int) → Option (List Int)} (hD : ∀ (y0 : List Int), ∀ r, D y0 = some r → CallSpec Try.prog E0 281 [.sc (.ints .i64 y0)] [] [.ow (.ints .i64 r)] []) : HSound Try.prog E0 281 (H281 D) := by
  intro az bx k r h
  unfold H281 at h
  split at h
  · rename_i c0
    obtain ⟨y0, l0, h⟩ := cL_some h
    obtain ⟨r, hr, h⟩ := Option.bind_eq_some_iff.1 h
    exact ⟨_, _, ⟨(hD y0 r hr).le ⟨l0, trivial⟩ trivial, fnok281, Nat.le_of_ble_eq_true rfl⟩, h⟩
  · cases h
def kp281 : Nat → List Tm.Loc := fun i => ([[.slot 0], [.slot 0, .slot 3], [.slot 0, .slot 3, .slot 4], [.slot 0, .slot 3, .slot 4, .slot 11], [.slot 0, .slot 3, .slot 4], [.slot 0, .slot 3, .slot 4, .slot 5], [.slot 0, .slot 3, .slot 4, .slot 5, .slot 6], [.slot 0, .slot 3, .slot 4, .slot 5, .slot 6, .slot 17], [.slot 0, .slot 3, .slot 4, .slot 5, .slot 6], [.slot 0, .slot 3, .slot 4, .slot 5, .slot 6, .slot 28], [.slot 0, .slot 3, .slot 4, .slot 5, .slot 6], [.slot 0, .slot 3, .slot 4], [.slot 2]] : List (List Tm.Loc)).getD i []
def lp281 : Nat → LpS := fun i => bif Nat.beq i 3 then ⟨[], [], [.slot 0, .slot 3, .slot 4]⟩ else bif Nat.beq i 7 then ⟨[], [], [.slot 0, .slot 3, .slot 4, .slot 5, .slot 6]⟩ else default
def sk281_7 : List (Tm.Loc × SkV) := [(.slot 0, .ints .i64), (.slot 3, .rf 100000003), (.tok 100000003, .tI .i64), (.slot 4, .int .i64), (.slot 5, .int .i64), (.slot 6, .int .i64)]
def kk281_7 (k : Ex → St → Option RT) : ((List Int × List Int × Int × Int × Int × Bool)) → Option RT := (fun r => k (.ext 2) [(.slot 17, .v (.sc (.bool false))), (.slot 0, .v (.sc (.ints .i64 r.1))), (.slot 3, .v (.rf 100000003)), (.tok 100000003, .t 0 (.ints .i64 r.2.1)), (.slot 4, .v (.sc (.int .i64 r.2.2.1))), (.slot 5, .v (.sc (.int .i64 r.2.2.2.1))), (.slot 6, .v (.sc (.int .i64 r.2.2.2.2.1))), (.slot 17, .v (.sc (.bool r.2.2.2.2.2)))])
def LH281_7 (N : Nat) : St → (Ex → St → Option RT) → Option RT := fun s k => match mS sk281_7 s with
  | some [.L z0, .L z1, .I z2, .I z3, .I z4] => (Lp281_7 N N (z0, z1, z2, z3, z4)).bind (kk281_7 k)
  | _ => none
def sk281_3 : List (Tm.Loc × SkV) := [(.slot 0, .ints .i64), (.slot 3, .rf 100000003), (.tok 100000003, .tI .i64), (.slot 4, .int .i64)]
def kk281_3 (k : Ex → St → Option RT) : ((List Int × List Int × Int × Bool)) → Option RT := (fun r => k (.ext 0) [(.slot 11, .v (.sc (.bool false))), (.slot 0, .v (.sc (.ints .i64 r.1))), (.slot 3, .v (.rf 100000003)), (.tok 100000003, .t 0 (.ints .i64 r.2.1)), (.slot 4, .v (.sc (.int .i64 r.2.2.1))), (.slot 11, .v (.sc (.bool r.2.2.2)))])
def LH281_3 (N : Nat) : St → (Ex → St → Option RT) → Option RT := fun s k => match mS sk281_3 s with
  | some [.L z0, .L z1, .I z2] => (Lp281_3 N N (z0, z1, z2)).bind (kk281_3 k)
  | _ => none
def X281 (N : Nat) : Env := { n := 36, K := K0, C := hNone, L := fun i s k => bif Nat.beq i 3 then LH281_3 N (normL (lp281 3) s) k else bif Nat.beq i 7 then LH281_7 N (normL (lp281 7) s) k else none, keep := kp281, lp := lp281 }
theorem st281_7 (N : Nat) (V : St → Option RT) (k : Ex → St → Option RT) (v : List Int × List Int × Int × Int × Int) : vexec (X281 N ) (findLoop 7 (loopsIn (bodyOf Try.f281))) (bS sk281_7 [.L v.1, .L v.2.1, .I v.2.2.1, .I v.2.2.2.1, .I v.2.2.2.2]) (vstep V (lp281 7) k) = L281_7 N v (fun v => V (bS sk281_7 [.L v.1, .L v.2.1, .I v.2.2.1, .I v.2.2.2.1, .I v.2.2.2.2])) (kk281_7 k) := by kernel_rfl
theorem q281_7 (N : Nat) (k : Ex → St → Option RT) : ∀ n (v : List Int × List Int × Int × Int × Int), vround (X281 N ) (findLoop 7 (loopsIn (bodyOf Try.f281))) 7 n (bS sk281_7 [.L v.1, .L v.2.1, .I v.2.2.1, .I v.2.2.2.1, .I v.2.2.2.2]) k = (Lp281_7 N n v).bind (kk281_7 k) := by
  intro n
  induction n with
  | zero => intro v; rfl
  | succ n ih =>
    intro v
    rw [vround_succ]
    refine (st281_7 N _ k v).trans ?_
    simp only [ih]
    exact L281_7_nat N v (Lp281_7 N n) (kk281_7 k)
theorem lh281_7 (N : Nat) : ∀ s k r, LH281_7 N s k = some r → vround (X281 N ) (findLoop 7 (loopsIn (bodyOf Try.f281))) 7 N s k = some r := by
  intro s k r h
  unfold LH281_7 at h
  split at h
  · rename_i z0 z1 z2 z3 z4 hm
    rw [mS_bS hm]
    exact (q281_7 N k N (z0, z1, z2, z3, z4)).trans h
  · cases h
theorem st281_3 (N : Nat) (V : St → Option RT) (k : Ex → St → Option RT) (v : List Int × List Int × Int) : vexec (X281 N ) (findLoop 3 (loopsIn (bodyOf Try.f281))) (bS sk281_3 [.L v.1, .L v.2.1, .I v.2.2]) (vstep V (lp281 3) k) = L281_3 N v (fun v => V (bS sk281_3 [.L v.1, .L v.2.1, .I v.2.2])) (kk281_3 k) := by kernel_rfl
theorem q281_3 (N : Nat) (k : Ex → St → Option RT) : ∀ n (v : List Int × List Int × Int), vround (X281 N ) (findLoop 3 (loopsIn (bodyOf Try.f281))) 3 n (bS sk281_3 [.L v.1, .L v.2.1, .I v.2.2]) k = (Lp281_3 N n v).bind (kk281_3 k) := by
  intro n
  induction n with
  | zero => intro v; rfl
  | succ n ih =>
    intro v
    rw [vround_succ]
    refine (st281_3 N _ k v).trans ?_
    simp only [ih]
    exact L281_3_nat N v (Lp281_3 N n) (kk281_3 k)
theorem lh281_3 (N : Nat) : ∀ s k r, LH281_3 N s k = some r → vround (X281 N ) (findLoop 3 (loopsIn (bodyOf Try.f281))) 3 N s k = some r := by
  intro s k r h
  unfold LH281_3 at h
  split at h
  · rename_i z0 z1 z2 hm
    rw [mS_bS hm]
    exact (q281_3 N k N (z0, z1, z2)).trans h
  · cases h
theorem b281 (N : Nat) (a1 : List Int) : vbody (X281 N ) Try.f281 (bodyOf Try.f281) [.sc (.ints .i64 a1)] [] (fun rs bx => some ⟨rs, bx⟩) = T281 N a1 (fun r => some ⟨[.ow (.ints .i64 r)], []⟩) := by kernel_rfl
theorem s281 (N : Nat) (a1 : List Int) (r : List Int) (h : D281 N a1 = some r) : CallSpec Try.prog E0 281 [.sc (.ints .i64 a1)] [] [.ow (.ints .i64 r)] [] := by
  refine body_ok (X := X281 N ) (CR := CRG Try.prog E0) Try.func281 (code := bodyOf Try.f281) (by kernel_rfl) rfl (by decide) mixed0 tyok0 rfl contracts_ok (cs_none) (LoopsBy.of fun p hp => ?_) (by kernel_rfl) (Nat.le_of_ble_eq_true (by kernel_rfl)) ?_
  · rw [show loopsIn (bodyOf Try.f281) = [(3, findLoop 3 (loopsIn (bodyOf Try.f281))), (7, findLoop 7 (loopsIn (bodyOf Try.f281)))] from by kernel_rfl] at hp
    simp only [List.mem_cons, List.not_mem_nil, or_false] at hp
    rcases hp with rfl | rfl
    · exact vround_of (fun s k => rfl) (by kernel_rfl) (lh281_3 N)
    · exact vround_of (fun s k => rfl) (by kernel_rfl) (lh281_7 N)
  · rw [b281, T281_nat, h]; rfl

/-! 151: loop.example/g01286/spec.l1Same -/
def L151_4 {ρ : Type} (N : Nat) (v : List Int × List Int × Int) (rec : (List Int × List Int × Int) → Option ρ) (k : (Unit ⊕ (List Int × List Int × Int × Bool)) → Option ρ) : Option ρ :=
  bif (iLt v.2.2 (Int.ofNat (List.length v.1))) then (
  bif inB v.2.2 (List.length v.1) then (
  bif inB v.2.2 (List.length v.2.1) then (
  bif (!(iEq (List.getD v.1 (Int.toNat v.2.2) (Int.ofNat 0)) (List.getD v.2.1 (Int.toNat v.2.2) (Int.ofNat 0)))) then (
  k (.inl (())))
  else (
  rec (v.1, v.2.1, (wrapF .i64 (v.2.2 + (Int.ofNat 1))))))
  else none)
  else none)
  else (
  k (.inr ((v.1, v.2.1, v.2.2, (iLt v.2.2 (Int.ofNat (List.length v.1)))))))
def Lp151_4 (N : Nat) : Nat → (List Int × List Int × Int) → Option (Unit ⊕ (List Int × List Int × Int × Bool)) := fun n => Nat.rec (motive := fun _ => (List Int × List Int × Int) → Option (Unit ⊕ (List Int × List Int × Int × Bool))) (fun _ => none) (fun _ ih v => L151_4 N v ih some) n
theorem L151_4_nat {ρ : Type} (N : Nat) (v : List Int × List Int × Int) (rec : (List Int × List Int × Int) → Option (Unit ⊕ (List Int × List Int × Int × Bool))) (k : (Unit ⊕ (List Int × List Int × Int × Bool)) → Option ρ) : L151_4 N v (fun v => (rec v).bind k) k = (L151_4 N v rec some).bind k := by
  unfold L151_4
  simp only [Option.bind_assoc, bif_bind, elim_bind, Option.bind_some, Option.bind_none]
def T151 {ρ : Type} (N : Nat) (a1 : List Int) (a2 : List Int) (k : Bool → Option ρ) : Option ρ :=
  bif (!(iEq (Int.ofNat (List.length a1)) (Int.ofNat (List.length a2)))) then (
  k false)
  else (
  (Lp151_4 N N (a1, a2, (Int.ofNat 0))).bind (Sum.elim (fun _ =>
  k false) (fun w4 =>
  k true)))
def D151 (N : Nat) (a1 : List Int) (a2 : List Int) : Option (Bool) := T151 N a1 a2 some
theorem T151_nat {ρ : Type} (N : Nat) (a1 : List Int) (a2 : List Int) (k : Bool → Option ρ) : T151 N a1 a2 k = (D151 N a1 a2).bind k := by
  unfold D151 T151
  simp only [Option.bind_assoc, bif_bind, elim_bind, Option.bind_some, Option.bind_none]
def H151 (D : (List Int) → (List Int) → Option (Bool)) : Hd := fun az bx k => match az, bx with
  | [c0, c1], [] => cL .i64 c0 fun y0 => cL .i64 c1 fun y1 => (D y0 y1).bind fun r => k [.sc (.bool r)] []
  | _, _ => none
theorem fnok151 : FnOK Try.prog 151 := ⟨Try.f151, Try.func151, rfl, by decide⟩
theorem h151 {D : (List Int) → (List Int) → Option (Bool)} (hD : ∀ (y0 : List Int), ∀ (y1 : List Int), ∀ r, D y0 y1 = some r → CallSpec Try.prog E0 151 [.sc (.ints .i64 y0), .sc (.ints .i64 y1)] [] [.sc (.bool r)] []) : HSound Try.prog E0 151 (H151 D) := by
  intro az bx k r h
  unfold H151 at h
  split at h
  · rename_i c0 c1
    obtain ⟨y0, l0, h⟩ := cL_some h
    obtain ⟨y1, l1, h⟩ := cL_some h
    obtain ⟨r, hr, h⟩ := Option.bind_eq_some_iff.1 h
    exact ⟨_, _, ⟨(hD y0 y1 r hr).le ⟨l0, ⟨l1, trivial⟩⟩ trivial, fnok151, Nat.le_of_ble_eq_true rfl⟩, h⟩
  · cases h
def kp151 : Nat → List Tm.Loc := fun i => ([[.slot 0, .slot 1], [.slot 0, .slot 1, .slot 10], [.slot 4], [.slot 0, .slot 1, .slot 5], [.slot 0, .slot 1, .slot 5, .slot 14], [.slot 0, .slot 1, .slot 5], [.slot 0, .slot 1, .slot 5, .slot 25], [.slot 4], [.slot 4]] : List (List Tm.Loc)).getD i []
def lp151 : Nat → LpS := fun i => bif Nat.beq i 4 then ⟨[], [], [.slot 0, .slot 1, .slot 5]⟩ else default
def sk151_4 : List (Tm.Loc × SkV) := [(.slot 0, .ints .i64), (.slot 1, .ints .i64), (.slot 5, .int .i64)]
def kk151_4 (k : Ex → St → Option RT) : (Unit ⊕ (List Int × List Int × Int × Bool)) → Option RT := (Sum.elim (fun r => k .ret [(.slot 4, .v (.sc (.bool false)))]) (fun r => k (.ext 0) [(.slot 14, .v (.sc (.bool false))), (.slot 0, .v (.sc (.ints .i64 r.1))), (.slot 1, .v (.sc (.ints .i64 r.2.1))), (.slot 5, .v (.sc (.int .i64 r.2.2.1))), (.slot 14, .v (.sc (.bool r.2.2.2)))]))
def LH151_4 (N : Nat) : St → (Ex → St → Option RT) → Option RT := fun s k => match mS sk151_4 s with
  | some [.L z0, .L z1, .I z2] => (Lp151_4 N N (z0, z1, z2)).bind (kk151_4 k)
  | _ => none
def X151 (N : Nat) : Env := { n := 26, K := K0, C := hNone, L := fun i s k => bif Nat.beq i 4 then LH151_4 N (normL (lp151 4) s) k else none, keep := kp151, lp := lp151 }
theorem st151_4 (N : Nat) (V : St → Option RT) (k : Ex → St → Option RT) (v : List Int × List Int × Int) : vexec (X151 N ) (findLoop 4 (loopsIn (bodyOf Try.f151))) (bS sk151_4 [.L v.1, .L v.2.1, .I v.2.2]) (vstep V (lp151 4) k) = L151_4 N v (fun v => V (bS sk151_4 [.L v.1, .L v.2.1, .I v.2.2])) (kk151_4 k) := by kernel_rfl
theorem q151_4 (N : Nat) (k : Ex → St → Option RT) : ∀ n (v : List Int × List Int × Int), vround (X151 N ) (findLoop 4 (loopsIn (bodyOf Try.f151))) 4 n (bS sk151_4 [.L v.1, .L v.2.1, .I v.2.2]) k = (Lp151_4 N n v).bind (kk151_4 k) := by
  intro n
  induction n with
  | zero => intro v; rfl
  | succ n ih =>
    intro v
    rw [vround_succ]
    refine (st151_4 N _ k v).trans ?_
    simp only [ih]
    exact L151_4_nat N v (Lp151_4 N n) (kk151_4 k)
theorem lh151_4 (N : Nat) : ∀ s k r, LH151_4 N s k = some r → vround (X151 N ) (findLoop 4 (loopsIn (bodyOf Try.f151))) 4 N s k = some r := by
  intro s k r h
  unfold LH151_4 at h
  split at h
  · rename_i z0 z1 z2 hm
    rw [mS_bS hm]
    exact (q151_4 N k N (z0, z1, z2)).trans h
  · cases h
theorem b151 (N : Nat) (a1 : List Int) (a2 : List Int) : vbody (X151 N ) Try.f151 (bodyOf Try.f151) [.sc (.ints .i64 a1), .sc (.ints .i64 a2)] [] (fun rs bx => some ⟨rs, bx⟩) = T151 N a1 a2 (fun r => some ⟨[.sc (.bool r)], []⟩) := by kernel_rfl
theorem s151 (N : Nat) (a1 : List Int) (a2 : List Int) (r : Bool) (h : D151 N a1 a2 = some r) : CallSpec Try.prog E0 151 [.sc (.ints .i64 a1), .sc (.ints .i64 a2)] [] [.sc (.bool r)] [] := by
  refine body_ok (X := X151 N ) (CR := CRG Try.prog E0) Try.func151 (code := bodyOf Try.f151) (by kernel_rfl) rfl (by decide) mixed0 tyok0 rfl contracts_ok (cs_none) (LoopsBy.of fun p hp => ?_) (by kernel_rfl) (Nat.le_of_ble_eq_true (by kernel_rfl)) ?_
  · rw [show loopsIn (bodyOf Try.f151) = [(4, findLoop 4 (loopsIn (bodyOf Try.f151)))] from by kernel_rfl] at hp
    simp only [List.mem_cons, List.not_mem_nil, or_false] at hp
    subst hp
    exact vround_of (fun s k => rfl) (by kernel_rfl) (lh151_4 N)
  · rw [b151, T151_nat, h]; rfl

/-! 150: loop.example/g01286/spec.l1Own -/
def T150 {ρ : Type} (N : Nat) (a1 : List Int) (k : (List Int) → Option ρ) : Option ρ :=
  bif capB (List.length ([] ++ a1)) then (
  k ([] ++ a1))
  else none
def D150 (N : Nat) (a1 : List Int) : Option (List Int) := T150 N a1 some
theorem T150_nat {ρ : Type} (N : Nat) (a1 : List Int) (k : (List Int) → Option ρ) : T150 N a1 k = (D150 N a1).bind k := by
  unfold D150 T150
  simp only [Option.bind_assoc, bif_bind, elim_bind, Option.bind_some, Option.bind_none]
def H150 (D : (List Int) → Option (List Int)) : Hd := fun az bx k => match az, bx with
  | [c0], [] => cL .i64 c0 fun y0 => (D y0).bind fun r => k [.ow (.ints .i64 r)] []
  | _, _ => none
theorem fnok150 : FnOK Try.prog 150 := ⟨Try.f150, Try.func150, rfl, by decide⟩
theorem h150 {D : (List Int) → Option (List Int)} (hD : ∀ (y0 : List Int), ∀ r, D y0 = some r → CallSpec Try.prog E0 150 [.sc (.ints .i64 y0)] [] [.ow (.ints .i64 r)] []) : HSound Try.prog E0 150 (H150 D) := by
  intro az bx k r h
  unfold H150 at h
  split at h
  · rename_i c0
    obtain ⟨y0, l0, h⟩ := cL_some h
    obtain ⟨r, hr, h⟩ := Option.bind_eq_some_iff.1 h
    exact ⟨_, _, ⟨(hD y0 r hr).le ⟨l0, trivial⟩ trivial, fnok150, Nat.le_of_ble_eq_true rfl⟩, h⟩
  · cases h
def kp150 : Nat → List Tm.Loc := fun i => ([[.slot 0], [.slot 2]] : List (List Tm.Loc)).getD i []
def lp150 : Nat → LpS := fun i => default
def X150 (N : Nat) : Env := { n := 6, K := K0, C := hNone, L := fun i s k => none, keep := kp150, lp := lp150 }
theorem b150 (N : Nat) (a1 : List Int) : vbody (X150 N ) Try.f150 (bodyOf Try.f150) [.sc (.ints .i64 a1)] [] (fun rs bx => some ⟨rs, bx⟩) = T150 N a1 (fun r => some ⟨[.ow (.ints .i64 r)], []⟩) := by kernel_rfl
theorem s150 (N : Nat) (a1 : List Int) (r : List Int) (h : D150 N a1 = some r) : CallSpec Try.prog E0 150 [.sc (.ints .i64 a1)] [] [.ow (.ints .i64 r)] [] := by
  refine body_ok (X := X150 N ) (CR := CRG Try.prog E0) Try.func150 (code := bodyOf Try.f150) (by kernel_rfl) rfl (by decide) mixed0 tyok0 rfl contracts_ok (cs_none) (LoopsBy.of fun p hp => ?_) (by kernel_rfl) (Nat.le_of_ble_eq_true (by kernel_rfl)) ?_
  · rw [show loopsIn (bodyOf Try.f150) = [] from by kernel_rfl] at hp
    cases hp
  · rw [b150, T150_nat, h]; rfl

/-! 273: loop.example/g01286/spec.l3Goes -/
def L273_6 {ρ : Type} (N : Nat) (recf : (List Int × List Int × List Int × Int) → Option (Bool)) (v : List Int × List Int × List Int × Int) (rec : (List Int × List Int × List Int × Int) → Option ρ) (k : (Unit ⊕ (List Int × List Int × List Int × Int × Bool)) → Option ρ) : Option ρ :=
  bif (iLt v.2.2.2 (Int.ofNat (List.length v.1))) then (
  (D150 N v.2.2.1).bind fun r4 =>
  bif inB v.2.2.2 (List.length v.1) then (
  bif capB (List.length (r4 ++ [(List.getD v.1 (Int.toNat v.2.2.2) (Int.ofNat 0))])) then (
  (recf (v.1, v.2.1, (r4 ++ [(List.getD v.1 (Int.toNat v.2.2.2) (Int.ofNat 0))]), (wrapF .i64 (v.2.2.2 + (Int.ofNat 1))))).bind fun r5 =>
  bif r5 then (
  k (.inl (())))
  else (
  rec (v.1, v.2.1, v.2.2.1, (wrapF .i64 (v.2.2.2 + (Int.ofNat 1))))))
  else none)
  else none)
  else (
  k (.inr ((v.1, v.2.1, v.2.2.1, v.2.2.2, (iLt v.2.2.2 (Int.ofNat (List.length v.1)))))))
def Lp273_6 (N : Nat) (recf : (List Int × List Int × List Int × Int) → Option (Bool)) : Nat → (List Int × List Int × List Int × Int) → Option (Unit ⊕ (List Int × List Int × List Int × Int × Bool)) := fun n => Nat.rec (motive := fun _ => (List Int × List Int × List Int × Int) → Option (Unit ⊕ (List Int × List Int × List Int × Int × Bool))) (fun _ => none) (fun _ ih v => L273_6 N recf v ih some) n
theorem L273_6_nat {ρ : Type} (N : Nat) (recf : (List Int × List Int × List Int × Int) → Option (Bool)) (v : List Int × List Int × List Int × Int) (rec : (List Int × List Int × List Int × Int) → Option (Unit ⊕ (List Int × List Int × List Int × Int × Bool))) (k : (Unit ⊕ (List Int × List Int × List Int × Int × Bool)) → Option ρ) : L273_6 N recf v (fun v => (rec v).bind k) k = (L273_6 N recf v rec some).bind k := by
  unfold L273_6
  simp only [Option.bind_assoc, bif_bind, elim_bind, Option.bind_some, Option.bind_none]
def T273 {ρ : Type} (N : Nat) (recf : (List Int × List Int × List Int × Int) → Option (Bool)) (a : List Int × List Int × List Int × Int) (k : Bool → Option ρ) : Option ρ :=
  bif (iLt (Int.ofNat 0) (Int.ofNat (List.length a.2.2.1))) then (
  (D281 N a.2.2.1).bind fun r1 =>
  bif cutB (Int.ofNat 0) (Int.ofNat (List.length a.2.2.1)) (List.length a.2.1) then (
  (D281 N (List.take ((Int.toNat (Int.ofNat (List.length a.2.2.1))) - 0) (List.drop 0 a.2.1))).bind fun r2 =>
  (D151 N r1 r2).bind fun r3 =>
  bif (!r3) then (
  k false)
  else (
  bif (iEq (Int.ofNat (List.length a.2.2.1)) (Int.ofNat (List.length a.2.1))) then (
  k true)
  else (
  (Lp273_6 N recf N (a.1, a.2.1, a.2.2.1, a.2.2.2)).bind (Sum.elim (fun _ =>
  k true) (fun w7 =>
  k false)))))
  else none)
  else (
  bif (iEq (Int.ofNat (List.length a.2.2.1)) (Int.ofNat (List.length a.2.1))) then (
  k true)
  else (
  (Lp273_6 N recf N (a.1, a.2.1, a.2.2.1, a.2.2.2)).bind (Sum.elim (fun _ =>
  k true) (fun w9 =>
  k false))))
def D273 (N : Nat) : Nat → (List Int × List Int × List Int × Int) → Option (Bool) := fun n => Nat.rec (motive := fun _ => (List Int × List Int × List Int × Int) → Option (Bool)) (fun _ => none) (fun _ ih a => T273 N ih a some) n
theorem T273_nat {ρ : Type} (N : Nat) (recf : (List Int × List Int × List Int × Int) → Option (Bool)) (a : List Int × List Int × List Int × Int) (k : Bool → Option ρ) : T273 N recf a k = (T273 N recf a some).bind k := by
  unfold T273
  simp only [Option.bind_assoc, bif_bind, elim_bind, Option.bind_some, Option.bind_none]
def H273 (D : (List Int × List Int × List Int × Int) → Option (Bool)) : Hd := fun az bx k => match az, bx with
  | [c0, c1, c2, c3], [] => cL .i64 c0 fun y0 => cL .i64 c1 fun y1 => cL .i64 c2 fun y2 => cI .i64 c3 fun y3 => (D (y0, y1, y2, y3)).bind fun r => k [.sc (.bool r)] []
  | _, _ => none
theorem fnok273 : FnOK Try.prog 273 := ⟨Try.f273, Try.func273, rfl, by decide⟩
theorem h273 {D : (List Int × List Int × List Int × Int) → Option (Bool)} (hD : ∀ (y0 : List Int), ∀ (y1 : List Int), ∀ (y2 : List Int), ∀ (y3 : Int), ∀ r, D (y0, y1, y2, y3) = some r → CallSpec Try.prog E0 273 [.sc (.ints .i64 y0), .sc (.ints .i64 y1), .sc (.ints .i64 y2), .sc (.int .i64 y3)] [] [.sc (.bool r)] []) : HSound Try.prog E0 273 (H273 D) := by
  intro az bx k r h
  unfold H273 at h
  split at h
  · rename_i c0 c1 c2 c3
    obtain ⟨y0, l0, h⟩ := cL_some h
    obtain ⟨y1, l1, h⟩ := cL_some h
    obtain ⟨y2, l2, h⟩ := cL_some h
    obtain ⟨y3, l3, h⟩ := cI_some h
    obtain ⟨r, hr, h⟩ := Option.bind_eq_some_iff.1 h
    exact ⟨_, _, ⟨(hD y0 y1 y2 y3 r hr).le ⟨l0, ⟨l1, ⟨l2, ⟨l3, trivial⟩⟩⟩⟩ trivial, fnok273, Nat.le_of_ble_eq_true rfl⟩, h⟩
  · cases h
def kp273 : Nat → List Tm.Loc := fun i => ([[.slot 0, .slot 1, .slot 2, .slot 3, .slot 14, .slot 15, .slot 16, .slot 17, .slot 18, .slot 19, .slot 20, .slot 21, .slot 22], [.slot 0, .slot 1, .slot 2, .slot 3, .slot 23], [.slot 8], [.slot 0, .slot 1, .slot 2, .slot 3, .slot 28], [.slot 8], [.slot 0, .slot 1, .slot 2, .slot 9], [.slot 0, .slot 1, .slot 2, .slot 9, .slot 33], [.slot 0, .slot 1, .slot 2, .slot 9], [.slot 0, .slot 1, .slot 2, .slot 9, .slot 48], [.slot 8], [.slot 8]] : List (List Tm.Loc)).getD i []
def lp273 : Nat → LpS := fun i => bif Nat.beq i 6 then ⟨[], [], [.slot 0, .slot 1, .slot 2, .slot 9]⟩ else default
def sk273_6 : List (Tm.Loc × SkV) := [(.slot 0, .ints .i64), (.slot 1, .ints .i64), (.slot 2, .ints .i64), (.slot 9, .int .i64)]
def kk273_6 (k : Ex → St → Option RT) : (Unit ⊕ (List Int × List Int × List Int × Int × Bool)) → Option RT := (Sum.elim (fun r => k .ret [(.slot 8, .v (.sc (.bool true)))]) (fun r => k (.ext 0) [(.slot 33, .v (.sc (.bool false))), (.slot 0, .v (.sc (.ints .i64 r.1))), (.slot 1, .v (.sc (.ints .i64 r.2.1))), (.slot 2, .v (.sc (.ints .i64 r.2.2.1))), (.slot 9, .v (.sc (.int .i64 r.2.2.2.1))), (.slot 33, .v (.sc (.bool r.2.2.2.2)))]))
def LH273_6 (N : Nat) (recf : (List Int × List Int × List Int × Int) → Option (Bool)) : St → (Ex → St → Option RT) → Option RT := fun s k => match mS sk273_6 s with
  | some [.L z0, .L z1, .L z2, .I z3] => (Lp273_6 N recf N (z0, z1, z2, z3)).bind (kk273_6 k)
  | _ => none
def X273 (N : Nat) (recf : (List Int × List Int × List Int × Int) → Option (Bool)) : Env := { n := 49, K := K0, C := hSel 281 (H281 (D281 N)) (hSel 151 (H151 (D151 N)) (hSel 150 (H150 (D150 N)) (hSel 273 (H273 recf) (hNone)))), L := fun i s k => bif Nat.beq i 6 then LH273_6 N recf (normL (lp273 6) s) k else none, keep := kp273, lp := lp273 }
theorem st273_6 (N : Nat) (recf : (List Int × List Int × List Int × Int) → Option (Bool)) (V : St → Option RT) (k : Ex → St → Option RT) (v : List Int × List Int × List Int × Int) : vexec (X273 N recf ) (findLoop 6 (loopsIn (bodyOf Try.f273))) (bS sk273_6 [.L v.1, .L v.2.1, .L v.2.2.1, .I v.2.2.2]) (vstep V (lp273 6) k) = L273_6 N recf v (fun v => V (bS sk273_6 [.L v.1, .L v.2.1, .L v.2.2.1, .I v.2.2.2])) (kk273_6 k) := by kernel_rfl
theorem q273_6 (N : Nat) (recf : (List Int × List Int × List Int × Int) → Option (Bool)) (k : Ex → St → Option RT) : ∀ n (v : List Int × List Int × List Int × Int), vround (X273 N recf ) (findLoop 6 (loopsIn (bodyOf Try.f273))) 6 n (bS sk273_6 [.L v.1, .L v.2.1, .L v.2.2.1, .I v.2.2.2]) k = (Lp273_6 N recf n v).bind (kk273_6 k) := by
  intro n
  induction n with
  | zero => intro v; rfl
  | succ n ih =>
    intro v
    rw [vround_succ]
    refine (st273_6 N recf _ k v).trans ?_
    simp only [ih]
    exact L273_6_nat N recf v (Lp273_6 N recf n) (kk273_6 k)
theorem lh273_6 (N : Nat) (recf : (List Int × List Int × List Int × Int) → Option (Bool)) : ∀ s k r, LH273_6 N recf s k = some r → vround (X273 N recf ) (findLoop 6 (loopsIn (bodyOf Try.f273))) 6 N s k = some r := by
  intro s k r h
  unfold LH273_6 at h
  split at h
  · rename_i z0 z1 z2 z3 hm
    rw [mS_bS hm]
    exact (q273_6 N recf k N (z0, z1, z2, z3)).trans h
  · cases h
theorem b273 (N : Nat) (recf : (List Int × List Int × List Int × Int) → Option (Bool)) (a : List Int × List Int × List Int × Int) : vbody (X273 N recf ) Try.f273 (bodyOf Try.f273) [.sc (.ints .i64 a.1), .sc (.ints .i64 a.2.1), .sc (.ints .i64 a.2.2.1), .sc (.int .i64 a.2.2.2)] [] (fun rs bx => some ⟨rs, bx⟩) = T273 N recf a (fun r => some ⟨[.sc (.bool r)], []⟩) := by kernel_rfl
theorem sx273 (N : Nat) (recf : (List Int × List Int × List Int × Int) → Option (Bool)) (hrec : ∀ (y0 : List Int), ∀ (y1 : List Int), ∀ (y2 : List Int), ∀ (y3 : Int), ∀ r, recf (y0, y1, y2, y3) = some r → CallSpec Try.prog E0 273 [.sc (.ints .i64 y0), .sc (.ints .i64 y1), .sc (.ints .i64 y2), .sc (.int .i64 y3)] [] [.sc (.bool r)] []) (a : List Int × List Int × List Int × Int) (r : Bool) (h : T273 N recf a some = some r) : CallSpec Try.prog E0 273 [.sc (.ints .i64 a.1), .sc (.ints .i64 a.2.1), .sc (.ints .i64 a.2.2.1), .sc (.int .i64 a.2.2.2)] [] [.sc (.bool r)] [] := by
  refine body_ok (X := X273 N recf ) (CR := CRG Try.prog E0) Try.func273 (code := bodyOf Try.f273) (by kernel_rfl) rfl (by decide) mixed0 tyok0 rfl contracts_ok (cs_sel (h281 (s281 N)) (cs_sel (h151 (s151 N)) (cs_sel (h150 (s150 N)) (cs_sel (h273 hrec) (cs_none))))) (LoopsBy.of fun p hp => ?_) (by kernel_rfl) (Nat.le_of_ble_eq_true (by kernel_rfl)) ?_
  · rw [show loopsIn (bodyOf Try.f273) = [(6, findLoop 6 (loopsIn (bodyOf Try.f273)))] from by kernel_rfl] at hp
    simp only [List.mem_cons, List.not_mem_nil, or_false] at hp
    subst hp
    exact vround_of (fun s k => rfl) (by kernel_rfl) (lh273_6 N recf)
  · rw [b273, T273_nat, h]; rfl
theorem s273 (N : Nat) : ∀ (y0 : List Int), ∀ (y1 : List Int), ∀ (y2 : List Int), ∀ (y3 : Int), ∀ r, D273 N N (y0, y1, y2, y3) = some r → CallSpec Try.prog E0 273 [.sc (.ints .i64 y0), .sc (.ints .i64 y1), .sc (.ints .i64 y2), .sc (.int .i64 y3)] [] [.sc (.bool r)] [] := by
  have key : ∀ n (a : List Int × List Int × List Int × Int) r, D273 N n a = some r → CallSpec Try.prog E0 273 [.sc (.ints .i64 a.1), .sc (.ints .i64 a.2.1), .sc (.ints .i64 a.2.2.1), .sc (.int .i64 a.2.2.2)] [] [.sc (.bool r)] [] := by
    intro n
    induction n with
    | zero => intro a r h; cases h
    | succ n ih => intro a r h; exact sx273 N (D273 N n) (fun y0 y1 y2 y3 r h => ih (y0, y1, y2, y3) r h) a r h
  intro y0 y1 y2 y3 r h
  exact key N (y0, y1, y2, y3) r h

/-! 255: loop.example/g01286/spec.l3In -/
def T255 {ρ : Type} (N : Nat) (a1 : List Int) (a2 : List Int) (k : Bool → Option ρ) : Option ρ :=
  (D273 N N (a1, a2, [], (Int.ofNat 0))).bind fun r3 =>
  k r3
def D255 (N : Nat) (a1 : List Int) (a2 : List Int) : Option (Bool) := T255 N a1 a2 some
theorem T255_nat {ρ : Type} (N : Nat) (a1 : List Int) (a2 : List Int) (k : Bool → Option ρ) : T255 N a1 a2 k = (D255 N a1 a2).bind k := by
  unfold D255 T255
  simp only [Option.bind_assoc, bif_bind, elim_bind, Option.bind_some, Option.bind_none]
def H255 (D : (List Int) → (List Int) → Option (Bool)) : Hd := fun az bx k => match az, bx with
  | [c0, c1], [] => cL .i64 c0 fun y0 => cL .i64 c1 fun y1 => (D y0 y1).bind fun r => k [.sc (.bool r)] []
  | _, _ => none
theorem fnok255 : FnOK Try.prog 255 := ⟨Try.f255, Try.func255, rfl, by decide⟩
theorem h255 {D : (List Int) → (List Int) → Option (Bool)} (hD : ∀ (y0 : List Int), ∀ (y1 : List Int), ∀ r, D y0 y1 = some r → CallSpec Try.prog E0 255 [.sc (.ints .i64 y0), .sc (.ints .i64 y1)] [] [.sc (.bool r)] []) : HSound Try.prog E0 255 (H255 D) := by
  intro az bx k r h
  unfold H255 at h
  split at h
  · rename_i c0 c1
    obtain ⟨y0, l0, h⟩ := cL_some h
    obtain ⟨y1, l1, h⟩ := cL_some h
    obtain ⟨r, hr, h⟩ := Option.bind_eq_some_iff.1 h
    exact ⟨_, _, ⟨(hD y0 y1 r hr).le ⟨l0, ⟨l1, trivial⟩⟩ trivial, fnok255, Nat.le_of_ble_eq_true rfl⟩, h⟩
  · cases h
def kp255 : Nat → List Tm.Loc := fun i => ([[.slot 0, .slot 1], [.slot 4]] : List (List Tm.Loc)).getD i []
def lp255 : Nat → LpS := fun i => default
def X255 (N : Nat) : Env := { n := 9, K := K0, C := hSel 273 (H273 (D273 N N)) (hNone), L := fun i s k => none, keep := kp255, lp := lp255 }
theorem b255 (N : Nat) (a1 : List Int) (a2 : List Int) : vbody (X255 N ) Try.f255 (bodyOf Try.f255) [.sc (.ints .i64 a1), .sc (.ints .i64 a2)] [] (fun rs bx => some ⟨rs, bx⟩) = T255 N a1 a2 (fun r => some ⟨[.sc (.bool r)], []⟩) := by kernel_rfl
theorem s255 (N : Nat) (a1 : List Int) (a2 : List Int) (r : Bool) (h : D255 N a1 a2 = some r) : CallSpec Try.prog E0 255 [.sc (.ints .i64 a1), .sc (.ints .i64 a2)] [] [.sc (.bool r)] [] := by
  refine body_ok (X := X255 N ) (CR := CRG Try.prog E0) Try.func255 (code := bodyOf Try.f255) (by kernel_rfl) rfl (by decide) mixed0 tyok0 rfl contracts_ok (cs_sel (h273 (s273 N)) (cs_none)) (LoopsBy.of fun p hp => ?_) (by kernel_rfl) (Nat.le_of_ble_eq_true (by kernel_rfl)) ?_
  · rw [show loopsIn (bodyOf Try.f255) = [] from by kernel_rfl] at hp
    cases hp
  · rw [b255, T255_nat, h]; rfl

/-! 222: loop.example/g01286/spec.l3Avoids -/
def L222_2 {ρ : Type} (N : Nat) (v : List Int × List (List Int) × Int) (rec : (List Int × List (List Int) × Int) → Option ρ) (k : (Unit ⊕ (List Int × List (List Int) × Int × Bool)) → Option ρ) : Option ρ :=
  bif (iLt v.2.2 (Int.ofNat (List.length v.2.1))) then (
  bif inB v.2.2 (List.length v.2.1) then (
  (D255 N v.1 (List.getD v.2.1 (Int.toNat v.2.2) [])).bind fun r3 =>
  bif r3 then (
  k (.inl (())))
  else (
  rec (v.1, v.2.1, (wrapF .i64 (v.2.2 + (Int.ofNat 1))))))
  else none)
  else (
  k (.inr ((v.1, v.2.1, v.2.2, (iLt v.2.2 (Int.ofNat (List.length v.2.1)))))))
def Lp222_2 (N : Nat) : Nat → (List Int × List (List Int) × Int) → Option (Unit ⊕ (List Int × List (List Int) × Int × Bool)) := fun n => Nat.rec (motive := fun _ => (List Int × List (List Int) × Int) → Option (Unit ⊕ (List Int × List (List Int) × Int × Bool))) (fun _ => none) (fun _ ih v => L222_2 N v ih some) n
theorem L222_2_nat {ρ : Type} (N : Nat) (v : List Int × List (List Int) × Int) (rec : (List Int × List (List Int) × Int) → Option (Unit ⊕ (List Int × List (List Int) × Int × Bool))) (k : (Unit ⊕ (List Int × List (List Int) × Int × Bool)) → Option ρ) : L222_2 N v (fun v => (rec v).bind k) k = (L222_2 N v rec some).bind k := by
  unfold L222_2
  simp only [Option.bind_assoc, bif_bind, elim_bind, Option.bind_some, Option.bind_none]
def T222 {ρ : Type} (N : Nat) (a1 : List Int) (a2 : List (List Int)) (k : Bool → Option ρ) : Option ρ :=
  (Lp222_2 N N (a1, a2, (Int.ofNat 0))).bind (Sum.elim (fun _ =>
  k false) (fun w5 =>
  k true))
def D222 (N : Nat) (a1 : List Int) (a2 : List (List Int)) : Option (Bool) := T222 N a1 a2 some
theorem T222_nat {ρ : Type} (N : Nat) (a1 : List Int) (a2 : List (List Int)) (k : Bool → Option ρ) : T222 N a1 a2 k = (D222 N a1 a2).bind k := by
  unfold D222 T222
  simp only [Option.bind_assoc, bif_bind, elim_bind, Option.bind_some, Option.bind_none]
def H222 (D : (List Int) → (List (List Int)) → Option (Bool)) : Hd := fun az bx k => match az, bx with
  | [c0, c1], [] => cL .i64 c0 fun y0 => cR c1 fun y1 => (D y0 y1).bind fun r => k [.sc (.bool r)] []
  | _, _ => none
theorem fnok222 : FnOK Try.prog 222 := ⟨Try.f222, Try.func222, rfl, by decide⟩
theorem h222 {D : (List Int) → (List (List Int)) → Option (Bool)} (hD : ∀ (y0 : List Int), ∀ (y1 : List (List Int)), ∀ r, D y0 y1 = some r → CallSpec Try.prog E0 222 [.sc (.ints .i64 y0), .sc (.rows y1)] [] [.sc (.bool r)] []) : HSound Try.prog E0 222 (H222 D) := by
  intro az bx k r h
  unfold H222 at h
  split at h
  · rename_i c0 c1
    obtain ⟨y0, l0, h⟩ := cL_some h
    obtain ⟨y1, l1, h⟩ := cR_some h
    obtain ⟨r, hr, h⟩ := Option.bind_eq_some_iff.1 h
    exact ⟨_, _, ⟨(hD y0 y1 r hr).le ⟨l0, ⟨l1, trivial⟩⟩ trivial, fnok222, Nat.le_of_ble_eq_true rfl⟩, h⟩
  · cases h
def kp222 : Nat → List Tm.Loc := fun i => ([[.slot 0, .slot 1], [.slot 0, .slot 1, .slot 5], [.slot 0, .slot 1, .slot 5, .slot 9], [.slot 0, .slot 1, .slot 5], [.slot 0, .slot 1, .slot 5, .slot 17], [.slot 4], [.slot 4]] : List (List Tm.Loc)).getD i []
def lp222 : Nat → LpS := fun i => bif Nat.beq i 2 then ⟨[], [], [.slot 0, .slot 1, .slot 5]⟩ else default
def sk222_2 : List (Tm.Loc × SkV) := [(.slot 0, .ints .i64), (.slot 1, .rows), (.slot 5, .int .i64)]
def kk222_2 (k : Ex → St → Option RT) : (Unit ⊕ (List Int × List (List Int) × Int × Bool)) → Option RT := (Sum.elim (fun r => k .ret [(.slot 4, .v (.sc (.bool false)))]) (fun r => k (.ext 0) [(.slot 9, .v (.sc (.bool false))), (.slot 0, .v (.sc (.ints .i64 r.1))), (.slot 1, .v (.sc (.rows r.2.1))), (.slot 5, .v (.sc (.int .i64 r.2.2.1))), (.slot 9, .v (.sc (.bool r.2.2.2)))]))
def LH222_2 (N : Nat) : St → (Ex → St → Option RT) → Option RT := fun s k => match mS sk222_2 s with
  | some [.L z0, .R z1, .I z2] => (Lp222_2 N N (z0, z1, z2)).bind (kk222_2 k)
  | _ => none
def X222 (N : Nat) : Env := { n := 18, K := K0, C := hSel 255 (H255 (D255 N)) (hNone), L := fun i s k => bif Nat.beq i 2 then LH222_2 N (normL (lp222 2) s) k else none, keep := kp222, lp := lp222 }
theorem st222_2 (N : Nat) (V : St → Option RT) (k : Ex → St → Option RT) (v : List Int × List (List Int) × Int) : vexec (X222 N ) (findLoop 2 (loopsIn (bodyOf Try.f222))) (bS sk222_2 [.L v.1, .R v.2.1, .I v.2.2]) (vstep V (lp222 2) k) = L222_2 N v (fun v => V (bS sk222_2 [.L v.1, .R v.2.1, .I v.2.2])) (kk222_2 k) := by kernel_rfl
theorem q222_2 (N : Nat) (k : Ex → St → Option RT) : ∀ n (v : List Int × List (List Int) × Int), vround (X222 N ) (findLoop 2 (loopsIn (bodyOf Try.f222))) 2 n (bS sk222_2 [.L v.1, .R v.2.1, .I v.2.2]) k = (Lp222_2 N n v).bind (kk222_2 k) := by
  intro n
  induction n with
  | zero => intro v; rfl
  | succ n ih =>
    intro v
    rw [vround_succ]
    refine (st222_2 N _ k v).trans ?_
    simp only [ih]
    exact L222_2_nat N v (Lp222_2 N n) (kk222_2 k)
theorem lh222_2 (N : Nat) : ∀ s k r, LH222_2 N s k = some r → vround (X222 N ) (findLoop 2 (loopsIn (bodyOf Try.f222))) 2 N s k = some r := by
  intro s k r h
  unfold LH222_2 at h
  split at h
  · rename_i z0 z1 z2 hm
    rw [mS_bS hm]
    exact (q222_2 N k N (z0, z1, z2)).trans h
  · cases h
theorem b222 (N : Nat) (a1 : List Int) (a2 : List (List Int)) : vbody (X222 N ) Try.f222 (bodyOf Try.f222) [.sc (.ints .i64 a1), .sc (.rows a2)] [] (fun rs bx => some ⟨rs, bx⟩) = T222 N a1 a2 (fun r => some ⟨[.sc (.bool r)], []⟩) := by kernel_rfl
theorem s222 (N : Nat) (a1 : List Int) (a2 : List (List Int)) (r : Bool) (h : D222 N a1 a2 = some r) : CallSpec Try.prog E0 222 [.sc (.ints .i64 a1), .sc (.rows a2)] [] [.sc (.bool r)] [] := by
  refine body_ok (X := X222 N ) (CR := CRG Try.prog E0) Try.func222 (code := bodyOf Try.f222) (by kernel_rfl) rfl (by decide) mixed0 tyok0 rfl contracts_ok (cs_sel (h255 (s255 N)) (cs_none)) (LoopsBy.of fun p hp => ?_) (by kernel_rfl) (Nat.le_of_ble_eq_true (by kernel_rfl)) ?_
  · rw [show loopsIn (bodyOf Try.f222) = [(2, findLoop 2 (loopsIn (bodyOf Try.f222)))] from by kernel_rfl] at hp
    simp only [List.mem_cons, List.not_mem_nil, or_false] at hp
    subst hp
    exact vround_of (fun s k => rfl) (by kernel_rfl) (lh222_2 N)
  · rw [b222, T222_nat, h]; rfl

/-! 134: loop.example/g01286/spec.l3Avoiding -/
def L134_10 {ρ : Type} (N : Nat) (v : Int × List (List Int) × List (List Int) × Int × List (List Int) × Int × Int) (rec : (Int × List (List Int) × List (List Int) × Int × List (List Int) × Int × Int) → Option ρ) (k : ((Int × List (List Int) × List (List Int) × Int × List (List Int) × Int × Int × Bool)) → Option ρ) : Option ρ :=
  bif (iLe v.2.2.2.2.2.2 (wrapF .i64 (v.2.2.2.1 + (Int.ofNat 1)))) then (
  bif inB v.2.2.2.2.2.1 (List.length v.2.2.1) then (
  (D221 N (List.getD v.2.2.1 (Int.toNat v.2.2.2.2.2.1) []) v.2.2.2.2.2.2).bind fun r3 =>
  (D222 N r3 v.2.1).bind fun r4 =>
  bif r4 then (
  bif capB (List.length (v.2.2.2.2.1 ++ [r3])) then (
  rec (v.1, v.2.1, v.2.2.1, v.2.2.2.1, (v.2.2.2.2.1 ++ [r3]), v.2.2.2.2.2.1, (wrapF .i64 (v.2.2.2.2.2.2 + (Int.ofNat 1)))))
  else none)
  else (
  rec (v.1, v.2.1, v.2.2.1, v.2.2.2.1, v.2.2.2.2.1, v.2.2.2.2.2.1, (wrapF .i64 (v.2.2.2.2.2.2 + (Int.ofNat 1))))))
  else none)
  else (
  k (v.1, v.2.1, v.2.2.1, v.2.2.2.1, v.2.2.2.2.1, v.2.2.2.2.2.1, v.2.2.2.2.2.2, (iLe v.2.2.2.2.2.2 (wrapF .i64 (v.2.2.2.1 + (Int.ofNat 1))))))
def Lp134_10 (N : Nat) : Nat → (Int × List (List Int) × List (List Int) × Int × List (List Int) × Int × Int) → Option ((Int × List (List Int) × List (List Int) × Int × List (List Int) × Int × Int × Bool)) := fun n => Nat.rec (motive := fun _ => (Int × List (List Int) × List (List Int) × Int × List (List Int) × Int × Int) → Option ((Int × List (List Int) × List (List Int) × Int × List (List Int) × Int × Int × Bool))) (fun _ => none) (fun _ ih v => L134_10 N v ih some) n
theorem L134_10_nat {ρ : Type} (N : Nat) (v : Int × List (List Int) × List (List Int) × Int × List (List Int) × Int × Int) (rec : (Int × List (List Int) × List (List Int) × Int × List (List Int) × Int × Int) → Option ((Int × List (List Int) × List (List Int) × Int × List (List Int) × Int × Int × Bool))) (k : ((Int × List (List Int) × List (List Int) × Int × List (List Int) × Int × Int × Bool)) → Option ρ) : L134_10 N v (fun v => (rec v).bind k) k = (L134_10 N v rec some).bind k := by
  unfold L134_10
  simp only [Option.bind_assoc, bif_bind, elim_bind, Option.bind_some, Option.bind_none]
def L134_7 {ρ : Type} (N : Nat) (v : Int × List (List Int) × List (List Int) × Int × List (List Int) × Int) (rec : (Int × List (List Int) × List (List Int) × Int × List (List Int) × Int) → Option ρ) (k : ((Int × List (List Int) × List (List Int) × Int × List (List Int) × Int × Bool)) → Option ρ) : Option ρ :=
  bif (iLt v.2.2.2.2.2 (Int.ofNat (List.length v.2.2.1))) then (
  (Lp134_10 N N (v.1, v.2.1, v.2.2.1, v.2.2.2.1, v.2.2.2.2.1, v.2.2.2.2.2, (Int.ofNat 1))).bind fun w5 =>
  rec (w5.1, w5.2.1, w5.2.2.1, w5.2.2.2.1, w5.2.2.2.2.1, (wrapF .i64 (w5.2.2.2.2.2.1 + (Int.ofNat 1)))))
  else (
  k (v.1, v.2.1, v.2.2.1, v.2.2.2.1, v.2.2.2.2.1, v.2.2.2.2.2, (iLt v.2.2.2.2.2 (Int.ofNat (List.length v.2.2.1)))))
def Lp134_7 (N : Nat) : Nat → (Int × List (List Int) × List (List Int) × Int × List (List Int) × Int) → Option ((Int × List (List Int) × List (List Int) × Int × List (List Int) × Int × Bool)) := fun n => Nat.rec (motive := fun _ => (Int × List (List Int) × List (List Int) × Int × List (List Int) × Int) → Option ((Int × List (List Int) × List (List Int) × Int × List (List Int) × Int × Bool))) (fun _ => none) (fun _ ih v => L134_7 N v ih some) n
theorem L134_7_nat {ρ : Type} (N : Nat) (v : Int × List (List Int) × List (List Int) × Int × List (List Int) × Int) (rec : (Int × List (List Int) × List (List Int) × Int × List (List Int) × Int) → Option ((Int × List (List Int) × List (List Int) × Int × List (List Int) × Int × Bool))) (k : ((Int × List (List Int) × List (List Int) × Int × List (List Int) × Int × Bool)) → Option ρ) : L134_7 N v (fun v => (rec v).bind k) k = (L134_7 N v rec some).bind k := by
  unfold L134_7
  simp only [Option.bind_assoc, bif_bind, elim_bind, Option.bind_some, Option.bind_none]
def L134_3 {ρ : Type} (N : Nat) (v : Int × List (List Int) × List (List Int) × Int) (rec : (Int × List (List Int) × List (List Int) × Int) → Option ρ) (k : ((Int × List (List Int) × List (List Int) × Int × Bool)) → Option ρ) : Option ρ :=
  bif (iLt v.2.2.2 v.1) then (
  (Lp134_7 N N (v.1, v.2.1, v.2.2.1, v.2.2.2, [], (Int.ofNat 0))).bind fun w6 =>
  rec (w6.1, w6.2.1, w6.2.2.2.2.1, (wrapF .i64 (w6.2.2.2.1 + (Int.ofNat 1)))))
  else (
  k (v.1, v.2.1, v.2.2.1, v.2.2.2, (iLt v.2.2.2 v.1)))
def Lp134_3 (N : Nat) : Nat → (Int × List (List Int) × List (List Int) × Int) → Option ((Int × List (List Int) × List (List Int) × Int × Bool)) := fun n => Nat.rec (motive := fun _ => (Int × List (List Int) × List (List Int) × Int) → Option ((Int × List (List Int) × List (List Int) × Int × Bool))) (fun _ => none) (fun _ ih v => L134_3 N v ih some) n
theorem L134_3_nat {ρ : Type} (N : Nat) (v : Int × List (List Int) × List (List Int) × Int) (rec : (Int × List (List Int) × List (List Int) × Int) → Option ((Int × List (List Int) × List (List Int) × Int × Bool))) (k : ((Int × List (List Int) × List (List Int) × Int × Bool)) → Option ρ) : L134_3 N v (fun v => (rec v).bind k) k = (L134_3 N v rec some).bind k := by
  unfold L134_3
  simp only [Option.bind_assoc, bif_bind, elim_bind, Option.bind_some, Option.bind_none]
def T134 {ρ : Type} (N : Nat) (a1 : Int) (a2 : List (List Int)) (k : (List (List Int)) → Option ρ) : Option ρ :=
  (Lp134_3 N N (a1, a2, [[]], (Int.ofNat 0))).bind fun w7 =>
  k w7.2.2.1
def D134 (N : Nat) (a1 : Int) (a2 : List (List Int)) : Option (List (List Int)) := T134 N a1 a2 some
theorem T134_nat {ρ : Type} (N : Nat) (a1 : Int) (a2 : List (List Int)) (k : (List (List Int)) → Option ρ) : T134 N a1 a2 k = (D134 N a1 a2).bind k := by
  unfold D134 T134
  simp only [Option.bind_assoc, bif_bind, elim_bind, Option.bind_some, Option.bind_none]
def H134 (D : Int → (List (List Int)) → Option (List (List Int))) : Hd := fun az bx k => match az, bx with
  | [c0, c1], [] => cI .i64 c0 fun y0 => cR c1 fun y1 => (D y0 y1).bind fun r => k [.ow (.rows true r)] []
  | _, _ => none
theorem fnok134 : FnOK Try.prog 134 := ⟨Try.f134, Try.func134, rfl, by decide⟩
theorem h134 {D : Int → (List (List Int)) → Option (List (List Int))} (hD : ∀ (y0 : Int), ∀ (y1 : List (List Int)), ∀ r, D y0 y1 = some r → CallSpec Try.prog E0 134 [.sc (.int .i64 y0), .sc (.rows y1)] [] [.ow (.rows true r)] []) : HSound Try.prog E0 134 (H134 D) := by
  intro az bx k r h
  unfold H134 at h
  split at h
  · rename_i c0 c1
    obtain ⟨y0, l0, h⟩ := cI_some h
    obtain ⟨y1, l1, h⟩ := cR_some h
    obtain ⟨r, hr, h⟩ := Option.bind_eq_some_iff.1 h
    exact ⟨_, _, ⟨(hD y0 y1 r hr).le ⟨l0, ⟨l1, trivial⟩⟩ trivial, fnok134, Nat.le_of_ble_eq_true rfl⟩, h⟩
  · cases h
def kp134 : Nat → List Tm.Loc := fun i => ([[.slot 0, .slot 1], [.slot 0, .slot 1, .slot 5], [.slot 0, .slot 1, .slot 5, .slot 6], [.slot 0, .slot 1, .slot 5, .slot 6, .slot 15], [.slot 0, .slot 1, .slot 5, .slot 6], [.slot 0, .slot 1, .slot 5, .slot 6, .slot 7], [.slot 0, .slot 1, .slot 5, .slot 6, .slot 7, .slot 8], [.slot 0, .slot 1, .slot 5, .slot 6, .slot 7, .slot 8, .slot 22], [.slot 0, .slot 1, .slot 5, .slot 6, .slot 7, .slot 8], [.slot 0, .slot 1, .slot 5, .slot 6, .slot 7, .slot 8, .slot 9], [.slot 0, .slot 1, .slot 5, .slot 6, .slot 7, .slot 8, .slot 9, .slot 28], [.slot 0, .slot 1, .slot 5, .slot 6, .slot 7, .slot 8, .slot 9], [.slot 0, .slot 1, .slot 5, .slot 6, .slot 7, .slot 8, .slot 9, .slot 10], [.slot 0, .slot 1, .slot 5, .slot 6, .slot 7, .slot 8, .slot 9, .slot 10, .slot 39], [.slot 0, .slot 1, .slot 5, .slot 6, .slot 7, .slot 8, .slot 9], [.slot 0, .slot 1, .slot 5, .slot 6], [.slot 4]] : List (List Tm.Loc)).getD i []
def lp134 : Nat → LpS := fun i => bif Nat.beq i 3 then ⟨[], [], [.slot 0, .slot 1, .slot 5, .slot 6]⟩ else bif Nat.beq i 7 then ⟨[], [], [.slot 0, .slot 1, .slot 5, .slot 6, .slot 7, .slot 8]⟩ else bif Nat.beq i 10 then ⟨[], [], [.slot 0, .slot 1, .slot 5, .slot 6, .slot 7, .slot 8, .slot 9]⟩ else default
def sk134_10 : List (Tm.Loc × SkV) := [(.slot 0, .int .i64), (.slot 1, .rows), (.slot 5, .rf 100000005), (.tok 100000005, .tR true), (.slot 6, .int .i64), (.slot 7, .rf 100000007), (.tok 100000007, .tR true), (.slot 8, .int .i64), (.slot 9, .int .i64)]
def kk134_10 (k : Ex → St → Option RT) : ((Int × List (List Int) × List (List Int) × Int × List (List Int) × Int × Int × Bool)) → Option RT := (fun r => k (.ext 4) [(.slot 28, .v (.sc (.bool false))), (.slot 0, .v (.sc (.int .i64 r.1))), (.slot 1, .v (.sc (.rows r.2.1))), (.slot 5, .v (.rf 100000005)), (.tok 100000005, .t 0 (.rows true r.2.2.1)), (.slot 6, .v (.sc (.int .i64 r.2.2.2.1))), (.slot 7, .v (.rf 100000007)), (.tok 100000007, .t 0 (.rows true r.2.2.2.2.1)), (.slot 8, .v (.sc (.int .i64 r.2.2.2.2.2.1))), (.slot 9, .v (.sc (.int .i64 r.2.2.2.2.2.2.1))), (.slot 28, .v (.sc (.bool r.2.2.2.2.2.2.2)))])
def LH134_10 (N : Nat) : St → (Ex → St → Option RT) → Option RT := fun s k => match mS sk134_10 s with
  | some [.I z0, .R z1, .R z2, .I z3, .R z4, .I z5, .I z6] => (Lp134_10 N N (z0, z1, z2, z3, z4, z5, z6)).bind (kk134_10 k)
  | _ => none
def sk134_7 : List (Tm.Loc × SkV) := [(.slot 0, .int .i64), (.slot 1, .rows), (.slot 5, .rf 100000005), (.tok 100000005, .tR true), (.slot 6, .int .i64), (.slot 7, .rf 100000007), (.tok 100000007, .tR true), (.slot 8, .int .i64)]
def kk134_7 (k : Ex → St → Option RT) : ((Int × List (List Int) × List (List Int) × Int × List (List Int) × Int × Bool)) → Option RT := (fun r => k (.ext 2) [(.slot 22, .v (.sc (.bool false))), (.slot 0, .v (.sc (.int .i64 r.1))), (.slot 1, .v (.sc (.rows r.2.1))), (.slot 5, .v (.rf 100000005)), (.tok 100000005, .t 0 (.rows true r.2.2.1)), (.slot 6, .v (.sc (.int .i64 r.2.2.2.1))), (.slot 7, .v (.rf 100000007)), (.tok 100000007, .t 0 (.rows true r.2.2.2.2.1)), (.slot 8, .v (.sc (.int .i64 r.2.2.2.2.2.1))), (.slot 22, .v (.sc (.bool r.2.2.2.2.2.2)))])
def LH134_7 (N : Nat) : St → (Ex → St → Option RT) → Option RT := fun s k => match mS sk134_7 s with
  | some [.I z0, .R z1, .R z2, .I z3, .R z4, .I z5] => (Lp134_7 N N (z0, z1, z2, z3, z4, z5)).bind (kk134_7 k)
  | _ => none
def sk134_3 : List (Tm.Loc × SkV) := [(.slot 0, .int .i64), (.slot 1, .rows), (.slot 5, .rf 100000005), (.tok 100000005, .tR true), (.slot 6, .int .i64)]
def kk134_3 (k : Ex → St → Option RT) : ((Int × List (List Int) × List (List Int) × Int × Bool)) → Option RT := (fun r => k (.ext 0) [(.slot 15, .v (.sc (.bool false))), (.slot 0, .v (.sc (.int .i64 r.1))), (.slot 1, .v (.sc (.rows r.2.1))), (.slot 5, .v (.rf 100000005)), (.tok 100000005, .t 0 (.rows true r.2.2.1)), (.slot 6, .v (.sc (.int .i64 r.2.2.2.1))), (.slot 15, .v (.sc (.bool r.2.2.2.2)))])
def LH134_3 (N : Nat) : St → (Ex → St → Option RT) → Option RT := fun s k => match mS sk134_3 s with
  | some [.I z0, .R z1, .R z2, .I z3] => (Lp134_3 N N (z0, z1, z2, z3)).bind (kk134_3 k)
  | _ => none
def X134 (N : Nat) : Env := { n := 46, K := K0, C := hSel 221 (H221 (D221 N)) (hSel 222 (H222 (D222 N)) (hNone)), L := fun i s k => bif Nat.beq i 3 then LH134_3 N (normL (lp134 3) s) k else bif Nat.beq i 7 then LH134_7 N (normL (lp134 7) s) k else bif Nat.beq i 10 then LH134_10 N (normL (lp134 10) s) k else none, keep := kp134, lp := lp134 }
theorem st134_10 (N : Nat) (V : St → Option RT) (k : Ex → St → Option RT) (v : Int × List (List Int) × List (List Int) × Int × List (List Int) × Int × Int) : vexec (X134 N ) (findLoop 10 (loopsIn (bodyOf Try.f134))) (bS sk134_10 [.I v.1, .R v.2.1, .R v.2.2.1, .I v.2.2.2.1, .R v.2.2.2.2.1, .I v.2.2.2.2.2.1, .I v.2.2.2.2.2.2]) (vstep V (lp134 10) k) = L134_10 N v (fun v => V (bS sk134_10 [.I v.1, .R v.2.1, .R v.2.2.1, .I v.2.2.2.1, .R v.2.2.2.2.1, .I v.2.2.2.2.2.1, .I v.2.2.2.2.2.2])) (kk134_10 k) := by kernel_rfl
theorem q134_10 (N : Nat) (k : Ex → St → Option RT) : ∀ n (v : Int × List (List Int) × List (List Int) × Int × List (List Int) × Int × Int), vround (X134 N ) (findLoop 10 (loopsIn (bodyOf Try.f134))) 10 n (bS sk134_10 [.I v.1, .R v.2.1, .R v.2.2.1, .I v.2.2.2.1, .R v.2.2.2.2.1, .I v.2.2.2.2.2.1, .I v.2.2.2.2.2.2]) k = (Lp134_10 N n v).bind (kk134_10 k) := by
  intro n
  induction n with
  | zero => intro v; rfl
  | succ n ih =>
    intro v
    rw [vround_succ]
    refine (st134_10 N _ k v).trans ?_
    simp only [ih]
    exact L134_10_nat N v (Lp134_10 N n) (kk134_10 k)
theorem lh134_10 (N : Nat) : ∀ s k r, LH134_10 N s k = some r → vround (X134 N ) (findLoop 10 (loopsIn (bodyOf Try.f134))) 10 N s k = some r := by
  intro s k r h
  unfold LH134_10 at h
  split at h
  · rename_i z0 z1 z2 z3 z4 z5 z6 hm
    rw [mS_bS hm]
    exact (q134_10 N k N (z0, z1, z2, z3, z4, z5, z6)).trans h
  · cases h
theorem st134_7 (N : Nat) (V : St → Option RT) (k : Ex → St → Option RT) (v : Int × List (List Int) × List (List Int) × Int × List (List Int) × Int) : vexec (X134 N ) (findLoop 7 (loopsIn (bodyOf Try.f134))) (bS sk134_7 [.I v.1, .R v.2.1, .R v.2.2.1, .I v.2.2.2.1, .R v.2.2.2.2.1, .I v.2.2.2.2.2]) (vstep V (lp134 7) k) = L134_7 N v (fun v => V (bS sk134_7 [.I v.1, .R v.2.1, .R v.2.2.1, .I v.2.2.2.1, .R v.2.2.2.2.1, .I v.2.2.2.2.2])) (kk134_7 k) := by kernel_rfl
theorem q134_7 (N : Nat) (k : Ex → St → Option RT) : ∀ n (v : Int × List (List Int) × List (List Int) × Int × List (List Int) × Int), vround (X134 N ) (findLoop 7 (loopsIn (bodyOf Try.f134))) 7 n (bS sk134_7 [.I v.1, .R v.2.1, .R v.2.2.1, .I v.2.2.2.1, .R v.2.2.2.2.1, .I v.2.2.2.2.2]) k = (Lp134_7 N n v).bind (kk134_7 k) := by
  intro n
  induction n with
  | zero => intro v; rfl
  | succ n ih =>
    intro v
    rw [vround_succ]
    refine (st134_7 N _ k v).trans ?_
    simp only [ih]
    exact L134_7_nat N v (Lp134_7 N n) (kk134_7 k)
theorem lh134_7 (N : Nat) : ∀ s k r, LH134_7 N s k = some r → vround (X134 N ) (findLoop 7 (loopsIn (bodyOf Try.f134))) 7 N s k = some r := by
  intro s k r h
  unfold LH134_7 at h
  split at h
  · rename_i z0 z1 z2 z3 z4 z5 hm
    rw [mS_bS hm]
    exact (q134_7 N k N (z0, z1, z2, z3, z4, z5)).trans h
  · cases h
theorem st134_3 (N : Nat) (V : St → Option RT) (k : Ex → St → Option RT) (v : Int × List (List Int) × List (List Int) × Int) : vexec (X134 N ) (findLoop 3 (loopsIn (bodyOf Try.f134))) (bS sk134_3 [.I v.1, .R v.2.1, .R v.2.2.1, .I v.2.2.2]) (vstep V (lp134 3) k) = L134_3 N v (fun v => V (bS sk134_3 [.I v.1, .R v.2.1, .R v.2.2.1, .I v.2.2.2])) (kk134_3 k) := by kernel_rfl
theorem q134_3 (N : Nat) (k : Ex → St → Option RT) : ∀ n (v : Int × List (List Int) × List (List Int) × Int), vround (X134 N ) (findLoop 3 (loopsIn (bodyOf Try.f134))) 3 n (bS sk134_3 [.I v.1, .R v.2.1, .R v.2.2.1, .I v.2.2.2]) k = (Lp134_3 N n v).bind (kk134_3 k) := by
  intro n
  induction n with
  | zero => intro v; rfl
  | succ n ih =>
    intro v
    rw [vround_succ]
    refine (st134_3 N _ k v).trans ?_
    simp only [ih]
    exact L134_3_nat N v (Lp134_3 N n) (kk134_3 k)
theorem lh134_3 (N : Nat) : ∀ s k r, LH134_3 N s k = some r → vround (X134 N ) (findLoop 3 (loopsIn (bodyOf Try.f134))) 3 N s k = some r := by
  intro s k r h
  unfold LH134_3 at h
  split at h
  · rename_i z0 z1 z2 z3 hm
    rw [mS_bS hm]
    exact (q134_3 N k N (z0, z1, z2, z3)).trans h
  · cases h
theorem b134 (N : Nat) (a1 : Int) (a2 : List (List Int)) : vbody (X134 N ) Try.f134 (bodyOf Try.f134) [.sc (.int .i64 a1), .sc (.rows a2)] [] (fun rs bx => some ⟨rs, bx⟩) = T134 N a1 a2 (fun r => some ⟨[.ow (.rows true r)], []⟩) := by kernel_rfl
theorem s134 (N : Nat) (a1 : Int) (a2 : List (List Int)) (r : List (List Int)) (h : D134 N a1 a2 = some r) : CallSpec Try.prog E0 134 [.sc (.int .i64 a1), .sc (.rows a2)] [] [.ow (.rows true r)] [] := by
  refine body_ok (X := X134 N ) (CR := CRG Try.prog E0) Try.func134 (code := bodyOf Try.f134) (by kernel_rfl) rfl (by decide) mixed0 tyok0 rfl contracts_ok (cs_sel (h221 (s221 N)) (cs_sel (h222 (s222 N)) (cs_none))) (LoopsBy.of fun p hp => ?_) (by kernel_rfl) (Nat.le_of_ble_eq_true (by kernel_rfl)) ?_
  · rw [show loopsIn (bodyOf Try.f134) = [(3, findLoop 3 (loopsIn (bodyOf Try.f134))), (7, findLoop 7 (loopsIn (bodyOf Try.f134))), (10, findLoop 10 (loopsIn (bodyOf Try.f134)))] from by kernel_rfl] at hp
    simp only [List.mem_cons, List.not_mem_nil, or_false] at hp
    rcases hp with rfl | rfl | rfl
    · exact vround_of (fun s k => rfl) (by kernel_rfl) (lh134_3 N)
    · exact vround_of (fun s k => rfl) (by kernel_rfl) (lh134_7 N)
    · exact vround_of (fun s k => rfl) (by kernel_rfl) (lh134_10 N)
  · rw [b134, T134_nat, h]; rfl

/-! 209: loop.example/g01286/spec.l2Ways -/
def L209_3 {ρ : Type} (N : Nat) (v : Int × Int × Int) (rec : (Int × Int × Int) → Option ρ) (k : ((Int × Int × Int × Bool)) → Option ρ) : Option ρ :=
  bif (iLe v.2.2 v.1) then (
  rec (v.1, (wrapF .i64 (v.2.1 * v.2.2)), (wrapF .i64 (v.2.2 + (Int.ofNat 1)))))
  else (
  k (v.1, v.2.1, v.2.2, (iLe v.2.2 v.1)))
def Lp209_3 (N : Nat) : Nat → (Int × Int × Int) → Option ((Int × Int × Int × Bool)) := fun n => Nat.rec (motive := fun _ => (Int × Int × Int) → Option ((Int × Int × Int × Bool))) (fun _ => none) (fun _ ih v => L209_3 N v ih some) n
theorem L209_3_nat {ρ : Type} (N : Nat) (v : Int × Int × Int) (rec : (Int × Int × Int) → Option ((Int × Int × Int × Bool))) (k : ((Int × Int × Int × Bool)) → Option ρ) : L209_3 N v (fun v => (rec v).bind k) k = (L209_3 N v rec some).bind k := by
  unfold L209_3
  simp only [Option.bind_assoc, bif_bind, elim_bind, Option.bind_some, Option.bind_none]
def T209 {ρ : Type} (N : Nat) (a1 : Int) (k : Int → Option ρ) : Option ρ :=
  (Lp209_3 N N (a1, (Int.ofNat 1), (Int.ofNat 2))).bind fun w2 =>
  k w2.2.1
def D209 (N : Nat) (a1 : Int) : Option (Int) := T209 N a1 some
theorem T209_nat {ρ : Type} (N : Nat) (a1 : Int) (k : Int → Option ρ) : T209 N a1 k = (D209 N a1).bind k := by
  unfold D209 T209
  simp only [Option.bind_assoc, bif_bind, elim_bind, Option.bind_some, Option.bind_none]
def H209 (D : Int → Option (Int)) : Hd := fun az bx k => match az, bx with
  | [c0], [] => cI .i64 c0 fun y0 => (D y0).bind fun r => k [.sc (.int .i64 r)] []
  | _, _ => none
theorem fnok209 : FnOK Try.prog 209 := ⟨Try.f209, Try.func209, rfl, by decide⟩
theorem h209 {D : Int → Option (Int)} (hD : ∀ (y0 : Int), ∀ r, D y0 = some r → CallSpec Try.prog E0 209 [.sc (.int .i64 y0)] [] [.sc (.int .i64 r)] []) : HSound Try.prog E0 209 (H209 D) := by
  intro az bx k r h
  unfold H209 at h
  split at h
  · rename_i c0
    obtain ⟨y0, l0, h⟩ := cI_some h
    obtain ⟨r, hr, h⟩ := Option.bind_eq_some_iff.1 h
    exact ⟨_, _, ⟨(hD y0 r hr).le ⟨l0, trivial⟩ trivial, fnok209, Nat.le_of_ble_eq_true rfl⟩, h⟩
  · cases h
def kp209 : Nat → List Tm.Loc := fun i => ([[.slot 0], [.slot 0, .slot 3], [.slot 0, .slot 3, .slot 4], [.slot 0, .slot 3, .slot 4, .slot 7], [.slot 0, .slot 3, .slot 4], [.slot 0, .slot 3, .slot 4], [.slot 2]] : List (List Tm.Loc)).getD i []
def lp209 : Nat → LpS := fun i => bif Nat.beq i 3 then ⟨[], [], [.slot 0, .slot 3, .slot 4]⟩ else default
def sk209_3 : List (Tm.Loc × SkV) := [(.slot 0, .int .i64), (.slot 3, .int .i64), (.slot 4, .int .i64)]
def kk209_3 (k : Ex → St → Option RT) : ((Int × Int × Int × Bool)) → Option RT := (fun r => k (.ext 0) [(.slot 7, .v (.sc (.bool false))), (.slot 0, .v (.sc (.int .i64 r.1))), (.slot 3, .v (.sc (.int .i64 r.2.1))), (.slot 4, .v (.sc (.int .i64 r.2.2.1))), (.slot 7, .v (.sc (.bool r.2.2.2)))])
def LH209_3 (N : Nat) : St → (Ex → St → Option RT) → Option RT := fun s k => match mS sk209_3 s with
  | some [.I z0, .I z1, .I z2] => (Lp209_3 N N (z0, z1, z2)).bind (kk209_3 k)
  | _ => none
def X209 (N : Nat) : Env := { n := 14, K := K0, C := hNone, L := fun i s k => bif Nat.beq i 3 then LH209_3 N (normL (lp209 3) s) k else none, keep := kp209, lp := lp209 }
theorem st209_3 (N : Nat) (V : St → Option RT) (k : Ex → St → Option RT) (v : Int × Int × Int) : vexec (X209 N ) (findLoop 3 (loopsIn (bodyOf Try.f209))) (bS sk209_3 [.I v.1, .I v.2.1, .I v.2.2]) (vstep V (lp209 3) k) = L209_3 N v (fun v => V (bS sk209_3 [.I v.1, .I v.2.1, .I v.2.2])) (kk209_3 k) := by kernel_rfl
theorem q209_3 (N : Nat) (k : Ex → St → Option RT) : ∀ n (v : Int × Int × Int), vround (X209 N ) (findLoop 3 (loopsIn (bodyOf Try.f209))) 3 n (bS sk209_3 [.I v.1, .I v.2.1, .I v.2.2]) k = (Lp209_3 N n v).bind (kk209_3 k) := by
  intro n
  induction n with
  | zero => intro v; rfl
  | succ n ih =>
    intro v
    rw [vround_succ]
    refine (st209_3 N _ k v).trans ?_
    simp only [ih]
    exact L209_3_nat N v (Lp209_3 N n) (kk209_3 k)
theorem lh209_3 (N : Nat) : ∀ s k r, LH209_3 N s k = some r → vround (X209 N ) (findLoop 3 (loopsIn (bodyOf Try.f209))) 3 N s k = some r := by
  intro s k r h
  unfold LH209_3 at h
  split at h
  · rename_i z0 z1 z2 hm
    rw [mS_bS hm]
    exact (q209_3 N k N (z0, z1, z2)).trans h
  · cases h
theorem b209 (N : Nat) (a1 : Int) : vbody (X209 N ) Try.f209 (bodyOf Try.f209) [.sc (.int .i64 a1)] [] (fun rs bx => some ⟨rs, bx⟩) = T209 N a1 (fun r => some ⟨[.sc (.int .i64 r)], []⟩) := by kernel_rfl
theorem s209 (N : Nat) (a1 : Int) (r : Int) (h : D209 N a1 = some r) : CallSpec Try.prog E0 209 [.sc (.int .i64 a1)] [] [.sc (.int .i64 r)] [] := by
  refine body_ok (X := X209 N ) (CR := CRG Try.prog E0) Try.func209 (code := bodyOf Try.f209) (by kernel_rfl) rfl (by decide) mixed0 tyok0 rfl contracts_ok (cs_none) (LoopsBy.of fun p hp => ?_) (by kernel_rfl) (Nat.le_of_ble_eq_true (by kernel_rfl)) ?_
  · rw [show loopsIn (bodyOf Try.f209) = [(3, findLoop 3 (loopsIn (bodyOf Try.f209)))] from by kernel_rfl] at hp
    simp only [List.mem_cons, List.not_mem_nil, or_false] at hp
    subst hp
    exact vround_of (fun s k => rfl) (by kernel_rfl) (lh209_3 N)
  · rw [b209, T209_nat, h]; rfl

/-! 152: loop.example/g01286/spec.l2Sorted -/
def L152_3 {ρ : Type} (N : Nat) (v : Int × List Int × Int) (rec : (Int × List Int × Int) → Option ρ) (k : ((Int × List Int × Int × Bool)) → Option ρ) : Option ρ :=
  bif (iLe v.2.2 v.1) then (
  bif capB (List.length (v.2.1 ++ [v.2.2])) then (
  rec (v.1, (v.2.1 ++ [v.2.2]), (wrapF .i64 (v.2.2 + (Int.ofNat 1)))))
  else none)
  else (
  k (v.1, v.2.1, v.2.2, (iLe v.2.2 v.1)))
def Lp152_3 (N : Nat) : Nat → (Int × List Int × Int) → Option ((Int × List Int × Int × Bool)) := fun n => Nat.rec (motive := fun _ => (Int × List Int × Int) → Option ((Int × List Int × Int × Bool))) (fun _ => none) (fun _ ih v => L152_3 N v ih some) n
theorem L152_3_nat {ρ : Type} (N : Nat) (v : Int × List Int × Int) (rec : (Int × List Int × Int) → Option ((Int × List Int × Int × Bool))) (k : ((Int × List Int × Int × Bool)) → Option ρ) : L152_3 N v (fun v => (rec v).bind k) k = (L152_3 N v rec some).bind k := by
  unfold L152_3
  simp only [Option.bind_assoc, bif_bind, elim_bind, Option.bind_some, Option.bind_none]
def T152 {ρ : Type} (N : Nat) (a1 : Int) (k : (List Int) → Option ρ) : Option ρ :=
  (Lp152_3 N N (a1, [], (Int.ofNat 1))).bind fun w2 =>
  k w2.2.1
def D152 (N : Nat) (a1 : Int) : Option (List Int) := T152 N a1 some
theorem T152_nat {ρ : Type} (N : Nat) (a1 : Int) (k : (List Int) → Option ρ) : T152 N a1 k = (D152 N a1).bind k := by
  unfold D152 T152
  simp only [Option.bind_assoc, bif_bind, elim_bind, Option.bind_some, Option.bind_none]
def H152 (D : Int → Option (List Int)) : Hd := fun az bx k => match az, bx with
  | [c0], [] => cI .i64 c0 fun y0 => (D y0).bind fun r => k [.ow (.ints .i64 r)] []
  | _, _ => none
theorem fnok152 : FnOK Try.prog 152 := ⟨Try.f152, Try.func152, rfl, by decide⟩
theorem h152 {D : Int → Option (List Int)} (hD : ∀ (y0 : Int), ∀ r, D y0 = some r → CallSpec Try.prog E0 152 [.sc (.int .i64 y0)] [] [.ow (.ints .i64 r)] []) : HSound Try.prog E0 152 (H152 D) := by
  intro az bx k r h
  unfold H152 at h
  split at h
  · rename_i c0
    obtain ⟨y0, l0, h⟩ := cI_some h
    obtain ⟨r, hr, h⟩ := Option.bind_eq_some_iff.1 h
    exact ⟨_, _, ⟨(hD y0 r hr).le ⟨l0, trivial⟩ trivial, fnok152, Nat.le_of_ble_eq_true rfl⟩, h⟩
  · cases h
def kp152 : Nat → List Tm.Loc := fun i => ([[.slot 0], [.slot 0, .slot 3], [.slot 0, .slot 3, .slot 4], [.slot 0, .slot 3, .slot 4, .slot 8], [.slot 0, .slot 3, .slot 4], [.slot 0, .slot 3, .slot 4], [.slot 2]] : List (List Tm.Loc)).getD i []
def lp152 : Nat → LpS := fun i => bif Nat.beq i 3 then ⟨[], [], [.slot 0, .slot 3, .slot 4]⟩ else default
def sk152_3 : List (Tm.Loc × SkV) := [(.slot 0, .int .i64), (.slot 3, .rf 100000003), (.tok 100000003, .tI .i64), (.slot 4, .int .i64)]
def kk152_3 (k : Ex → St → Option RT) : ((Int × List Int × Int × Bool)) → Option RT := (fun r => k (.ext 0) [(.slot 8, .v (.sc (.bool false))), (.slot 0, .v (.sc (.int .i64 r.1))), (.slot 3, .v (.rf 100000003)), (.tok 100000003, .t 0 (.ints .i64 r.2.1)), (.slot 4, .v (.sc (.int .i64 r.2.2.1))), (.slot 8, .v (.sc (.bool r.2.2.2)))])
def LH152_3 (N : Nat) : St → (Ex → St → Option RT) → Option RT := fun s k => match mS sk152_3 s with
  | some [.I z0, .L z1, .I z2] => (Lp152_3 N N (z0, z1, z2)).bind (kk152_3 k)
  | _ => none
def X152 (N : Nat) : Env := { n := 16, K := K0, C := hNone, L := fun i s k => bif Nat.beq i 3 then LH152_3 N (normL (lp152 3) s) k else none, keep := kp152, lp := lp152 }
theorem st152_3 (N : Nat) (V : St → Option RT) (k : Ex → St → Option RT) (v : Int × List Int × Int) : vexec (X152 N ) (findLoop 3 (loopsIn (bodyOf Try.f152))) (bS sk152_3 [.I v.1, .L v.2.1, .I v.2.2]) (vstep V (lp152 3) k) = L152_3 N v (fun v => V (bS sk152_3 [.I v.1, .L v.2.1, .I v.2.2])) (kk152_3 k) := by kernel_rfl
theorem q152_3 (N : Nat) (k : Ex → St → Option RT) : ∀ n (v : Int × List Int × Int), vround (X152 N ) (findLoop 3 (loopsIn (bodyOf Try.f152))) 3 n (bS sk152_3 [.I v.1, .L v.2.1, .I v.2.2]) k = (Lp152_3 N n v).bind (kk152_3 k) := by
  intro n
  induction n with
  | zero => intro v; rfl
  | succ n ih =>
    intro v
    rw [vround_succ]
    refine (st152_3 N _ k v).trans ?_
    simp only [ih]
    exact L152_3_nat N v (Lp152_3 N n) (kk152_3 k)
theorem lh152_3 (N : Nat) : ∀ s k r, LH152_3 N s k = some r → vround (X152 N ) (findLoop 3 (loopsIn (bodyOf Try.f152))) 3 N s k = some r := by
  intro s k r h
  unfold LH152_3 at h
  split at h
  · rename_i z0 z1 z2 hm
    rw [mS_bS hm]
    exact (q152_3 N k N (z0, z1, z2)).trans h
  · cases h
theorem b152 (N : Nat) (a1 : Int) : vbody (X152 N ) Try.f152 (bodyOf Try.f152) [.sc (.int .i64 a1)] [] (fun rs bx => some ⟨rs, bx⟩) = T152 N a1 (fun r => some ⟨[.ow (.ints .i64 r)], []⟩) := by kernel_rfl
theorem s152 (N : Nat) (a1 : Int) (r : List Int) (h : D152 N a1 = some r) : CallSpec Try.prog E0 152 [.sc (.int .i64 a1)] [] [.ow (.ints .i64 r)] [] := by
  refine body_ok (X := X152 N ) (CR := CRG Try.prog E0) Try.func152 (code := bodyOf Try.f152) (by kernel_rfl) rfl (by decide) mixed0 tyok0 rfl contracts_ok (cs_none) (LoopsBy.of fun p hp => ?_) (by kernel_rfl) (Nat.le_of_ble_eq_true (by kernel_rfl)) ?_
  · rw [show loopsIn (bodyOf Try.f152) = [(3, findLoop 3 (loopsIn (bodyOf Try.f152)))] from by kernel_rfl] at hp
    simp only [List.mem_cons, List.not_mem_nil, or_false] at hp
    subst hp
    exact vround_of (fun s k => rfl) (by kernel_rfl) (lh152_3 N)
  · rw [b152, T152_nat, h]; rfl

/-! 210: loop.example/g01286/spec.l2At -/
def L210_2 {ρ : Type} (N : Nat) (v : Int × List Int × List Int) (rec : (Int × List Int × List Int) → Option ρ) (k : ((Int × List Int × List Int × Bool)) → Option ρ) : Option ρ :=
  bif (iLt (Int.ofNat 0) (Int.ofNat (List.length v.2.2))) then (
  (D209 N (wrapF .i64 ((Int.ofNat (List.length v.2.2)) - (Int.ofNat 1)))).bind fun r4 =>
  bif (!(iEq r4 (Int.ofNat 0))) then (
  bif inB (wrapF .i64 (Int.tdiv v.1 r4)) (List.length v.2.2) then (
  bif capB (List.length (v.2.1 ++ [(List.getD v.2.2 (Int.toNat (wrapF .i64 (Int.tdiv v.1 r4))) (Int.ofNat 0))])) then (
  bif (!(iEq r4 (Int.ofNat 0))) then (
  bif cutB (Int.ofNat 0) (wrapF .i64 (Int.tdiv v.1 r4)) (List.length v.2.2) then (
  (D150 N (List.take ((Int.toNat (wrapF .i64 (Int.tdiv v.1 r4))) - 0) (List.drop 0 v.2.2))).bind fun r5 =>
  bif (!(iEq r4 (Int.ofNat 0))) then (
  bif cutB (wrapF .i64 ((wrapF .i64 (Int.tdiv v.1 r4)) + (Int.ofNat 1))) (Int.ofNat (List.length v.2.2)) (List.length v.2.2) then (
  bif capB (List.length (r5 ++ (List.take ((List.length v.2.2) - (Int.toNat (wrapF .i64 ((wrapF .i64 (Int.tdiv v.1 r4)) + (Int.ofNat 1))))) (List.drop (Int.toNat (wrapF .i64 ((wrapF .i64 (Int.tdiv v.1 r4)) + (Int.ofNat 1)))) v.2.2)))) then (
  bif (!(iEq r4 (Int.ofNat 0))) then (
  rec ((Int.tmod v.1 r4), (v.2.1 ++ [(List.getD v.2.2 (Int.toNat (wrapF .i64 (Int.tdiv v.1 r4))) (Int.ofNat 0))]), (r5 ++ (List.take ((List.length v.2.2) - (Int.toNat (wrapF .i64 ((wrapF .i64 (Int.tdiv v.1 r4)) + (Int.ofNat 1))))) (List.drop (Int.toNat (wrapF .i64 ((wrapF .i64 (Int.tdiv v.1 r4)) + (Int.ofNat 1)))) v.2.2)))))
  else none)
  else none)
  else none)
  else none)
  else none)
  else none)
  else none)
  else none)
  else none)
  else (
  k (v.1, v.2.1, v.2.2, (iLt (Int.ofNat 0) (Int.ofNat (List.length v.2.2)))))
def Lp210_2 (N : Nat) : Nat → (Int × List Int × List Int) → Option ((Int × List Int × List Int × Bool)) := fun n => Nat.rec (motive := fun _ => (Int × List Int × List Int) → Option ((Int × List Int × List Int × Bool))) (fun _ => none) (fun _ ih v => L210_2 N v ih some) n
theorem L210_2_nat {ρ : Type} (N : Nat) (v : Int × List Int × List Int) (rec : (Int × List Int × List Int) → Option ((Int × List Int × List Int × Bool))) (k : ((Int × List Int × List Int × Bool)) → Option ρ) : L210_2 N v (fun v => (rec v).bind k) k = (L210_2 N v rec some).bind k := by
  unfold L210_2
  simp only [Option.bind_assoc, bif_bind, elim_bind, Option.bind_some, Option.bind_none]
def T210 {ρ : Type} (N : Nat) (a1 : Int) (a2 : Int) (k : (List Int) → Option ρ) : Option ρ :=
  (D152 N a1).bind fun r3 =>
  (Lp210_2 N N (a2, [], r3)).bind fun w6 =>
  k w6.2.1
def D210 (N : Nat) (a1 : Int) (a2 : Int) : Option (List Int) := T210 N a1 a2 some
theorem T210_nat {ρ : Type} (N : Nat) (a1 : Int) (a2 : Int) (k : (List Int) → Option ρ) : T210 N a1 a2 k = (D210 N a1 a2).bind k := by
  unfold D210 T210
  simp only [Option.bind_assoc, bif_bind, elim_bind, Option.bind_some, Option.bind_none]
def H210 (D : Int → Int → Option (List Int)) : Hd := fun az bx k => match az, bx with
  | [c0, c1], [] => cI .i64 c0 fun y0 => cI .i64 c1 fun y1 => (D y0 y1).bind fun r => k [.ow (.ints .i64 r)] []
  | _, _ => none
theorem fnok210 : FnOK Try.prog 210 := ⟨Try.f210, Try.func210, rfl, by decide⟩
theorem h210 {D : Int → Int → Option (List Int)} (hD : ∀ (y0 : Int), ∀ (y1 : Int), ∀ r, D y0 y1 = some r → CallSpec Try.prog E0 210 [.sc (.int .i64 y0), .sc (.int .i64 y1)] [] [.ow (.ints .i64 r)] []) : HSound Try.prog E0 210 (H210 D) := by
  intro az bx k r h
  unfold H210 at h
  split at h
  · rename_i c0 c1
    obtain ⟨y0, l0, h⟩ := cI_some h
    obtain ⟨y1, l1, h⟩ := cI_some h
    obtain ⟨r, hr, h⟩ := Option.bind_eq_some_iff.1 h
    exact ⟨_, _, ⟨(hD y0 y1 r hr).le ⟨l0, ⟨l1, trivial⟩⟩ trivial, fnok210, Nat.le_of_ble_eq_true rfl⟩, h⟩
  · cases h
def kp210 : Nat → List Tm.Loc := fun i => ([[.slot 0, .slot 1], [.slot 1, .slot 5, .slot 6], [.slot 1, .slot 5, .slot 6, .slot 13], [.slot 1, .slot 5, .slot 6, .slot 7], [.slot 1, .slot 5, .slot 6, .slot 7], [.slot 1, .slot 5, .slot 6, .slot 7], [.slot 1, .slot 5, .slot 6], [.slot 4]] : List (List Tm.Loc)).getD i []
def lp210 : Nat → LpS := fun i => bif Nat.beq i 2 then ⟨[], [], [.slot 1, .slot 5, .slot 6]⟩ else default
def sk210_2 : List (Tm.Loc × SkV) := [(.slot 1, .int .i64), (.slot 5, .rf 100000005), (.tok 100000005, .tI .i64), (.slot 6, .rf 100000006), (.tok 100000006, .tI .i64)]
def kk210_2 (k : Ex → St → Option RT) : ((Int × List Int × List Int × Bool)) → Option RT := (fun r => k (.ext 0) [(.slot 13, .v (.sc (.bool false))), (.slot 1, .v (.sc (.int .i64 r.1))), (.slot 5, .v (.rf 100000005)), (.tok 100000005, .t 0 (.ints .i64 r.2.1)), (.slot 6, .v (.rf 100000006)), (.tok 100000006, .t 0 (.ints .i64 r.2.2.1)), (.slot 13, .v (.sc (.bool r.2.2.2)))])
def LH210_2 (N : Nat) : St → (Ex → St → Option RT) → Option RT := fun s k => match mS sk210_2 s with
  | some [.I z0, .L z1, .L z2] => (Lp210_2 N N (z0, z1, z2)).bind (kk210_2 k)
  | _ => none
def X210 (N : Nat) : Env := { n := 44, K := K0, C := hSel 152 (H152 (D152 N)) (hSel 209 (H209 (D209 N)) (hSel 150 (H150 (D150 N)) (hNone))), L := fun i s k => bif Nat.beq i 2 then LH210_2 N (normL (lp210 2) s) k else none, keep := kp210, lp := lp210 }
theorem st210_2 (N : Nat) (V : St → Option RT) (k : Ex → St → Option RT) (v : Int × List Int × List Int) : vexec (X210 N ) (findLoop 2 (loopsIn (bodyOf Try.f210))) (bS sk210_2 [.I v.1, .L v.2.1, .L v.2.2]) (vstep V (lp210 2) k) = L210_2 N v (fun v => V (bS sk210_2 [.I v.1, .L v.2.1, .L v.2.2])) (kk210_2 k) := by kernel_rfl
theorem q210_2 (N : Nat) (k : Ex → St → Option RT) : ∀ n (v : Int × List Int × List Int), vround (X210 N ) (findLoop 2 (loopsIn (bodyOf Try.f210))) 2 n (bS sk210_2 [.I v.1, .L v.2.1, .L v.2.2]) k = (Lp210_2 N n v).bind (kk210_2 k) := by
  intro n
  induction n with
  | zero => intro v; rfl
  | succ n ih =>
    intro v
    rw [vround_succ]
    refine (st210_2 N _ k v).trans ?_
    simp only [ih]
    exact L210_2_nat N v (Lp210_2 N n) (kk210_2 k)
theorem lh210_2 (N : Nat) : ∀ s k r, LH210_2 N s k = some r → vround (X210 N ) (findLoop 2 (loopsIn (bodyOf Try.f210))) 2 N s k = some r := by
  intro s k r h
  unfold LH210_2 at h
  split at h
  · rename_i z0 z1 z2 hm
    rw [mS_bS hm]
    exact (q210_2 N k N (z0, z1, z2)).trans h
  · cases h
theorem b210 (N : Nat) (a1 : Int) (a2 : Int) : vbody (X210 N ) Try.f210 (bodyOf Try.f210) [.sc (.int .i64 a1), .sc (.int .i64 a2)] [] (fun rs bx => some ⟨rs, bx⟩) = T210 N a1 a2 (fun r => some ⟨[.ow (.ints .i64 r)], []⟩) := by kernel_rfl
theorem s210 (N : Nat) (a1 : Int) (a2 : Int) (r : List Int) (h : D210 N a1 a2 = some r) : CallSpec Try.prog E0 210 [.sc (.int .i64 a1), .sc (.int .i64 a2)] [] [.ow (.ints .i64 r)] [] := by
  refine body_ok (X := X210 N ) (CR := CRG Try.prog E0) Try.func210 (code := bodyOf Try.f210) (by kernel_rfl) rfl (by decide) mixed0 tyok0 rfl contracts_ok (cs_sel (h152 (s152 N)) (cs_sel (h209 (s209 N)) (cs_sel (h150 (s150 N)) (cs_none)))) (LoopsBy.of fun p hp => ?_) (by kernel_rfl) (Nat.le_of_ble_eq_true (by kernel_rfl)) ?_
  · rw [show loopsIn (bodyOf Try.f210) = [(2, findLoop 2 (loopsIn (bodyOf Try.f210)))] from by kernel_rfl] at hp
    simp only [List.mem_cons, List.not_mem_nil, or_false] at hp
    subst hp
    exact vround_of (fun s k => rfl) (by kernel_rfl) (lh210_2 N)
  · rw [b210, T210_nat, h]; rfl

/-! 108: loop.example/g01286/spec.l2Orders -/
def L108_3 {ρ : Type} (N : Nat) (v : Int × List (List Int) × Int) (rec : (Int × List (List Int) × Int) → Option ρ) (k : ((Int × List (List Int) × Int × Bool)) → Option ρ) : Option ρ :=
  (D209 N v.1).bind fun r2 =>
  bif (iLt v.2.2 r2) then (
  (D210 N v.1 v.2.2).bind fun r3 =>
  bif capB (List.length (v.2.1 ++ [r3])) then (
  rec (v.1, (v.2.1 ++ [r3]), (wrapF .i64 (v.2.2 + (Int.ofNat 1)))))
  else none)
  else (
  k (v.1, v.2.1, v.2.2, (iLt v.2.2 r2)))
def Lp108_3 (N : Nat) : Nat → (Int × List (List Int) × Int) → Option ((Int × List (List Int) × Int × Bool)) := fun n => Nat.rec (motive := fun _ => (Int × List (List Int) × Int) → Option ((Int × List (List Int) × Int × Bool))) (fun _ => none) (fun _ ih v => L108_3 N v ih some) n
theorem L108_3_nat {ρ : Type} (N : Nat) (v : Int × List (List Int) × Int) (rec : (Int × List (List Int) × Int) → Option ((Int × List (List Int) × Int × Bool))) (k : ((Int × List (List Int) × Int × Bool)) → Option ρ) : L108_3 N v (fun v => (rec v).bind k) k = (L108_3 N v rec some).bind k := by
  unfold L108_3
  simp only [Option.bind_assoc, bif_bind, elim_bind, Option.bind_some, Option.bind_none]
def T108 {ρ : Type} (N : Nat) (a1 : Int) (k : (List (List Int)) → Option ρ) : Option ρ :=
  (Lp108_3 N N (a1, [], (Int.ofNat 0))).bind fun w4 =>
  k w4.2.1
def D108 (N : Nat) (a1 : Int) : Option (List (List Int)) := T108 N a1 some
theorem T108_nat {ρ : Type} (N : Nat) (a1 : Int) (k : (List (List Int)) → Option ρ) : T108 N a1 k = (D108 N a1).bind k := by
  unfold D108 T108
  simp only [Option.bind_assoc, bif_bind, elim_bind, Option.bind_some, Option.bind_none]
def H108 (D : Int → Option (List (List Int))) : Hd := fun az bx k => match az, bx with
  | [c0], [] => cI .i64 c0 fun y0 => (D y0).bind fun r => k [.ow (.rows true r)] []
  | _, _ => none
theorem fnok108 : FnOK Try.prog 108 := ⟨Try.f108, Try.func108, rfl, by decide⟩
theorem h108 {D : Int → Option (List (List Int))} (hD : ∀ (y0 : Int), ∀ r, D y0 = some r → CallSpec Try.prog E0 108 [.sc (.int .i64 y0)] [] [.ow (.rows true r)] []) : HSound Try.prog E0 108 (H108 D) := by
  intro az bx k r h
  unfold H108 at h
  split at h
  · rename_i c0
    obtain ⟨y0, l0, h⟩ := cI_some h
    obtain ⟨r, hr, h⟩ := Option.bind_eq_some_iff.1 h
    exact ⟨_, _, ⟨(hD y0 r hr).le ⟨l0, trivial⟩ trivial, fnok108, Nat.le_of_ble_eq_true rfl⟩, h⟩
  · cases h
def kp108 : Nat → List Tm.Loc := fun i => ([[.slot 0], [.slot 0, .slot 3], [.slot 0, .slot 3, .slot 4], [.slot 0, .slot 3, .slot 4, .slot 9], [.slot 0, .slot 3, .slot 4], [.slot 0, .slot 3, .slot 4], [.slot 2]] : List (List Tm.Loc)).getD i []
def lp108 : Nat → LpS := fun i => bif Nat.beq i 3 then ⟨[], [], [.slot 0, .slot 3, .slot 4]⟩ else default
def sk108_3 : List (Tm.Loc × SkV) := [(.slot 0, .int .i64), (.slot 3, .rf 100000003), (.tok 100000003, .tR true), (.slot 4, .int .i64)]
def kk108_3 (k : Ex → St → Option RT) : ((Int × List (List Int) × Int × Bool)) → Option RT := (fun r => k (.ext 0) [(.slot 9, .v (.sc (.bool false))), (.slot 0, .v (.sc (.int .i64 r.1))), (.slot 3, .v (.rf 100000003)), (.tok 100000003, .t 0 (.rows true r.2.1)), (.slot 4, .v (.sc (.int .i64 r.2.2.1))), (.slot 9, .v (.sc (.bool r.2.2.2)))])
def LH108_3 (N : Nat) : St → (Ex → St → Option RT) → Option RT := fun s k => match mS sk108_3 s with
  | some [.I z0, .R z1, .I z2] => (Lp108_3 N N (z0, z1, z2)).bind (kk108_3 k)
  | _ => none
def X108 (N : Nat) : Env := { n := 19, K := K0, C := hSel 209 (H209 (D209 N)) (hSel 210 (H210 (D210 N)) (hNone)), L := fun i s k => bif Nat.beq i 3 then LH108_3 N (normL (lp108 3) s) k else none, keep := kp108, lp := lp108 }
theorem st108_3 (N : Nat) (V : St → Option RT) (k : Ex → St → Option RT) (v : Int × List (List Int) × Int) : vexec (X108 N ) (findLoop 3 (loopsIn (bodyOf Try.f108))) (bS sk108_3 [.I v.1, .R v.2.1, .I v.2.2]) (vstep V (lp108 3) k) = L108_3 N v (fun v => V (bS sk108_3 [.I v.1, .R v.2.1, .I v.2.2])) (kk108_3 k) := by kernel_rfl
theorem q108_3 (N : Nat) (k : Ex → St → Option RT) : ∀ n (v : Int × List (List Int) × Int), vround (X108 N ) (findLoop 3 (loopsIn (bodyOf Try.f108))) 3 n (bS sk108_3 [.I v.1, .R v.2.1, .I v.2.2]) k = (Lp108_3 N n v).bind (kk108_3 k) := by
  intro n
  induction n with
  | zero => intro v; rfl
  | succ n ih =>
    intro v
    rw [vround_succ]
    refine (st108_3 N _ k v).trans ?_
    simp only [ih]
    exact L108_3_nat N v (Lp108_3 N n) (kk108_3 k)
theorem lh108_3 (N : Nat) : ∀ s k r, LH108_3 N s k = some r → vround (X108 N ) (findLoop 3 (loopsIn (bodyOf Try.f108))) 3 N s k = some r := by
  intro s k r h
  unfold LH108_3 at h
  split at h
  · rename_i z0 z1 z2 hm
    rw [mS_bS hm]
    exact (q108_3 N k N (z0, z1, z2)).trans h
  · cases h
theorem b108 (N : Nat) (a1 : Int) : vbody (X108 N ) Try.f108 (bodyOf Try.f108) [.sc (.int .i64 a1)] [] (fun rs bx => some ⟨rs, bx⟩) = T108 N a1 (fun r => some ⟨[.ow (.rows true r)], []⟩) := by kernel_rfl
theorem s108 (N : Nat) (a1 : Int) (r : List (List Int)) (h : D108 N a1 = some r) : CallSpec Try.prog E0 108 [.sc (.int .i64 a1)] [] [.ow (.rows true r)] [] := by
  refine body_ok (X := X108 N ) (CR := CRG Try.prog E0) Try.func108 (code := bodyOf Try.f108) (by kernel_rfl) rfl (by decide) mixed0 tyok0 rfl contracts_ok (cs_sel (h209 (s209 N)) (cs_sel (h210 (s210 N)) (cs_none))) (LoopsBy.of fun p hp => ?_) (by kernel_rfl) (Nat.le_of_ble_eq_true (by kernel_rfl)) ?_
  · rw [show loopsIn (bodyOf Try.f108) = [(3, findLoop 3 (loopsIn (bodyOf Try.f108)))] from by kernel_rfl] at hp
    simp only [List.mem_cons, List.not_mem_nil, or_false] at hp
    subst hp
    exact vround_of (fun s k => rfl) (by kernel_rfl) (lh108_3 N)
  · rw [b108, T108_nat, h]; rfl

/-! 156: loop.example/g01286/spec.l1Most -/
def T156 {ρ : Type} (N : Nat) (a1 : Int) (a2 : Int) (k : Int → Option ρ) : Option ρ :=
  bif (iLt a2 a1) then (
  k a1)
  else (
  k a2)
def D156 (N : Nat) (a1 : Int) (a2 : Int) : Option (Int) := T156 N a1 a2 some
theorem T156_nat {ρ : Type} (N : Nat) (a1 : Int) (a2 : Int) (k : Int → Option ρ) : T156 N a1 a2 k = (D156 N a1 a2).bind k := by
  unfold D156 T156
  simp only [Option.bind_assoc, bif_bind, elim_bind, Option.bind_some, Option.bind_none]
def H156 (D : Int → Int → Option (Int)) : Hd := fun az bx k => match az, bx with
  | [c0, c1], [] => cI .i64 c0 fun y0 => cI .i64 c1 fun y1 => (D y0 y1).bind fun r => k [.sc (.int .i64 r)] []
  | _, _ => none
theorem fnok156 : FnOK Try.prog 156 := ⟨Try.f156, Try.func156, rfl, by decide⟩
theorem h156 {D : Int → Int → Option (Int)} (hD : ∀ (y0 : Int), ∀ (y1 : Int), ∀ r, D y0 y1 = some r → CallSpec Try.prog E0 156 [.sc (.int .i64 y0), .sc (.int .i64 y1)] [] [.sc (.int .i64 r)] []) : HSound Try.prog E0 156 (H156 D) := by
  intro az bx k r h
  unfold H156 at h
  split at h
  · rename_i c0 c1
    obtain ⟨y0, l0, h⟩ := cI_some h
    obtain ⟨y1, l1, h⟩ := cI_some h
    obtain ⟨r, hr, h⟩ := Option.bind_eq_some_iff.1 h
    exact ⟨_, _, ⟨(hD y0 y1 r hr).le ⟨l0, ⟨l1, trivial⟩⟩ trivial, fnok156, Nat.le_of_ble_eq_true rfl⟩, h⟩
  · cases h
def kp156 : Nat → List Tm.Loc := fun i => ([[.slot 0, .slot 1], [.slot 0, .slot 1, .slot 7], [.slot 4], [.slot 4]] : List (List Tm.Loc)).getD i []
def lp156 : Nat → LpS := fun i => default
def X156 (N : Nat) : Env := { n := 10, K := K0, C := hNone, L := fun i s k => none, keep := kp156, lp := lp156 }
theorem b156 (N : Nat) (a1 : Int) (a2 : Int) : vbody (X156 N ) Try.f156 (bodyOf Try.f156) [.sc (.int .i64 a1), .sc (.int .i64 a2)] [] (fun rs bx => some ⟨rs, bx⟩) = T156 N a1 a2 (fun r => some ⟨[.sc (.int .i64 r)], []⟩) := by kernel_rfl
theorem s156 (N : Nat) (a1 : Int) (a2 : Int) (r : Int) (h : D156 N a1 a2 = some r) : CallSpec Try.prog E0 156 [.sc (.int .i64 a1), .sc (.int .i64 a2)] [] [.sc (.int .i64 r)] [] := by
  refine body_ok (X := X156 N ) (CR := CRG Try.prog E0) Try.func156 (code := bodyOf Try.f156) (by kernel_rfl) rfl (by decide) mixed0 tyok0 rfl contracts_ok (cs_none) (LoopsBy.of fun p hp => ?_) (by kernel_rfl) (Nat.le_of_ble_eq_true (by kernel_rfl)) ?_
  · rw [show loopsIn (bodyOf Try.f156) = [] from by kernel_rfl] at hp
    cases hp
  · rw [b156, T156_nat, h]; rfl

/-! 110: loop.example/g01286/spec.l9Cut -/
def L110_2 {ρ : Type} (N : Nat) (v : Int × Int × Int × Int × List Int) (rec : (Int × Int × Int × Int × List Int) → Option ρ) (k : ((Int × Int × Int × Int × Bool × List Int)) → Option ρ) : Option ρ :=
  bif (iLt (Int.ofNat 0) v.2.2.2.1) then (
  bif (!(iEq v.2.2.2.1 (Int.ofNat 0))) then (
  rec (v.1, v.2.1, v.2.2.2.1, (Int.tmod v.2.2.1 v.2.2.2.1), v.2.2.2.2))
  else none)
  else (
  k (v.1, v.2.1, v.2.2.1, v.2.2.2.1, (iLt (Int.ofNat 0) v.2.2.2.1), v.2.2.2.2))
def Lp110_2 (N : Nat) : Nat → (Int × Int × Int × Int × List Int) → Option ((Int × Int × Int × Int × Bool × List Int)) := fun n => Nat.rec (motive := fun _ => (Int × Int × Int × Int × List Int) → Option ((Int × Int × Int × Int × Bool × List Int))) (fun _ => none) (fun _ ih v => L110_2 N v ih some) n
theorem L110_2_nat {ρ : Type} (N : Nat) (v : Int × Int × Int × Int × List Int) (rec : (Int × Int × Int × Int × List Int) → Option ((Int × Int × Int × Int × Bool × List Int))) (k : ((Int × Int × Int × Int × Bool × List Int)) → Option ρ) : L110_2 N v (fun v => (rec v).bind k) k = (L110_2 N v rec some).bind k := by
  unfold L110_2
  simp only [Option.bind_assoc, bif_bind, elim_bind, Option.bind_some, Option.bind_none]
def T110 {ρ : Type} (N : Nat) (a1 : Int) (a2 : Int) (k : (List Int) → Option ρ) : Option ρ :=
  (Lp110_2 N N (a1, a2, a1, a2, (List.replicate 2 0))).bind fun w3 =>
  (D156 N w3.2.2.1 (Int.ofNat 1)).bind fun r4 =>
  bif (!(iEq r4 (Int.ofNat 0))) then (
  (D156 N w3.2.2.1 (Int.ofNat 1)).bind fun r5 =>
  bif (!(iEq r5 (Int.ofNat 0))) then (
  k [(wrapF .i64 (Int.tdiv w3.1 r4)), (wrapF .i64 (Int.tdiv w3.2.1 r5))])
  else none)
  else none
def D110 (N : Nat) (a1 : Int) (a2 : Int) : Option (List Int) := T110 N a1 a2 some
theorem T110_nat {ρ : Type} (N : Nat) (a1 : Int) (a2 : Int) (k : (List Int) → Option ρ) : T110 N a1 a2 k = (D110 N a1 a2).bind k := by
  unfold D110 T110
  simp only [Option.bind_assoc, bif_bind, elim_bind, Option.bind_some, Option.bind_none]
def H110 (D : Int → Int → Option (List Int)) : Hd := fun az bx k => match az, bx with
  | [c0, c1], [] => cI .i64 c0 fun y0 => cI .i64 c1 fun y1 => (D y0 y1).bind fun r => k [.sc (.arr .i64 2 r)] []
  | _, _ => none
theorem fnok110 : FnOK Try.prog 110 := ⟨Try.f110, Try.func110, rfl, by decide⟩
theorem h110 {D : Int → Int → Option (List Int)} (hD : ∀ (y0 : Int), ∀ (y1 : Int), ∀ r, D y0 y1 = some r → CallSpec Try.prog E0 110 [.sc (.int .i64 y0), .sc (.int .i64 y1)] [] [.sc (.arr .i64 2 r)] []) : HSound Try.prog E0 110 (H110 D) := by
  intro az bx k r h
  unfold H110 at h
  split at h
  · rename_i c0 c1
    obtain ⟨y0, l0, h⟩ := cI_some h
    obtain ⟨y1, l1, h⟩ := cI_some h
    obtain ⟨r, hr, h⟩ := Option.bind_eq_some_iff.1 h
    exact ⟨_, _, ⟨(hD y0 y1 r hr).le ⟨l0, ⟨l1, trivial⟩⟩ trivial, fnok110, Nat.le_of_ble_eq_true rfl⟩, h⟩
  · cases h
def kp110 : Nat → List Tm.Loc := fun i => ([[.slot 0, .slot 1, .slot 4, .box (.own 4)], [.slot 0, .slot 1, .slot 4, .slot 5, .slot 6, .box (.own 4)], [.slot 0, .slot 1, .slot 4, .slot 5, .slot 6, .slot 10, .box (.own 4)], [.slot 0, .slot 1, .slot 4, .slot 5, .slot 6, .box (.own 4)], [.slot 4, .box (.own 4)]] : List (List Tm.Loc)).getD i []
def lp110 : Nat → LpS := fun i => bif Nat.beq i 2 then ⟨[], [], [.slot 0, .slot 1, .slot 4, .slot 5, .slot 6, .box (.own 4)]⟩ else default
def sk110_2 : List (Tm.Loc × SkV) := [(.slot 0, .int .i64), (.slot 1, .int .i64), (.slot 4, .pt (.own 4)), (.slot 5, .int .i64), (.slot 6, .int .i64), (.box (.own 4), .arr .i64 2)]
def kk110_2 (k : Ex → St → Option RT) : ((Int × Int × Int × Int × Bool × List Int)) → Option RT := (fun r => k (.ext 0) [(.slot 10, .v (.sc (.bool false))), (.slot 0, .v (.sc (.int .i64 r.1))), (.slot 1, .v (.sc (.int .i64 r.2.1))), (.slot 4, .v (.pt (.own 4))), (.slot 5, .v (.sc (.int .i64 r.2.2.1))), (.slot 6, .v (.sc (.int .i64 r.2.2.2.1))), (.slot 10, .v (.sc (.bool r.2.2.2.2.1))), (.box (.own 4), .v (.sc (.arr .i64 2 r.2.2.2.2.2)))])
def LH110_2 (N : Nat) : St → (Ex → St → Option RT) → Option RT := fun s k => match mS sk110_2 s with
  | some [.I z0, .I z1, .I z2, .I z3, .L z4] => (Lp110_2 N N (z0, z1, z2, z3, z4)).bind (kk110_2 k)
  | _ => none
def X110 (N : Nat) : Env := { n := 24, K := K0, C := hSel 156 (H156 (D156 N)) (hNone), L := fun i s k => bif Nat.beq i 2 then LH110_2 N (normL (lp110 2) s) k else none, keep := kp110, lp := lp110 }
theorem st110_2 (N : Nat) (V : St → Option RT) (k : Ex → St → Option RT) (v : Int × Int × Int × Int × List Int) : vexec (X110 N ) (findLoop 2 (loopsIn (bodyOf Try.f110))) (bS sk110_2 [.I v.1, .I v.2.1, .I v.2.2.1, .I v.2.2.2.1, .L v.2.2.2.2]) (vstep V (lp110 2) k) = L110_2 N v (fun v => V (bS sk110_2 [.I v.1, .I v.2.1, .I v.2.2.1, .I v.2.2.2.1, .L v.2.2.2.2])) (kk110_2 k) := by kernel_rfl
theorem q110_2 (N : Nat) (k : Ex → St → Option RT) : ∀ n (v : Int × Int × Int × Int × List Int), vround (X110 N ) (findLoop 2 (loopsIn (bodyOf Try.f110))) 2 n (bS sk110_2 [.I v.1, .I v.2.1, .I v.2.2.1, .I v.2.2.2.1, .L v.2.2.2.2]) k = (Lp110_2 N n v).bind (kk110_2 k) := by
  intro n
  induction n with
  | zero => intro v; rfl
  | succ n ih =>
    intro v
    rw [vround_succ]
    refine (st110_2 N _ k v).trans ?_
    simp only [ih]
    exact L110_2_nat N v (Lp110_2 N n) (kk110_2 k)
theorem lh110_2 (N : Nat) : ∀ s k r, LH110_2 N s k = some r → vround (X110 N ) (findLoop 2 (loopsIn (bodyOf Try.f110))) 2 N s k = some r := by
  intro s k r h
  unfold LH110_2 at h
  split at h
  · rename_i z0 z1 z2 z3 z4 hm
    rw [mS_bS hm]
    exact (q110_2 N k N (z0, z1, z2, z3, z4)).trans h
  · cases h
theorem b110 (N : Nat) (a1 : Int) (a2 : Int) : vbody (X110 N ) Try.f110 (bodyOf Try.f110) [.sc (.int .i64 a1), .sc (.int .i64 a2)] [] (fun rs bx => some ⟨rs, bx⟩) = T110 N a1 a2 (fun r => some ⟨[.sc (.arr .i64 2 r)], []⟩) := by kernel_rfl
theorem s110 (N : Nat) (a1 : Int) (a2 : Int) (r : List Int) (h : D110 N a1 a2 = some r) : CallSpec Try.prog E0 110 [.sc (.int .i64 a1), .sc (.int .i64 a2)] [] [.sc (.arr .i64 2 r)] [] := by
  refine body_ok (X := X110 N ) (CR := CRG Try.prog E0) Try.func110 (code := bodyOf Try.f110) (by kernel_rfl) rfl (by decide) mixed0 tyok0 rfl contracts_ok (cs_sel (h156 (s156 N)) (cs_none)) (LoopsBy.of fun p hp => ?_) (by kernel_rfl) (Nat.le_of_ble_eq_true (by kernel_rfl)) ?_
  · rw [show loopsIn (bodyOf Try.f110) = [(2, findLoop 2 (loopsIn (bodyOf Try.f110)))] from by kernel_rfl] at hp
    simp only [List.mem_cons, List.not_mem_nil, or_false] at hp
    subst hp
    exact vround_of (fun s k => rfl) (by kernel_rfl) (lh110_2 N)
  · rw [b110, T110_nat, h]; rfl

/-! 32: loop.example/g01286/spec.ChanceAvoids -/
def T32 {ρ : Type} (N : Nat) (a1 : Int) (a2 : List (List Int)) (k : (List Int × Bool) → Option ρ) : Option ρ :=
  (D107 N a1).bind fun r3 =>
  bif (!(!r3)) then (
  (D133 N a2).bind fun r4 =>
  bif (!r4) then (
  k ([(Int.ofNat 0), (Int.ofNat 0)], false))
  else (
  (D134 N a1 a2).bind fun r5 =>
  (D108 N a1).bind fun r6 =>
  (D110 N (Int.ofNat (List.length r5)) (Int.ofNat (List.length r6))).bind fun r7 =>
  k (r7, true)))
  else (
  k ([(Int.ofNat 0), (Int.ofNat 0)], false))
def D32 (N : Nat) (a1 : Int) (a2 : List (List Int)) : Option (List Int × Bool) := T32 N a1 a2 some
theorem T32_nat {ρ : Type} (N : Nat) (a1 : Int) (a2 : List (List Int)) (k : (List Int × Bool) → Option ρ) : T32 N a1 a2 k = (D32 N a1 a2).bind k := by
  unfold D32 T32
  simp only [Option.bind_assoc, bif_bind, elim_bind, Option.bind_some, Option.bind_none]
def H32 (D : Int → (List (List Int)) → Option (List Int × Bool)) : Hd := fun az bx k => match az, bx with
  | [c0, c1], [] => cI .i64 c0 fun y0 => cR c1 fun y1 => (D y0 y1).bind fun r => k [.sc (.arr .i64 2 r.1), .sc (.bool r.2)] []
  | _, _ => none
theorem fnok32 : FnOK Try.prog 32 := ⟨Try.f32, Try.func32, rfl, by decide⟩
theorem h32 {D : Int → (List (List Int)) → Option (List Int × Bool)} (hD : ∀ (y0 : Int), ∀ (y1 : List (List Int)), ∀ r, D y0 y1 = some r → CallSpec Try.prog E0 32 [.sc (.int .i64 y0), .sc (.rows y1)] [] [.sc (.arr .i64 2 r.1), .sc (.bool r.2)] []) : HSound Try.prog E0 32 (H32 D) := by
  intro az bx k r h
  unfold H32 at h
  split at h
  · rename_i c0 c1
    obtain ⟨y0, l0, h⟩ := cI_some h
    obtain ⟨y1, l1, h⟩ := cR_some h
    obtain ⟨r, hr, h⟩ := Option.bind_eq_some_iff.1 h
    exact ⟨_, _, ⟨(hD y0 y1 r hr).le ⟨l0, ⟨l1, trivial⟩⟩ trivial, fnok32, Nat.le_of_ble_eq_true rfl⟩, h⟩
  · cases h
def kp32 : Nat → List Tm.Loc := fun i => ([[.slot 0, .slot 1, .slot 4, .slot 10, .slot 11, .slot 12, .box (.own 4)], [.slot 0, .slot 1, .slot 4, .slot 13, .box (.own 4)], [.slot 4, .slot 5, .box (.own 4)], [.slot 4, .slot 5, .box (.own 4)]] : List (List Tm.Loc)).getD i []
def lp32 : Nat → LpS := fun i => default
def X32 (N : Nat) : Env := { n := 23, K := K0, C := hSel 107 (H107 (D107 N)) (hSel 133 (H133 (D133 N)) (hSel 134 (H134 (D134 N)) (hSel 108 (H108 (D108 N)) (hSel 110 (H110 (D110 N)) (hNone))))), L := fun i s k => none, keep := kp32, lp := lp32 }
theorem b32 (N : Nat) (a1 : Int) (a2 : List (List Int)) : vbody (X32 N ) Try.f32 (bodyOf Try.f32) [.sc (.int .i64 a1), .sc (.rows a2)] [] (fun rs bx => some ⟨rs, bx⟩) = T32 N a1 a2 (fun r => some ⟨[.sc (.arr .i64 2 r.1), .sc (.bool r.2)], []⟩) := by kernel_rfl
theorem s32 (N : Nat) (a1 : Int) (a2 : List (List Int)) (r : List Int × Bool) (h : D32 N a1 a2 = some r) : CallSpec Try.prog E0 32 [.sc (.int .i64 a1), .sc (.rows a2)] [] [.sc (.arr .i64 2 r.1), .sc (.bool r.2)] [] := by
  refine body_ok (X := X32 N ) (CR := CRG Try.prog E0) Try.func32 (code := bodyOf Try.f32) (by kernel_rfl) rfl (by decide) mixed0 tyok0 rfl contracts_ok (cs_sel (h107 (s107 N)) (cs_sel (h133 (s133 N)) (cs_sel (h134 (s134 N)) (cs_sel (h108 (s108 N)) (cs_sel (h110 (s110 N)) (cs_none)))))) (LoopsBy.of fun p hp => ?_) (by kernel_rfl) (Nat.le_of_ble_eq_true (by kernel_rfl)) ?_
  · rw [show loopsIn (bodyOf Try.f32) = [] from by kernel_rfl] at hp
    cases hp
  · rw [b32, T32_nat, h]; rfl

/-! 258: slices.Index[[]int,int] -/
def L258_2 {ρ : Type} (N : Nat) (v : List Int × Int × Int × Int) (rec : (List Int × Int × Int × Int) → Option ρ) (k : (Int ⊕ (List Int × Int × Int × Int × Bool)) → Option ρ) : Option ρ :=
  bif (iLt v.2.2.2 v.2.2.1) then (
  bif inB v.2.2.2 (List.length v.1) then (
  bif (iEq v.2.1 (List.getD v.1 (Int.toNat v.2.2.2) (Int.ofNat 0))) then (
  k (.inl (v.2.2.2)))
  else (
  rec (v.1, v.2.1, v.2.2.1, (wrapF .i64 (v.2.2.2 + (Int.ofNat 1))))))
  else none)
  else (
  k (.inr ((v.1, v.2.1, v.2.2.1, v.2.2.2, (iLt v.2.2.2 v.2.2.1)))))
def Lp258_2 (N : Nat) : Nat → (List Int × Int × Int × Int) → Option (Int ⊕ (List Int × Int × Int × Int × Bool)) := fun n => Nat.rec (motive := fun _ => (List Int × Int × Int × Int) → Option (Int ⊕ (List Int × Int × Int × Int × Bool))) (fun _ => none) (fun _ ih v => L258_2 N v ih some) n
theorem L258_2_nat {ρ : Type} (N : Nat) (v : List Int × Int × Int × Int) (rec : (List Int × Int × Int × Int) → Option (Int ⊕ (List Int × Int × Int × Int × Bool))) (k : (Int ⊕ (List Int × Int × Int × Int × Bool)) → Option ρ) : L258_2 N v (fun v => (rec v).bind k) k = (L258_2 N v rec some).bind k := by
  unfold L258_2
  simp only [Option.bind_assoc, bif_bind, elim_bind, Option.bind_some, Option.bind_none]
def T258 {ρ : Type} (N : Nat) (a1 : List Int) (a2 : Int) (k : Int → Option ρ) : Option ρ :=
  (Lp258_2 N N (a1, a2, (Int.ofNat (List.length a1)), (Int.ofNat 0))).bind (Sum.elim (fun w3 =>
  k w3) (fun w4 =>
  k (Int.negSucc 0)))
def D258 (N : Nat) (a1 : List Int) (a2 : Int) : Option (Int) := T258 N a1 a2 some
theorem T258_nat {ρ : Type} (N : Nat) (a1 : List Int) (a2 : Int) (k : Int → Option ρ) : T258 N a1 a2 k = (D258 N a1 a2).bind k := by
  unfold D258 T258
  simp only [Option.bind_assoc, bif_bind, elim_bind, Option.bind_some, Option.bind_none]
def H258 (D : (List Int) → Int → Option (Int)) : Hd := fun az bx k => match az, bx with
  | [c0, c1], [] => cL .i64 c0 fun y0 => cI .i64 c1 fun y1 => (D y0 y1).bind fun r => k [.sc (.int .i64 r)] []
  | _, _ => none
theorem fnok258 : FnOK Try.prog 258 := ⟨Try.f258, Try.func258, rfl, by decide⟩
theorem h258 {D : (List Int) → Int → Option (Int)} (hD : ∀ (y0 : List Int), ∀ (y1 : Int), ∀ r, D y0 y1 = some r → CallSpec Try.prog E0 258 [.sc (.ints .i64 y0), .sc (.int .i64 y1)] [] [.sc (.int .i64 r)] []) : HSound Try.prog E0 258 (H258 D) := by
  intro az bx k r h
  unfold H258 at h
  split at h
  · rename_i c0 c1
    obtain ⟨y0, l0, h⟩ := cL_some h
    obtain ⟨y1, l1, h⟩ := cI_some h
    obtain ⟨r, hr, h⟩ := Option.bind_eq_some_iff.1 h
    exact ⟨_, _, ⟨(hD y0 y1 r hr).le ⟨l0, ⟨l1, trivial⟩⟩ trivial, fnok258, Nat.le_of_ble_eq_true rfl⟩, h⟩
  · cases h
def kp258 : Nat → List Tm.Loc := fun i => ([[.slot 0, .slot 1], [.slot 0, .slot 1, .slot 7, .slot 8], [.slot 0, .slot 1, .slot 7, .slot 8, .slot 9], [.slot 0, .slot 1, .slot 5, .slot 7, .slot 8], [.slot 0, .slot 1, .slot 5, .slot 7, .slot 8, .slot 16], [.slot 4], [.slot 0, .slot 1, .slot 7, .slot 8], [.slot 4]] : List (List Tm.Loc)).getD i []
def lp258 : Nat → LpS := fun i => bif Nat.beq i 2 then ⟨[], [], [.slot 0, .slot 1, .slot 7, .slot 8]⟩ else default
def sk258_2 : List (Tm.Loc × SkV) := [(.slot 0, .ints .i64), (.slot 1, .int .i64), (.slot 7, .int .i64), (.slot 8, .int .i64)]
def kk258_2 (k : Ex → St → Option RT) : (Int ⊕ (List Int × Int × Int × Int × Bool)) → Option RT := (Sum.elim (fun r => k .ret [(.slot 4, .v (.sc (.int .i64 r)))]) (fun r => k (.ext 0) [(.slot 9, .v (.sc (.bool false))), (.slot 0, .v (.sc (.ints .i64 r.1))), (.slot 1, .v (.sc (.int .i64 r.2.1))), (.slot 7, .v (.sc (.int .i64 r.2.2.1))), (.slot 8, .v (.sc (.int .i64 r.2.2.2.1))), (.slot 9, .v (.sc (.bool r.2.2.2.2)))]))
def LH258_2 (N : Nat) : St → (Ex → St → Option RT) → Option RT := fun s k => match mS sk258_2 s with
  | some [.L z0, .I z1, .I z2, .I z3] => (Lp258_2 N N (z0, z1, z2, z3)).bind (kk258_2 k)
  | _ => none
def X258 (N : Nat) : Env := { n := 19, K := K0, C := hNone, L := fun i s k => bif Nat.beq i 2 then LH258_2 N (normL (lp258 2) s) k else none, keep := kp258, lp := lp258 }
theorem st258_2 (N : Nat) (V : St → Option RT) (k : Ex → St → Option RT) (v : List Int × Int × Int × Int) : vexec (X258 N ) (findLoop 2 (loopsIn (bodyOf Try.f258))) (bS sk258_2 [.L v.1, .I v.2.1, .I v.2.2.1, .I v.2.2.2]) (vstep V (lp258 2) k) = L258_2 N v (fun v => V (bS sk258_2 [.L v.1, .I v.2.1, .I v.2.2.1, .I v.2.2.2])) (kk258_2 k) := by kernel_rfl
theorem q258_2 (N : Nat) (k : Ex → St → Option RT) : ∀ n (v : List Int × Int × Int × Int), vround (X258 N ) (findLoop 2 (loopsIn (bodyOf Try.f258))) 2 n (bS sk258_2 [.L v.1, .I v.2.1, .I v.2.2.1, .I v.2.2.2]) k = (Lp258_2 N n v).bind (kk258_2 k) := by
  intro n
  induction n with
  | zero => intro v; rfl
  | succ n ih =>
    intro v
    rw [vround_succ]
    refine (st258_2 N _ k v).trans ?_
    simp only [ih]
    exact L258_2_nat N v (Lp258_2 N n) (kk258_2 k)
theorem lh258_2 (N : Nat) : ∀ s k r, LH258_2 N s k = some r → vround (X258 N ) (findLoop 2 (loopsIn (bodyOf Try.f258))) 2 N s k = some r := by
  intro s k r h
  unfold LH258_2 at h
  split at h
  · rename_i z0 z1 z2 z3 hm
    rw [mS_bS hm]
    exact (q258_2 N k N (z0, z1, z2, z3)).trans h
  · cases h
theorem b258 (N : Nat) (a1 : List Int) (a2 : Int) : vbody (X258 N ) Try.f258 (bodyOf Try.f258) [.sc (.ints .i64 a1), .sc (.int .i64 a2)] [] (fun rs bx => some ⟨rs, bx⟩) = T258 N a1 a2 (fun r => some ⟨[.sc (.int .i64 r)], []⟩) := by kernel_rfl
theorem s258 (N : Nat) (a1 : List Int) (a2 : Int) (r : Int) (h : D258 N a1 a2 = some r) : CallSpec Try.prog E0 258 [.sc (.ints .i64 a1), .sc (.int .i64 a2)] [] [.sc (.int .i64 r)] [] := by
  refine body_ok (X := X258 N ) (CR := CRG Try.prog E0) Try.func258 (code := bodyOf Try.f258) (by kernel_rfl) rfl (by decide) mixed0 tyok0 rfl contracts_ok (cs_none) (LoopsBy.of fun p hp => ?_) (by kernel_rfl) (Nat.le_of_ble_eq_true (by kernel_rfl)) ?_
  · rw [show loopsIn (bodyOf Try.f258) = [(2, findLoop 2 (loopsIn (bodyOf Try.f258)))] from by kernel_rfl] at hp
    simp only [List.mem_cons, List.not_mem_nil, or_false] at hp
    subst hp
    exact vround_of (fun s k => rfl) (by kernel_rfl) (lh258_2 N)
  · rw [b258, T258_nat, h]; rfl

/-! 228: slices.Contains[[]int,int] -/
def T228 {ρ : Type} (N : Nat) (a1 : List Int) (a2 : Int) (k : Bool → Option ρ) : Option ρ :=
  (D258 N a1 a2).bind fun r3 =>
  k (iLe (Int.ofNat 0) r3)
def D228 (N : Nat) (a1 : List Int) (a2 : Int) : Option (Bool) := T228 N a1 a2 some
theorem T228_nat {ρ : Type} (N : Nat) (a1 : List Int) (a2 : Int) (k : Bool → Option ρ) : T228 N a1 a2 k = (D228 N a1 a2).bind k := by
  unfold D228 T228
  simp only [Option.bind_assoc, bif_bind, elim_bind, Option.bind_some, Option.bind_none]
def H228 (D : (List Int) → Int → Option (Bool)) : Hd := fun az bx k => match az, bx with
  | [c0, c1], [] => cL .i64 c0 fun y0 => cI .i64 c1 fun y1 => (D y0 y1).bind fun r => k [.sc (.bool r)] []
  | _, _ => none
theorem fnok228 : FnOK Try.prog 228 := ⟨Try.f228, Try.func228, rfl, by decide⟩
theorem h228 {D : (List Int) → Int → Option (Bool)} (hD : ∀ (y0 : List Int), ∀ (y1 : Int), ∀ r, D y0 y1 = some r → CallSpec Try.prog E0 228 [.sc (.ints .i64 y0), .sc (.int .i64 y1)] [] [.sc (.bool r)] []) : HSound Try.prog E0 228 (H228 D) := by
  intro az bx k r h
  unfold H228 at h
  split at h
  · rename_i c0 c1
    obtain ⟨y0, l0, h⟩ := cL_some h
    obtain ⟨y1, l1, h⟩ := cI_some h
    obtain ⟨r, hr, h⟩ := Option.bind_eq_some_iff.1 h
    exact ⟨_, _, ⟨(hD y0 y1 r hr).le ⟨l0, ⟨l1, trivial⟩⟩ trivial, fnok228, Nat.le_of_ble_eq_true rfl⟩, h⟩
  · cases h
def kp228 : Nat → List Tm.Loc := fun i => ([[.slot 0, .slot 1], [.slot 4]] : List (List Tm.Loc)).getD i []
def lp228 : Nat → LpS := fun i => default
def X228 (N : Nat) : Env := { n := 9, K := K0, C := hSel 258 (H258 (D258 N)) (hNone), L := fun i s k => none, keep := kp228, lp := lp228 }
theorem b228 (N : Nat) (a1 : List Int) (a2 : Int) : vbody (X228 N ) Try.f228 (bodyOf Try.f228) [.sc (.ints .i64 a1), .sc (.int .i64 a2)] [] (fun rs bx => some ⟨rs, bx⟩) = T228 N a1 a2 (fun r => some ⟨[.sc (.bool r)], []⟩) := by kernel_rfl
theorem s228 (N : Nat) (a1 : List Int) (a2 : Int) (r : Bool) (h : D228 N a1 a2 = some r) : CallSpec Try.prog E0 228 [.sc (.ints .i64 a1), .sc (.int .i64 a2)] [] [.sc (.bool r)] [] := by
  refine body_ok (X := X228 N ) (CR := CRG Try.prog E0) Try.func228 (code := bodyOf Try.f228) (by kernel_rfl) rfl (by decide) mixed0 tyok0 rfl contracts_ok (cs_sel (h258 (s258 N)) (cs_none)) (LoopsBy.of fun p hp => ?_) (by kernel_rfl) (Nat.le_of_ble_eq_true (by kernel_rfl)) ?_
  · rw [show loopsIn (bodyOf Try.f228) = [] from by kernel_rfl] at hp
    cases hp
  · rw [b228, T228_nat, h]; rfl

/-! 142: loop.example/g01286/impl.isOrder -/
def L142_4 {ρ : Type} (N : Nat) (v : List Int × List Int × Int × Int) (rec : (List Int × List Int × Int × Int) → Option ρ) (k : (Unit ⊕ (List Int × List Int × Int × Int × Bool)) → Option ρ) : Option ρ :=
  bif (iLt v.2.2.2 v.2.2.1) then (
  bif inB v.2.2.2 (List.length v.2.1) then (
  bif (!(iLt (List.getD v.2.1 (Int.toNat v.2.2.2) (Int.ofNat 0)) (Int.ofNat 1))) then (
  bif (!(iLt (Int.ofNat (List.length v.1)) (List.getD v.2.1 (Int.toNat v.2.2.2) (Int.ofNat 0)))) then (
  bif cutB (Int.ofNat 0) v.2.2.2 (List.length v.1) then (
  (D228 N (List.take ((Int.toNat v.2.2.2) - 0) (List.drop 0 v.1)) (List.getD v.2.1 (Int.toNat v.2.2.2) (Int.ofNat 0))).bind fun r2 =>
  bif r2 then (
  k (.inl (())))
  else (
  rec (v.1, v.2.1, v.2.2.1, (wrapF .i64 (v.2.2.2 + (Int.ofNat 1))))))
  else none)
  else (
  k (.inl (()))))
  else (
  k (.inl (()))))
  else none)
  else (
  k (.inr ((v.1, v.2.1, v.2.2.1, v.2.2.2, (iLt v.2.2.2 v.2.2.1)))))
def Lp142_4 (N : Nat) : Nat → (List Int × List Int × Int × Int) → Option (Unit ⊕ (List Int × List Int × Int × Int × Bool)) := fun n => Nat.rec (motive := fun _ => (List Int × List Int × Int × Int) → Option (Unit ⊕ (List Int × List Int × Int × Int × Bool))) (fun _ => none) (fun _ ih v => L142_4 N v ih some) n
theorem L142_4_nat {ρ : Type} (N : Nat) (v : List Int × List Int × Int × Int) (rec : (List Int × List Int × Int × Int) → Option (Unit ⊕ (List Int × List Int × Int × Int × Bool))) (k : (Unit ⊕ (List Int × List Int × Int × Int × Bool)) → Option ρ) : L142_4 N v (fun v => (rec v).bind k) k = (L142_4 N v rec some).bind k := by
  unfold L142_4
  simp only [Option.bind_assoc, bif_bind, elim_bind, Option.bind_some, Option.bind_none]
def T142 {ρ : Type} (N : Nat) (a1 : List Int) (k : Bool → Option ρ) : Option ρ :=
  bif (!(iLt (Int.ofNat (List.length a1)) (Int.ofNat 1))) then (
  bif (iLt (Int.ofNat 7) (Int.ofNat (List.length a1))) then (
  k false)
  else (
  (Lp142_4 N N (a1, a1, (Int.ofNat (List.length a1)), (Int.ofNat 0))).bind (Sum.elim (fun _ =>
  k false) (fun w4 =>
  k true))))
  else (
  k false)
def D142 (N : Nat) (a1 : List Int) : Option (Bool) := T142 N a1 some
theorem T142_nat {ρ : Type} (N : Nat) (a1 : List Int) (k : Bool → Option ρ) : T142 N a1 k = (D142 N a1).bind k := by
  unfold D142 T142
  simp only [Option.bind_assoc, bif_bind, elim_bind, Option.bind_some, Option.bind_none]
def H142 (D : (List Int) → Option (Bool)) : Hd := fun az bx k => match az, bx with
  | [c0], [] => cL .i64 c0 fun y0 => (D y0).bind fun r => k [.sc (.bool r)] []
  | _, _ => none
theorem fnok142 : FnOK Try.prog 142 := ⟨Try.f142, Try.func142, rfl, by decide⟩
theorem h142 {D : (List Int) → Option (Bool)} (hD : ∀ (y0 : List Int), ∀ r, D y0 = some r → CallSpec Try.prog E0 142 [.sc (.ints .i64 y0)] [] [.sc (.bool r)] []) : HSound Try.prog E0 142 (H142 D) := by
  intro az bx k r h
  unfold H142 at h
  split at h
  · rename_i c0
    obtain ⟨y0, l0, h⟩ := cL_some h
    obtain ⟨r, hr, h⟩ := Option.bind_eq_some_iff.1 h
    exact ⟨_, _, ⟨(hD y0 r hr).le ⟨l0, trivial⟩ trivial, fnok142, Nat.le_of_ble_eq_true rfl⟩, h⟩
  · cases h
def kp142 : Nat → List Tm.Loc := fun i => ([[.slot 0, .slot 9, .slot 10, .slot 11, .slot 23, .slot 24, .slot 25, .slot 26, .slot 29, .slot 30, .slot 31, .slot 32, .slot 33], [.slot 0, .slot 12, .slot 23, .slot 24, .slot 25, .slot 26, .slot 29, .slot 30, .slot 31, .slot 32, .slot 33], [.slot 2], [.slot 0, .slot 13, .slot 14, .slot 15, .slot 23, .slot 24, .slot 25, .slot 26, .slot 29, .slot 30, .slot 31, .slot 32, .slot 33], [.slot 0, .slot 13, .slot 14, .slot 15, .slot 16, .slot 23, .slot 24, .slot 25, .slot 26, .slot 29, .slot 30, .slot 31, .slot 32, .slot 33], [.slot 0, .slot 3, .slot 4, .slot 13, .slot 14, .slot 15, .slot 23, .slot 24, .slot 25, .slot 26, .slot 29, .slot 30, .slot 31, .slot 32, .slot 33], [.slot 0, .slot 13, .slot 14, .slot 15, .slot 23, .slot 24, .slot 25, .slot 26, .slot 29, .slot 30, .slot 31, .slot 32, .slot 33, .slot 34], [.slot 2], [.slot 0, .slot 13, .slot 14, .slot 15, .slot 23, .slot 24, .slot 25, .slot 26, .slot 29, .slot 30, .slot 31, .slot 32, .slot 33], [.slot 2]] : List (List Tm.Loc)).getD i []
def lp142 : Nat → LpS := fun i => bif Nat.beq i 4 then ⟨[], [], [.slot 0, .slot 13, .slot 14, .slot 15]⟩ else default
def sk142_4 : List (Tm.Loc × SkV) := [(.slot 0, .ints .i64), (.slot 13, .ints .i64), (.slot 14, .int .i64), (.slot 15, .int .i64)]
def kk142_4 (k : Ex → St → Option RT) : (Unit ⊕ (List Int × List Int × Int × Int × Bool)) → Option RT := (Sum.elim (fun r => k .ret [(.slot 2, .v (.sc (.bool false)))]) (fun r => k (.ext 0) [(.slot 16, .v (.sc (.bool false))), (.slot 0, .v (.sc (.ints .i64 r.1))), (.slot 13, .v (.sc (.ints .i64 r.2.1))), (.slot 14, .v (.sc (.int .i64 r.2.2.1))), (.slot 15, .v (.sc (.int .i64 r.2.2.2.1))), (.slot 16, .v (.sc (.bool r.2.2.2.2))), (.slot 23, .v .un), (.slot 24, .v .un), (.slot 25, .v .un), (.slot 26, .v .un), (.slot 29, .v .un), (.slot 30, .v .un), (.slot 31, .v .un), (.slot 32, .v .un), (.slot 33, .v .un)]))
def LH142_4 (N : Nat) : St → (Ex → St → Option RT) → Option RT := fun s k => match mS sk142_4 s with
  | some [.L z0, .L z1, .I z2, .I z3] => (Lp142_4 N N (z0, z1, z2, z3)).bind (kk142_4 k)
  | _ => none
def X142 (N : Nat) : Env := { n := 36, K := K0, C := hSel 228 (H228 (D228 N)) (hNone), L := fun i s k => bif Nat.beq i 4 then LH142_4 N (normL (lp142 4) s) k else none, keep := kp142, lp := lp142 }
theorem st142_4 (N : Nat) (V : St → Option RT) (k : Ex → St → Option RT) (v : List Int × List Int × Int × Int) : vexec (X142 N ) (findLoop 4 (loopsIn (bodyOf Try.f142))) (bS sk142_4 [.L v.1, .L v.2.1, .I v.2.2.1, .I v.2.2.2]) (vstep V (lp142 4) k) = L142_4 N v (fun v => V (bS sk142_4 [.L v.1, .L v.2.1, .I v.2.2.1, .I v.2.2.2])) (kk142_4 k) := by kernel_rfl
theorem q142_4 (N : Nat) (k : Ex → St → Option RT) : ∀ n (v : List Int × List Int × Int × Int), vround (X142 N ) (findLoop 4 (loopsIn (bodyOf Try.f142))) 4 n (bS sk142_4 [.L v.1, .L v.2.1, .I v.2.2.1, .I v.2.2.2]) k = (Lp142_4 N n v).bind (kk142_4 k) := by
  intro n
  induction n with
  | zero => intro v; rfl
  | succ n ih =>
    intro v
    rw [vround_succ]
    refine (st142_4 N _ k v).trans ?_
    simp only [ih]
    exact L142_4_nat N v (Lp142_4 N n) (kk142_4 k)
theorem lh142_4 (N : Nat) : ∀ s k r, LH142_4 N s k = some r → vround (X142 N ) (findLoop 4 (loopsIn (bodyOf Try.f142))) 4 N s k = some r := by
  intro s k r h
  unfold LH142_4 at h
  split at h
  · rename_i z0 z1 z2 z3 hm
    rw [mS_bS hm]
    exact (q142_4 N k N (z0, z1, z2, z3)).trans h
  · cases h
theorem b142 (N : Nat) (a1 : List Int) : vbody (X142 N ) Try.f142 (bodyOf Try.f142) [.sc (.ints .i64 a1)] [] (fun rs bx => some ⟨rs, bx⟩) = T142 N a1 (fun r => some ⟨[.sc (.bool r)], []⟩) := by kernel_rfl
theorem s142 (N : Nat) (a1 : List Int) (r : Bool) (h : D142 N a1 = some r) : CallSpec Try.prog E0 142 [.sc (.ints .i64 a1)] [] [.sc (.bool r)] [] := by
  refine body_ok (X := X142 N ) (CR := CRG Try.prog E0) Try.func142 (code := bodyOf Try.f142) (by kernel_rfl) rfl (by decide) mixed0 tyok0 rfl contracts_ok (cs_sel (h228 (s228 N)) (cs_none)) (LoopsBy.of fun p hp => ?_) (by kernel_rfl) (Nat.le_of_ble_eq_true (by kernel_rfl)) ?_
  · rw [show loopsIn (bodyOf Try.f142) = [(4, findLoop 4 (loopsIn (bodyOf Try.f142)))] from by kernel_rfl] at hp
    simp only [List.mem_cons, List.not_mem_nil, or_false] at hp
    subst hp
    exact vround_of (fun s k => rfl) (by kernel_rfl) (lh142_4 N)
  · rw [b142, T142_nat, h]; rfl

/-! 225: loop.example/g01286/impl.arePatterns$1 -/
def T225 {ρ : Type} (N : Nat) (a1 : List Int) (k : Bool → Option ρ) : Option ρ :=
  (D142 N a1).bind fun r2 =>
  k (!r2)
def D225 (N : Nat) (a1 : List Int) : Option (Bool) := T225 N a1 some
theorem T225_nat {ρ : Type} (N : Nat) (a1 : List Int) (k : Bool → Option ρ) : T225 N a1 k = (D225 N a1).bind k := by
  unfold D225 T225
  simp only [Option.bind_assoc, bif_bind, elim_bind, Option.bind_some, Option.bind_none]
def H225 (D : (List Int) → Option (Bool)) : Hd := fun az bx k => match az, bx with
  | [c0], [] => cL .i64 c0 fun y0 => (D y0).bind fun r => k [.sc (.bool r)] []
  | _, _ => none
theorem fnok225 : FnOK Try.prog 225 := ⟨Try.f225, Try.func225, rfl, by decide⟩
theorem h225 {D : (List Int) → Option (Bool)} (hD : ∀ (y0 : List Int), ∀ r, D y0 = some r → CallSpec Try.prog E0 225 [.sc (.ints .i64 y0)] [] [.sc (.bool r)] []) : HSound Try.prog E0 225 (H225 D) := by
  intro az bx k r h
  unfold H225 at h
  split at h
  · rename_i c0
    obtain ⟨y0, l0, h⟩ := cL_some h
    obtain ⟨r, hr, h⟩ := Option.bind_eq_some_iff.1 h
    exact ⟨_, _, ⟨(hD y0 r hr).le ⟨l0, trivial⟩ trivial, fnok225, Nat.le_of_ble_eq_true rfl⟩, h⟩
  · cases h
def kp225 : Nat → List Tm.Loc := fun i => ([[.slot 0], [.slot 2]] : List (List Tm.Loc)).getD i []
def lp225 : Nat → LpS := fun i => default
def X225 (N : Nat) : Env := { n := 6, K := K0, C := hSel 142 (H142 (D142 N)) (hNone), L := fun i s k => none, keep := kp225, lp := lp225 }
theorem b225 (N : Nat) (a1 : List Int) : vbody (X225 N ) Try.f225 (bodyOf Try.f225) [.sc (.ints .i64 a1)] [] (fun rs bx => some ⟨rs, bx⟩) = T225 N a1 (fun r => some ⟨[.sc (.bool r)], []⟩) := by kernel_rfl
theorem s225 (N : Nat) (a1 : List Int) (r : Bool) (h : D225 N a1 = some r) : CallSpec Try.prog E0 225 [.sc (.ints .i64 a1)] [] [.sc (.bool r)] [] := by
  refine body_ok (X := X225 N ) (CR := CRG Try.prog E0) Try.func225 (code := bodyOf Try.f225) (by kernel_rfl) rfl (by decide) mixed0 tyok0 rfl contracts_ok (cs_sel (h142 (s142 N)) (cs_none)) (LoopsBy.of fun p hp => ?_) (by kernel_rfl) (Nat.le_of_ble_eq_true (by kernel_rfl)) ?_
  · rw [show loopsIn (bodyOf Try.f225) = [] from by kernel_rfl] at hp
    cases hp
  · rw [b225, T225_nat, h]; rfl

/-! 256: slices.IndexFunc[[][]int,[]int] -/
def L256_2 {ρ : Type} (N : Nat) (v : List (List Int) × Int × Int) (rec : (List (List Int) × Int × Int) → Option ρ) (k : (Int ⊕ (List (List Int) × Int × Int × Bool)) → Option ρ) : Option ρ :=
  bif (iLt v.2.2 v.2.1) then (
  bif inB v.2.2 (List.length v.1) then (
  (D225 N (List.getD v.1 (Int.toNat v.2.2) [])).bind fun r2 =>
  bif r2 then (
  k (.inl (v.2.2)))
  else (
  rec (v.1, v.2.1, (wrapF .i64 (v.2.2 + (Int.ofNat 1))))))
  else none)
  else (
  k (.inr ((v.1, v.2.1, v.2.2, (iLt v.2.2 v.2.1)))))
def Lp256_2 (N : Nat) : Nat → (List (List Int) × Int × Int) → Option (Int ⊕ (List (List Int) × Int × Int × Bool)) := fun n => Nat.rec (motive := fun _ => (List (List Int) × Int × Int) → Option (Int ⊕ (List (List Int) × Int × Int × Bool))) (fun _ => none) (fun _ ih v => L256_2 N v ih some) n
theorem L256_2_nat {ρ : Type} (N : Nat) (v : List (List Int) × Int × Int) (rec : (List (List Int) × Int × Int) → Option (Int ⊕ (List (List Int) × Int × Int × Bool))) (k : (Int ⊕ (List (List Int) × Int × Int × Bool)) → Option ρ) : L256_2 N v (fun v => (rec v).bind k) k = (L256_2 N v rec some).bind k := by
  unfold L256_2
  simp only [Option.bind_assoc, bif_bind, elim_bind, Option.bind_some, Option.bind_none]
def T256 {ρ : Type} (N : Nat) (a1 : List (List Int)) (k : Int → Option ρ) : Option ρ :=
  (Lp256_2 N N (a1, (Int.ofNat (List.length a1)), (Int.ofNat 0))).bind (Sum.elim (fun w3 =>
  k w3) (fun w4 =>
  k (Int.negSucc 0)))
def D256 (N : Nat) (a1 : List (List Int)) : Option (Int) := T256 N a1 some
theorem T256_nat {ρ : Type} (N : Nat) (a1 : List (List Int)) (k : Int → Option ρ) : T256 N a1 k = (D256 N a1).bind k := by
  unfold D256 T256
  simp only [Option.bind_assoc, bif_bind, elim_bind, Option.bind_some, Option.bind_none]
def H256 (D : (List (List Int)) → Option (Int)) : Hd := fun az bx k => match az, bx with
  | [c0, c1], [] => cR c0 fun y0 => cF 225 [] c1 fun _ => (D y0).bind fun r => k [.sc (.int .i64 r)] []
  | _, _ => none
theorem fnok256 : FnOK Try.prog 256 := ⟨Try.f256, Try.func256, rfl, by decide⟩
theorem h256 {D : (List (List Int)) → Option (Int)} (hD : ∀ (y0 : List (List Int)), ∀ r, D y0 = some r → CallSpec Try.prog E0 256 [.sc (.rows y0), .fn 225 []] [] [.sc (.int .i64 r)] []) : HSound Try.prog E0 256 (H256 D) := by
  intro az bx k r h
  unfold H256 at h
  split at h
  · rename_i c0 c1
    obtain ⟨y0, l0, h⟩ := cR_some h
    obtain ⟨l1, h⟩ := cF_some h
    obtain ⟨r, hr, h⟩ := Option.bind_eq_some_iff.1 h
    exact ⟨_, _, ⟨(hD y0 r hr).le ⟨l0, ⟨l1, trivial⟩⟩ trivial, fnok256, Nat.le_of_ble_eq_true rfl⟩, h⟩
  · cases h
def kp256 : Nat → List Tm.Loc := fun i => ([[.slot 0, .slot 1], [.slot 0, .slot 1, .slot 7, .slot 8], [.slot 0, .slot 1, .slot 7, .slot 8, .slot 9], [.slot 0, .slot 1, .slot 5, .slot 7, .slot 8], [.slot 0, .slot 1, .slot 5, .slot 7, .slot 8, .slot 16], [.slot 4], [.slot 0, .slot 1, .slot 7, .slot 8], [.slot 4]] : List (List Tm.Loc)).getD i []
def lp256 : Nat → LpS := fun i => bif Nat.beq i 2 then ⟨[], [], [.slot 0, .slot 1, .slot 7, .slot 8]⟩ else default
def sk256_2 : List (Tm.Loc × SkV) := [(.slot 0, .rows), (.slot 1, .fn 225 []), (.slot 7, .int .i64), (.slot 8, .int .i64)]
def kk256_2 (k : Ex → St → Option RT) : (Int ⊕ (List (List Int) × Int × Int × Bool)) → Option RT := (Sum.elim (fun r => k .ret [(.slot 4, .v (.sc (.int .i64 r)))]) (fun r => k (.ext 0) [(.slot 9, .v (.sc (.bool false))), (.slot 0, .v (.sc (.rows r.1))), (.slot 1, .v (.fn 225 [])), (.slot 7, .v (.sc (.int .i64 r.2.1))), (.slot 8, .v (.sc (.int .i64 r.2.2.1))), (.slot 9, .v (.sc (.bool r.2.2.2)))]))
def LH256_2 (N : Nat) : St → (Ex → St → Option RT) → Option RT := fun s k => match mS sk256_2 s with
  | some [.R z0, .I z1, .I z2] => (Lp256_2 N N (z0, z1, z2)).bind (kk256_2 k)
  | _ => none
def X256 (N : Nat) : Env := { n := 19, K := K0, C := hSel 225 (H225 (D225 N)) (hNone), L := fun i s k => bif Nat.beq i 2 then LH256_2 N (normL (lp256 2) s) k else none, keep := kp256, lp := lp256 }
theorem st256_2 (N : Nat) (V : St → Option RT) (k : Ex → St → Option RT) (v : List (List Int) × Int × Int) : vexec (X256 N ) (findLoop 2 (loopsIn (bodyOf Try.f256))) (bS sk256_2 [.R v.1, .I v.2.1, .I v.2.2]) (vstep V (lp256 2) k) = L256_2 N v (fun v => V (bS sk256_2 [.R v.1, .I v.2.1, .I v.2.2])) (kk256_2 k) := by kernel_rfl
theorem q256_2 (N : Nat) (k : Ex → St → Option RT) : ∀ n (v : List (List Int) × Int × Int), vround (X256 N ) (findLoop 2 (loopsIn (bodyOf Try.f256))) 2 n (bS sk256_2 [.R v.1, .I v.2.1, .I v.2.2]) k = (Lp256_2 N n v).bind (kk256_2 k) := by
  intro n
  induction n with
  | zero => intro v; rfl
  | succ n ih =>
    intro v
    rw [vround_succ]
    refine (st256_2 N _ k v).trans ?_
    simp only [ih]
    exact L256_2_nat N v (Lp256_2 N n) (kk256_2 k)
theorem lh256_2 (N : Nat) : ∀ s k r, LH256_2 N s k = some r → vround (X256 N ) (findLoop 2 (loopsIn (bodyOf Try.f256))) 2 N s k = some r := by
  intro s k r h
  unfold LH256_2 at h
  split at h
  · rename_i z0 z1 z2 hm
    rw [mS_bS hm]
    exact (q256_2 N k N (z0, z1, z2)).trans h
  · cases h
theorem b256 (N : Nat) (a1 : List (List Int)) : vbody (X256 N ) Try.f256 (bodyOf Try.f256) [.sc (.rows a1), .fn 225 []] [] (fun rs bx => some ⟨rs, bx⟩) = T256 N a1 (fun r => some ⟨[.sc (.int .i64 r)], []⟩) := by kernel_rfl
theorem s256 (N : Nat) (a1 : List (List Int)) (r : Int) (h : D256 N a1 = some r) : CallSpec Try.prog E0 256 [.sc (.rows a1), .fn 225 []] [] [.sc (.int .i64 r)] [] := by
  refine body_ok (X := X256 N ) (CR := CRG Try.prog E0) Try.func256 (code := bodyOf Try.f256) (by kernel_rfl) rfl (by decide) mixed0 tyok0 rfl contracts_ok (cs_sel (h225 (s225 N)) (cs_none)) (LoopsBy.of fun p hp => ?_) (by kernel_rfl) (Nat.le_of_ble_eq_true (by kernel_rfl)) ?_
  · rw [show loopsIn (bodyOf Try.f256) = [(2, findLoop 2 (loopsIn (bodyOf Try.f256)))] from by kernel_rfl] at hp
    simp only [List.mem_cons, List.not_mem_nil, or_false] at hp
    subst hp
    exact vround_of (fun s k => rfl) (by kernel_rfl) (lh256_2 N)
  · rw [b256, T256_nat, h]; rfl

/-! 224: slices.ContainsFunc[[][]int,[]int] -/
def T224 {ρ : Type} (N : Nat) (a1 : List (List Int)) (k : Bool → Option ρ) : Option ρ :=
  (D256 N a1).bind fun r2 =>
  k (iLe (Int.ofNat 0) r2)
def D224 (N : Nat) (a1 : List (List Int)) : Option (Bool) := T224 N a1 some
theorem T224_nat {ρ : Type} (N : Nat) (a1 : List (List Int)) (k : Bool → Option ρ) : T224 N a1 k = (D224 N a1).bind k := by
  unfold D224 T224
  simp only [Option.bind_assoc, bif_bind, elim_bind, Option.bind_some, Option.bind_none]
def H224 (D : (List (List Int)) → Option (Bool)) : Hd := fun az bx k => match az, bx with
  | [c0, c1], [] => cR c0 fun y0 => cF 225 [] c1 fun _ => (D y0).bind fun r => k [.sc (.bool r)] []
  | _, _ => none
theorem fnok224 : FnOK Try.prog 224 := ⟨Try.f224, Try.func224, rfl, by decide⟩
theorem h224 {D : (List (List Int)) → Option (Bool)} (hD : ∀ (y0 : List (List Int)), ∀ r, D y0 = some r → CallSpec Try.prog E0 224 [.sc (.rows y0), .fn 225 []] [] [.sc (.bool r)] []) : HSound Try.prog E0 224 (H224 D) := by
  intro az bx k r h
  unfold H224 at h
  split at h
  · rename_i c0 c1
    obtain ⟨y0, l0, h⟩ := cR_some h
    obtain ⟨l1, h⟩ := cF_some h
    obtain ⟨r, hr, h⟩ := Option.bind_eq_some_iff.1 h
    exact ⟨_, _, ⟨(hD y0 r hr).le ⟨l0, ⟨l1, trivial⟩⟩ trivial, fnok224, Nat.le_of_ble_eq_true rfl⟩, h⟩
  · cases h
def kp224 : Nat → List Tm.Loc := fun i => ([[.slot 0, .slot 1], [.slot 4]] : List (List Tm.Loc)).getD i []
def lp224 : Nat → LpS := fun i => default
def X224 (N : Nat) : Env := { n := 9, K := K0, C := hSel 256 (H256 (D256 N)) (hNone), L := fun i s k => none, keep := kp224, lp := lp224 }
theorem b224 (N : Nat) (a1 : List (List Int)) : vbody (X224 N ) Try.f224 (bodyOf Try.f224) [.sc (.rows a1), .fn 225 []] [] (fun rs bx => some ⟨rs, bx⟩) = T224 N a1 (fun r => some ⟨[.sc (.bool r)], []⟩) := by kernel_rfl
theorem s224 (N : Nat) (a1 : List (List Int)) (r : Bool) (h : D224 N a1 = some r) : CallSpec Try.prog E0 224 [.sc (.rows a1), .fn 225 []] [] [.sc (.bool r)] [] := by
  refine body_ok (X := X224 N ) (CR := CRG Try.prog E0) Try.func224 (code := bodyOf Try.f224) (by kernel_rfl) rfl (by decide) mixed0 tyok0 rfl contracts_ok (cs_sel (h256 (s256 N)) (cs_none)) (LoopsBy.of fun p hp => ?_) (by kernel_rfl) (Nat.le_of_ble_eq_true (by kernel_rfl)) ?_
  · rw [show loopsIn (bodyOf Try.f224) = [] from by kernel_rfl] at hp
    cases hp
  · rw [b224, T224_nat, h]; rfl

/-! 137: loop.example/g01286/impl.arePatterns -/
def T137 {ρ : Type} (N : Nat) (a1 : List (List Int)) (k : Bool → Option ρ) : Option ρ :=
  bif (iLe (Int.ofNat (List.length a1)) (Int.ofNat 4)) then (
  (D224 N a1).bind fun r2 =>
  k (!r2))
  else (
  k false)
def D137 (N : Nat) (a1 : List (List Int)) : Option (Bool) := T137 N a1 some
theorem T137_nat {ρ : Type} (N : Nat) (a1 : List (List Int)) (k : Bool → Option ρ) : T137 N a1 k = (D137 N a1).bind k := by
  unfold D137 T137
  simp only [Option.bind_assoc, bif_bind, elim_bind, Option.bind_some, Option.bind_none]
def H137 (D : (List (List Int)) → Option (Bool)) : Hd := fun az bx k => match az, bx with
  | [c0], [] => cR c0 fun y0 => (D y0).bind fun r => k [.sc (.bool r)] []
  | _, _ => none
theorem fnok137 : FnOK Try.prog 137 := ⟨Try.f137, Try.func137, rfl, by decide⟩
theorem h137 {D : (List (List Int)) → Option (Bool)} (hD : ∀ (y0 : List (List Int)), ∀ r, D y0 = some r → CallSpec Try.prog E0 137 [.sc (.rows y0)] [] [.sc (.bool r)] []) : HSound Try.prog E0 137 (H137 D) := by
  intro az bx k r h
  unfold H137 at h
  split at h
  · rename_i c0
    obtain ⟨y0, l0, h⟩ := cR_some h
    obtain ⟨r, hr, h⟩ := Option.bind_eq_some_iff.1 h
    exact ⟨_, _, ⟨(hD y0 r hr).le ⟨l0, trivial⟩ trivial, fnok137, Nat.le_of_ble_eq_true rfl⟩, h⟩
  · cases h
def kp137 : Nat → List Tm.Loc := fun i => ([[.slot 0, .slot 7, .slot 8, .slot 9], [.slot 2]] : List (List Tm.Loc)).getD i []
def lp137 : Nat → LpS := fun i => default
def X137 (N : Nat) : Env := { n := 11, K := K0, C := hSel 224 (H224 (D224 N)) (hNone), L := fun i s k => none, keep := kp137, lp := lp137 }
theorem b137 (N : Nat) (a1 : List (List Int)) : vbody (X137 N ) Try.f137 (bodyOf Try.f137) [.sc (.rows a1)] [] (fun rs bx => some ⟨rs, bx⟩) = T137 N a1 (fun r => some ⟨[.sc (.bool r)], []⟩) := by kernel_rfl
theorem s137 (N : Nat) (a1 : List (List Int)) (r : Bool) (h : D137 N a1 = some r) : CallSpec Try.prog E0 137 [.sc (.rows a1)] [] [.sc (.bool r)] [] := by
  refine body_ok (X := X137 N ) (CR := CRG Try.prog E0) Try.func137 (code := bodyOf Try.f137) (by kernel_rfl) rfl (by decide) mixed0 tyok0 rfl contracts_ok (cs_sel (h224 (s224 N)) (cs_none)) (LoopsBy.of fun p hp => ?_) (by kernel_rfl) (Nat.le_of_ble_eq_true (by kernel_rfl)) ?_
  · rw [show loopsIn (bodyOf Try.f137) = [] from by kernel_rfl] at hp
    cases hp
  · rw [b137, T137_nat, h]; rfl

/-! 212: loop.example/g01286/impl.isDrawn -/
def T212 {ρ : Type} (N : Nat) (a1 : Int) (k : Bool → Option ρ) : Option ρ :=
  bif (iLe (Int.ofNat 1) a1) then (
  k (iLe a1 (Int.ofNat 6)))
  else (
  k false)
def D212 (N : Nat) (a1 : Int) : Option (Bool) := T212 N a1 some
theorem T212_nat {ρ : Type} (N : Nat) (a1 : Int) (k : Bool → Option ρ) : T212 N a1 k = (D212 N a1).bind k := by
  unfold D212 T212
  simp only [Option.bind_assoc, bif_bind, elim_bind, Option.bind_some, Option.bind_none]
def H212 (D : Int → Option (Bool)) : Hd := fun az bx k => match az, bx with
  | [c0], [] => cI .i64 c0 fun y0 => (D y0).bind fun r => k [.sc (.bool r)] []
  | _, _ => none
theorem fnok212 : FnOK Try.prog 212 := ⟨Try.f212, Try.func212, rfl, by decide⟩
theorem h212 {D : Int → Option (Bool)} (hD : ∀ (y0 : Int), ∀ r, D y0 = some r → CallSpec Try.prog E0 212 [.sc (.int .i64 y0)] [] [.sc (.bool r)] []) : HSound Try.prog E0 212 (H212 D) := by
  intro az bx k r h
  unfold H212 at h
  split at h
  · rename_i c0
    obtain ⟨y0, l0, h⟩ := cI_some h
    obtain ⟨r, hr, h⟩ := Option.bind_eq_some_iff.1 h
    exact ⟨_, _, ⟨(hD y0 r hr).le ⟨l0, trivial⟩ trivial, fnok212, Nat.le_of_ble_eq_true rfl⟩, h⟩
  · cases h
def kp212 : Nat → List Tm.Loc := fun i => ([[.slot 0, .slot 6, .slot 7], [.slot 2]] : List (List Tm.Loc)).getD i []
def lp212 : Nat → LpS := fun i => default
def X212 (N : Nat) : Env := { n := 9, K := K0, C := hNone, L := fun i s k => none, keep := kp212, lp := lp212 }
theorem b212 (N : Nat) (a1 : Int) : vbody (X212 N ) Try.f212 (bodyOf Try.f212) [.sc (.int .i64 a1)] [] (fun rs bx => some ⟨rs, bx⟩) = T212 N a1 (fun r => some ⟨[.sc (.bool r)], []⟩) := by kernel_rfl
theorem s212 (N : Nat) (a1 : Int) (r : Bool) (h : D212 N a1 = some r) : CallSpec Try.prog E0 212 [.sc (.int .i64 a1)] [] [.sc (.bool r)] [] := by
  refine body_ok (X := X212 N ) (CR := CRG Try.prog E0) Try.func212 (code := bodyOf Try.f212) (by kernel_rfl) rfl (by decide) mixed0 tyok0 rfl contracts_ok (cs_none) (LoopsBy.of fun p hp => ?_) (by kernel_rfl) (Nat.le_of_ble_eq_true (by kernel_rfl)) ?_
  · rw [show loopsIn (bodyOf Try.f212) = [] from by kernel_rfl] at hp
    cases hp
  · rw [b212, T212_nat, h]; rfl

/-! 238: loop.example/g01286/impl.factorial -/
def L238_3 {ρ : Type} (N : Nat) (v : Int × Int × Int) (rec : (Int × Int × Int) → Option ρ) (k : ((Int × Int × Int × Bool)) → Option ρ) : Option ρ :=
  bif (iLe v.2.2 v.1) then (
  rec (v.1, (wrapF .i64 (v.2.1 * v.2.2)), (wrapF .i64 (v.2.2 + (Int.ofNat 1)))))
  else (
  k (v.1, v.2.1, v.2.2, (iLe v.2.2 v.1)))
def Lp238_3 (N : Nat) : Nat → (Int × Int × Int) → Option ((Int × Int × Int × Bool)) := fun n => Nat.rec (motive := fun _ => (Int × Int × Int) → Option ((Int × Int × Int × Bool))) (fun _ => none) (fun _ ih v => L238_3 N v ih some) n
theorem L238_3_nat {ρ : Type} (N : Nat) (v : Int × Int × Int) (rec : (Int × Int × Int) → Option ((Int × Int × Int × Bool))) (k : ((Int × Int × Int × Bool)) → Option ρ) : L238_3 N v (fun v => (rec v).bind k) k = (L238_3 N v rec some).bind k := by
  unfold L238_3
  simp only [Option.bind_assoc, bif_bind, elim_bind, Option.bind_some, Option.bind_none]
def T238 {ρ : Type} (N : Nat) (a1 : Int) (k : Int → Option ρ) : Option ρ :=
  (Lp238_3 N N (a1, (Int.ofNat 1), (Int.ofNat 2))).bind fun w2 =>
  k w2.2.1
def D238 (N : Nat) (a1 : Int) : Option (Int) := T238 N a1 some
theorem T238_nat {ρ : Type} (N : Nat) (a1 : Int) (k : Int → Option ρ) : T238 N a1 k = (D238 N a1).bind k := by
  unfold D238 T238
  simp only [Option.bind_assoc, bif_bind, elim_bind, Option.bind_some, Option.bind_none]
def H238 (D : Int → Option (Int)) : Hd := fun az bx k => match az, bx with
  | [c0], [] => cI .i64 c0 fun y0 => (D y0).bind fun r => k [.sc (.int .i64 r)] []
  | _, _ => none
theorem fnok238 : FnOK Try.prog 238 := ⟨Try.f238, Try.func238, rfl, by decide⟩
theorem h238 {D : Int → Option (Int)} (hD : ∀ (y0 : Int), ∀ r, D y0 = some r → CallSpec Try.prog E0 238 [.sc (.int .i64 y0)] [] [.sc (.int .i64 r)] []) : HSound Try.prog E0 238 (H238 D) := by
  intro az bx k r h
  unfold H238 at h
  split at h
  · rename_i c0
    obtain ⟨y0, l0, h⟩ := cI_some h
    obtain ⟨r, hr, h⟩ := Option.bind_eq_some_iff.1 h
    exact ⟨_, _, ⟨(hD y0 r hr).le ⟨l0, trivial⟩ trivial, fnok238, Nat.le_of_ble_eq_true rfl⟩, h⟩
  · cases h
def kp238 : Nat → List Tm.Loc := fun i => ([[.slot 0], [.slot 0, .slot 3], [.slot 0, .slot 3, .slot 4], [.slot 0, .slot 3, .slot 4, .slot 7], [.slot 0, .slot 3, .slot 4], [.slot 0, .slot 3, .slot 4], [.slot 2]] : List (List Tm.Loc)).getD i []
def lp238 : Nat → LpS := fun i => bif Nat.beq i 3 then ⟨[], [], [.slot 0, .slot 3, .slot 4]⟩ else default
def sk238_3 : List (Tm.Loc × SkV) := [(.slot 0, .int .i64), (.slot 3, .int .i64), (.slot 4, .int .i64)]
def kk238_3 (k : Ex → St → Option RT) : ((Int × Int × Int × Bool)) → Option RT := (fun r => k (.ext 0) [(.slot 7, .v (.sc (.bool false))), (.slot 0, .v (.sc (.int .i64 r.1))), (.slot 3, .v (.sc (.int .i64 r.2.1))), (.slot 4, .v (.sc (.int .i64 r.2.2.1))), (.slot 7, .v (.sc (.bool r.2.2.2)))])
def LH238_3 (N : Nat) : St → (Ex → St → Option RT) → Option RT := fun s k => match mS sk238_3 s with
  | some [.I z0, .I z1, .I z2] => (Lp238_3 N N (z0, z1, z2)).bind (kk238_3 k)
  | _ => none
def X238 (N : Nat) : Env := { n := 14, K := K0, C := hNone, L := fun i s k => bif Nat.beq i 3 then LH238_3 N (normL (lp238 3) s) k else none, keep := kp238, lp := lp238 }
theorem st238_3 (N : Nat) (V : St → Option RT) (k : Ex → St → Option RT) (v : Int × Int × Int) : vexec (X238 N ) (findLoop 3 (loopsIn (bodyOf Try.f238))) (bS sk238_3 [.I v.1, .I v.2.1, .I v.2.2]) (vstep V (lp238 3) k) = L238_3 N v (fun v => V (bS sk238_3 [.I v.1, .I v.2.1, .I v.2.2])) (kk238_3 k) := by kernel_rfl
theorem q238_3 (N : Nat) (k : Ex → St → Option RT) : ∀ n (v : Int × Int × Int), vround (X238 N ) (findLoop 3 (loopsIn (bodyOf Try.f238))) 3 n (bS sk238_3 [.I v.1, .I v.2.1, .I v.2.2]) k = (Lp238_3 N n v).bind (kk238_3 k) := by
  intro n
  induction n with
  | zero => intro v; rfl
  | succ n ih =>
    intro v
    rw [vround_succ]
    refine (st238_3 N _ k v).trans ?_
    simp only [ih]
    exact L238_3_nat N v (Lp238_3 N n) (kk238_3 k)
theorem lh238_3 (N : Nat) : ∀ s k r, LH238_3 N s k = some r → vround (X238 N ) (findLoop 3 (loopsIn (bodyOf Try.f238))) 3 N s k = some r := by
  intro s k r h
  unfold LH238_3 at h
  split at h
  · rename_i z0 z1 z2 hm
    rw [mS_bS hm]
    exact (q238_3 N k N (z0, z1, z2)).trans h
  · cases h
theorem b238 (N : Nat) (a1 : Int) : vbody (X238 N ) Try.f238 (bodyOf Try.f238) [.sc (.int .i64 a1)] [] (fun rs bx => some ⟨rs, bx⟩) = T238 N a1 (fun r => some ⟨[.sc (.int .i64 r)], []⟩) := by kernel_rfl
theorem s238 (N : Nat) (a1 : Int) (r : Int) (h : D238 N a1 = some r) : CallSpec Try.prog E0 238 [.sc (.int .i64 a1)] [] [.sc (.int .i64 r)] [] := by
  refine body_ok (X := X238 N ) (CR := CRG Try.prog E0) Try.func238 (code := bodyOf Try.f238) (by kernel_rfl) rfl (by decide) mixed0 tyok0 rfl contracts_ok (cs_none) (LoopsBy.of fun p hp => ?_) (by kernel_rfl) (Nat.le_of_ble_eq_true (by kernel_rfl)) ?_
  · rw [show loopsIn (bodyOf Try.f238) = [(3, findLoop 3 (loopsIn (bodyOf Try.f238)))] from by kernel_rfl] at hp
    simp only [List.mem_cons, List.not_mem_nil, or_false] at hp
    subst hp
    exact vround_of (fun s k => rfl) (by kernel_rfl) (lh238_3 N)
  · rw [b238, T238_nat, h]; rfl

/-! 234: loop.example/g01286/impl.sorted -/
def L234_3 {ρ : Type} (N : Nat) (v : List Int × Int × Int) (rec : (List Int × Int × Int) → Option ρ) (k : ((List Int × Int × Int × Bool)) → Option ρ) : Option ρ :=
  bif (iLt v.2.2 v.2.1) then (
  bif capB (List.length (v.1 ++ [(wrapF .i64 (v.2.2 + (Int.ofNat 1)))])) then (
  rec ((v.1 ++ [(wrapF .i64 (v.2.2 + (Int.ofNat 1)))]), v.2.1, (wrapF .i64 (v.2.2 + (Int.ofNat 1)))))
  else none)
  else (
  k (v.1, v.2.1, v.2.2, (iLt v.2.2 v.2.1)))
def Lp234_3 (N : Nat) : Nat → (List Int × Int × Int) → Option ((List Int × Int × Int × Bool)) := fun n => Nat.rec (motive := fun _ => (List Int × Int × Int) → Option ((List Int × Int × Int × Bool))) (fun _ => none) (fun _ ih v => L234_3 N v ih some) n
theorem L234_3_nat {ρ : Type} (N : Nat) (v : List Int × Int × Int) (rec : (List Int × Int × Int) → Option ((List Int × Int × Int × Bool))) (k : ((List Int × Int × Int × Bool)) → Option ρ) : L234_3 N v (fun v => (rec v).bind k) k = (L234_3 N v rec some).bind k := by
  unfold L234_3
  simp only [Option.bind_assoc, bif_bind, elim_bind, Option.bind_some, Option.bind_none]
def T234 {ρ : Type} (N : Nat) (a1 : Int) (k : (List Int) → Option ρ) : Option ρ :=
  (Lp234_3 N N ([], a1, (Int.ofNat 0))).bind fun w2 =>
  k w2.1
def D234 (N : Nat) (a1 : Int) : Option (List Int) := T234 N a1 some
theorem T234_nat {ρ : Type} (N : Nat) (a1 : Int) (k : (List Int) → Option ρ) : T234 N a1 k = (D234 N a1).bind k := by
  unfold D234 T234
  simp only [Option.bind_assoc, bif_bind, elim_bind, Option.bind_some, Option.bind_none]
def H234 (D : Int → Option (List Int)) : Hd := fun az bx k => match az, bx with
  | [c0], [] => cI .i64 c0 fun y0 => (D y0).bind fun r => k [.ow (.ints .i64 r)] []
  | _, _ => none
theorem fnok234 : FnOK Try.prog 234 := ⟨Try.f234, Try.func234, rfl, by decide⟩
theorem h234 {D : Int → Option (List Int)} (hD : ∀ (y0 : Int), ∀ r, D y0 = some r → CallSpec Try.prog E0 234 [.sc (.int .i64 y0)] [] [.ow (.ints .i64 r)] []) : HSound Try.prog E0 234 (H234 D) := by
  intro az bx k r h
  unfold H234 at h
  split at h
  · rename_i c0
    obtain ⟨y0, l0, h⟩ := cI_some h
    obtain ⟨r, hr, h⟩ := Option.bind_eq_some_iff.1 h
    exact ⟨_, _, ⟨(hD y0 r hr).le ⟨l0, trivial⟩ trivial, fnok234, Nat.le_of_ble_eq_true rfl⟩, h⟩
  · cases h
def kp234 : Nat → List Tm.Loc := fun i => ([[.slot 0], [.slot 0, .slot 3], [.slot 3, .slot 6, .slot 7], [.slot 3, .slot 6, .slot 7, .slot 8], [.slot 3, .slot 4, .slot 6, .slot 7], [.slot 3, .slot 6, .slot 7], [.slot 3, .slot 6, .slot 7], [.slot 2]] : List (List Tm.Loc)).getD i []
def lp234 : Nat → LpS := fun i => bif Nat.beq i 3 then ⟨[], [], [.slot 3, .slot 6, .slot 7]⟩ else default
def sk234_3 : List (Tm.Loc × SkV) := [(.slot 3, .rf 100000003), (.tok 100000003, .tI .i64), (.slot 6, .int .i64), (.slot 7, .int .i64)]
def kk234_3 (k : Ex → St → Option RT) : ((List Int × Int × Int × Bool)) → Option RT := (fun r => k (.ext 0) [(.slot 8, .v (.sc (.bool false))), (.slot 3, .v (.rf 100000003)), (.tok 100000003, .t 0 (.ints .i64 r.1)), (.slot 6, .v (.sc (.int .i64 r.2.1))), (.slot 7, .v (.sc (.int .i64 r.2.2.1))), (.slot 8, .v (.sc (.bool r.2.2.2)))])
def LH234_3 (N : Nat) : St → (Ex → St → Option RT) → Option RT := fun s k => match mS sk234_3 s with
  | some [.L z0, .I z1, .I z2] => (Lp234_3 N N (z0, z1, z2)).bind (kk234_3 k)
  | _ => none
def X234 (N : Nat) : Env := { n := 17, K := K0, C := hNone, L := fun i s k => bif Nat.beq i 3 then LH234_3 N (normL (lp234 3) s) k else none, keep := kp234, lp := lp234 }
theorem st234_3 (N : Nat) (V : St → Option RT) (k : Ex → St → Option RT) (v : List Int × Int × Int) : vexec (X234 N ) (findLoop 3 (loopsIn (bodyOf Try.f234))) (bS sk234_3 [.L v.1, .I v.2.1, .I v.2.2]) (vstep V (lp234 3) k) = L234_3 N v (fun v => V (bS sk234_3 [.L v.1, .I v.2.1, .I v.2.2])) (kk234_3 k) := by kernel_rfl
theorem q234_3 (N : Nat) (k : Ex → St → Option RT) : ∀ n (v : List Int × Int × Int), vround (X234 N ) (findLoop 3 (loopsIn (bodyOf Try.f234))) 3 n (bS sk234_3 [.L v.1, .I v.2.1, .I v.2.2]) k = (Lp234_3 N n v).bind (kk234_3 k) := by
  intro n
  induction n with
  | zero => intro v; rfl
  | succ n ih =>
    intro v
    rw [vround_succ]
    refine (st234_3 N _ k v).trans ?_
    simp only [ih]
    exact L234_3_nat N v (Lp234_3 N n) (kk234_3 k)
theorem lh234_3 (N : Nat) : ∀ s k r, LH234_3 N s k = some r → vround (X234 N ) (findLoop 3 (loopsIn (bodyOf Try.f234))) 3 N s k = some r := by
  intro s k r h
  unfold LH234_3 at h
  split at h
  · rename_i z0 z1 z2 hm
    rw [mS_bS hm]
    exact (q234_3 N k N (z0, z1, z2)).trans h
  · cases h
theorem b234 (N : Nat) (a1 : Int) : vbody (X234 N ) Try.f234 (bodyOf Try.f234) [.sc (.int .i64 a1)] [] (fun rs bx => some ⟨rs, bx⟩) = T234 N a1 (fun r => some ⟨[.ow (.ints .i64 r)], []⟩) := by kernel_rfl
theorem s234 (N : Nat) (a1 : Int) (r : List Int) (h : D234 N a1 = some r) : CallSpec Try.prog E0 234 [.sc (.int .i64 a1)] [] [.ow (.ints .i64 r)] [] := by
  refine body_ok (X := X234 N ) (CR := CRG Try.prog E0) Try.func234 (code := bodyOf Try.f234) (by kernel_rfl) rfl (by decide) mixed0 tyok0 rfl contracts_ok (cs_none) (LoopsBy.of fun p hp => ?_) (by kernel_rfl) (Nat.le_of_ble_eq_true (by kernel_rfl)) ?_
  · rw [show loopsIn (bodyOf Try.f234) = [(3, findLoop 3 (loopsIn (bodyOf Try.f234)))] from by kernel_rfl] at hp
    simp only [List.mem_cons, List.not_mem_nil, or_false] at hp
    subst hp
    exact vround_of (fun s k => rfl) (by kernel_rfl) (lh234_3 N)
  · rw [b234, T234_nat, h]; rfl

/-! 261: slices.Delete[[]int,int] -/
def ren_delete261 : Shelf.Ren := { f := fun _ => 261, t := fun k => bif Nat.beq k 0 then 0 else bif Nat.beq k 3 then 3 else bif Nat.beq k 4 then 4 else bif Nat.beq k 22 then 29 else 0, g := fun _ => 0 }
theorem lays_delete261 : Lays2.n23 Try.prog ren_delete261 := { mixed := mixed0, f23 := Try.func261, t0 := Try.underlying0, a0 := Try.isAgg0, z0 := Try.sizeOf0, v0 := Try.zeroValue0, t3 := Try.underlying3, a3 := Try.isAgg3, z3 := Try.sizeOf3, v3 := Try.zeroValue3, t4 := Try.underlying4, a4 := Try.isAgg4, z4 := Try.sizeOf4, v4 := Try.zeroValue4, t22 := Try.underlying29, a22 := Try.isAgg29, z22 := Try.sizeOf29, v22 := Try.zeroValue29, i3 := rfl }

def D261 (N : Nat) (a1 : List Int) (a2 a3 : Int) : Option (List Int) := DDelete a1 a2 a3
theorem s261 (N : Nat) (a1 : List Int) (a2 a3 : Int) (r : List Int) (h : D261 N a1 a2 a3 = some r) : CallSpec Try.prog E0 261 [.ow (.ints .i64 a1), .sc (.int .i64 a2), .sc (.int .i64 a3)] [] [.ow (.ints .i64 r)] [] := delete_ok (ρ := ren_delete261) lays_delete261 rfl a1 a2 a3 r h
def H261 (D : (List Int) → Int → Int → Option (List Int)) : Hd := fun az bx k => match az, bx with
  | [c0, c1, c2], [] => cLo .i64 c0 fun y0 => cI .i64 c1 fun y1 => cI .i64 c2 fun y2 => (D y0 y1 y2).bind fun r => k [.ow (.ints .i64 r)] []
  | _, _ => none
theorem fnok261 : FnOK Try.prog 261 := ⟨Try.f261, Try.func261, rfl, by decide⟩
theorem h261 {D : (List Int) → Int → Int → Option (List Int)} (hD : ∀ (y0 : List Int), ∀ (y1 : Int), ∀ (y2 : Int), ∀ r, D y0 y1 y2 = some r → CallSpec Try.prog E0 261 [.ow (.ints .i64 y0), .sc (.int .i64 y1), .sc (.int .i64 y2)] [] [.ow (.ints .i64 r)] []) : HSound Try.prog E0 261 (H261 D) := by
  intro az bx k r h
  unfold H261 at h
  split at h
  · rename_i c0 c1 c2
    obtain ⟨y0, l0, h⟩ := cLo_some h
    obtain ⟨y1, l1, h⟩ := cI_some h
    obtain ⟨y2, l2, h⟩ := cI_some h
    obtain ⟨r, hr, h⟩ := Option.bind_eq_some_iff.1 h
    exact ⟨_, _, ⟨(hD y0 y1 y2 r hr).le ⟨l0, ⟨l1, ⟨l2, trivial⟩⟩⟩ trivial, fnok261, Nat.le_of_ble_eq_true rfl⟩, h⟩
  · cases h

/-! 239: loop.example/g01286/impl.orderAt -/
def L239_2 {ρ : Type} (N : Nat) (v : Int × List Int × List Int) (rec : (Int × List Int × List Int) → Option ρ) (k : ((Int × List Int × List Int × Bool)) → Option ρ) : Option ρ :=
  bif (iLt (Int.ofNat 0) (Int.ofNat (List.length v.2.1))) then (
  (D238 N (wrapF .i64 ((Int.ofNat (List.length v.2.1)) - (Int.ofNat 1)))).bind fun r4 =>
  bif (!(iEq r4 (Int.ofNat 0))) then (
  bif (!(iEq r4 (Int.ofNat 0))) then (
  bif inB (wrapF .i64 (Int.tdiv v.1 r4)) (List.length v.2.1) then (
  bif capB (List.length (v.2.2 ++ [(List.getD v.2.1 (Int.toNat (wrapF .i64 (Int.tdiv v.1 r4))) (Int.ofNat 0))])) then (
  (D261 N v.2.1 (wrapF .i64 (Int.tdiv v.1 r4)) (wrapF .i64 ((wrapF .i64 (Int.tdiv v.1 r4)) + (Int.ofNat 1)))).bind fun r5 =>
  rec ((Int.tmod v.1 r4), r5, (v.2.2 ++ [(List.getD v.2.1 (Int.toNat (wrapF .i64 (Int.tdiv v.1 r4))) (Int.ofNat 0))])))
  else none)
  else none)
  else none)
  else none)
  else (
  k (v.1, v.2.1, v.2.2, (iLt (Int.ofNat 0) (Int.ofNat (List.length v.2.1)))))
def Lp239_2 (N : Nat) : Nat → (Int × List Int × List Int) → Option ((Int × List Int × List Int × Bool)) := fun n => Nat.rec (motive := fun _ => (Int × List Int × List Int) → Option ((Int × List Int × List Int × Bool))) (fun _ => none) (fun _ ih v => L239_2 N v ih some) n
theorem L239_2_nat {ρ : Type} (N : Nat) (v : Int × List Int × List Int) (rec : (Int × List Int × List Int) → Option ((Int × List Int × List Int × Bool))) (k : ((Int × List Int × List Int × Bool)) → Option ρ) : L239_2 N v (fun v => (rec v).bind k) k = (L239_2 N v rec some).bind k := by
  unfold L239_2
  simp only [Option.bind_assoc, bif_bind, elim_bind, Option.bind_some, Option.bind_none]
def T239 {ρ : Type} (N : Nat) (a1 : Int) (a2 : Int) (k : (List Int) → Option ρ) : Option ρ :=
  (D234 N a1).bind fun r3 =>
  (Lp239_2 N N (a2, r3, [])).bind fun w6 =>
  k w6.2.2.1
def D239 (N : Nat) (a1 : Int) (a2 : Int) : Option (List Int) := T239 N a1 a2 some
theorem T239_nat {ρ : Type} (N : Nat) (a1 : Int) (a2 : Int) (k : (List Int) → Option ρ) : T239 N a1 a2 k = (D239 N a1 a2).bind k := by
  unfold D239 T239
  simp only [Option.bind_assoc, bif_bind, elim_bind, Option.bind_some, Option.bind_none]
def H239 (D : Int → Int → Option (List Int)) : Hd := fun az bx k => match az, bx with
  | [c0, c1], [] => cI .i64 c0 fun y0 => cI .i64 c1 fun y1 => (D y0 y1).bind fun r => k [.ow (.ints .i64 r)] []
  | _, _ => none
theorem fnok239 : FnOK Try.prog 239 := ⟨Try.f239, Try.func239, rfl, by decide⟩
theorem h239 {D : Int → Int → Option (List Int)} (hD : ∀ (y0 : Int), ∀ (y1 : Int), ∀ r, D y0 y1 = some r → CallSpec Try.prog E0 239 [.sc (.int .i64 y0), .sc (.int .i64 y1)] [] [.ow (.ints .i64 r)] []) : HSound Try.prog E0 239 (H239 D) := by
  intro az bx k r h
  unfold H239 at h
  split at h
  · rename_i c0 c1
    obtain ⟨y0, l0, h⟩ := cI_some h
    obtain ⟨y1, l1, h⟩ := cI_some h
    obtain ⟨r, hr, h⟩ := Option.bind_eq_some_iff.1 h
    exact ⟨_, _, ⟨(hD y0 y1 r hr).le ⟨l0, ⟨l1, trivial⟩⟩ trivial, fnok239, Nat.le_of_ble_eq_true rfl⟩, h⟩
  · cases h
def kp239 : Nat → List Tm.Loc := fun i => ([[.slot 0, .slot 1], [.slot 1, .slot 5, .slot 6], [.slot 1, .slot 5, .slot 6, .slot 14], [.slot 1, .slot 5, .slot 6, .slot 7], [.slot 1, .slot 5, .slot 6, .slot 7, .slot 8], [.slot 1, .slot 5, .slot 6, .slot 8], [.slot 1, .slot 5, .slot 6, .slot 8], [.slot 1, .slot 5, .slot 6], [.slot 4]] : List (List Tm.Loc)).getD i []
def lp239 : Nat → LpS := fun i => bif Nat.beq i 2 then ⟨[], [], [.slot 1, .slot 5, .slot 6]⟩ else default
def sk239_2 : List (Tm.Loc × SkV) := [(.slot 1, .int .i64), (.slot 5, .rf 100000005), (.tok 100000005, .tI .i64), (.slot 6, .rf 100000006), (.tok 100000006, .tI .i64)]
def kk239_2 (k : Ex → St → Option RT) : ((Int × List Int × List Int × Bool)) → Option RT := (fun r => k (.ext 0) [(.slot 14, .v (.sc (.bool false))), (.slot 1, .v (.sc (.int .i64 r.1))), (.slot 5, .v (.rf 100000005)), (.tok 100000005, .t 0 (.ints .i64 r.2.1)), (.slot 6, .v (.rf 100000006)), (.tok 100000006, .t 0 (.ints .i64 r.2.2.1)), (.slot 14, .v (.sc (.bool r.2.2.2)))])
def LH239_2 (N : Nat) : St → (Ex → St → Option RT) → Option RT := fun s k => match mS sk239_2 s with
  | some [.I z0, .L z1, .L z2] => (Lp239_2 N N (z0, z1, z2)).bind (kk239_2 k)
  | _ => none
def X239 (N : Nat) : Env := { n := 38, K := K0, C := hSel 234 (H234 (D234 N)) (hSel 238 (H238 (D238 N)) (hSel 261 (H261 (D261 N)) (hNone))), L := fun i s k => bif Nat.beq i 2 then LH239_2 N (normL (lp239 2) s) k else none, keep := kp239, lp := lp239 }
theorem st239_2 (N : Nat) (V : St → Option RT) (k : Ex → St → Option RT) (v : Int × List Int × List Int) : vexec (X239 N ) (findLoop 2 (loopsIn (bodyOf Try.f239))) (bS sk239_2 [.I v.1, .L v.2.1, .L v.2.2]) (vstep V (lp239 2) k) = L239_2 N v (fun v => V (bS sk239_2 [.I v.1, .L v.2.1, .L v.2.2])) (kk239_2 k) := by kernel_rfl
theorem q239_2 (N : Nat) (k : Ex → St → Option RT) : ∀ n (v : Int × List Int × List Int), vround (X239 N ) (findLoop 2 (loopsIn (bodyOf Try.f239))) 2 n (bS sk239_2 [.I v.1, .L v.2.1, .L v.2.2]) k = (Lp239_2 N n v).bind (kk239_2 k) := by
  intro n
  induction n with
  | zero => intro v; rfl
  | succ n ih =>
    intro v
    rw [vround_succ]
    refine (st239_2 N _ k v).trans ?_
    simp only [ih]
    exact L239_2_nat N v (Lp239_2 N n) (kk239_2 k)
theorem lh239_2 (N : Nat) : ∀ s k r, LH239_2 N s k = some r → vround (X239 N ) (findLoop 2 (loopsIn (bodyOf Try.f239))) 2 N s k = some r := by
  intro s k r h
  unfold LH239_2 at h
  split at h
  · rename_i z0 z1 z2 hm
    rw [mS_bS hm]
    exact (q239_2 N k N (z0, z1, z2)).trans h
  · cases h
theorem b239 (N : Nat) (a1 : Int) (a2 : Int) : vbody (X239 N ) Try.f239 (bodyOf Try.f239) [.sc (.int .i64 a1), .sc (.int .i64 a2)] [] (fun rs bx => some ⟨rs, bx⟩) = T239 N a1 a2 (fun r => some ⟨[.ow (.ints .i64 r)], []⟩) := by kernel_rfl
theorem s239 (N : Nat) (a1 : Int) (a2 : Int) (r : List Int) (h : D239 N a1 a2 = some r) : CallSpec Try.prog E0 239 [.sc (.int .i64 a1), .sc (.int .i64 a2)] [] [.ow (.ints .i64 r)] [] := by
  refine body_ok (X := X239 N ) (CR := CRG Try.prog E0) Try.func239 (code := bodyOf Try.f239) (by kernel_rfl) rfl (by decide) mixed0 tyok0 rfl contracts_ok (cs_sel (h234 (s234 N)) (cs_sel (h238 (s238 N)) (cs_sel (h261 (s261 N)) (cs_none)))) (LoopsBy.of fun p hp => ?_) (by kernel_rfl) (Nat.le_of_ble_eq_true (by kernel_rfl)) ?_
  · rw [show loopsIn (bodyOf Try.f239) = [(2, findLoop 2 (loopsIn (bodyOf Try.f239)))] from by kernel_rfl] at hp
    simp only [List.mem_cons, List.not_mem_nil, or_false] at hp
    subst hp
    exact vround_of (fun s k => rfl) (by kernel_rfl) (lh239_2 N)
  · rw [b239, T239_nat, h]; rfl

/-! 186: loop.example/g01286/impl.allOrders -/
def L186_3 {ρ : Type} (N : Nat) (v : Int × List (List Int) × Int × Int) (rec : (Int × List (List Int) × Int × Int) → Option ρ) (k : ((Int × List (List Int) × Int × Int × Bool)) → Option ρ) : Option ρ :=
  bif (iLt v.2.2.2 v.2.2.1) then (
  (D239 N v.1 v.2.2.2).bind fun r3 =>
  bif capB (List.length (v.2.1 ++ [r3])) then (
  rec (v.1, (v.2.1 ++ [r3]), v.2.2.1, (wrapF .i64 (v.2.2.2 + (Int.ofNat 1)))))
  else none)
  else (
  k (v.1, v.2.1, v.2.2.1, v.2.2.2, (iLt v.2.2.2 v.2.2.1)))
def Lp186_3 (N : Nat) : Nat → (Int × List (List Int) × Int × Int) → Option ((Int × List (List Int) × Int × Int × Bool)) := fun n => Nat.rec (motive := fun _ => (Int × List (List Int) × Int × Int) → Option ((Int × List (List Int) × Int × Int × Bool))) (fun _ => none) (fun _ ih v => L186_3 N v ih some) n
theorem L186_3_nat {ρ : Type} (N : Nat) (v : Int × List (List Int) × Int × Int) (rec : (Int × List (List Int) × Int × Int) → Option ((Int × List (List Int) × Int × Int × Bool))) (k : ((Int × List (List Int) × Int × Int × Bool)) → Option ρ) : L186_3 N v (fun v => (rec v).bind k) k = (L186_3 N v rec some).bind k := by
  unfold L186_3
  simp only [Option.bind_assoc, bif_bind, elim_bind, Option.bind_some, Option.bind_none]
def T186 {ρ : Type} (N : Nat) (a1 : Int) (k : (List (List Int)) → Option ρ) : Option ρ :=
  (D238 N a1).bind fun r2 =>
  (Lp186_3 N N (a1, [], r2, (Int.ofNat 0))).bind fun w4 =>
  k w4.2.1
def D186 (N : Nat) (a1 : Int) : Option (List (List Int)) := T186 N a1 some
theorem T186_nat {ρ : Type} (N : Nat) (a1 : Int) (k : (List (List Int)) → Option ρ) : T186 N a1 k = (D186 N a1).bind k := by
  unfold D186 T186
  simp only [Option.bind_assoc, bif_bind, elim_bind, Option.bind_some, Option.bind_none]
def H186 (D : Int → Option (List (List Int))) : Hd := fun az bx k => match az, bx with
  | [c0], [] => cI .i64 c0 fun y0 => (D y0).bind fun r => k [.ow (.rows true r)] []
  | _, _ => none
theorem fnok186 : FnOK Try.prog 186 := ⟨Try.f186, Try.func186, rfl, by decide⟩
theorem h186 {D : Int → Option (List (List Int))} (hD : ∀ (y0 : Int), ∀ r, D y0 = some r → CallSpec Try.prog E0 186 [.sc (.int .i64 y0)] [] [.ow (.rows true r)] []) : HSound Try.prog E0 186 (H186 D) := by
  intro az bx k r h
  unfold H186 at h
  split at h
  · rename_i c0
    obtain ⟨y0, l0, h⟩ := cI_some h
    obtain ⟨r, hr, h⟩ := Option.bind_eq_some_iff.1 h
    exact ⟨_, _, ⟨(hD y0 r hr).le ⟨l0, trivial⟩ trivial, fnok186, Nat.le_of_ble_eq_true rfl⟩, h⟩
  · cases h
def kp186 : Nat → List Tm.Loc := fun i => ([[.slot 0], [.slot 0, .slot 3], [.slot 0, .slot 3, .slot 7, .slot 8], [.slot 0, .slot 3, .slot 7, .slot 8, .slot 9], [.slot 0, .slot 3, .slot 4, .slot 7, .slot 8], [.slot 0, .slot 3, .slot 7, .slot 8], [.slot 0, .slot 3, .slot 7, .slot 8], [.slot 2]] : List (List Tm.Loc)).getD i []
def lp186 : Nat → LpS := fun i => bif Nat.beq i 3 then ⟨[], [], [.slot 0, .slot 3, .slot 7, .slot 8]⟩ else default
def sk186_3 : List (Tm.Loc × SkV) := [(.slot 0, .int .i64), (.slot 3, .rf 100000003), (.tok 100000003, .tR true), (.slot 7, .int .i64), (.slot 8, .int .i64)]
def kk186_3 (k : Ex → St → Option RT) : ((Int × List (List Int) × Int × Int × Bool)) → Option RT := (fun r => k (.ext 0) [(.slot 9, .v (.sc (.bool false))), (.slot 0, .v (.sc (.int .i64 r.1))), (.slot 3, .v (.rf 100000003)), (.tok 100000003, .t 0 (.rows true r.2.1)), (.slot 7, .v (.sc (.int .i64 r.2.2.1))), (.slot 8, .v (.sc (.int .i64 r.2.2.2.1))), (.slot 9, .v (.sc (.bool r.2.2.2.2)))])
def LH186_3 (N : Nat) : St → (Ex → St → Option RT) → Option RT := fun s k => match mS sk186_3 s with
  | some [.I z0, .R z1, .I z2, .I z3] => (Lp186_3 N N (z0, z1, z2, z3)).bind (kk186_3 k)
  | _ => none
def X186 (N : Nat) : Env := { n := 19, K := K0, C := hSel 238 (H238 (D238 N)) (hSel 239 (H239 (D239 N)) (hNone)), L := fun i s k => bif Nat.beq i 3 then LH186_3 N (normL (lp186 3) s) k else none, keep := kp186, lp := lp186 }
theorem st186_3 (N : Nat) (V : St → Option RT) (k : Ex → St → Option RT) (v : Int × List (List Int) × Int × Int) : vexec (X186 N ) (findLoop 3 (loopsIn (bodyOf Try.f186))) (bS sk186_3 [.I v.1, .R v.2.1, .I v.2.2.1, .I v.2.2.2]) (vstep V (lp186 3) k) = L186_3 N v (fun v => V (bS sk186_3 [.I v.1, .R v.2.1, .I v.2.2.1, .I v.2.2.2])) (kk186_3 k) := by kernel_rfl
theorem q186_3 (N : Nat) (k : Ex → St → Option RT) : ∀ n (v : Int × List (List Int) × Int × Int), vround (X186 N ) (findLoop 3 (loopsIn (bodyOf Try.f186))) 3 n (bS sk186_3 [.I v.1, .R v.2.1, .I v.2.2.1, .I v.2.2.2]) k = (Lp186_3 N n v).bind (kk186_3 k) := by
  intro n
  induction n with
  | zero => intro v; rfl
  | succ n ih =>
    intro v
    rw [vround_succ]
    refine (st186_3 N _ k v).trans ?_
    simp only [ih]
    exact L186_3_nat N v (Lp186_3 N n) (kk186_3 k)
theorem lh186_3 (N : Nat) : ∀ s k r, LH186_3 N s k = some r → vround (X186 N ) (findLoop 3 (loopsIn (bodyOf Try.f186))) 3 N s k = some r := by
  intro s k r h
  unfold LH186_3 at h
  split at h
  · rename_i z0 z1 z2 z3 hm
    rw [mS_bS hm]
    exact (q186_3 N k N (z0, z1, z2, z3)).trans h
  · cases h
theorem b186 (N : Nat) (a1 : Int) : vbody (X186 N ) Try.f186 (bodyOf Try.f186) [.sc (.int .i64 a1)] [] (fun rs bx => some ⟨rs, bx⟩) = T186 N a1 (fun r => some ⟨[.ow (.rows true r)], []⟩) := by kernel_rfl
theorem s186 (N : Nat) (a1 : Int) (r : List (List Int)) (h : D186 N a1 = some r) : CallSpec Try.prog E0 186 [.sc (.int .i64 a1)] [] [.ow (.rows true r)] [] := by
  refine body_ok (X := X186 N ) (CR := CRG Try.prog E0) Try.func186 (code := bodyOf Try.f186) (by kernel_rfl) rfl (by decide) mixed0 tyok0 rfl contracts_ok (cs_sel (h238 (s238 N)) (cs_sel (h239 (s239 N)) (cs_none))) (LoopsBy.of fun p hp => ?_) (by kernel_rfl) (Nat.le_of_ble_eq_true (by kernel_rfl)) ?_
  · rw [show loopsIn (bodyOf Try.f186) = [(3, findLoop 3 (loopsIn (bodyOf Try.f186)))] from by kernel_rfl] at hp
    simp only [List.mem_cons, List.not_mem_nil, or_false] at hp
    subst hp
    exact vround_of (fun s k => rfl) (by kernel_rfl) (lh186_3 N)
  · rw [b186, T186_nat, h]; rfl

/-! 216: loop.example/g01286/impl.at -/
def L216_3 {ρ : Type} (N : Nat) (v : List Int × List Int × List Int × Int × Int) (rec : (List Int × List Int × List Int × Int × Int) → Option ρ) (k : ((List Int × List Int × List Int × Int × Int × Bool)) → Option ρ) : Option ρ :=
  bif (iLt v.2.2.2.2 v.2.2.2.1) then (
  bif inB v.2.2.2.2 (List.length v.2.2.1) then (
  bif inB (List.getD v.2.2.1 (Int.toNat v.2.2.2.2) (Int.ofNat 0)) (List.length v.1) then (
  bif capB (List.length (v.2.1 ++ [(List.getD v.1 (Int.toNat (List.getD v.2.2.1 (Int.toNat v.2.2.2.2) (Int.ofNat 0))) (Int.ofNat 0))])) then (
  rec (v.1, (v.2.1 ++ [(List.getD v.1 (Int.toNat (List.getD v.2.2.1 (Int.toNat v.2.2.2.2) (Int.ofNat 0))) (Int.ofNat 0))]), v.2.2.1, v.2.2.2.1, (wrapF .i64 (v.2.2.2.2 + (Int.ofNat 1)))))
  else none)
  else none)
  else none)
  else (
  k (v.1, v.2.1, v.2.2.1, v.2.2.2.1, v.2.2.2.2, (iLt v.2.2.2.2 v.2.2.2.1)))
def Lp216_3 (N : Nat) : Nat → (List Int × List Int × List Int × Int × Int) → Option ((List Int × List Int × List Int × Int × Int × Bool)) := fun n => Nat.rec (motive := fun _ => (List Int × List Int × List Int × Int × Int) → Option ((List Int × List Int × List Int × Int × Int × Bool))) (fun _ => none) (fun _ ih v => L216_3 N v ih some) n
theorem L216_3_nat {ρ : Type} (N : Nat) (v : List Int × List Int × List Int × Int × Int) (rec : (List Int × List Int × List Int × Int × Int) → Option ((List Int × List Int × List Int × Int × Int × Bool))) (k : ((List Int × List Int × List Int × Int × Int × Bool)) → Option ρ) : L216_3 N v (fun v => (rec v).bind k) k = (L216_3 N v rec some).bind k := by
  unfold L216_3
  simp only [Option.bind_assoc, bif_bind, elim_bind, Option.bind_some, Option.bind_none]
def T216 {ρ : Type} (N : Nat) (a1 : List Int) (a2 : List Int) (k : (List Int) → Option ρ) : Option ρ :=
  (Lp216_3 N N (a1, [], a2, (Int.ofNat (List.length a2)), (Int.ofNat 0))).bind fun w3 =>
  k w3.2.1
def D216 (N : Nat) (a1 : List Int) (a2 : List Int) : Option (List Int) := T216 N a1 a2 some
theorem T216_nat {ρ : Type} (N : Nat) (a1 : List Int) (a2 : List Int) (k : (List Int) → Option ρ) : T216 N a1 a2 k = (D216 N a1 a2).bind k := by
  unfold D216 T216
  simp only [Option.bind_assoc, bif_bind, elim_bind, Option.bind_some, Option.bind_none]
def H216 (D : (List Int) → (List Int) → Option (List Int)) : Hd := fun az bx k => match az, bx with
  | [c0, c1], [] => cL .i64 c0 fun y0 => cL .i64 c1 fun y1 => (D y0 y1).bind fun r => k [.ow (.ints .i64 r)] []
  | _, _ => none
theorem fnok216 : FnOK Try.prog 216 := ⟨Try.f216, Try.func216, rfl, by decide⟩
theorem h216 {D : (List Int) → (List Int) → Option (List Int)} (hD : ∀ (y0 : List Int), ∀ (y1 : List Int), ∀ r, D y0 y1 = some r → CallSpec Try.prog E0 216 [.sc (.ints .i64 y0), .sc (.ints .i64 y1)] [] [.ow (.ints .i64 r)] []) : HSound Try.prog E0 216 (H216 D) := by
  intro az bx k r h
  unfold H216 at h
  split at h
  · rename_i c0 c1
    obtain ⟨y0, l0, h⟩ := cL_some h
    obtain ⟨y1, l1, h⟩ := cL_some h
    obtain ⟨r, hr, h⟩ := Option.bind_eq_some_iff.1 h
    exact ⟨_, _, ⟨(hD y0 y1 r hr).le ⟨l0, ⟨l1, trivial⟩⟩ trivial, fnok216, Nat.le_of_ble_eq_true rfl⟩, h⟩
  · cases h
def kp216 : Nat → List Tm.Loc := fun i => ([[.slot 0, .slot 1], [.slot 0, .slot 1, .slot 5], [.slot 0, .slot 5, .slot 9, .slot 10, .slot 11], [.slot 0, .slot 5, .slot 9, .slot 10, .slot 11, .slot 12], [.slot 0, .slot 5, .slot 7, .slot 9, .slot 10, .slot 11], [.slot 0, .slot 5, .slot 9, .slot 10, .slot 11], [.slot 0, .slot 5, .slot 9, .slot 10, .slot 11], [.slot 4]] : List (List Tm.Loc)).getD i []
def lp216 : Nat → LpS := fun i => bif Nat.beq i 3 then ⟨[], [], [.slot 0, .slot 5, .slot 9, .slot 10, .slot 11]⟩ else default
def sk216_3 : List (Tm.Loc × SkV) := [(.slot 0, .ints .i64), (.slot 5, .rf 100000005), (.tok 100000005, .tI .i64), (.slot 9, .ints .i64), (.slot 10, .int .i64), (.slot 11, .int .i64)]
def kk216_3 (k : Ex → St → Option RT) : ((List Int × List Int × List Int × Int × Int × Bool)) → Option RT := (fun r => k (.ext 0) [(.slot 12, .v (.sc (.bool false))), (.slot 0, .v (.sc (.ints .i64 r.1))), (.slot 5, .v (.rf 100000005)), (.tok 100000005, .t 0 (.ints .i64 r.2.1)), (.slot 9, .v (.sc (.ints .i64 r.2.2.1))), (.slot 10, .v (.sc (.int .i64 r.2.2.2.1))), (.slot 11, .v (.sc (.int .i64 r.2.2.2.2.1))), (.slot 12, .v (.sc (.bool r.2.2.2.2.2)))])
def LH216_3 (N : Nat) : St → (Ex → St → Option RT) → Option RT := fun s k => match mS sk216_3 s with
  | some [.L z0, .L z1, .L z2, .I z3, .I z4] => (Lp216_3 N N (z0, z1, z2, z3, z4)).bind (kk216_3 k)
  | _ => none
def X216 (N : Nat) : Env := { n := 24, K := K0, C := hNone, L := fun i s k => bif Nat.beq i 3 then LH216_3 N (normL (lp216 3) s) k else none, keep := kp216, lp := lp216 }
theorem st216_3 (N : Nat) (V : St → Option RT) (k : Ex → St → Option RT) (v : List Int × List Int × List Int × Int × Int) : vexec (X216 N ) (findLoop 3 (loopsIn (bodyOf Try.f216))) (bS sk216_3 [.L v.1, .L v.2.1, .L v.2.2.1, .I v.2.2.2.1, .I v.2.2.2.2]) (vstep V (lp216 3) k) = L216_3 N v (fun v => V (bS sk216_3 [.L v.1, .L v.2.1, .L v.2.2.1, .I v.2.2.2.1, .I v.2.2.2.2])) (kk216_3 k) := by kernel_rfl
theorem q216_3 (N : Nat) (k : Ex → St → Option RT) : ∀ n (v : List Int × List Int × List Int × Int × Int), vround (X216 N ) (findLoop 3 (loopsIn (bodyOf Try.f216))) 3 n (bS sk216_3 [.L v.1, .L v.2.1, .L v.2.2.1, .I v.2.2.2.1, .I v.2.2.2.2]) k = (Lp216_3 N n v).bind (kk216_3 k) := by
  intro n
  induction n with
  | zero => intro v; rfl
  | succ n ih =>
    intro v
    rw [vround_succ]
    refine (st216_3 N _ k v).trans ?_
    simp only [ih]
    exact L216_3_nat N v (Lp216_3 N n) (kk216_3 k)
theorem lh216_3 (N : Nat) : ∀ s k r, LH216_3 N s k = some r → vround (X216 N ) (findLoop 3 (loopsIn (bodyOf Try.f216))) 3 N s k = some r := by
  intro s k r h
  unfold LH216_3 at h
  split at h
  · rename_i z0 z1 z2 z3 z4 hm
    rw [mS_bS hm]
    exact (q216_3 N k N (z0, z1, z2, z3, z4)).trans h
  · cases h
theorem b216 (N : Nat) (a1 : List Int) (a2 : List Int) : vbody (X216 N ) Try.f216 (bodyOf Try.f216) [.sc (.ints .i64 a1), .sc (.ints .i64 a2)] [] (fun rs bx => some ⟨rs, bx⟩) = T216 N a1 a2 (fun r => some ⟨[.ow (.ints .i64 r)], []⟩) := by kernel_rfl
theorem s216 (N : Nat) (a1 : List Int) (a2 : List Int) (r : List Int) (h : D216 N a1 a2 = some r) : CallSpec Try.prog E0 216 [.sc (.ints .i64 a1), .sc (.ints .i64 a2)] [] [.ow (.ints .i64 r)] [] := by
  refine body_ok (X := X216 N ) (CR := CRG Try.prog E0) Try.func216 (code := bodyOf Try.f216) (by kernel_rfl) rfl (by decide) mixed0 tyok0 rfl contracts_ok (cs_none) (LoopsBy.of fun p hp => ?_) (by kernel_rfl) (Nat.le_of_ble_eq_true (by kernel_rfl)) ?_
  · rw [show loopsIn (bodyOf Try.f216) = [(3, findLoop 3 (loopsIn (bodyOf Try.f216)))] from by kernel_rfl] at hp
    simp only [List.mem_cons, List.not_mem_nil, or_false] at hp
    subst hp
    exact vround_of (fun s k => rfl) (by kernel_rfl) (lh216_3 N)
  · rw [b216, T216_nat, h]; rfl

/-! 276: loop.example/g01286/impl.shape -/
def L276_7 {ρ : Type} (N : Nat) (v : List Int × List Int × Int × Int × List Int × Int × Int × List Int × Int × Int) (rec : (List Int × List Int × Int × Int × List Int × Int × Int × List Int × Int × Int) → Option ρ) (k : ((List Int × List Int × Int × Int × List Int × Int × Int × List Int × Int × Int × Bool)) → Option ρ) : Option ρ :=
  bif (iLt v.2.2.2.2.2.2.2.2.2 v.2.2.2.2.2.2.2.2.1) then (
  bif inB v.2.2.2.2.2.2.2.2.2 (List.length v.2.2.2.2.2.2.2.1) then (
  bif (iLt (List.getD v.2.2.2.2.2.2.2.1 (Int.toNat v.2.2.2.2.2.2.2.2.2) (Int.ofNat 0)) v.2.2.1) then (
  rec (v.1, v.2.1, v.2.2.1, (wrapF .i64 (v.2.2.2.1 + (Int.ofNat 1))), v.2.2.2.2.1, v.2.2.2.2.2.1, v.2.2.2.2.2.2.1, v.2.2.2.2.2.2.2.1, v.2.2.2.2.2.2.2.2.1, (wrapF .i64 (v.2.2.2.2.2.2.2.2.2 + (Int.ofNat 1)))))
  else (
  rec (v.1, v.2.1, v.2.2.1, v.2.2.2.1, v.2.2.2.2.1, v.2.2.2.2.2.1, v.2.2.2.2.2.2.1, v.2.2.2.2.2.2.2.1, v.2.2.2.2.2.2.2.2.1, (wrapF .i64 (v.2.2.2.2.2.2.2.2.2 + (Int.ofNat 1))))))
  else none)
  else (
  k (v.1, v.2.1, v.2.2.1, v.2.2.2.1, v.2.2.2.2.1, v.2.2.2.2.2.1, v.2.2.2.2.2.2.1, v.2.2.2.2.2.2.2.1, v.2.2.2.2.2.2.2.2.1, v.2.2.2.2.2.2.2.2.2, (iLt v.2.2.2.2.2.2.2.2.2 v.2.2.2.2.2.2.2.2.1)))
def Lp276_7 (N : Nat) : Nat → (List Int × List Int × Int × Int × List Int × Int × Int × List Int × Int × Int) → Option ((List Int × List Int × Int × Int × List Int × Int × Int × List Int × Int × Int × Bool)) := fun n => Nat.rec (motive := fun _ => (List Int × List Int × Int × Int × List Int × Int × Int × List Int × Int × Int) → Option ((List Int × List Int × Int × Int × List Int × Int × Int × List Int × Int × Int × Bool))) (fun _ => none) (fun _ ih v => L276_7 N v ih some) n
theorem L276_7_nat {ρ : Type} (N : Nat) (v : List Int × List Int × Int × Int × List Int × Int × Int × List Int × Int × Int) (rec : (List Int × List Int × Int × Int × List Int × Int × Int × List Int × Int × Int) → Option ((List Int × List Int × Int × Int × List Int × Int × Int × List Int × Int × Int × Bool))) (k : ((List Int × List Int × Int × Int × List Int × Int × Int × List Int × Int × Int × Bool)) → Option ρ) : L276_7 N v (fun v => (rec v).bind k) k = (L276_7 N v rec some).bind k := by
  unfold L276_7
  simp only [Option.bind_assoc, bif_bind, elim_bind, Option.bind_some, Option.bind_none]
def L276_3 {ρ : Type} (N : Nat) (v : List Int × List Int × List Int × Int × Int) (rec : (List Int × List Int × List Int × Int × Int) → Option ρ) (k : ((List Int × List Int × List Int × Int × Int × Bool)) → Option ρ) : Option ρ :=
  bif (iLt v.2.2.2.2 v.2.2.2.1) then (
  bif inB v.2.2.2.2 (List.length v.2.2.1) then (
  (Lp276_7 N N (v.1, v.2.1, (List.getD v.2.2.1 (Int.toNat v.2.2.2.2) (Int.ofNat 0)), (Int.ofNat 1), v.2.2.1, v.2.2.2.1, v.2.2.2.2, v.1, (Int.ofNat (List.length v.1)), (Int.ofNat 0))).bind fun w2 =>
  bif capB (List.length (w2.2.1 ++ [w2.2.2.2.1])) then (
  rec (w2.1, (w2.2.1 ++ [w2.2.2.2.1]), w2.2.2.2.2.1, w2.2.2.2.2.2.1, (wrapF .i64 (w2.2.2.2.2.2.2.1 + (Int.ofNat 1)))))
  else none)
  else none)
  else (
  k (v.1, v.2.1, v.2.2.1, v.2.2.2.1, v.2.2.2.2, (iLt v.2.2.2.2 v.2.2.2.1)))
def Lp276_3 (N : Nat) : Nat → (List Int × List Int × List Int × Int × Int) → Option ((List Int × List Int × List Int × Int × Int × Bool)) := fun n => Nat.rec (motive := fun _ => (List Int × List Int × List Int × Int × Int) → Option ((List Int × List Int × List Int × Int × Int × Bool))) (fun _ => none) (fun _ ih v => L276_3 N v ih some) n
theorem L276_3_nat {ρ : Type} (N : Nat) (v : List Int × List Int × List Int × Int × Int) (rec : (List Int × List Int × List Int × Int × Int) → Option ((List Int × List Int × List Int × Int × Int × Bool))) (k : ((List Int × List Int × List Int × Int × Int × Bool)) → Option ρ) : L276_3 N v (fun v => (rec v).bind k) k = (L276_3 N v rec some).bind k := by
  unfold L276_3
  simp only [Option.bind_assoc, bif_bind, elim_bind, Option.bind_some, Option.bind_none]
def T276 {ρ : Type} (N : Nat) (a1 : List Int) (k : (List Int) → Option ρ) : Option ρ :=
  (Lp276_3 N N (a1, [], a1, (Int.ofNat (List.length a1)), (Int.ofNat 0))).bind fun w3 =>
  k w3.2.1
def D276 (N : Nat) (a1 : List Int) : Option (List Int) := T276 N a1 some
theorem T276_nat {ρ : Type} (N : Nat) (a1 : List Int) (k : (List Int) → Option ρ) : T276 N a1 k = (D276 N a1).bind k := by
  unfold D276 T276
  simp only [Option.bind_assoc, bif_bind, elim_bind, Option.bind_some, Option.bind_none]
def H276 (D : (List Int) → Option (List Int)) : Hd := fun az bx k => match az, bx with
  | [c0], [] => cL .i64 c0 fun y0 => (D y0).bind fun r => k [.ow (.ints .i64 r)] []
  | _, _ => none
theorem fnok276 : FnOK Try.prog 276 := ⟨Try.f276, Try.func276, rfl, by decide⟩
theorem h276 {D : (List Int) → Option (List Int)} (hD : ∀ (y0 : List Int), ∀ r, D y0 = some r → CallSpec Try.prog E0 276 [.sc (.ints .i64 y0)] [] [.ow (.ints .i64 r)] []) : HSound Try.prog E0 276 (H276 D) := by
  intro az bx k r h
  unfold H276 at h
  split at h
  · rename_i c0
    obtain ⟨y0, l0, h⟩ := cL_some h
    obtain ⟨r, hr, h⟩ := Option.bind_eq_some_iff.1 h
    exact ⟨_, _, ⟨(hD y0 r hr).le ⟨l0, trivial⟩ trivial, fnok276, Nat.le_of_ble_eq_true rfl⟩, h⟩
  · cases h
def kp276 : Nat → List Tm.Loc := fun i => ([[.slot 0], [.slot 0, .slot 3], [.slot 0, .slot 3, .slot 10, .slot 11, .slot 12], [.slot 0, .slot 3, .slot 10, .slot 11, .slot 12, .slot 13], [.slot 0, .slot 3, .slot 5, .slot 10, .slot 11, .slot 12], [.slot 0, .slot 3, .slot 5, .slot 6, .slot 10, .slot 11, .slot 12], [.slot 0, .slot 3, .slot 5, .slot 6, .slot 10, .slot 11, .slot 12, .slot 16, .slot 17, .slot 18], [.slot 0, .slot 3, .slot 5, .slot 6, .slot 10, .slot 11, .slot 12, .slot 16, .slot 17, .slot 18, .slot 19], [.slot 0, .slot 3, .slot 5, .slot 6, .slot 8, .slot 10, .slot 11, .slot 12, .slot 16, .slot 17, .slot 18], [.slot 0, .slot 3, .slot 5, .slot 6, .slot 10, .slot 11, .slot 12, .slot 16, .slot 17, .slot 18, .slot 24], [.slot 0, .slot 3, .slot 5, .slot 6, .slot 10, .slot 11, .slot 12, .slot 16, .slot 17, .slot 18], [.slot 0, .slot 3, .slot 5, .slot 6, .slot 10, .slot 11, .slot 12, .slot 16, .slot 17, .slot 18], [.slot 0, .slot 3, .slot 10, .slot 11, .slot 12], [.slot 0, .slot 3, .slot 10, .slot 11, .slot 12], [.slot 2]] : List (List Tm.Loc)).getD i []
def lp276 : Nat → LpS := fun i => bif Nat.beq i 3 then ⟨[], [], [.slot 0, .slot 3, .slot 10, .slot 11, .slot 12]⟩ else bif Nat.beq i 7 then ⟨[], [], [.slot 0, .slot 3, .slot 5, .slot 6, .slot 10, .slot 11, .slot 12, .slot 16, .slot 17, .slot 18]⟩ else default
def sk276_7 : List (Tm.Loc × SkV) := [(.slot 0, .ints .i64), (.slot 3, .rf 100000003), (.tok 100000003, .tI .i64), (.slot 5, .int .i64), (.slot 6, .int .i64), (.slot 10, .ints .i64), (.slot 11, .int .i64), (.slot 12, .int .i64), (.slot 16, .ints .i64), (.slot 17, .int .i64), (.slot 18, .int .i64)]
def kk276_7 (k : Ex → St → Option RT) : ((List Int × List Int × Int × Int × List Int × Int × Int × List Int × Int × Int × Bool)) → Option RT := (fun r => k (.ext 2) [(.slot 19, .v (.sc (.bool false))), (.slot 0, .v (.sc (.ints .i64 r.1))), (.slot 3, .v (.rf 100000003)), (.tok 100000003, .t 0 (.ints .i64 r.2.1)), (.slot 5, .v (.sc (.int .i64 r.2.2.1))), (.slot 6, .v (.sc (.int .i64 r.2.2.2.1))), (.slot 10, .v (.sc (.ints .i64 r.2.2.2.2.1))), (.slot 11, .v (.sc (.int .i64 r.2.2.2.2.2.1))), (.slot 12, .v (.sc (.int .i64 r.2.2.2.2.2.2.1))), (.slot 16, .v (.sc (.ints .i64 r.2.2.2.2.2.2.2.1))), (.slot 17, .v (.sc (.int .i64 r.2.2.2.2.2.2.2.2.1))), (.slot 18, .v (.sc (.int .i64 r.2.2.2.2.2.2.2.2.2.1))), (.slot 19, .v (.sc (.bool r.2.2.2.2.2.2.2.2.2.2)))])
def LH276_7 (N : Nat) : St → (Ex → St → Option RT) → Option RT := fun s k => match mS sk276_7 s with
  | some [.L z0, .L z1, .I z2, .I z3, .L z4, .I z5, .I z6, .L z7, .I z8, .I z9] => (Lp276_7 N N (z0, z1, z2, z3, z4, z5, z6, z7, z8, z9)).bind (kk276_7 k)
  | _ => none
def sk276_3 : List (Tm.Loc × SkV) := [(.slot 0, .ints .i64), (.slot 3, .rf 100000003), (.tok 100000003, .tI .i64), (.slot 10, .ints .i64), (.slot 11, .int .i64), (.slot 12, .int .i64)]
def kk276_3 (k : Ex → St → Option RT) : ((List Int × List Int × List Int × Int × Int × Bool)) → Option RT := (fun r => k (.ext 0) [(.slot 13, .v (.sc (.bool false))), (.slot 0, .v (.sc (.ints .i64 r.1))), (.slot 3, .v (.rf 100000003)), (.tok 100000003, .t 0 (.ints .i64 r.2.1)), (.slot 10, .v (.sc (.ints .i64 r.2.2.1))), (.slot 11, .v (.sc (.int .i64 r.2.2.2.1))), (.slot 12, .v (.sc (.int .i64 r.2.2.2.2.1))), (.slot 13, .v (.sc (.bool r.2.2.2.2.2)))])
def LH276_3 (N : Nat) : St → (Ex → St → Option RT) → Option RT := fun s k => match mS sk276_3 s with
  | some [.L z0, .L z1, .L z2, .I z3, .I z4] => (Lp276_3 N N (z0, z1, z2, z3, z4)).bind (kk276_3 k)
  | _ => none
def X276 (N : Nat) : Env := { n := 34, K := K0, C := hNone, L := fun i s k => bif Nat.beq i 3 then LH276_3 N (normL (lp276 3) s) k else bif Nat.beq i 7 then LH276_7 N (normL (lp276 7) s) k else none, keep := kp276, lp := lp276 }
theorem st276_7 (N : Nat) (V : St → Option RT) (k : Ex → St → Option RT) (v : List Int × List Int × Int × Int × List Int × Int × Int × List Int × Int × Int) : vexec (X276 N ) (findLoop 7 (loopsIn (bodyOf Try.f276))) (bS sk276_7 [.L v.1, .L v.2.1, .I v.2.2.1, .I v.2.2.2.1, .L v.2.2.2.2.1, .I v.2.2.2.2.2.1, .I v.2.2.2.2.2.2.1, .L v.2.2.2.2.2.2.2.1, .I v.2.2.2.2.2.2.2.2.1, .I v.2.2.2.2.2.2.2.2.2]) (vstep V (lp276 7) k) = L276_7 N v (fun v => V (bS sk276_7 [.L v.1, .L v.2.1, .I v.2.2.1, .I v.2.2.2.1, .L v.2.2.2.2.1, .I v.2.2.2.2.2.1, .I v.2.2.2.2.2.2.1, .L v.2.2.2.2.2.2.2.1, .I v.2.2.2.2.2.2.2.2.1, .I v.2.2.2.2.2.2.2.2.2])) (kk276_7 k) := by kernel_rfl
theorem q276_7 (N : Nat) (k : Ex → St → Option RT) : ∀ n (v : List Int × List Int × Int × Int × List Int × Int × Int × List Int × Int × Int), vround (X276 N ) (findLoop 7 (loopsIn (bodyOf Try.f276))) 7 n (bS sk276_7 [.L v.1, .L v.2.1, .I v.2.2.1, .I v.2.2.2.1, .L v.2.2.2.2.1, .I v.2.2.2.2.2.1, .I v.2.2.2.2.2.2.1, .L v.2.2.2.2.2.2.2.1, .I v.2.2.2.2.2.2.2.2.1, .I v.2.2.2.2.2.2.2.2.2]) k = (Lp276_7 N n v).bind (kk276_7 k) := by
  intro n
  induction n with
  | zero => intro v; rfl
  | succ n ih =>
    intro v
    rw [vround_succ]
    refine (st276_7 N _ k v).trans ?_
    simp only [ih]
    exact L276_7_nat N v (Lp276_7 N n) (kk276_7 k)
theorem lh276_7 (N : Nat) : ∀ s k r, LH276_7 N s k = some r → vround (X276 N ) (findLoop 7 (loopsIn (bodyOf Try.f276))) 7 N s k = some r := by
  intro s k r h
  unfold LH276_7 at h
  split at h
  · rename_i z0 z1 z2 z3 z4 z5 z6 z7 z8 z9 hm
    rw [mS_bS hm]
    exact (q276_7 N k N (z0, z1, z2, z3, z4, z5, z6, z7, z8, z9)).trans h
  · cases h
theorem st276_3 (N : Nat) (V : St → Option RT) (k : Ex → St → Option RT) (v : List Int × List Int × List Int × Int × Int) : vexec (X276 N ) (findLoop 3 (loopsIn (bodyOf Try.f276))) (bS sk276_3 [.L v.1, .L v.2.1, .L v.2.2.1, .I v.2.2.2.1, .I v.2.2.2.2]) (vstep V (lp276 3) k) = L276_3 N v (fun v => V (bS sk276_3 [.L v.1, .L v.2.1, .L v.2.2.1, .I v.2.2.2.1, .I v.2.2.2.2])) (kk276_3 k) := by kernel_rfl
theorem q276_3 (N : Nat) (k : Ex → St → Option RT) : ∀ n (v : List Int × List Int × List Int × Int × Int), vround (X276 N ) (findLoop 3 (loopsIn (bodyOf Try.f276))) 3 n (bS sk276_3 [.L v.1, .L v.2.1, .L v.2.2.1, .I v.2.2.2.1, .I v.2.2.2.2]) k = (Lp276_3 N n v).bind (kk276_3 k) := by
  intro n
  induction n with
  | zero => intro v; rfl
  | succ n ih =>
    intro v
    rw [vround_succ]
    refine (st276_3 N _ k v).trans ?_
    simp only [ih]
    exact L276_3_nat N v (Lp276_3 N n) (kk276_3 k)
theorem lh276_3 (N : Nat) : ∀ s k r, LH276_3 N s k = some r → vround (X276 N ) (findLoop 3 (loopsIn (bodyOf Try.f276))) 3 N s k = some r := by
  intro s k r h
  unfold LH276_3 at h
  split at h
  · rename_i z0 z1 z2 z3 z4 hm
    rw [mS_bS hm]
    exact (q276_3 N k N (z0, z1, z2, z3, z4)).trans h
  · cases h
theorem b276 (N : Nat) (a1 : List Int) : vbody (X276 N ) Try.f276 (bodyOf Try.f276) [.sc (.ints .i64 a1)] [] (fun rs bx => some ⟨rs, bx⟩) = T276 N a1 (fun r => some ⟨[.ow (.ints .i64 r)], []⟩) := by kernel_rfl
theorem s276 (N : Nat) (a1 : List Int) (r : List Int) (h : D276 N a1 = some r) : CallSpec Try.prog E0 276 [.sc (.ints .i64 a1)] [] [.ow (.ints .i64 r)] [] := by
  refine body_ok (X := X276 N ) (CR := CRG Try.prog E0) Try.func276 (code := bodyOf Try.f276) (by kernel_rfl) rfl (by decide) mixed0 tyok0 rfl contracts_ok (cs_none) (LoopsBy.of fun p hp => ?_) (by kernel_rfl) (Nat.le_of_ble_eq_true (by kernel_rfl)) ?_
  · rw [show loopsIn (bodyOf Try.f276) = [(3, findLoop 3 (loopsIn (bodyOf Try.f276))), (7, findLoop 7 (loopsIn (bodyOf Try.f276)))] from by kernel_rfl] at hp
    simp only [List.mem_cons, List.not_mem_nil, or_false] at hp
    rcases hp with rfl | rfl
    · exact vround_of (fun s k => rfl) (by kernel_rfl) (lh276_3 N)
    · exact vround_of (fun s k => rfl) (by kernel_rfl) (lh276_7 N)
  · rw [b276, T276_nat, h]; rfl

/-! 275: slices.Equal[[]int,int] -/
def L275_4 {ρ : Type} (N : Nat) (v : List Int × List Int × Int × Int) (rec : (List Int × List Int × Int × Int) → Option ρ) (k : (Unit ⊕ (List Int × List Int × Int × Int × Bool)) → Option ρ) : Option ρ :=
  bif (iLt v.2.2.2 v.2.2.1) then (
  bif inB v.2.2.2 (List.length v.1) then (
  bif inB v.2.2.2 (List.length v.2.1) then (
  bif (!(iEq (List.getD v.1 (Int.toNat v.2.2.2) (Int.ofNat 0)) (List.getD v.2.1 (Int.toNat v.2.2.2) (Int.ofNat 0)))) then (
  k (.inl (())))
  else (
  rec (v.1, v.2.1, v.2.2.1, (wrapF .i64 (v.2.2.2 + (Int.ofNat 1))))))
  else none)
  else none)
  else (
  k (.inr ((v.1, v.2.1, v.2.2.1, v.2.2.2, (iLt v.2.2.2 v.2.2.1)))))
def Lp275_4 (N : Nat) : Nat → (List Int × List Int × Int × Int) → Option (Unit ⊕ (List Int × List Int × Int × Int × Bool)) := fun n => Nat.rec (motive := fun _ => (List Int × List Int × Int × Int) → Option (Unit ⊕ (List Int × List Int × Int × Int × Bool))) (fun _ => none) (fun _ ih v => L275_4 N v ih some) n
theorem L275_4_nat {ρ : Type} (N : Nat) (v : List Int × List Int × Int × Int) (rec : (List Int × List Int × Int × Int) → Option (Unit ⊕ (List Int × List Int × Int × Int × Bool))) (k : (Unit ⊕ (List Int × List Int × Int × Int × Bool)) → Option ρ) : L275_4 N v (fun v => (rec v).bind k) k = (L275_4 N v rec some).bind k := by
  unfold L275_4
  simp only [Option.bind_assoc, bif_bind, elim_bind, Option.bind_some, Option.bind_none]
def T275 {ρ : Type} (N : Nat) (a1 : List Int) (a2 : List Int) (k : Bool → Option ρ) : Option ρ :=
  bif (!(iEq (Int.ofNat (List.length a1)) (Int.ofNat (List.length a2)))) then (
  k false)
  else (
  (Lp275_4 N N (a1, a2, (Int.ofNat (List.length a1)), (Int.ofNat 0))).bind (Sum.elim (fun _ =>
  k false) (fun w4 =>
  k true)))
def D275 (N : Nat) (a1 : List Int) (a2 : List Int) : Option (Bool) := T275 N a1 a2 some
theorem T275_nat {ρ : Type} (N : Nat) (a1 : List Int) (a2 : List Int) (k : Bool → Option ρ) : T275 N a1 a2 k = (D275 N a1 a2).bind k := by
  unfold D275 T275
  simp only [Option.bind_assoc, bif_bind, elim_bind, Option.bind_some, Option.bind_none]
def H275 (D : (List Int) → (List Int) → Option (Bool)) : Hd := fun az bx k => match az, bx with
  | [c0, c1], [] => cL .i64 c0 fun y0 => cL .i64 c1 fun y1 => (D y0 y1).bind fun r => k [.sc (.bool r)] []
  | _, _ => none
theorem fnok275 : FnOK Try.prog 275 := ⟨Try.f275, Try.func275, rfl, by decide⟩
theorem h275 {D : (List Int) → (List Int) → Option (Bool)} (hD : ∀ (y0 : List Int), ∀ (y1 : List Int), ∀ r, D y0 y1 = some r → CallSpec Try.prog E0 275 [.sc (.ints .i64 y0), .sc (.ints .i64 y1)] [] [.sc (.bool r)] []) : HSound Try.prog E0 275 (H275 D) := by
  intro az bx k r h
  unfold H275 at h
  split at h
  · rename_i c0 c1
    obtain ⟨y0, l0, h⟩ := cL_some h
    obtain ⟨y1, l1, h⟩ := cL_some h
    obtain ⟨r, hr, h⟩ := Option.bind_eq_some_iff.1 h
    exact ⟨_, _, ⟨(hD y0 y1 r hr).le ⟨l0, ⟨l1, trivial⟩⟩ trivial, fnok275, Nat.le_of_ble_eq_true rfl⟩, h⟩
  · cases h
def kp275 : Nat → List Tm.Loc := fun i => ([[.slot 0, .slot 1], [.slot 0, .slot 1, .slot 10], [.slot 4], [.slot 0, .slot 1, .slot 12, .slot 13], [.slot 0, .slot 1, .slot 12, .slot 13, .slot 14], [.slot 0, .slot 1, .slot 5, .slot 12, .slot 13], [.slot 0, .slot 1, .slot 12, .slot 13, .slot 24], [.slot 4], [.slot 0, .slot 1, .slot 12, .slot 13], [.slot 4]] : List (List Tm.Loc)).getD i []
def lp275 : Nat → LpS := fun i => bif Nat.beq i 4 then ⟨[], [], [.slot 0, .slot 1, .slot 12, .slot 13]⟩ else default
def sk275_4 : List (Tm.Loc × SkV) := [(.slot 0, .ints .i64), (.slot 1, .ints .i64), (.slot 12, .int .i64), (.slot 13, .int .i64)]
def kk275_4 (k : Ex → St → Option RT) : (Unit ⊕ (List Int × List Int × Int × Int × Bool)) → Option RT := (Sum.elim (fun r => k .ret [(.slot 4, .v (.sc (.bool false)))]) (fun r => k (.ext 0) [(.slot 14, .v (.sc (.bool false))), (.slot 0, .v (.sc (.ints .i64 r.1))), (.slot 1, .v (.sc (.ints .i64 r.2.1))), (.slot 12, .v (.sc (.int .i64 r.2.2.1))), (.slot 13, .v (.sc (.int .i64 r.2.2.2.1))), (.slot 14, .v (.sc (.bool r.2.2.2.2)))]))
def LH275_4 (N : Nat) : St → (Ex → St → Option RT) → Option RT := fun s k => match mS sk275_4 s with
  | some [.L z0, .L z1, .I z2, .I z3] => (Lp275_4 N N (z0, z1, z2, z3)).bind (kk275_4 k)
  | _ => none
def X275 (N : Nat) : Env := { n := 26, K := K0, C := hNone, L := fun i s k => bif Nat.beq i 4 then LH275_4 N (normL (lp275 4) s) k else none, keep := kp275, lp := lp275 }
theorem st275_4 (N : Nat) (V : St → Option RT) (k : Ex → St → Option RT) (v : List Int × List Int × Int × Int) : vexec (X275 N ) (findLoop 4 (loopsIn (bodyOf Try.f275))) (bS sk275_4 [.L v.1, .L v.2.1, .I v.2.2.1, .I v.2.2.2]) (vstep V (lp275 4) k) = L275_4 N v (fun v => V (bS sk275_4 [.L v.1, .L v.2.1, .I v.2.2.1, .I v.2.2.2])) (kk275_4 k) := by kernel_rfl
theorem q275_4 (N : Nat) (k : Ex → St → Option RT) : ∀ n (v : List Int × List Int × Int × Int), vround (X275 N ) (findLoop 4 (loopsIn (bodyOf Try.f275))) 4 n (bS sk275_4 [.L v.1, .L v.2.1, .I v.2.2.1, .I v.2.2.2]) k = (Lp275_4 N n v).bind (kk275_4 k) := by
  intro n
  induction n with
  | zero => intro v; rfl
  | succ n ih =>
    intro v
    rw [vround_succ]
    refine (st275_4 N _ k v).trans ?_
    simp only [ih]
    exact L275_4_nat N v (Lp275_4 N n) (kk275_4 k)
theorem lh275_4 (N : Nat) : ∀ s k r, LH275_4 N s k = some r → vround (X275 N ) (findLoop 4 (loopsIn (bodyOf Try.f275))) 4 N s k = some r := by
  intro s k r h
  unfold LH275_4 at h
  split at h
  · rename_i z0 z1 z2 z3 hm
    rw [mS_bS hm]
    exact (q275_4 N k N (z0, z1, z2, z3)).trans h
  · cases h
theorem b275 (N : Nat) (a1 : List Int) (a2 : List Int) : vbody (X275 N ) Try.f275 (bodyOf Try.f275) [.sc (.ints .i64 a1), .sc (.ints .i64 a2)] [] (fun rs bx => some ⟨rs, bx⟩) = T275 N a1 a2 (fun r => some ⟨[.sc (.bool r)], []⟩) := by kernel_rfl
theorem s275 (N : Nat) (a1 : List Int) (a2 : List Int) (r : Bool) (h : D275 N a1 a2 = some r) : CallSpec Try.prog E0 275 [.sc (.ints .i64 a1), .sc (.ints .i64 a2)] [] [.sc (.bool r)] [] := by
  refine body_ok (X := X275 N ) (CR := CRG Try.prog E0) Try.func275 (code := bodyOf Try.f275) (by kernel_rfl) rfl (by decide) mixed0 tyok0 rfl contracts_ok (cs_none) (LoopsBy.of fun p hp => ?_) (by kernel_rfl) (Nat.le_of_ble_eq_true (by kernel_rfl)) ?_
  · rw [show loopsIn (bodyOf Try.f275) = [(4, findLoop 4 (loopsIn (bodyOf Try.f275)))] from by kernel_rfl] at hp
    simp only [List.mem_cons, List.not_mem_nil, or_false] at hp
    subst hp
    exact vround_of (fun s k => rfl) (by kernel_rfl) (lh275_4 N)
  · rw [b275, T275_nat, h]; rfl

/-! 274: loop.example/g01286/impl.firstPlaces$1 -/
def T274 {ρ : Type} (N : Nat) (a1 : List Int) (a2 : List Int) (a3 : List Int) (a4 : Bool) (k : (Bool × List Int × List Int × Bool × List Int) → Option ρ) : Option ρ :=
  (D216 N a2 a1).bind fun r5 =>
  (D276 N r5).bind fun r6 =>
  (D275 N r6 a3).bind fun r7 =>
  k (r7, a2, a3, r7, a1)
def D274 (N : Nat) (a1 : List Int) (a2 : List Int) (a3 : List Int) (a4 : Bool) : Option (Bool × List Int × List Int × Bool × List Int) := T274 N a1 a2 a3 a4 some
theorem T274_nat {ρ : Type} (N : Nat) (a1 : List Int) (a2 : List Int) (a3 : List Int) (a4 : Bool) (k : (Bool × List Int × List Int × Bool × List Int) → Option ρ) : T274 N a1 a2 a3 a4 k = (D274 N a1 a2 a3 a4).bind k := by
  unfold D274 T274
  simp only [Option.bind_assoc, bif_bind, elim_bind, Option.bind_some, Option.bind_none]
def H274 (D : (List Int) → (List Int) → (List Int) → Bool → Option (Bool × List Int × List Int × Bool × List Int)) : Hd := fun az bx k => match az, bx with
  | [c0, c1, c2, c3, c4], [d0, d1, d2, d3] => cL .i64 c0 fun y0 => cP 0 c1 fun _ => cP 1 c2 fun _ => cP 2 c3 fun _ => cP 3 c4 fun _ => cL .i64 d0 fun y1 => cL .i64 d1 fun y2 => cB d2 fun y3 => cNil d3 fun _ => (D y0 y1 y2 y3).bind fun r => k [.sc (.bool r.1)] [.sc (.ints .i64 r.2.1), .sc (.ints .i64 r.2.2.1), .sc (.bool r.2.2.2.1), .sc (.ints .i64 r.2.2.2.2)]
  | _, _ => none
theorem fnok274 : FnOK Try.prog 274 := ⟨Try.f274, Try.func274, rfl, by decide⟩
theorem h274 {D : (List Int) → (List Int) → (List Int) → Bool → Option (Bool × List Int × List Int × Bool × List Int)} (hD : ∀ (y0 : List Int), ∀ (y1 : List Int), ∀ (y2 : List Int), ∀ (y3 : Bool), ∀ r, D y0 y1 y2 y3 = some r → CallSpec Try.prog E0 274 [.sc (.ints .i64 y0), .pt 0, .pt 1, .pt 2, .pt 3] [.sc (.ints .i64 y1), .sc (.ints .i64 y2), .sc (.bool y3), .sc .nil] [.sc (.bool r.1)] [.sc (.ints .i64 r.2.1), .sc (.ints .i64 r.2.2.1), .sc (.bool r.2.2.2.1), .sc (.ints .i64 r.2.2.2.2)]) : HSound Try.prog E0 274 (H274 D) := by
  intro az bx k r h
  unfold H274 at h
  split at h
  · rename_i c0 c1 c2 c3 c4 d0 d1 d2 d3
    obtain ⟨y0, l0, h⟩ := cL_some h
    obtain ⟨l1, h⟩ := cP_some h
    obtain ⟨l2, h⟩ := cP_some h
    obtain ⟨l3, h⟩ := cP_some h
    obtain ⟨l4, h⟩ := cP_some h
    obtain ⟨y1, l5, h⟩ := cL_some h
    obtain ⟨y2, l6, h⟩ := cL_some h
    obtain ⟨y3, l7, h⟩ := cB_some h
    obtain ⟨l8, h⟩ := cNil_some h
    obtain ⟨r, hr, h⟩ := Option.bind_eq_some_iff.1 h
    exact ⟨_, _, ⟨(hD y0 y1 y2 y3 r hr).le ⟨l0, ⟨l1, ⟨l2, ⟨l3, ⟨l4, trivial⟩⟩⟩⟩⟩ ⟨l5, ⟨l6, ⟨l7, ⟨l8, trivial⟩⟩⟩⟩, fnok274, Nat.le_of_ble_eq_true rfl⟩, h⟩
  · cases h
def kp274 : Nat → List Tm.Loc := fun i => ([[.slot 0, .slot 1, .slot 2, .slot 3, .slot 4, .box (.par 0), .box (.par 1), .box (.par 2), .box (.par 3)], [.slot 0, .slot 3, .slot 4, .box (.par 0), .box (.par 1), .box (.par 2), .box (.par 3)], [.slot 3, .box (.par 0), .box (.par 1), .box (.par 2), .box (.par 3)], [.slot 6, .box (.par 0), .box (.par 1), .box (.par 2), .box (.par 3)]] : List (List Tm.Loc)).getD i []
def lp274 : Nat → LpS := fun i => default
def X274 (N : Nat) : Env := { n := 15, K := K0, C := hSel 216 (H216 (D216 N)) (hSel 276 (H276 (D276 N)) (hSel 275 (H275 (D275 N)) (hNone))), L := fun i s k => none, keep := kp274, lp := lp274 }
theorem b274 (N : Nat) (a1 : List Int) (a2 : List Int) (a3 : List Int) (a4 : Bool) : vbody (X274 N ) Try.f274 (bodyOf Try.f274) [.sc (.ints .i64 a1), .pt 0, .pt 1, .pt 2, .pt 3] [.sc (.ints .i64 a2), .sc (.ints .i64 a3), .sc (.bool a4), .sc .nil] (fun rs bx => some ⟨rs, bx⟩) = T274 N a1 a2 a3 a4 (fun r => some ⟨[.sc (.bool r.1)], [.sc (.ints .i64 r.2.1), .sc (.ints .i64 r.2.2.1), .sc (.bool r.2.2.2.1), .sc (.ints .i64 r.2.2.2.2)]⟩) := by kernel_rfl
theorem s274 (N : Nat) (a1 : List Int) (a2 : List Int) (a3 : List Int) (a4 : Bool) (r : Bool × List Int × List Int × Bool × List Int) (h : D274 N a1 a2 a3 a4 = some r) : CallSpec Try.prog E0 274 [.sc (.ints .i64 a1), .pt 0, .pt 1, .pt 2, .pt 3] [.sc (.ints .i64 a2), .sc (.ints .i64 a3), .sc (.bool a4), .sc .nil] [.sc (.bool r.1)] [.sc (.ints .i64 r.2.1), .sc (.ints .i64 r.2.2.1), .sc (.bool r.2.2.2.1), .sc (.ints .i64 r.2.2.2.2)] := by
  refine body_ok (X := X274 N ) (CR := CRG Try.prog E0) Try.func274 (code := bodyOf Try.f274) (by kernel_rfl) rfl (by decide) mixed0 tyok0 rfl contracts_ok (cs_sel (h216 (s216 N)) (cs_sel (h276 (s276 N)) (cs_sel (h275 (s275 N)) (cs_none)))) (LoopsBy.of fun p hp => ?_) (by kernel_rfl) (Nat.le_of_ble_eq_true (by kernel_rfl)) ?_
  · rw [show loopsIn (bodyOf Try.f274) = [] from by kernel_rfl] at hp
    cases hp
  · rw [b274, T274_nat, h]; rfl

/-! 154: slices.Clone[[]int,int] -/
def ren_clone154 : Shelf.Ren := { f := fun _ => 154, t := fun k => bif Nat.beq k 3 then 3 else bif Nat.beq k 4 then 4 else bif Nat.beq k 22 then 29 else 0, g := fun _ => 0 }
theorem lays_clone154 : Lays2.n15 Try.prog ren_clone154 := { mixed := mixed0, f15 := Try.func154, t3 := Try.underlying3, a3 := Try.isAgg3, z3 := Try.sizeOf3, v3 := Try.zeroValue3, t4 := Try.underlying4, a4 := Try.isAgg4, z4 := Try.sizeOf4, v4 := Try.zeroValue4, t22 := Try.underlying29, a22 := Try.isAgg29, z22 := Try.sizeOf29, v22 := Try.zeroValue29, i3 := rfl }

def D154 (N : Nat) (a1 : List Int) : Option (List Int) := DClone a1
theorem s154 (N : Nat) (a1 r : List Int) (h : D154 N a1 = some r) : CallSpec Try.prog E0 154 [.sc (.ints .i64 a1)] [] [.ow (.ints .i64 r)] [] := clone_ok (ρ := ren_clone154) lays_clone154 rfl a1 r h
def H154 (D : (List Int) → Option (List Int)) : Hd := fun az bx k => match az, bx with
  | [c0], [] => cL .i64 c0 fun y0 => (D y0).bind fun r => k [.ow (.ints .i64 r)] []
  | _, _ => none
theorem fnok154 : FnOK Try.prog 154 := ⟨Try.f154, Try.func154, rfl, by decide⟩
theorem h154 {D : (List Int) → Option (List Int)} (hD : ∀ (y0 : List Int), ∀ r, D y0 = some r → CallSpec Try.prog E0 154 [.sc (.ints .i64 y0)] [] [.ow (.ints .i64 r)] []) : HSound Try.prog E0 154 (H154 D) := by
  intro az bx k r h
  unfold H154 at h
  split at h
  · rename_i c0
    obtain ⟨y0, l0, h⟩ := cL_some h
    obtain ⟨r, hr, h⟩ := Option.bind_eq_some_iff.1 h
    exact ⟨_, _, ⟨(hD y0 r hr).le ⟨l0, trivial⟩ trivial, fnok154, Nat.le_of_ble_eq_true rfl⟩, h⟩
  · cases h

/-! 274: loop.example/g01286/impl.firstPlaces$1 -/
def T274x1 {ρ : Type} (N : Nat) (a1 : List Int) (a2 : List Int) (a3 : List Int) (a4 : Bool) (a5 : List Int) (k : (Bool × List Int × List Int × Bool × List Int) → Option ρ) : Option ρ :=
  (D216 N a2 a1).bind fun r6 =>
  (D276 N r6).bind fun r7 =>
  (D275 N r7 a3).bind fun r8 =>
  k (r8, a2, a3, r8, a1)
def D274x1 (N : Nat) (a1 : List Int) (a2 : List Int) (a3 : List Int) (a4 : Bool) (a5 : List Int) : Option (Bool × List Int × List Int × Bool × List Int) := T274x1 N a1 a2 a3 a4 a5 some
theorem T274x1_nat {ρ : Type} (N : Nat) (a1 : List Int) (a2 : List Int) (a3 : List Int) (a4 : Bool) (a5 : List Int) (k : (Bool × List Int × List Int × Bool × List Int) → Option ρ) : T274x1 N a1 a2 a3 a4 a5 k = (D274x1 N a1 a2 a3 a4 a5).bind k := by
  unfold D274x1 T274x1
  simp only [Option.bind_assoc, bif_bind, elim_bind, Option.bind_some, Option.bind_none]
def H274x1 (D : (List Int) → (List Int) → (List Int) → Bool → (List Int) → Option (Bool × List Int × List Int × Bool × List Int)) : Hd := fun az bx k => match az, bx with
  | [c0, c1, c2, c3, c4], [d0, d1, d2, d3] => cL .i64 c0 fun y0 => cP 0 c1 fun _ => cP 1 c2 fun _ => cP 2 c3 fun _ => cP 3 c4 fun _ => cL .i64 d0 fun y1 => cL .i64 d1 fun y2 => cB d2 fun y3 => cL .i64 d3 fun y4 => (D y0 y1 y2 y3 y4).bind fun r => k [.sc (.bool r.1)] [.sc (.ints .i64 r.2.1), .sc (.ints .i64 r.2.2.1), .sc (.bool r.2.2.2.1), .sc (.ints .i64 r.2.2.2.2)]
  | _, _ => none
theorem fnok274x1 : FnOK Try.prog 274 := ⟨Try.f274, Try.func274, rfl, by decide⟩
theorem h274x1 {D : (List Int) → (List Int) → (List Int) → Bool → (List Int) → Option (Bool × List Int × List Int × Bool × List Int)} (hD : ∀ (y0 : List Int), ∀ (y1 : List Int), ∀ (y2 : List Int), ∀ (y3 : Bool), ∀ (y4 : List Int), ∀ r, D y0 y1 y2 y3 y4 = some r → CallSpec Try.prog E0 274 [.sc (.ints .i64 y0), .pt 0, .pt 1, .pt 2, .pt 3] [.sc (.ints .i64 y1), .sc (.ints .i64 y2), .sc (.bool y3), .sc (.ints .i64 y4)] [.sc (.bool r.1)] [.sc (.ints .i64 r.2.1), .sc (.ints .i64 r.2.2.1), .sc (.bool r.2.2.2.1), .sc (.ints .i64 r.2.2.2.2)]) : HSound Try.prog E0 274 (H274x1 D) := by
  intro az bx k r h
  unfold H274x1 at h
  split at h
  · rename_i c0 c1 c2 c3 c4 d0 d1 d2 d3
    obtain ⟨y0, l0, h⟩ := cL_some h
    obtain ⟨l1, h⟩ := cP_some h
    obtain ⟨l2, h⟩ := cP_some h
    obtain ⟨l3, h⟩ := cP_some h
    obtain ⟨l4, h⟩ := cP_some h
    obtain ⟨y1, l5, h⟩ := cL_some h
    obtain ⟨y2, l6, h⟩ := cL_some h
    obtain ⟨y3, l7, h⟩ := cB_some h
    obtain ⟨y4, l8, h⟩ := cL_some h
    obtain ⟨r, hr, h⟩ := Option.bind_eq_some_iff.1 h
    exact ⟨_, _, ⟨(hD y0 y1 y2 y3 y4 r hr).le ⟨l0, ⟨l1, ⟨l2, ⟨l3, ⟨l4, trivial⟩⟩⟩⟩⟩ ⟨l5, ⟨l6, ⟨l7, ⟨l8, trivial⟩⟩⟩⟩, fnok274x1, Nat.le_of_ble_eq_true rfl⟩, h⟩
  · cases h
def kp274x1 : Nat → List Tm.Loc := fun i => ([[.slot 0, .slot 1, .slot 2, .slot 3, .slot 4, .box (.par 0), .box (.par 1), .box (.par 2), .box (.par 3)], [.slot 0, .slot 3, .slot 4, .box (.par 0), .box (.par 1), .box (.par 2), .box (.par 3)], [.slot 3, .box (.par 0), .box (.par 1), .box (.par 2), .box (.par 3)], [.slot 6, .box (.par 0), .box (.par 1), .box (.par 2), .box (.par 3)]] : List (List Tm.Loc)).getD i []
def lp274x1 : Nat → LpS := fun i => default
def X274x1 (N : Nat) : Env := { n := 15, K := K0, C := hSel 216 (H216 (D216 N)) (hSel 276 (H276 (D276 N)) (hSel 275 (H275 (D275 N)) (hNone))), L := fun i s k => none, keep := kp274x1, lp := lp274x1 }
theorem b274x1 (N : Nat) (a1 : List Int) (a2 : List Int) (a3 : List Int) (a4 : Bool) (a5 : List Int) : vbody (X274x1 N ) Try.f274 (bodyOf Try.f274) [.sc (.ints .i64 a1), .pt 0, .pt 1, .pt 2, .pt 3] [.sc (.ints .i64 a2), .sc (.ints .i64 a3), .sc (.bool a4), .sc (.ints .i64 a5)] (fun rs bx => some ⟨rs, bx⟩) = T274x1 N a1 a2 a3 a4 a5 (fun r => some ⟨[.sc (.bool r.1)], [.sc (.ints .i64 r.2.1), .sc (.ints .i64 r.2.2.1), .sc (.bool r.2.2.2.1), .sc (.ints .i64 r.2.2.2.2)]⟩) := by kernel_rfl
theorem s274x1 (N : Nat) (a1 : List Int) (a2 : List Int) (a3 : List Int) (a4 : Bool) (a5 : List Int) (r : Bool × List Int × List Int × Bool × List Int) (h : D274x1 N a1 a2 a3 a4 a5 = some r) : CallSpec Try.prog E0 274 [.sc (.ints .i64 a1), .pt 0, .pt 1, .pt 2, .pt 3] [.sc (.ints .i64 a2), .sc (.ints .i64 a3), .sc (.bool a4), .sc (.ints .i64 a5)] [.sc (.bool r.1)] [.sc (.ints .i64 r.2.1), .sc (.ints .i64 r.2.2.1), .sc (.bool r.2.2.2.1), .sc (.ints .i64 r.2.2.2.2)] := by
  refine body_ok (X := X274x1 N ) (CR := CRG Try.prog E0) Try.func274 (code := bodyOf Try.f274) (by kernel_rfl) rfl (by decide) mixed0 tyok0 rfl contracts_ok (cs_sel (h216 (s216 N)) (cs_sel (h276 (s276 N)) (cs_sel (h275 (s275 N)) (cs_none)))) (LoopsBy.of fun p hp => ?_) (by kernel_rfl) (Nat.le_of_ble_eq_true (by kernel_rfl)) ?_
  · rw [show loopsIn (bodyOf Try.f274) = [] from by kernel_rfl] at hp
    cases hp
  · rw [b274x1, T274x1_nat, h]; rfl

/-! 252: loop.example/g01286/impl.choose$1 -/
def L252x1_4 {ρ : Type} (N : Nat) (recf : (List Int × Int × Int × Int × List Int × List Int × Bool × List Int) → Option (Bool × Int × Int × List Int × List Int × Bool × List Int)) (v : List Int × Int × Int × Int × List Int × List Int × Bool × List Int) (rec : (List Int × Int × Int × Int × List Int × List Int × Bool × List Int) → Option ρ) (k : ((Int × Int × List Int × List Int × Bool × List Int) ⊕ (List Int × Int × Bool × Int × Int × List Int × List Int × Bool × List Int)) → Option ρ) : Option ρ :=
  bif (iLt v.2.1 v.2.2.2.1) then (
  (D154 N v.1).bind fun r2 =>
  bif capB (List.length (r2 ++ [v.2.1])) then (
  (recf ((r2 ++ [v.2.1]), (wrapF .i64 (v.2.1 + (Int.ofNat 1))), v.2.2.1, v.2.2.2.1, v.2.2.2.2.1, v.2.2.2.2.2.1, v.2.2.2.2.2.2.1, v.2.2.2.2.2.2.2)).bind fun r3 =>
  bif r3.1 then (
  k (.inl ((r3.2.1, r3.2.2.1, r3.2.2.2.1, r3.2.2.2.2.1, r3.2.2.2.2.2.1, r3.2.2.2.2.2.2))))
  else (
  rec (v.1, (wrapF .i64 (v.2.1 + (Int.ofNat 1))), r3.2.1, r3.2.2.1, r3.2.2.2.1, r3.2.2.2.2.1, r3.2.2.2.2.2.1, r3.2.2.2.2.2.2)))
  else none)
  else (
  k (.inr ((v.1, v.2.1, (iLt v.2.1 v.2.2.2.1), v.2.2.1, v.2.2.2.1, v.2.2.2.2.1, v.2.2.2.2.2.1, v.2.2.2.2.2.2.1, v.2.2.2.2.2.2.2))))
def Lp252x1_4 (N : Nat) (recf : (List Int × Int × Int × Int × List Int × List Int × Bool × List Int) → Option (Bool × Int × Int × List Int × List Int × Bool × List Int)) : Nat → (List Int × Int × Int × Int × List Int × List Int × Bool × List Int) → Option ((Int × Int × List Int × List Int × Bool × List Int) ⊕ (List Int × Int × Bool × Int × Int × List Int × List Int × Bool × List Int)) := fun n => Nat.rec (motive := fun _ => (List Int × Int × Int × Int × List Int × List Int × Bool × List Int) → Option ((Int × Int × List Int × List Int × Bool × List Int) ⊕ (List Int × Int × Bool × Int × Int × List Int × List Int × Bool × List Int))) (fun _ => none) (fun _ ih v => L252x1_4 N recf v ih some) n
theorem L252x1_4_nat {ρ : Type} (N : Nat) (recf : (List Int × Int × Int × Int × List Int × List Int × Bool × List Int) → Option (Bool × Int × Int × List Int × List Int × Bool × List Int)) (v : List Int × Int × Int × Int × List Int × List Int × Bool × List Int) (rec : (List Int × Int × Int × Int × List Int × List Int × Bool × List Int) → Option ((Int × Int × List Int × List Int × Bool × List Int) ⊕ (List Int × Int × Bool × Int × Int × List Int × List Int × Bool × List Int))) (k : ((Int × Int × List Int × List Int × Bool × List Int) ⊕ (List Int × Int × Bool × Int × Int × List Int × List Int × Bool × List Int)) → Option ρ) : L252x1_4 N recf v (fun v => (rec v).bind k) k = (L252x1_4 N recf v rec some).bind k := by
  unfold L252x1_4
  simp only [Option.bind_assoc, bif_bind, elim_bind, Option.bind_some, Option.bind_none]
def T252x1 {ρ : Type} (N : Nat) (recf : (List Int × Int × Int × Int × List Int × List Int × Bool × List Int) → Option (Bool × Int × Int × List Int × List Int × Bool × List Int)) (a : List Int × Int × Int × Int × List Int × List Int × Bool × List Int) (k : (Bool × Int × Int × List Int × List Int × Bool × List Int) → Option ρ) : Option ρ :=
  bif (iEq (Int.ofNat (List.length a.1)) a.2.2.1) then (
  (D274x1 N a.1 a.2.2.2.2.1 a.2.2.2.2.2.1 a.2.2.2.2.2.2.1 a.2.2.2.2.2.2.2).bind fun r1 =>
  k (r1.1, a.2.2.1, a.2.2.2.1, r1.2.1, r1.2.2.1, r1.2.2.2.1, r1.2.2.2.2))
  else (
  (Lp252x1_4 N recf N (a.1, a.2.1, a.2.2.1, a.2.2.2.1, a.2.2.2.2.1, a.2.2.2.2.2.1, a.2.2.2.2.2.2.1, a.2.2.2.2.2.2.2)).bind (Sum.elim (fun w4 =>
  k (true, w4.1, w4.2.1, w4.2.2.1, w4.2.2.2.1, w4.2.2.2.2.1, w4.2.2.2.2.2)) (fun w5 =>
  k (false, w5.2.2.2.1, w5.2.2.2.2.1, w5.2.2.2.2.2.1, w5.2.2.2.2.2.2.1, w5.2.2.2.2.2.2.2.1, w5.2.2.2.2.2.2.2.2))))
def D252x1 (N : Nat) : Nat → (List Int × Int × Int × Int × List Int × List Int × Bool × List Int) → Option (Bool × Int × Int × List Int × List Int × Bool × List Int) := fun n => Nat.rec (motive := fun _ => (List Int × Int × Int × Int × List Int × List Int × Bool × List Int) → Option (Bool × Int × Int × List Int × List Int × Bool × List Int)) (fun _ => none) (fun _ ih a => T252x1 N ih a some) n
theorem T252x1_nat {ρ : Type} (N : Nat) (recf : (List Int × Int × Int × Int × List Int × List Int × Bool × List Int) → Option (Bool × Int × Int × List Int × List Int × Bool × List Int)) (a : List Int × Int × Int × Int × List Int × List Int × Bool × List Int) (k : (Bool × Int × Int × List Int × List Int × Bool × List Int) → Option ρ) : T252x1 N recf a k = (T252x1 N recf a some).bind k := by
  unfold T252x1
  simp only [Option.bind_assoc, bif_bind, elim_bind, Option.bind_some, Option.bind_none]
def H252x1 (D : (List Int × Int × Int × Int × List Int × List Int × Bool × List Int) → Option (Bool × Int × Int × List Int × List Int × Bool × List Int)) : Hd := fun az bx k => match az, bx with
  | [c0, c1, c2, c3, c4, c5], [d0, d1, d2, d3, d4, d5, d6, d7] => cL .i64 c0 fun y0 => cI .i64 c1 fun y1 => cP 0 c2 fun _ => cP 1 c3 fun _ => cP 2 c4 fun _ => cP 3 c5 fun _ => cI .i64 d0 fun y2 => cF 274 [4, 5, 6, 7] d1 fun _ => cI .i64 d2 fun y3 => cF 252 [0, 1, 2, 3] d3 fun _ => cL .i64 d4 fun y4 => cL .i64 d5 fun y5 => cB d6 fun y6 => cL .i64 d7 fun y7 => (D (y0, y1, y2, y3, y4, y5, y6, y7)).bind fun r => k [.sc (.bool r.1)] [.sc (.int .i64 r.2.1), .fn 274 [4, 5, 6, 7], .sc (.int .i64 r.2.2.1), .fn 252 [0, 1, 2, 3], .sc (.ints .i64 r.2.2.2.1), .sc (.ints .i64 r.2.2.2.2.1), .sc (.bool r.2.2.2.2.2.1), .sc (.ints .i64 r.2.2.2.2.2.2)]
  | _, _ => none
theorem fnok252x1 : FnOK Try.prog 252 := ⟨Try.f252, Try.func252, rfl, by decide⟩
theorem h252x1 {D : (List Int × Int × Int × Int × List Int × List Int × Bool × List Int) → Option (Bool × Int × Int × List Int × List Int × Bool × List Int)} (hD : ∀ (y0 : List Int), ∀ (y1 : Int), ∀ (y2 : Int), ∀ (y3 : Int), ∀ (y4 : List Int), ∀ (y5 : List Int), ∀ (y6 : Bool), ∀ (y7 : List Int), ∀ r, D (y0, y1, y2, y3, y4, y5, y6, y7) = some r → CallSpec Try.prog E0 252 [.sc (.ints .i64 y0), .sc (.int .i64 y1), .pt 0, .pt 1, .pt 2, .pt 3] [.sc (.int .i64 y2), .fn 274 [4, 5, 6, 7], .sc (.int .i64 y3), .fn 252 [0, 1, 2, 3], .sc (.ints .i64 y4), .sc (.ints .i64 y5), .sc (.bool y6), .sc (.ints .i64 y7)] [.sc (.bool r.1)] [.sc (.int .i64 r.2.1), .fn 274 [4, 5, 6, 7], .sc (.int .i64 r.2.2.1), .fn 252 [0, 1, 2, 3], .sc (.ints .i64 r.2.2.2.1), .sc (.ints .i64 r.2.2.2.2.1), .sc (.bool r.2.2.2.2.2.1), .sc (.ints .i64 r.2.2.2.2.2.2)]) : HSound Try.prog E0 252 (H252x1 D) := by
  intro az bx k r h
  unfold H252x1 at h
  split at h
  · rename_i c0 c1 c2 c3 c4 c5 d0 d1 d2 d3 d4 d5 d6 d7
    obtain ⟨y0, l0, h⟩ := cL_some h
    obtain ⟨y1, l1, h⟩ := cI_some h
    obtain ⟨l2, h⟩ := cP_some h
    obtain ⟨l3, h⟩ := cP_some h
    obtain ⟨l4, h⟩ := cP_some h
    obtain ⟨l5, h⟩ := cP_some h
    obtain ⟨y2, l6, h⟩ := cI_some h
    obtain ⟨l7, h⟩ := cF_some h
    obtain ⟨y3, l8, h⟩ := cI_some h
    obtain ⟨l9, h⟩ := cF_some h
    obtain ⟨y4, l10, h⟩ := cL_some h
    obtain ⟨y5, l11, h⟩ := cL_some h
    obtain ⟨y6, l12, h⟩ := cB_some h
    obtain ⟨y7, l13, h⟩ := cL_some h
    obtain ⟨r, hr, h⟩ := Option.bind_eq_some_iff.1 h
    exact ⟨_, _, ⟨(hD y0 y1 y2 y3 y4 y5 y6 y7 r hr).le ⟨l0, ⟨l1, ⟨l2, ⟨l3, ⟨l4, ⟨l5, trivial⟩⟩⟩⟩⟩⟩ ⟨l6, ⟨l7, ⟨l8, ⟨l9, ⟨l10, ⟨l11, ⟨l12, ⟨l13, trivial⟩⟩⟩⟩⟩⟩⟩⟩, fnok252x1, Nat.le_of_ble_eq_true rfl⟩, h⟩
  · cases h
def kp252x1 : Nat → List Tm.Loc := fun i => ([[.slot 0, .slot 1, .slot 2, .slot 3, .slot 4, .slot 5, .box (.par 0), .box (.par 1), .box (.par 2), .box (.par 3), .box (.par 4), .box (.par 5), .box (.par 6), .box (.par 7)], [.slot 0, .slot 1, .slot 3, .slot 4, .slot 5, .slot 13, .box (.par 0), .box (.par 1), .box (.par 2), .box (.par 3), .box (.par 4), .box (.par 5), .box (.par 6), .box (.par 7)], [.slot 8, .box (.par 0), .box (.par 1), .box (.par 2), .box (.par 3), .box (.par 4), .box (.par 5), .box (.par 6), .box (.par 7)], [.slot 0, .slot 4, .slot 5, .slot 9, .box (.par 0), .box (.par 1), .box (.par 2), .box (.par 3), .box (.par 4), .box (.par 5), .box (.par 6), .box (.par 7)], [.slot 0, .slot 4, .slot 5, .slot 9, .slot 20, .box (.par 0), .box (.par 1), .box (.par 2), .box (.par 3), .box (.par 4), .box (.par 5), .box (.par 6), .box (.par 7)], [.slot 0, .slot 4, .slot 5, .slot 9, .box (.par 0), .box (.par 1), .box (.par 2), .box (.par 3), .box (.par 4), .box (.par 5), .box (.par 6), .box (.par 7)], [.slot 0, .slot 4, .slot 5, .slot 9, .slot 31, .box (.par 0), .box (.par 1), .box (.par 2), .box (.par 3), .box (.par 4), .box (.par 5), .box (.par 6), .box (.par 7)], [.slot 8, .box (.par 0), .box (.par 1), .box (.par 2), .box (.par 3), .box (.par 4), .box (.par 5), .box (.par 6), .box (.par 7)], [.slot 8, .box (.par 0), .box (.par 1), .box (.par 2), .box (.par 3), .box (.par 4), .box (.par 5), .box (.par 6), .box (.par 7)]] : List (List Tm.Loc)).getD i []
def lp252x1 : Nat → LpS := fun i => bif Nat.beq i 4 then ⟨[], [], [.slot 0, .slot 4, .slot 5, .slot 9, .box (.par 0), .box (.par 1), .box (.par 2), .box (.par 3), .box (.par 4), .box (.par 5), .box (.par 6), .box (.par 7)]⟩ else default
def sk252x1_4 : List (Tm.Loc × SkV) := [(.slot 0, .ints .i64), (.slot 4, .pt (.par 2)), (.slot 5, .pt (.par 3)), (.slot 9, .int .i64), (.box (.par 0), .int .i64), (.box (.par 1), .fn 274 [.par 4, .par 5, .par 6, .par 7]), (.box (.par 2), .int .i64), (.box (.par 3), .fn 252 [.par 0, .par 1, .par 2, .par 3]), (.box (.par 4), .ints .i64), (.box (.par 5), .ints .i64), (.box (.par 6), .bool), (.box (.par 7), .ints .i64)]
def kk252x1_4 (k : Ex → St → Option RT) : ((Int × Int × List Int × List Int × Bool × List Int) ⊕ (List Int × Int × Bool × Int × Int × List Int × List Int × Bool × List Int)) → Option RT := (Sum.elim (fun r => k .ret [(.slot 8, .v (.sc (.bool true))), (.box (.par 0), .v (.sc (.int .i64 r.1))), (.box (.par 1), .v (.fn 274 [.par 4, .par 5, .par 6, .par 7])), (.box (.par 2), .v (.sc (.int .i64 r.2.1))), (.box (.par 3), .v (.fn 252 [.par 0, .par 1, .par 2, .par 3])), (.box (.par 4), .v (.sc (.ints .i64 r.2.2.1))), (.box (.par 5), .v (.sc (.ints .i64 r.2.2.2.1))), (.box (.par 6), .v (.sc (.bool r.2.2.2.2.1))), (.box (.par 7), .v (.sc (.ints .i64 r.2.2.2.2.2)))]) (fun r => k (.ext 0) [(.slot 20, .v (.sc (.bool false))), (.slot 0, .v (.sc (.ints .i64 r.1))), (.slot 4, .v (.pt (.par 2))), (.slot 5, .v (.pt (.par 3))), (.slot 9, .v (.sc (.int .i64 r.2.1))), (.slot 20, .v (.sc (.bool r.2.2.1))), (.box (.par 0), .v (.sc (.int .i64 r.2.2.2.1))), (.box (.par 1), .v (.fn 274 [.par 4, .par 5, .par 6, .par 7])), (.box (.par 2), .v (.sc (.int .i64 r.2.2.2.2.1))), (.box (.par 3), .v (.fn 252 [.par 0, .par 1, .par 2, .par 3])), (.box (.par 4), .v (.sc (.ints .i64 r.2.2.2.2.2.1))), (.box (.par 5), .v (.sc (.ints .i64 r.2.2.2.2.2.2.1))), (.box (.par 6), .v (.sc (.bool r.2.2.2.2.2.2.2.1))), (.box (.par 7), .v (.sc (.ints .i64 r.2.2.2.2.2.2.2.2)))]))
def LH252x1_4 (N : Nat) (recf : (List Int × Int × Int × Int × List Int × List Int × Bool × List Int) → Option (Bool × Int × Int × List Int × List Int × Bool × List Int)) : St → (Ex → St → Option RT) → Option RT := fun s k => match mS sk252x1_4 s with
  | some [.L z0, .I z1, .I z2, .I z3, .L z4, .L z5, .B z6, .L z7] => (Lp252x1_4 N recf N (z0, z1, z2, z3, z4, z5, z6, z7)).bind (kk252x1_4 k)
  | _ => none
def X252x1 (N : Nat) (recf : (List Int × Int × Int × Int × List Int × List Int × Bool × List Int) → Option (Bool × Int × Int × List Int × List Int × Bool × List Int)) : Env := { n := 32, K := K0, C := hSel 274 (H274x1 (D274x1 N)) (hSel 154 (H154 (D154 N)) (hSel 252 (H252x1 recf) (hNone))), L := fun i s k => bif Nat.beq i 4 then LH252x1_4 N recf (normL (lp252x1 4) s) k else none, keep := kp252x1, lp := lp252x1 }
theorem st252x1_4 (N : Nat) (recf : (List Int × Int × Int × Int × List Int × List Int × Bool × List Int) → Option (Bool × Int × Int × List Int × List Int × Bool × List Int)) (V : St → Option RT) (k : Ex → St → Option RT) (v : List Int × Int × Int × Int × List Int × List Int × Bool × List Int) : vexec (X252x1 N recf ) (findLoop 4 (loopsIn (bodyOf Try.f252))) (bS sk252x1_4 [.L v.1, .I v.2.1, .I v.2.2.1, .I v.2.2.2.1, .L v.2.2.2.2.1, .L v.2.2.2.2.2.1, .B v.2.2.2.2.2.2.1, .L v.2.2.2.2.2.2.2]) (vstep V (lp252x1 4) k) = L252x1_4 N recf v (fun v => V (bS sk252x1_4 [.L v.1, .I v.2.1, .I v.2.2.1, .I v.2.2.2.1, .L v.2.2.2.2.1, .L v.2.2.2.2.2.1, .B v.2.2.2.2.2.2.1, .L v.2.2.2.2.2.2.2])) (kk252x1_4 k) := by kernel_rfl
theorem q252x1_4 (N : Nat) (recf : (List Int × Int × Int × Int × List Int × List Int × Bool × List Int) → Option (Bool × Int × Int × List Int × List Int × Bool × List Int)) (k : Ex → St → Option RT) : ∀ n (v : List Int × Int × Int × Int × List Int × List Int × Bool × List Int), vround (X252x1 N recf ) (findLoop 4 (loopsIn (bodyOf Try.f252))) 4 n (bS sk252x1_4 [.L v.1, .I v.2.1, .I v.2.2.1, .I v.2.2.2.1, .L v.2.2.2.2.1, .L v.2.2.2.2.2.1, .B v.2.2.2.2.2.2.1, .L v.2.2.2.2.2.2.2]) k = (Lp252x1_4 N recf n v).bind (kk252x1_4 k) := by
  intro n
  induction n with
  | zero => intro v; rfl
  | succ n ih =>
    intro v
    rw [vround_succ]
    refine (st252x1_4 N recf _ k v).trans ?_
    simp only [ih]
    exact L252x1_4_nat N recf v (Lp252x1_4 N recf n) (kk252x1_4 k)
theorem lh252x1_4 (N : Nat) (recf : (List Int × Int × Int × Int × List Int × List Int × Bool × List Int) → Option (Bool × Int × Int × List Int × List Int × Bool × List Int)) : ∀ s k r, LH252x1_4 N recf s k = some r → vround (X252x1 N recf ) (findLoop 4 (loopsIn (bodyOf Try.f252))) 4 N s k = some r := by
  intro s k r h
  unfold LH252x1_4 at h
  split at h
  · rename_i z0 z1 z2 z3 z4 z5 z6 z7 hm
    rw [mS_bS hm]
    exact (q252x1_4 N recf k N (z0, z1, z2, z3, z4, z5, z6, z7)).trans h
  · cases h
theorem b252x1 (N : Nat) (recf : (List Int × Int × Int × Int × List Int × List Int × Bool × List Int) → Option (Bool × Int × Int × List Int × List Int × Bool × List Int)) (a : List Int × Int × Int × Int × List Int × List Int × Bool × List Int) : vbody (X252x1 N recf ) Try.f252 (bodyOf Try.f252) [.sc (.ints .i64 a.1), .sc (.int .i64 a.2.1), .pt 0, .pt 1, .pt 2, .pt 3] [.sc (.int .i64 a.2.2.1), .fn 274 [4, 5, 6, 7], .sc (.int .i64 a.2.2.2.1), .fn 252 [0, 1, 2, 3], .sc (.ints .i64 a.2.2.2.2.1), .sc (.ints .i64 a.2.2.2.2.2.1), .sc (.bool a.2.2.2.2.2.2.1), .sc (.ints .i64 a.2.2.2.2.2.2.2)] (fun rs bx => some ⟨rs, bx⟩) = T252x1 N recf a (fun r => some ⟨[.sc (.bool r.1)], [.sc (.int .i64 r.2.1), .fn 274 [4, 5, 6, 7], .sc (.int .i64 r.2.2.1), .fn 252 [0, 1, 2, 3], .sc (.ints .i64 r.2.2.2.1), .sc (.ints .i64 r.2.2.2.2.1), .sc (.bool r.2.2.2.2.2.1), .sc (.ints .i64 r.2.2.2.2.2.2)]⟩) := by kernel_rfl
theorem sx252x1 (N : Nat) (recf : (List Int × Int × Int × Int × List Int × List Int × Bool × List Int) → Option (Bool × Int × Int × List Int × List Int × Bool × List Int)) (hrec : ∀ (y0 : List Int), ∀ (y1 : Int), ∀ (y2 : Int), ∀ (y3 : Int), ∀ (y4 : List Int), ∀ (y5 : List Int), ∀ (y6 : Bool), ∀ (y7 : List Int), ∀ r, recf (y0, y1, y2, y3, y4, y5, y6, y7) = some r → CallSpec Try.prog E0 252 [.sc (.ints .i64 y0), .sc (.int .i64 y1), .pt 0, .pt 1, .pt 2, .pt 3] [.sc (.int .i64 y2), .fn 274 [4, 5, 6, 7], .sc (.int .i64 y3), .fn 252 [0, 1, 2, 3], .sc (.ints .i64 y4), .sc (.ints .i64 y5), .sc (.bool y6), .sc (.ints .i64 y7)] [.sc (.bool r.1)] [.sc (.int .i64 r.2.1), .fn 274 [4, 5, 6, 7], .sc (.int .i64 r.2.2.1), .fn 252 [0, 1, 2, 3], .sc (.ints .i64 r.2.2.2.1), .sc (.ints .i64 r.2.2.2.2.1), .sc (.bool r.2.2.2.2.2.1), .sc (.ints .i64 r.2.2.2.2.2.2)]) (a : List Int × Int × Int × Int × List Int × List Int × Bool × List Int) (r : Bool × Int × Int × List Int × List Int × Bool × List Int) (h : T252x1 N recf a some = some r) : CallSpec Try.prog E0 252 [.sc (.ints .i64 a.1), .sc (.int .i64 a.2.1), .pt 0, .pt 1, .pt 2, .pt 3] [.sc (.int .i64 a.2.2.1), .fn 274 [4, 5, 6, 7], .sc (.int .i64 a.2.2.2.1), .fn 252 [0, 1, 2, 3], .sc (.ints .i64 a.2.2.2.2.1), .sc (.ints .i64 a.2.2.2.2.2.1), .sc (.bool a.2.2.2.2.2.2.1), .sc (.ints .i64 a.2.2.2.2.2.2.2)] [.sc (.bool r.1)] [.sc (.int .i64 r.2.1), .fn 274 [4, 5, 6, 7], .sc (.int .i64 r.2.2.1), .fn 252 [0, 1, 2, 3], .sc (.ints .i64 r.2.2.2.1), .sc (.ints .i64 r.2.2.2.2.1), .sc (.bool r.2.2.2.2.2.1), .sc (.ints .i64 r.2.2.2.2.2.2)] := by
  refine body_ok (X := X252x1 N recf ) (CR := CRG Try.prog E0) Try.func252 (code := bodyOf Try.f252) (by kernel_rfl) rfl (by decide) mixed0 tyok0 rfl contracts_ok (cs_sel (h274x1 (s274x1 N)) (cs_sel (h154 (s154 N)) (cs_sel (h252x1 hrec) (cs_none)))) (LoopsBy.of fun p hp => ?_) (by kernel_rfl) (Nat.le_of_ble_eq_true (by kernel_rfl)) ?_
  · rw [show loopsIn (bodyOf Try.f252) = [(4, findLoop 4 (loopsIn (bodyOf Try.f252)))] from by kernel_rfl] at hp
    simp only [List.mem_cons, List.not_mem_nil, or_false] at hp
    subst hp
    exact vround_of (fun s k => rfl) (by kernel_rfl) (lh252x1_4 N recf)
  · rw [b252x1, T252x1_nat, h]; rfl
theorem s252x1 (N : Nat) : ∀ (y0 : List Int), ∀ (y1 : Int), ∀ (y2 : Int), ∀ (y3 : Int), ∀ (y4 : List Int), ∀ (y5 : List Int), ∀ (y6 : Bool), ∀ (y7 : List Int), ∀ r, D252x1 N N (y0, y1, y2, y3, y4, y5, y6, y7) = some r → CallSpec Try.prog E0 252 [.sc (.ints .i64 y0), .sc (.int .i64 y1), .pt 0, .pt 1, .pt 2, .pt 3] [.sc (.int .i64 y2), .fn 274 [4, 5, 6, 7], .sc (.int .i64 y3), .fn 252 [0, 1, 2, 3], .sc (.ints .i64 y4), .sc (.ints .i64 y5), .sc (.bool y6), .sc (.ints .i64 y7)] [.sc (.bool r.1)] [.sc (.int .i64 r.2.1), .fn 274 [4, 5, 6, 7], .sc (.int .i64 r.2.2.1), .fn 252 [0, 1, 2, 3], .sc (.ints .i64 r.2.2.2.1), .sc (.ints .i64 r.2.2.2.2.1), .sc (.bool r.2.2.2.2.2.1), .sc (.ints .i64 r.2.2.2.2.2.2)] := by
  have key : ∀ n (a : List Int × Int × Int × Int × List Int × List Int × Bool × List Int) r, D252x1 N n a = some r → CallSpec Try.prog E0 252 [.sc (.ints .i64 a.1), .sc (.int .i64 a.2.1), .pt 0, .pt 1, .pt 2, .pt 3] [.sc (.int .i64 a.2.2.1), .fn 274 [4, 5, 6, 7], .sc (.int .i64 a.2.2.2.1), .fn 252 [0, 1, 2, 3], .sc (.ints .i64 a.2.2.2.2.1), .sc (.ints .i64 a.2.2.2.2.2.1), .sc (.bool a.2.2.2.2.2.2.1), .sc (.ints .i64 a.2.2.2.2.2.2.2)] [.sc (.bool r.1)] [.sc (.int .i64 r.2.1), .fn 274 [4, 5, 6, 7], .sc (.int .i64 r.2.2.1), .fn 252 [0, 1, 2, 3], .sc (.ints .i64 r.2.2.2.1), .sc (.ints .i64 r.2.2.2.2.1), .sc (.bool r.2.2.2.2.2.1), .sc (.ints .i64 r.2.2.2.2.2.2)] := by
    intro n
    induction n with
    | zero => intro a r h; cases h
    | succ n ih => intro a r h; exact sx252x1 N (D252x1 N n) (fun y0 y1 y2 y3 y4 y5 y6 y7 r h => ih (y0, y1, y2, y3, y4, y5, y6, y7) r h) a r h
  intro y0 y1 y2 y3 y4 y5 y6 y7 r h
  exact key N (y0, y1, y2, y3, y4, y5, y6, y7) r h

/-! 214: loop.example/g01286/impl.choose -/
def T214 {ρ : Type} (N : Nat) (a1 : Int) (a2 : Int) (a3 : List Int) (a4 : List Int) (a5 : Bool) (k : (List Int × List Int × Bool × List Int) → Option ρ) : Option ρ :=
  (D252x1 N N ([], (Int.ofNat 0), a2, a1, a3, a4, a5, [])).bind fun r6 =>
  k (r6.2.2.2.1, r6.2.2.2.2.1, r6.2.2.2.2.2.1, r6.2.2.2.2.2.2)
def D214 (N : Nat) (a1 : Int) (a2 : Int) (a3 : List Int) (a4 : List Int) (a5 : Bool) : Option (List Int × List Int × Bool × List Int) := T214 N a1 a2 a3 a4 a5 some
theorem T214_nat {ρ : Type} (N : Nat) (a1 : Int) (a2 : Int) (a3 : List Int) (a4 : List Int) (a5 : Bool) (k : (List Int × List Int × Bool × List Int) → Option ρ) : T214 N a1 a2 a3 a4 a5 k = (D214 N a1 a2 a3 a4 a5).bind k := by
  unfold D214 T214
  simp only [Option.bind_assoc, bif_bind, elim_bind, Option.bind_some, Option.bind_none]
def H214 (D : Int → Int → (List Int) → (List Int) → Bool → Option (List Int × List Int × Bool × List Int)) : Hd := fun az bx k => match az, bx with
  | [c0, c1, c2], [d0, d1, d2, d3] => cI .i64 c0 fun y0 => cI .i64 c1 fun y1 => cF 274 [0, 1, 2, 3] c2 fun _ => cL .i64 d0 fun y2 => cL .i64 d1 fun y3 => cB d2 fun y4 => cNil d3 fun _ => (D y0 y1 y2 y3 y4).bind fun r => k [] [.sc (.ints .i64 r.1), .sc (.ints .i64 r.2.1), .sc (.bool r.2.2.1), .sc (.ints .i64 r.2.2.2)]
  | _, _ => none
theorem fnok214 : FnOK Try.prog 214 := ⟨Try.f214, Try.func214, rfl, by decide⟩
theorem h214 {D : Int → Int → (List Int) → (List Int) → Bool → Option (List Int × List Int × Bool × List Int)} (hD : ∀ (y0 : Int), ∀ (y1 : Int), ∀ (y2 : List Int), ∀ (y3 : List Int), ∀ (y4 : Bool), ∀ r, D y0 y1 y2 y3 y4 = some r → CallSpec Try.prog E0 214 [.sc (.int .i64 y0), .sc (.int .i64 y1), .fn 274 [0, 1, 2, 3]] [.sc (.ints .i64 y2), .sc (.ints .i64 y3), .sc (.bool y4), .sc .nil] [] [.sc (.ints .i64 r.1), .sc (.ints .i64 r.2.1), .sc (.bool r.2.2.1), .sc (.ints .i64 r.2.2.2)]) : HSound Try.prog E0 214 (H214 D) := by
  intro az bx k r h
  unfold H214 at h
  split at h
  · rename_i c0 c1 c2 d0 d1 d2 d3
    obtain ⟨y0, l0, h⟩ := cI_some h
    obtain ⟨y1, l1, h⟩ := cI_some h
    obtain ⟨l2, h⟩ := cF_some h
    obtain ⟨y2, l3, h⟩ := cL_some h
    obtain ⟨y3, l4, h⟩ := cL_some h
    obtain ⟨y4, l5, h⟩ := cB_some h
    obtain ⟨l6, h⟩ := cNil_some h
    obtain ⟨r, hr, h⟩ := Option.bind_eq_some_iff.1 h
    exact ⟨_, _, ⟨(hD y0 y1 y2 y3 y4 r hr).le ⟨l0, ⟨l1, ⟨l2, trivial⟩⟩⟩ ⟨l3, ⟨l4, ⟨l5, ⟨l6, trivial⟩⟩⟩⟩, fnok214, Nat.le_of_ble_eq_true rfl⟩, h⟩
  · cases h
def kp214 : Nat → List Tm.Loc := fun i => ([[.slot 3, .slot 4, .slot 5, .box (.own 3), .box (.own 4), .box (.own 5), .box (.par 0), .box (.par 1), .box (.par 2), .box (.par 3)], [.slot 3, .slot 4, .slot 5, .slot 6, .box (.own 3), .box (.own 4), .box (.own 5), .box (.own 6), .box (.par 0), .box (.par 1), .box (.par 2), .box (.par 3)], [.slot 6, .box (.own 3), .box (.own 4), .box (.own 5), .box (.own 6), .box (.par 0), .box (.par 1), .box (.par 2), .box (.par 3)], [.box (.par 0), .box (.par 1), .box (.par 2), .box (.par 3)]] : List (List Tm.Loc)).getD i []
def lp214 : Nat → LpS := fun i => default
def X214 (N : Nat) : Env := { n := 11, K := K0, C := hSel 252 (H252x1 (D252x1 N N)) (hNone), L := fun i s k => none, keep := kp214, lp := lp214 }
theorem b214 (N : Nat) (a1 : Int) (a2 : Int) (a3 : List Int) (a4 : List Int) (a5 : Bool) : vbody (X214 N ) Try.f214 (bodyOf Try.f214) [.sc (.int .i64 a1), .sc (.int .i64 a2), .fn 274 [0, 1, 2, 3]] [.sc (.ints .i64 a3), .sc (.ints .i64 a4), .sc (.bool a5), .sc .nil] (fun rs bx => some ⟨rs, bx⟩) = T214 N a1 a2 a3 a4 a5 (fun r => some ⟨[], [.sc (.ints .i64 r.1), .sc (.ints .i64 r.2.1), .sc (.bool r.2.2.1), .sc (.ints .i64 r.2.2.2)]⟩) := by kernel_rfl
theorem s214 (N : Nat) (a1 : Int) (a2 : Int) (a3 : List Int) (a4 : List Int) (a5 : Bool) (r : List Int × List Int × Bool × List Int) (h : D214 N a1 a2 a3 a4 a5 = some r) : CallSpec Try.prog E0 214 [.sc (.int .i64 a1), .sc (.int .i64 a2), .fn 274 [0, 1, 2, 3]] [.sc (.ints .i64 a3), .sc (.ints .i64 a4), .sc (.bool a5), .sc .nil] [] [.sc (.ints .i64 r.1), .sc (.ints .i64 r.2.1), .sc (.bool r.2.2.1), .sc (.ints .i64 r.2.2.2)] := by
  refine body_ok (X := X214 N ) (CR := CRG Try.prog E0) Try.func214 (code := bodyOf Try.f214) (by kernel_rfl) rfl (by decide) mixed0 tyok0 rfl contracts_ok (cs_sel (h252x1 (s252x1 N)) (cs_none)) (LoopsBy.of fun p hp => ?_) (by kernel_rfl) (Nat.le_of_ble_eq_true (by kernel_rfl)) ?_
  · rw [show loopsIn (bodyOf Try.f214) = [] from by kernel_rfl] at hp
    cases hp
  · rw [b214, T214_nat, h]; rfl

/-! 257: loop.example/g01286/impl.firstPlaces -/
def T257 {ρ : Type} (N : Nat) (a1 : List Int) (a2 : List Int) (k : (List Int × Bool) → Option ρ) : Option ρ :=
  (D214 N (Int.ofNat (List.length a1)) (Int.ofNat (List.length a2)) a1 a2 false).bind fun r3 =>
  bif (!r3.2.2.1) then (
  k ([], false))
  else (
  k (r3.2.2.2, true))
def D257 (N : Nat) (a1 : List Int) (a2 : List Int) : Option (List Int × Bool) := T257 N a1 a2 some
theorem T257_nat {ρ : Type} (N : Nat) (a1 : List Int) (a2 : List Int) (k : (List Int × Bool) → Option ρ) : T257 N a1 a2 k = (D257 N a1 a2).bind k := by
  unfold D257 T257
  simp only [Option.bind_assoc, bif_bind, elim_bind, Option.bind_some, Option.bind_none]
def H257 (D : (List Int) → (List Int) → Option (List Int × Bool)) : Hd := fun az bx k => match az, bx with
  | [c0, c1], [] => cL .i64 c0 fun y0 => cL .i64 c1 fun y1 => (D y0 y1).bind fun r => k [.sc (.ints .i64 r.1), .sc (.bool r.2)] []
  | _, _ => none
theorem fnok257 : FnOK Try.prog 257 := ⟨Try.f257, Try.func257, rfl, by decide⟩
theorem h257 {D : (List Int) → (List Int) → Option (List Int × Bool)} (hD : ∀ (y0 : List Int), ∀ (y1 : List Int), ∀ r, D y0 y1 = some r → CallSpec Try.prog E0 257 [.sc (.ints .i64 y0), .sc (.ints .i64 y1)] [] [.sc (.ints .i64 r.1), .sc (.bool r.2)] []) : HSound Try.prog E0 257 (H257 D) := by
  intro az bx k r h
  unfold H257 at h
  split at h
  · rename_i c0 c1
    obtain ⟨y0, l0, h⟩ := cL_some h
    obtain ⟨y1, l1, h⟩ := cL_some h
    obtain ⟨r, hr, h⟩ := Option.bind_eq_some_iff.1 h
    exact ⟨_, _, ⟨(hD y0 y1 r hr).le ⟨l0, ⟨l1, trivial⟩⟩ trivial, fnok257, Nat.le_of_ble_eq_true rfl⟩, h⟩
  · cases h
def kp257 : Nat → List Tm.Loc := fun i => ([[.slot 2, .slot 3, .box (.own 2), .box (.own 3)], [.slot 2, .slot 3, .slot 6, .slot 7, .box (.own 2), .box (.own 3), .box (.own 6), .box (.own 7)], [.slot 6, .slot 7, .box (.own 6), .box (.own 7)], [.slot 6, .slot 15, .box (.own 6)], [.slot 4, .slot 5], [.slot 4, .slot 5]] : List (List Tm.Loc)).getD i []
def lp257 : Nat → LpS := fun i => default
def X257 (N : Nat) : Env := { n := 17, K := K0, C := hSel 214 (H214 (D214 N)) (hNone), L := fun i s k => none, keep := kp257, lp := lp257, rim := fun i => Nat.beq i 0 }
theorem b257 (N : Nat) (a1 : List Int) (a2 : List Int) : vbody (X257 N ) Try.f257 (bodyOf Try.f257) [.sc (.ints .i64 a1), .sc (.ints .i64 a2)] [] (fun rs bx => some ⟨rs, bx⟩) = T257 N a1 a2 (fun r => some ⟨[.sc (.ints .i64 r.1), .sc (.bool r.2)], []⟩) := by kernel_rfl
theorem s257 (N : Nat) (a1 : List Int) (a2 : List Int) (r : List Int × Bool) (h : D257 N a1 a2 = some r) : CallSpec Try.prog E0 257 [.sc (.ints .i64 a1), .sc (.ints .i64 a2)] [] [.sc (.ints .i64 r.1), .sc (.bool r.2)] [] := by
  refine body_ok (X := X257 N ) (CR := CRG Try.prog E0) Try.func257 (code := bodyOf Try.f257) (by kernel_rfl) rfl (by decide) mixed0 tyok0 rfl contracts_ok (cs_sel (h214 (s214 N)) (cs_none)) (LoopsBy.of fun p hp => ?_) (by kernel_rfl) (Nat.le_of_ble_eq_true (by kernel_rfl)) ?_
  · rw [show loopsIn (bodyOf Try.f257) = [] from by kernel_rfl] at hp
    cases hp
  · rw [b257, T257_nat, h]; rfl

/-! 227: loop.example/g01286/impl.contains -/
def T227 {ρ : Type} (N : Nat) (a1 : List Int) (a2 : List Int) (k : Bool → Option ρ) : Option ρ :=
  (D257 N a1 a2).bind fun r3 =>
  k r3.2
def D227 (N : Nat) (a1 : List Int) (a2 : List Int) : Option (Bool) := T227 N a1 a2 some
theorem T227_nat {ρ : Type} (N : Nat) (a1 : List Int) (a2 : List Int) (k : Bool → Option ρ) : T227 N a1 a2 k = (D227 N a1 a2).bind k := by
  unfold D227 T227
  simp only [Option.bind_assoc, bif_bind, elim_bind, Option.bind_some, Option.bind_none]
def H227 (D : (List Int) → (List Int) → Option (Bool)) : Hd := fun az bx k => match az, bx with
  | [c0, c1], [] => cL .i64 c0 fun y0 => cL .i64 c1 fun y1 => (D y0 y1).bind fun r => k [.sc (.bool r)] []
  | _, _ => none
theorem fnok227 : FnOK Try.prog 227 := ⟨Try.f227, Try.func227, rfl, by decide⟩
theorem h227 {D : (List Int) → (List Int) → Option (Bool)} (hD : ∀ (y0 : List Int), ∀ (y1 : List Int), ∀ r, D y0 y1 = some r → CallSpec Try.prog E0 227 [.sc (.ints .i64 y0), .sc (.ints .i64 y1)] [] [.sc (.bool r)] []) : HSound Try.prog E0 227 (H227 D) := by
  intro az bx k r h
  unfold H227 at h
  split at h
  · rename_i c0 c1
    obtain ⟨y0, l0, h⟩ := cL_some h
    obtain ⟨y1, l1, h⟩ := cL_some h
    obtain ⟨r, hr, h⟩ := Option.bind_eq_some_iff.1 h
    exact ⟨_, _, ⟨(hD y0 y1 r hr).le ⟨l0, ⟨l1, trivial⟩⟩ trivial, fnok227, Nat.le_of_ble_eq_true rfl⟩, h⟩
  · cases h
def kp227 : Nat → List Tm.Loc := fun i => ([[.slot 0, .slot 1], [.slot 6], [.slot 4]] : List (List Tm.Loc)).getD i []
def lp227 : Nat → LpS := fun i => default
def X227 (N : Nat) : Env := { n := 14, K := K0, C := hSel 257 (H257 (D257 N)) (hNone), L := fun i s k => none, keep := kp227, lp := lp227 }
theorem b227 (N : Nat) (a1 : List Int) (a2 : List Int) : vbody (X227 N ) Try.f227 (bodyOf Try.f227) [.sc (.ints .i64 a1), .sc (.ints .i64 a2)] [] (fun rs bx => some ⟨rs, bx⟩) = T227 N a1 a2 (fun r => some ⟨[.sc (.bool r)], []⟩) := by kernel_rfl
theorem s227 (N : Nat) (a1 : List Int) (a2 : List Int) (r : Bool) (h : D227 N a1 a2 = some r) : CallSpec Try.prog E0 227 [.sc (.ints .i64 a1), .sc (.ints .i64 a2)] [] [.sc (.bool r)] [] := by
  refine body_ok (X := X227 N ) (CR := CRG Try.prog E0) Try.func227 (code := bodyOf Try.f227) (by kernel_rfl) rfl (by decide) mixed0 tyok0 rfl contracts_ok (cs_sel (h257 (s257 N)) (cs_none)) (LoopsBy.of fun p hp => ?_) (by kernel_rfl) (Nat.le_of_ble_eq_true (by kernel_rfl)) ?_
  · rw [show loopsIn (bodyOf Try.f227) = [] from by kernel_rfl] at hp
    cases hp
  · rw [b227, T227_nat, h]; rfl

/-! 226: loop.example/g01286/impl.avoids$1 -/
def T226 {ρ : Type} (N : Nat) (a1 : List Int) (a2 : List Int) (k : (Bool × List Int) → Option ρ) : Option ρ :=
  (D227 N a2 a1).bind fun r3 =>
  k (r3, a2)
def D226 (N : Nat) (a1 : List Int) (a2 : List Int) : Option (Bool × List Int) := T226 N a1 a2 some
theorem T226_nat {ρ : Type} (N : Nat) (a1 : List Int) (a2 : List Int) (k : (Bool × List Int) → Option ρ) : T226 N a1 a2 k = (D226 N a1 a2).bind k := by
  unfold D226 T226
  simp only [Option.bind_assoc, bif_bind, elim_bind, Option.bind_some, Option.bind_none]
def H226 (D : (List Int) → (List Int) → Option (Bool × List Int)) : Hd := fun az bx k => match az, bx with
  | [c0, c1], [d0] => cL .i64 c0 fun y0 => cP 0 c1 fun _ => cL .i64 d0 fun y1 => (D y0 y1).bind fun r => k [.sc (.bool r.1)] [.sc (.ints .i64 r.2)]
  | _, _ => none
theorem fnok226 : FnOK Try.prog 226 := ⟨Try.f226, Try.func226, rfl, by decide⟩
theorem h226 {D : (List Int) → (List Int) → Option (Bool × List Int)} (hD : ∀ (y0 : List Int), ∀ (y1 : List Int), ∀ r, D y0 y1 = some r → CallSpec Try.prog E0 226 [.sc (.ints .i64 y0), .pt 0] [.sc (.ints .i64 y1)] [.sc (.bool r.1)] [.sc (.ints .i64 r.2)]) : HSound Try.prog E0 226 (H226 D) := by
  intro az bx k r h
  unfold H226 at h
  split at h
  · rename_i c0 c1 d0
    obtain ⟨y0, l0, h⟩ := cL_some h
    obtain ⟨l1, h⟩ := cP_some h
    obtain ⟨y1, l2, h⟩ := cL_some h
    obtain ⟨r, hr, h⟩ := Option.bind_eq_some_iff.1 h
    exact ⟨_, _, ⟨(hD y0 y1 r hr).le ⟨l0, ⟨l1, trivial⟩⟩ ⟨l2, trivial⟩, fnok226, Nat.le_of_ble_eq_true rfl⟩, h⟩
  · cases h
def kp226 : Nat → List Tm.Loc := fun i => ([[.slot 0, .slot 1, .box (.par 0)], [.slot 3, .box (.par 0)]] : List (List Tm.Loc)).getD i []
def lp226 : Nat → LpS := fun i => default
def X226 (N : Nat) : Env := { n := 7, K := K0, C := hSel 227 (H227 (D227 N)) (hNone), L := fun i s k => none, keep := kp226, lp := lp226 }
theorem b226 (N : Nat) (a1 : List Int) (a2 : List Int) : vbody (X226 N ) Try.f226 (bodyOf Try.f226) [.sc (.ints .i64 a1), .pt 0] [.sc (.ints .i64 a2)] (fun rs bx => some ⟨rs, bx⟩) = T226 N a1 a2 (fun r => some ⟨[.sc (.bool r.1)], [.sc (.ints .i64 r.2)]⟩) := by kernel_rfl
theorem s226 (N : Nat) (a1 : List Int) (a2 : List Int) (r : Bool × List Int) (h : D226 N a1 a2 = some r) : CallSpec Try.prog E0 226 [.sc (.ints .i64 a1), .pt 0] [.sc (.ints .i64 a2)] [.sc (.bool r.1)] [.sc (.ints .i64 r.2)] := by
  refine body_ok (X := X226 N ) (CR := CRG Try.prog E0) Try.func226 (code := bodyOf Try.f226) (by kernel_rfl) rfl (by decide) mixed0 tyok0 rfl contracts_ok (cs_sel (h227 (s227 N)) (cs_none)) (LoopsBy.of fun p hp => ?_) (by kernel_rfl) (Nat.le_of_ble_eq_true (by kernel_rfl)) ?_
  · rw [show loopsIn (bodyOf Try.f226) = [] from by kernel_rfl] at hp
    cases hp
  · rw [b226, T226_nat, h]; rfl

end Go.Proofs.Ytmcldnoofgkidaa
