/- The types of the program, as the machine knows them. -/
import Derived.Test.YtmcldnoofgkidaaTm33
import Derived.Test.YtmcldnoofgkidaaTmS1
import Derived.Test.YtmcldnoofgkidaaProg
set_option linter.unusedVariables false
set_option linter.unusedSimpArgs false
set_option maxRecDepth 100000
namespace Go.Proofs.Ytmcldnoofgkidaa
open Go.Tm

def K0 : Kf := { ty := fun T => bif Nat.beq T 3 then .int .i64 else (bif Nat.beq T 4 then .bool else (bif Nat.beq T 22 then .arr .i64 2 else (bif Nat.beq T 29 then .slI .i64 3 else (bif Nat.beq T 46 then .slR 29 else (bif Nat.beq T 60 then .fn else (bif Nat.beq T 142 then .fn else (TK.oth))))))), mv := fun f i => (Nat.beq f 261 && Nat.beq i 0) }
def E0 : El := { eI := fun k => match k with | .i64 => 3 | .u8 => 5 | _ => 0, eS := 9, eR := 29, BP := fun _ => 0 }
theorem ty0_142 : tyOk Try.prog E0 142 (.fn) := ⟨⟨_, _, _, Try.underlying142⟩, _, rfl, rfl, rfl⟩
theorem ty0_60 : tyOk Try.prog E0 60 (.fn) := ⟨⟨_, _, _, Try.underlying60⟩, _, rfl, rfl, rfl⟩
theorem ty0_46 : tyOk Try.prog E0 46 (.slR 29) := ⟨Try.underlying46, rfl, ⟨_, rfl, rfl, rfl⟩, _, rfl, rfl, rfl, by decide⟩
theorem ty0_29 : tyOk Try.prog E0 29 (.slI .i64 3) := ⟨Try.underlying29, rfl, ⟨_, rfl, rfl, rfl⟩, _, rfl, rfl, rfl, by decide⟩
theorem ty0_22 : tyOk Try.prog E0 22 (.arr .i64 2) := ⟨3, Try.underlying22, ⟨_, rfl, rfl, rfl⟩, Try.underlying3, _, rfl, rfl⟩
theorem ty0_4 : tyOk Try.prog E0 4 (.bool) := ⟨Try.underlying4, _, rfl, rfl, rfl⟩
theorem ty0_3 : tyOk Try.prog E0 3 (.int .i64) := ⟨Try.underlying3, _, rfl, rfl, rfl⟩
theorem tyok0 : TyOK Try.prog K0 E0 := ty_sel ty0_3 (ty_sel ty0_4 (ty_sel ty0_22 (ty_sel ty0_29 (ty_sel ty0_46 (ty_sel ty0_60 (ty_sel ty0_142 (ty_none)))))))
theorem mixed0 : Try.prog.follows .mixedOrders = true := by kernel_rfl

end Go.Proofs.Ytmcldnoofgkidaa
