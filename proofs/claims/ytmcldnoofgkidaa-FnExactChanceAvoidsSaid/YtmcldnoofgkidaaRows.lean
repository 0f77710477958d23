/-
  No cell of these rows narrows 'for every input' (looked for: loops, veiled, ifaces, maps, wideKeys, modest, calm, conditions, laid).
  DERIVED. THE GIVEN ROWS OF THIS SEAT. 8 by the template 'for every input the law returns true; each argument reads behind the call as it read before'; 0 by the template 'total and deterministic' (their statements: YtmcldnoofgkidaaTotals.lean).
  GIVEN WITH THE SEED: the statements are not yours to turn. If you find one false, say at which input.
  Laid BY PROGRAM, IN A SANDBOX (cutbox-rows.mjs): the forced cells as the released guide's own fill.sh prints them over the translation c3c889badddc7b4d… (all of the seat's roots in one cut). By AI agents, Wed Nov 11 2026. No macro, syntax, notation, axiom, sorry.
-/
import Derived.Test.YtmcldnoofgkidaaChecked
import GoSem.Claim
import GoSem.ClaimJoined
import GoSem.ClaimMapViews
import Derived.JoinedTies
import Derived.KernelRfl
namespace Go.Proofs.Ytmcldnoofgkidaa
/- THE CELL 'sum', in the pinned program and in every row, IS THE sha256 OF THE DUMP (.gsa) THAT YtmcldnoofgkidaaProg.lean LOADS. Nothing in Lean hashes anything: it is a label: what it is worth is what the hold of that sum in a sandbox is worth. -/
noncomputable def Try.pinned : Pinned := { name := "ytmcldnoofgkidaa", sum := "c3c889badddc7b4db7f3de4846aebe9399198cc195128d662e93d1e5b9fef19d", checked := Try.checked }
namespace Rows
def none {H : Type} : Left H := { results := [], args := [] }

/-- 'laws.FnExactMeanRise': WHATEVER THE INPUT: true; the input reads as it did. -/
def fnExactMeanRiseSpec : ChangeSpec := { name := "fnExactMeanRise", fn := fun _ => fun
  | [d] => { results := [.lit (.bool true)], args := [d] }
  | _ => none }
def fnExactMeanRiseRow : OpenClaim := { program := "ytmcldnoofgkidaa", sum := "c3c889badddc7b4db7f3de4846aebe9399198cc195128d662e93d1e5b9fef19d", func := "loop.example/g01286/laws.FnExactMeanRise", spec := "fnExactMeanRise", unfollowed := true, recurses := true, apart := false }
def FnExactMeanRiseSaid : Prop := fnExactMeanRiseRow.holds Try.pinned (OpenSpec.ofChange fnExactMeanRiseSpec)

/-- ITS FALSE NEIGHBOUR: 'it returns false'. Refute it at one input. -/
def fnExactMeanRiseWrong : ChangeSpec := { name := "fnExactMeanRise", fn := fun _ => fun
  | [d] => { results := [.lit (.bool false)], args := [d] }
  | _ => none }
def FnExactMeanRiseWrongFalsely : Prop := fnExactMeanRiseRow.holds Try.pinned (OpenSpec.ofChange fnExactMeanRiseWrong)

/-- 'laws.FnDuels': WHATEVER THE INPUT: true; the input reads as it did. -/
def fnDuelsSpec : ChangeSpec := { name := "fnDuels", fn := fun _ => fun
  | [d] => { results := [.lit (.bool true)], args := [d] }
  | _ => none }
def fnDuelsRow : OpenClaim := { program := "ytmcldnoofgkidaa", sum := "c3c889badddc7b4db7f3de4846aebe9399198cc195128d662e93d1e5b9fef19d", func := "loop.example/g01286/laws.FnDuels", spec := "fnDuels", recurses := true, apart := false }
def FnDuelsSaid : Prop := fnDuelsRow.holds Try.pinned (OpenSpec.ofChange fnDuelsSpec)

/-- ITS FALSE NEIGHBOUR: 'it returns false'. Refute it at one input. -/
def fnDuelsWrong : ChangeSpec := { name := "fnDuels", fn := fun _ => fun
  | [d] => { results := [.lit (.bool false)], args := [d] }
  | _ => none }
def FnDuelsWrongFalsely : Prop := fnDuelsRow.holds Try.pinned (OpenSpec.ofChange fnDuelsWrong)

/-- 'laws.FnExactChanceAvoids': WHATEVER THE INPUT: true; the input reads as it did. -/
def fnExactChanceAvoidsSpec : ChangeSpec := { name := "fnExactChanceAvoids", fn := fun _ => fun
  | [d1, d2] => { results := [.lit (.bool true)], args := [d1, d2] }
  | _ => none }
def fnExactChanceAvoidsRow : OpenClaim := { program := "ytmcldnoofgkidaa", sum := "c3c889badddc7b4db7f3de4846aebe9399198cc195128d662e93d1e5b9fef19d", func := "loop.example/g01286/laws.FnExactChanceAvoids", spec := "fnExactChanceAvoids", unfollowed := true, recurses := true, apart := false }
def FnExactChanceAvoidsSaid : Prop := fnExactChanceAvoidsRow.holds Try.pinned (OpenSpec.ofChange fnExactChanceAvoidsSpec)

/-- ITS FALSE NEIGHBOUR: 'it returns false'. Refute it at one input. -/
def fnExactChanceAvoidsWrong : ChangeSpec := { name := "fnExactChanceAvoids", fn := fun _ => fun
  | [d1, d2] => { results := [.lit (.bool false)], args := [d1, d2] }
  | _ => none }
def FnExactChanceAvoidsWrongFalsely : Prop := fnExactChanceAvoidsRow.holds Try.pinned (OpenSpec.ofChange fnExactChanceAvoidsWrong)

/-- 'laws.FnLimitedSweeps': WHATEVER THE INPUT: true; the input reads as it did. -/
def fnLimitedSweepsSpec : ChangeSpec := { name := "fnLimitedSweeps", fn := fun _ => fun
  | [d] => { results := [.lit (.bool true)], args := [d] }
  | _ => none }
def fnLimitedSweepsRow : OpenClaim := { program := "ytmcldnoofgkidaa", sum := "c3c889badddc7b4db7f3de4846aebe9399198cc195128d662e93d1e5b9fef19d", func := "loop.example/g01286/laws.FnLimitedSweeps", spec := "fnLimitedSweeps", unfollowed := true, recurses := true, apart := false }
def FnLimitedSweepsSaid : Prop := fnLimitedSweepsRow.holds Try.pinned (OpenSpec.ofChange fnLimitedSweepsSpec)

/-- ITS FALSE NEIGHBOUR: 'it returns false'. Refute it at one input. -/
def fnLimitedSweepsWrong : ChangeSpec := { name := "fnLimitedSweeps", fn := fun _ => fun
  | [d] => { results := [.lit (.bool false)], args := [d] }
  | _ => none }
def FnLimitedSweepsWrongFalsely : Prop := fnLimitedSweepsRow.holds Try.pinned (OpenSpec.ofChange fnLimitedSweepsWrong)

/-- 'laws.FnDuelWords': WHATEVER THE INPUT: true; the input reads as it did. -/
def fnDuelWordsSpec : ChangeSpec := { name := "fnDuelWords", fn := fun _ => fun
  | [d] => { results := [.lit (.bool true)], args := [d] }
  | _ => none }
def fnDuelWordsRow : OpenClaim := { program := "ytmcldnoofgkidaa", sum := "c3c889badddc7b4db7f3de4846aebe9399198cc195128d662e93d1e5b9fef19d", func := "loop.example/g01286/laws.FnDuelWords", spec := "fnDuelWords", unfollowed := true, recurses := true, apart := false }
def FnDuelWordsSaid : Prop := fnDuelWordsRow.holds Try.pinned (OpenSpec.ofChange fnDuelWordsSpec)

/-- ITS FALSE NEIGHBOUR: 'it returns false'. Refute it at one input. -/
def fnDuelWordsWrong : ChangeSpec := { name := "fnDuelWords", fn := fun _ => fun
  | [d] => { results := [.lit (.bool false)], args := [d] }
  | _ => none }
def FnDuelWordsWrongFalsely : Prop := fnDuelWordsRow.holds Try.pinned (OpenSpec.ofChange fnDuelWordsWrong)

/-- 'laws.FnLimits': WHATEVER THE INPUT: true; the input reads as it did. -/
def fnLimitsSpec : ChangeSpec := { name := "fnLimits", fn := fun _ => fun
  | [d] => { results := [.lit (.bool true)], args := [d] }
  | _ => none }
def fnLimitsRow : OpenClaim := { program := "ytmcldnoofgkidaa", sum := "c3c889badddc7b4db7f3de4846aebe9399198cc195128d662e93d1e5b9fef19d", func := "loop.example/g01286/laws.FnLimits", spec := "fnLimits", unfollowed := true, recurses := true, apart := false }
def FnLimitsSaid : Prop := fnLimitsRow.holds Try.pinned (OpenSpec.ofChange fnLimitsSpec)

/-- ITS FALSE NEIGHBOUR: 'it returns false'. Refute it at one input. -/
def fnLimitsWrong : ChangeSpec := { name := "fnLimits", fn := fun _ => fun
  | [d] => { results := [.lit (.bool false)], args := [d] }
  | _ => none }
def FnLimitsWrongFalsely : Prop := fnLimitsRow.holds Try.pinned (OpenSpec.ofChange fnLimitsWrong)

/-- 'laws.FnYards': WHATEVER THE INPUT: true; the input reads as it did. -/
def fnYardsSpec : ChangeSpec := { name := "fnYards", fn := fun _ => fun
  | [d] => { results := [.lit (.bool true)], args := [d] }
  | _ => none }
def fnYardsRow : OpenClaim := { program := "ytmcldnoofgkidaa", sum := "c3c889badddc7b4db7f3de4846aebe9399198cc195128d662e93d1e5b9fef19d", func := "loop.example/g01286/laws.FnYards", spec := "fnYards", unfollowed := true, recurses := true, apart := false }
def FnYardsSaid : Prop := fnYardsRow.holds Try.pinned (OpenSpec.ofChange fnYardsSpec)

/-- ITS FALSE NEIGHBOUR: 'it returns false'. Refute it at one input. -/
def fnYardsWrong : ChangeSpec := { name := "fnYards", fn := fun _ => fun
  | [d] => { results := [.lit (.bool false)], args := [d] }
  | _ => none }
def FnYardsWrongFalsely : Prop := fnYardsRow.holds Try.pinned (OpenSpec.ofChange fnYardsWrong)

/-- 'laws.FnExactMeanPasses': WHATEVER THE INPUT: true; the input reads as it did. -/
def fnExactMeanPassesSpec : ChangeSpec := { name := "fnExactMeanPasses", fn := fun _ => fun
  | [d] => { results := [.lit (.bool true)], args := [d] }
  | _ => none }
def fnExactMeanPassesRow : OpenClaim := { program := "ytmcldnoofgkidaa", sum := "c3c889badddc7b4db7f3de4846aebe9399198cc195128d662e93d1e5b9fef19d", func := "loop.example/g01286/laws.FnExactMeanPasses", spec := "fnExactMeanPasses", unfollowed := true, recurses := true, apart := false }
def FnExactMeanPassesSaid : Prop := fnExactMeanPassesRow.holds Try.pinned (OpenSpec.ofChange fnExactMeanPassesSpec)

/-- ITS FALSE NEIGHBOUR: 'it returns false'. Refute it at one input. -/
def fnExactMeanPassesWrong : ChangeSpec := { name := "fnExactMeanPasses", fn := fun _ => fun
  | [d] => { results := [.lit (.bool false)], args := [d] }
  | _ => none }
def FnExactMeanPassesWrongFalsely : Prop := fnExactMeanPassesRow.holds Try.pinned (OpenSpec.ofChange fnExactMeanPassesWrong)

/- THE SECOND FORM. 'bulk': how many values and letters a reading holds, each counted each time it is reached (what is shared counts as often as it is met; a slice's spare places count too). A statement '..UptoSaid' is the law's where the arguments, and the package variables that the reading takes, are together of bulk at most 1048576: NARROWER than '..Said'. Prove '..Said' where nothing that the law and all that it calls make is longer than what came in: it says more and counts as full. Else prove '..UptoSaid'. A law counts once. -/
mutual
def uptoBulk {H : Type} : DataW H → Nat
  | .lit (.string bytes) => bytes.length + 1
  | .lit _ => 1
  | .nil => 1
  | .ptr d => uptoBulk d + 1
  | .slice elems spare => uptoBulkAll elems + uptoBulkAll spare + 1
  | .agg parts => uptoBulkAll parts + 1
  | .iface _ d => uptoBulk d + 1
  | .map entries => uptoBulkEntries entries + 1
  | .held _ => 1
def uptoBulkAll {H : Type} : List (DataW H) → Nat
  | [] => 0
  | d :: r => uptoBulk d + uptoBulkAll r
def uptoBulkEntries {H : Type} : List (Lit × DataW H) → Nat
  | [] => 0
  | x :: r => uptoBulkEntry x + uptoBulkEntries r
def uptoBulkEntry {H : Type} : Lit × DataW H → Nat
  | (.string bytes, d) => bytes.length + uptoBulk d + 1
  | (_, d) => uptoBulk d + 1
 end
def uptoSmall : (H : Type) → List (DataW H) → Bool := fun _ ds => decide (uptoBulkAll ds ≤ 1048576)
def OpenSpec.upto (s : _root_.Go.ChangeSpec) : _root_.Go.OpenSpec := { _root_.Go.OpenSpec.ofChange s with cond := some uptoSmall }

/-- 'laws.FnExactMeanRise', WHERE WHAT IT READS IS OF BULK AT MOST 1048576: true; the input reads as it did. -/
def fnExactMeanRiseUptoRow : OpenClaim := { program := "ytmcldnoofgkidaa", sum := "c3c889badddc7b4db7f3de4846aebe9399198cc195128d662e93d1e5b9fef19d", func := "loop.example/g01286/laws.FnExactMeanRise", spec := "fnExactMeanRise", unfollowed := true, recurses := true, apart := false, narrowed := true }
def FnExactMeanRiseUptoSaid : Prop := fnExactMeanRiseUptoRow.holds Try.pinned (OpenSpec.upto fnExactMeanRiseSpec)

/-- 'laws.FnDuels', WHERE WHAT IT READS IS OF BULK AT MOST 1048576: true; the input reads as it did. -/
def fnDuelsUptoRow : OpenClaim := { program := "ytmcldnoofgkidaa", sum := "c3c889badddc7b4db7f3de4846aebe9399198cc195128d662e93d1e5b9fef19d", func := "loop.example/g01286/laws.FnDuels", spec := "fnDuels", recurses := true, apart := false, narrowed := true }
def FnDuelsUptoSaid : Prop := fnDuelsUptoRow.holds Try.pinned (OpenSpec.upto fnDuelsSpec)

/-- 'laws.FnExactChanceAvoids', WHERE WHAT IT READS IS OF BULK AT MOST 1048576: true; the input reads as it did. -/
def fnExactChanceAvoidsUptoRow : OpenClaim := { program := "ytmcldnoofgkidaa", sum := "c3c889badddc7b4db7f3de4846aebe9399198cc195128d662e93d1e5b9fef19d", func := "loop.example/g01286/laws.FnExactChanceAvoids", spec := "fnExactChanceAvoids", unfollowed := true, recurses := true, apart := false, narrowed := true }
def FnExactChanceAvoidsUptoSaid : Prop := fnExactChanceAvoidsUptoRow.holds Try.pinned (OpenSpec.upto fnExactChanceAvoidsSpec)

/-- 'laws.FnLimitedSweeps', WHERE WHAT IT READS IS OF BULK AT MOST 1048576: true; the input reads as it did. -/
def fnLimitedSweepsUptoRow : OpenClaim := { program := "ytmcldnoofgkidaa", sum := "c3c889badddc7b4db7f3de4846aebe9399198cc195128d662e93d1e5b9fef19d", func := "loop.example/g01286/laws.FnLimitedSweeps", spec := "fnLimitedSweeps", unfollowed := true, recurses := true, apart := false, narrowed := true }
def FnLimitedSweepsUptoSaid : Prop := fnLimitedSweepsUptoRow.holds Try.pinned (OpenSpec.upto fnLimitedSweepsSpec)

/-- 'laws.FnDuelWords', WHERE WHAT IT READS IS OF BULK AT MOST 1048576: true; the input reads as it did. -/
def fnDuelWordsUptoRow : OpenClaim := { program := "ytmcldnoofgkidaa", sum := "c3c889badddc7b4db7f3de4846aebe9399198cc195128d662e93d1e5b9fef19d", func := "loop.example/g01286/laws.FnDuelWords", spec := "fnDuelWords", unfollowed := true, recurses := true, apart := false, narrowed := true }
def FnDuelWordsUptoSaid : Prop := fnDuelWordsUptoRow.holds Try.pinned (OpenSpec.upto fnDuelWordsSpec)

/-- 'laws.FnLimits', WHERE WHAT IT READS IS OF BULK AT MOST 1048576: true; the input reads as it did. -/
def fnLimitsUptoRow : OpenClaim := { program := "ytmcldnoofgkidaa", sum := "c3c889badddc7b4db7f3de4846aebe9399198cc195128d662e93d1e5b9fef19d", func := "loop.example/g01286/laws.FnLimits", spec := "fnLimits", unfollowed := true, recurses := true, apart := false, narrowed := true }
def FnLimitsUptoSaid : Prop := fnLimitsUptoRow.holds Try.pinned (OpenSpec.upto fnLimitsSpec)

/-- 'laws.FnYards', WHERE WHAT IT READS IS OF BULK AT MOST 1048576: true; the input reads as it did. -/
def fnYardsUptoRow : OpenClaim := { program := "ytmcldnoofgkidaa", sum := "c3c889badddc7b4db7f3de4846aebe9399198cc195128d662e93d1e5b9fef19d", func := "loop.example/g01286/laws.FnYards", spec := "fnYards", unfollowed := true, recurses := true, apart := false, narrowed := true }
def FnYardsUptoSaid : Prop := fnYardsUptoRow.holds Try.pinned (OpenSpec.upto fnYardsSpec)

/-- 'laws.FnExactMeanPasses', WHERE WHAT IT READS IS OF BULK AT MOST 1048576: true; the input reads as it did. -/
def fnExactMeanPassesUptoRow : OpenClaim := { program := "ytmcldnoofgkidaa", sum := "c3c889badddc7b4db7f3de4846aebe9399198cc195128d662e93d1e5b9fef19d", func := "loop.example/g01286/laws.FnExactMeanPasses", spec := "fnExactMeanPasses", unfollowed := true, recurses := true, apart := false, narrowed := true }
def FnExactMeanPassesUptoSaid : Prop := fnExactMeanPassesUptoRow.holds Try.pinned (OpenSpec.upto fnExactMeanPassesSpec)

end Rows
end Go.Proofs.Ytmcldnoofgkidaa
