/-
  No cell of these rows narrows 'for every input' (looked for: loops, veiled, ifaces, maps, wideKeys, modest, calm, conditions, laid).
  DERIVED. THE GIVEN ROWS OF THIS SEAT. 8 by the template 'for every input the law returns true; each argument reads behind the call as it read before'; 0 by the template 'total and deterministic' (their statements: YtjgpnbchnenbeaaTotals.lean).
  GIVEN WITH THE SEED: the statements are not yours to turn. If you find one false, say at which input.
  Laid BY PROGRAM, IN A SANDBOX (cutbox-rows.mjs): the forced cells as the released guide's own fill.sh prints them over the translation 1832371947bdb5b8… (all of the seat's roots in one cut). By AI agents, Wed Nov 11 2026. No macro, syntax, notation, axiom, sorry.
-/
import Derived.Test.YtjgpnbchnenbeaaChecked
import GoSem.Claim
import GoSem.ClaimJoined
import GoSem.ClaimMapViews
import Derived.JoinedTies
import Derived.KernelRfl
namespace Go.Proofs.Ytjgpnbchnenbeaa
/- THE CELL 'sum', in the pinned program and in every row, IS THE sha256 OF THE DUMP (.gsa) THAT YtjgpnbchnenbeaaProg.lean LOADS. Nothing in Lean hashes anything: it is a label: what it is worth is what the hold of that sum in a sandbox is worth. -/
noncomputable def Try.pinned : Pinned := { name := "ytjgpnbchnenbeaa", sum := "1832371947bdb5b857842042dce956b49014fbe119028877f6637c8530ed4767", checked := Try.checked }
namespace Rows
def none {H : Type} : Left H := { results := [], args := [] }

/-- 'laws.FnFactors': WHATEVER THE INPUT: true; the input reads as it did. -/
def fnFactorsSpec : ChangeSpec := { name := "fnFactors", fn := fun _ => fun
  | [d1, d2] => { results := [.lit (.bool true)], args := [d1, d2] }
  | _ => none }
def fnFactorsRow : OpenClaim := { program := "ytjgpnbchnenbeaa", sum := "1832371947bdb5b857842042dce956b49014fbe119028877f6637c8530ed4767", func := "loop.example/g01344/laws.FnFactors", spec := "fnFactors", inPlace := ["math.Float64frombits", "math.Float32frombits", "math.Float32bits", "slices.overlaps[int16]"], unfollowed := true, recurses := true, apart := false }
def FnFactorsSaid : Prop := fnFactorsRow.holds Try.pinned (OpenSpec.ofChange fnFactorsSpec)

/-- ITS FALSE NEIGHBOUR: 'it returns false'. Refute it at one input. -/
def fnFactorsWrong : ChangeSpec := { name := "fnFactors", fn := fun _ => fun
  | [d1, d2] => { results := [.lit (.bool false)], args := [d1, d2] }
  | _ => none }
def FnFactorsWrongFalsely : Prop := fnFactorsRow.holds Try.pinned (OpenSpec.ofChange fnFactorsWrong)

/-- 'laws.FnLines': WHATEVER THE INPUT: true; the input reads as it did. -/
def fnLinesSpec : ChangeSpec := { name := "fnLines", fn := fun _ => fun
  | [d1, d2] => { results := [.lit (.bool true)], args := [d1, d2] }
  | _ => none }
def fnLinesRow : OpenClaim := { program := "ytjgpnbchnenbeaa", sum := "1832371947bdb5b857842042dce956b49014fbe119028877f6637c8530ed4767", func := "loop.example/g01344/laws.FnLines", spec := "fnLines", inPlace := ["math.Float32bits"], unfollowed := true, recurses := true, apart := false }
def FnLinesSaid : Prop := fnLinesRow.holds Try.pinned (OpenSpec.ofChange fnLinesSpec)

/-- ITS FALSE NEIGHBOUR: 'it returns false'. Refute it at one input. -/
def fnLinesWrong : ChangeSpec := { name := "fnLines", fn := fun _ => fun
  | [d1, d2] => { results := [.lit (.bool false)], args := [d1, d2] }
  | _ => none }
def FnLinesWrongFalsely : Prop := fnLinesRow.holds Try.pinned (OpenSpec.ofChange fnLinesWrong)

/-- 'laws.FnPlays': WHATEVER THE INPUT: true; the input reads as it did. -/
def fnPlaysSpec : ChangeSpec := { name := "fnPlays", fn := fun _ => fun
  | [d1, d2] => { results := [.lit (.bool true)], args := [d1, d2] }
  | _ => none }
def fnPlaysRow : OpenClaim := { program := "ytjgpnbchnenbeaa", sum := "1832371947bdb5b857842042dce956b49014fbe119028877f6637c8530ed4767", func := "loop.example/g01344/laws.FnPlays", spec := "fnPlays", inPlace := ["math.Float32bits"], unfollowed := true, recurses := true, apart := false }
def FnPlaysSaid : Prop := fnPlaysRow.holds Try.pinned (OpenSpec.ofChange fnPlaysSpec)

/-- ITS FALSE NEIGHBOUR: 'it returns false'. Refute it at one input. -/
def fnPlaysWrong : ChangeSpec := { name := "fnPlays", fn := fun _ => fun
  | [d1, d2] => { results := [.lit (.bool false)], args := [d1, d2] }
  | _ => none }
def FnPlaysWrongFalsely : Prop := fnPlaysRow.holds Try.pinned (OpenSpec.ofChange fnPlaysWrong)

/-- 'laws.FnBalance': WHATEVER THE INPUT: true; the input reads as it did. -/
def fnBalanceSpec : ChangeSpec := { name := "fnBalance", fn := fun _ => fun
  | [d1, d2] => { results := [.lit (.bool true)], args := [d1, d2] }
  | _ => none }
def fnBalanceRow : OpenClaim := { program := "ytjgpnbchnenbeaa", sum := "1832371947bdb5b857842042dce956b49014fbe119028877f6637c8530ed4767", func := "loop.example/g01344/laws.FnBalance", spec := "fnBalance", inPlace := ["math.Float32bits"], apart := false }
def FnBalanceSaid : Prop := fnBalanceRow.holds Try.pinned (OpenSpec.ofChange fnBalanceSpec)

/-- ITS FALSE NEIGHBOUR: 'it returns false'. Refute it at one input. -/
def fnBalanceWrong : ChangeSpec := { name := "fnBalance", fn := fun _ => fun
  | [d1, d2] => { results := [.lit (.bool false)], args := [d1, d2] }
  | _ => none }
def FnBalanceWrongFalsely : Prop := fnBalanceRow.holds Try.pinned (OpenSpec.ofChange fnBalanceWrong)

/-- 'laws.FnYears': WHATEVER THE INPUT: true; the input reads as it did. -/
def fnYearsSpec : ChangeSpec := { name := "fnYears", fn := fun _ => fun
  | [d1, d2] => { results := [.lit (.bool true)], args := [d1, d2] }
  | _ => none }
def fnYearsRow : OpenClaim := { program := "ytjgpnbchnenbeaa", sum := "1832371947bdb5b857842042dce956b49014fbe119028877f6637c8530ed4767", func := "loop.example/g01344/laws.FnYears", spec := "fnYears", inPlace := ["math.Float32bits"], unfollowed := true, recurses := true, apart := false }
def FnYearsSaid : Prop := fnYearsRow.holds Try.pinned (OpenSpec.ofChange fnYearsSpec)

/-- ITS FALSE NEIGHBOUR: 'it returns false'. Refute it at one input. -/
def fnYearsWrong : ChangeSpec := { name := "fnYears", fn := fun _ => fun
  | [d1, d2] => { results := [.lit (.bool false)], args := [d1, d2] }
  | _ => none }
def FnYearsWrongFalsely : Prop := fnYearsRow.holds Try.pinned (OpenSpec.ofChange fnYearsWrong)

/-- 'laws.FnExactWidestStep': WHATEVER THE INPUT: true; the input reads as it did. -/
def fnExactWidestStepSpec : ChangeSpec := { name := "fnExactWidestStep", fn := fun _ => fun
  | [d] => { results := [.lit (.bool true)], args := [d] }
  | _ => none }
def fnExactWidestStepRow : OpenClaim := { program := "ytjgpnbchnenbeaa", sum := "1832371947bdb5b857842042dce956b49014fbe119028877f6637c8530ed4767", func := "loop.example/g01344/laws.FnExactWidestStep", spec := "fnExactWidestStep", unfollowed := true, recurses := true, apart := false }
def FnExactWidestStepSaid : Prop := fnExactWidestStepRow.holds Try.pinned (OpenSpec.ofChange fnExactWidestStepSpec)

/-- ITS FALSE NEIGHBOUR: 'it returns false'. Refute it at one input. -/
def fnExactWidestStepWrong : ChangeSpec := { name := "fnExactWidestStep", fn := fun _ => fun
  | [d] => { results := [.lit (.bool false)], args := [d] }
  | _ => none }
def FnExactWidestStepWrongFalsely : Prop := fnExactWidestStepRow.holds Try.pinned (OpenSpec.ofChange fnExactWidestStepWrong)

/-- 'laws.FnExactAllFactors': WHATEVER THE INPUT: true; the input reads as it did. -/
def fnExactAllFactorsSpec : ChangeSpec := { name := "fnExactAllFactors", fn := fun _ => fun
  | [d] => { results := [.lit (.bool true)], args := [d] }
  | _ => none }
def fnExactAllFactorsRow : OpenClaim := { program := "ytjgpnbchnenbeaa", sum := "1832371947bdb5b857842042dce956b49014fbe119028877f6637c8530ed4767", func := "loop.example/g01344/laws.FnExactAllFactors", spec := "fnExactAllFactors", unfollowed := true, recurses := true, apart := false }
def FnExactAllFactorsSaid : Prop := fnExactAllFactorsRow.holds Try.pinned (OpenSpec.ofChange fnExactAllFactorsSpec)

/-- ITS FALSE NEIGHBOUR: 'it returns false'. Refute it at one input. -/
def fnExactAllFactorsWrong : ChangeSpec := { name := "fnExactAllFactors", fn := fun _ => fun
  | [d] => { results := [.lit (.bool false)], args := [d] }
  | _ => none }
def FnExactAllFactorsWrongFalsely : Prop := fnExactAllFactorsRow.holds Try.pinned (OpenSpec.ofChange fnExactAllFactorsWrong)

/-- 'laws.FnExactFactorsBetween': WHATEVER THE INPUT: true; the input reads as it did. -/
def fnExactFactorsBetweenSpec : ChangeSpec := { name := "fnExactFactorsBetween", fn := fun _ => fun
  | [d1, d2, d3] => { results := [.lit (.bool true)], args := [d1, d2, d3] }
  | _ => none }
def fnExactFactorsBetweenRow : OpenClaim := { program := "ytjgpnbchnenbeaa", sum := "1832371947bdb5b857842042dce956b49014fbe119028877f6637c8530ed4767", func := "loop.example/g01344/laws.FnExactFactorsBetween", spec := "fnExactFactorsBetween", unfollowed := true, recurses := true, apart := false }
def FnExactFactorsBetweenSaid : Prop := fnExactFactorsBetweenRow.holds Try.pinned (OpenSpec.ofChange fnExactFactorsBetweenSpec)

/-- ITS FALSE NEIGHBOUR: 'it returns false'. Refute it at one input. -/
def fnExactFactorsBetweenWrong : ChangeSpec := { name := "fnExactFactorsBetween", fn := fun _ => fun
  | [d1, d2, d3] => { results := [.lit (.bool false)], args := [d1, d2, d3] }
  | _ => none }
def FnExactFactorsBetweenWrongFalsely : Prop := fnExactFactorsBetweenRow.holds Try.pinned (OpenSpec.ofChange fnExactFactorsBetweenWrong)

/- THE SECOND FORM. 'bulk': how many values and letters a reading holds, each counted each time it is reached (what is shared counts as often as it is met; a slice's spare places count too). A statement '..UptoSaid' is the law's where the arguments, and the package variables that the reading takes, are together of bulk at most 1048576: NARROWER than '..Said'. Prove '..Said' where nothing that the law and all that it calls make is longer than what came in: it says more and counts as full. Else prove '..UptoSaid'. A law counts once. -/
mutual
def uptoBulk {H : Type} : DataW H → Nat
  | .lit (.string bytes) => bytes.length + 1
  | .lit _ => 1
  | .nil => 1
  | .ptr d => uptoBulk d + 1
  | .slice elems spare => uptoBulkAll elems + uptoBulkAll spare + 1
  | .agg parts => uptoBulkAll parts + 1
  | .iface _ d => uptoBulk d + 1
  | .map entries => uptoBulkEntries entries + 1
  | .held _ => 1
def uptoBulkAll {H : Type} : List (DataW H) → Nat
  | [] => 0
  | d :: r => uptoBulk d + uptoBulkAll r
def uptoBulkEntries {H : Type} : List (Lit × DataW H) → Nat
  | [] => 0
  | x :: r => uptoBulkEntry x + uptoBulkEntries r
def uptoBulkEntry {H : Type} : Lit × DataW H → Nat
  | (.string bytes, d) => bytes.length + uptoBulk d + 1
  | (_, d) => uptoBulk d + 1
 end
def uptoSmall : (H : Type) → List (DataW H) → Bool := fun _ ds => decide (uptoBulkAll ds ≤ 1048576)
def OpenSpec.upto (s : _root_.Go.ChangeSpec) : _root_.Go.OpenSpec := { _root_.Go.OpenSpec.ofChange s with cond := some uptoSmall }

/-- 'laws.FnFactors', WHERE WHAT IT READS IS OF BULK AT MOST 1048576: true; the input reads as it did. -/
def fnFactorsUptoRow : OpenClaim := { program := "ytjgpnbchnenbeaa", sum := "1832371947bdb5b857842042dce956b49014fbe119028877f6637c8530ed4767", func := "loop.example/g01344/laws.FnFactors", spec := "fnFactors", inPlace := ["math.Float64frombits", "math.Float32frombits", "math.Float32bits", "slices.overlaps[int16]"], unfollowed := true, recurses := true, apart := false, narrowed := true }
def FnFactorsUptoSaid : Prop := fnFactorsUptoRow.holds Try.pinned (OpenSpec.upto fnFactorsSpec)

/-- 'laws.FnLines', WHERE WHAT IT READS IS OF BULK AT MOST 1048576: true; the input reads as it did. -/
def fnLinesUptoRow : OpenClaim := { program := "ytjgpnbchnenbeaa", sum := "1832371947bdb5b857842042dce956b49014fbe119028877f6637c8530ed4767", func := "loop.example/g01344/laws.FnLines", spec := "fnLines", inPlace := ["math.Float32bits"], unfollowed := true, recurses := true, apart := false, narrowed := true }
def FnLinesUptoSaid : Prop := fnLinesUptoRow.holds Try.pinned (OpenSpec.upto fnLinesSpec)

/-- 'laws.FnPlays', WHERE WHAT IT READS IS OF BULK AT MOST 1048576: true; the input reads as it did. -/
def fnPlaysUptoRow : OpenClaim := { program := "ytjgpnbchnenbeaa", sum := "1832371947bdb5b857842042dce956b49014fbe119028877f6637c8530ed4767", func := "loop.example/g01344/laws.FnPlays", spec := "fnPlays", inPlace := ["math.Float32bits"], unfollowed := true, recurses := true, apart := false, narrowed := true }
def FnPlaysUptoSaid : Prop := fnPlaysUptoRow.holds Try.pinned (OpenSpec.upto fnPlaysSpec)

/-- 'laws.FnBalance', WHERE WHAT IT READS IS OF BULK AT MOST 1048576: true; the input reads as it did. -/
def fnBalanceUptoRow : OpenClaim := { program := "ytjgpnbchnenbeaa", sum := "1832371947bdb5b857842042dce956b49014fbe119028877f6637c8530ed4767", func := "loop.example/g01344/laws.FnBalance", spec := "fnBalance", inPlace := ["math.Float32bits"], apart := false, narrowed := true }
def FnBalanceUptoSaid : Prop := fnBalanceUptoRow.holds Try.pinned (OpenSpec.upto fnBalanceSpec)

/-- 'laws.FnYears', WHERE WHAT IT READS IS OF BULK AT MOST 1048576: true; the input reads as it did. -/
def fnYearsUptoRow : OpenClaim := { program := "ytjgpnbchnenbeaa", sum := "1832371947bdb5b857842042dce956b49014fbe119028877f6637c8530ed4767", func := "loop.example/g01344/laws.FnYears", spec := "fnYears", inPlace := ["math.Float32bits"], unfollowed := true, recurses := true, apart := false, narrowed := true }
def FnYearsUptoSaid : Prop := fnYearsUptoRow.holds Try.pinned (OpenSpec.upto fnYearsSpec)

/-- 'laws.FnExactWidestStep', WHERE WHAT IT READS IS OF BULK AT MOST 1048576: true; the input reads as it did. -/
def fnExactWidestStepUptoRow : OpenClaim := { program := "ytjgpnbchnenbeaa", sum := "1832371947bdb5b857842042dce956b49014fbe119028877f6637c8530ed4767", func := "loop.example/g01344/laws.FnExactWidestStep", spec := "fnExactWidestStep", unfollowed := true, recurses := true, apart := false, narrowed := true }
def FnExactWidestStepUptoSaid : Prop := fnExactWidestStepUptoRow.holds Try.pinned (OpenSpec.upto fnExactWidestStepSpec)

/-- 'laws.FnExactAllFactors', WHERE WHAT IT READS IS OF BULK AT MOST 1048576: true; the input reads as it did. -/
def fnExactAllFactorsUptoRow : OpenClaim := { program := "ytjgpnbchnenbeaa", sum := "1832371947bdb5b857842042dce956b49014fbe119028877f6637c8530ed4767", func := "loop.example/g01344/laws.FnExactAllFactors", spec := "fnExactAllFactors", unfollowed := true, recurses := true, apart := false, narrowed := true }
def FnExactAllFactorsUptoSaid : Prop := fnExactAllFactorsUptoRow.holds Try.pinned (OpenSpec.upto fnExactAllFactorsSpec)

/-- 'laws.FnExactFactorsBetween', WHERE WHAT IT READS IS OF BULK AT MOST 1048576: true; the input reads as it did. -/
def fnExactFactorsBetweenUptoRow : OpenClaim := { program := "ytjgpnbchnenbeaa", sum := "1832371947bdb5b857842042dce956b49014fbe119028877f6637c8530ed4767", func := "loop.example/g01344/laws.FnExactFactorsBetween", spec := "fnExactFactorsBetween", unfollowed := true, recurses := true, apart := false, narrowed := true }
def FnExactFactorsBetweenUptoSaid : Prop := fnExactFactorsBetweenUptoRow.holds Try.pinned (OpenSpec.upto fnExactFactorsBetweenSpec)

end Rows
end Go.Proofs.Ytjgpnbchnenbeaa
