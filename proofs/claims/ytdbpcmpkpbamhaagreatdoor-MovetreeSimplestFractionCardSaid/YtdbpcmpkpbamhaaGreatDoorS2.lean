/- The closed facts of the cards, one by one. -/
import Derived.Test.YtdbpcmpkpbamhaaGreatDoorRows
import Derived.SevenTiedAt
import Derived.ProofKit
namespace Go.Proofs.YtdbpcmpkpbamhaaGreatDoor
theorem card_main : Tryz.pinned.checked.prog.mainIs = some (true, "779091110e896b4df1596f67ff848fca511cfbc75c4e23a1e79de0d51551a422".toList) := by kernel_rfl
theorem card_looks : false = Tryz.prog.looks [] := by kernel_rfl
theorem simplest_wf : Rows.movetreeSimplestFractionRow.wfByText (OpenSpec.ofChange Rows.movetreeSimplestFractionSpec) = true := by kernel_rfl
theorem simplest_name : Tryz.prog.funcNamed "voussoir/voussoirlaw41.MovetreeSimplestFraction" = some 8 := by kernel_rfl
theorem simplest_stands : ([50, 50, 5, 5].all fun u => !Tryz.prog.wantsStandIn u) = true := by kernel_rfl
theorem simplest_goes : false = Rows.movetreeSimplestFractionRow.goesBy Tryz.prog := by kernel_rfl
end Go.Proofs.YtdbpcmpkpbamhaaGreatDoor
