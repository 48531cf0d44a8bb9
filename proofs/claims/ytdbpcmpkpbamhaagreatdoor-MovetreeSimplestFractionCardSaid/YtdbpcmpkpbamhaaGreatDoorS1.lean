/- The closed facts of the row of the simplest fraction, one by one. -/
import Derived.Test.YtdbpcmpkpbamhaaGreatDoorRows
import Derived.JoinedOf
import Derived.ProofKit
namespace Go.Proofs.YtdbpcmpkpbamhaaGreatDoor
theorem bandI {a b : Bool} (h : a = true) (h' : b = true) : (a && b) = true := by rw [h, h']; rfl
theorem simplest_k1 : Rows.movetreeSimplestFractionRow.wf (OpenSpec.ofChange Rows.movetreeSimplestFractionSpec) = true := by kernel_rfl
theorem simplest_k2 : laidOutB Tryz.prog = true := by kernel_rfl
theorem simplest_k3 : mapsRowed Tryz.prog = true := by kernel_rfl
theorem simplest_k4 : Tryz.f8.params.all (Tryz.prog.readableRec ·) = true := by kernel_rfl
theorem simplest_k5 : namedTie Tryz.prog Rows.movetreeSimplestFractionRow.named Rows.movetreeSimplestFractionSpec.vars = true := by kernel_rfl
theorem simplest_k6 : (Rows.movetreeSimplestFractionRow.stops == []) = true := by kernel_rfl
theorem simplest_k7 : (Tryz.prog.stops == []) = true := by kernel_rfl
theorem simplest_k8 : (Rows.movetreeSimplestFractionRow.knobs == []) = true := by kernel_rfl
theorem simplest_k9 : (Tryz.prog.stopKnobs == []) = true := by kernel_rfl
theorem simplest_k10 : (Rows.movetreeSimplestFractionRow.inPlace == Tryz.prog.inPlace 8) = true := by kernel_rfl
theorem simplest_k11 : (Rows.movetreeSimplestFractionRow.unfollowed == Tryz.prog.unfollowed 8) = true := by kernel_rfl
theorem simplest_k12 : (Rows.movetreeSimplestFractionRow.recurses == Tryz.prog.recurses 8) = true := by kernel_rfl
theorem simplest_k13 : (Rows.movetreeSimplestFractionRow.named == Tryz.prog.varsNamed 8) = true := by kernel_rfl
theorem simplest_k14 : (Rows.movetreeSimplestFractionRow.maps == (Tryz.f8.params.toList ++ Rows.movetreeSimplestFractionSpec.plain.varTypes Tryz.prog).any (Tryz.prog.mapsRec ·)) = true := by kernel_rfl
theorem simplest_k15 : (Rows.movetreeSimplestFractionRow.ifaces == (Tryz.f8.params.toList ++ Rows.movetreeSimplestFractionSpec.plain.varTypes Tryz.prog).any (Tryz.prog.ifacesRec ·)) = true := by kernel_rfl
theorem simplest_k16 : (Rows.movetreeSimplestFractionRow.mapsOut == Tryz.prog.mapsAmong Tryz.f8.resultTypes.toList) = true := by kernel_rfl
theorem simplest_k17 : (Rows.movetreeSimplestFractionRow.loops == (Tryz.f8.params.toList ++ Rows.movetreeSimplestFractionSpec.plain.varTypes Tryz.prog).any (Tryz.prog.loopsFrom ·)) = true := by kernel_rfl
theorem simplest_k18 : (Rows.movetreeSimplestFractionRow.wideKeys == (Tryz.f8.params.toList ++ Rows.movetreeSimplestFractionSpec.plain.varTypes Tryz.prog ++ Tryz.f8.resultTypes.toList).any (Tryz.prog.wideKeysFrom ·)) = true := by kernel_rfl
theorem simplest_k19 : Rows.movetreeSimplestFractionSpec.vars.all (Tryz.prog.varReadable ·) = true := by kernel_rfl
theorem simplest_k20 : Tryz.f8.resultTypes.all (fun t => Tryz.prog.readableRec t && decide (t < Tryz.prog.types.size)) = true := by kernel_rfl
theorem simplest_k21 : (Rows.movetreeSimplestFractionRow.ifacesOut == Tryz.f8.resultTypes.toList.any (Tryz.prog.ifacesRec ·)) = true := by kernel_rfl
theorem simplest_k22 : (Rows.movetreeSimplestFractionRow.loopsOut == Tryz.f8.resultTypes.toList.any (Tryz.prog.loopsFrom ·)) = true := by kernel_rfl
theorem simplest_k23 : (Rows.movetreeSimplestFractionRow.plainKeys == Tryz.prog.plainKeys) = true := by kernel_rfl
theorem simplest_k24 : Rows.movetreeSimplestFractionRow.shortTexts.isNone = true := by kernel_rfl
theorem simplest_k25 : Tryz.prog.stopsHeard = true := by kernel_rfl
theorem simplest_k26 : Tryz.prog.mayEnter = true := by kernel_rfl
theorem simplest_k27 : (Rows.movetreeSimplestFractionRow.lifted == Tryz.prog.liftsFinal) = true := by kernel_rfl
theorem simplest_k28 : (Tryz.prog.make == some Rows.movetreeSimplestFractionRow.make) = true := by kernel_rfl
theorem simplest_k29 : (Rows.movetreeSimplestFractionRow.kinds == (if Rows.movetreeSimplestFractionRow.domain.isEmpty then [] else Tryz.f8.params.toList.map fun t => match Tryz.prog.underlying t with | some (.int k) => some k | _ => none)) = true := by kernel_rfl
theorem simplest_k30 : (Rows.movetreeSimplestFractionRow.pinned == Rows.movetreeSimplestFractionRow.pinnedBy) = true := by kernel_rfl
theorem simplest_k31 : (Rows.movetreeSimplestFractionRow.veiled == (Tryz.f8.params.toList ++ Rows.movetreeSimplestFractionSpec.plain.varTypes Tryz.prog ++ Tryz.f8.resultTypes.toList).any (Tryz.prog.veiledRec ·)) = true := by kernel_rfl
theorem simplest_k32 : Rows.movetreeSimplestFractionRow.veiledFits Tryz.prog Tryz.f8.params.toList (Tryz.f8.params.toList ++ Rows.movetreeSimplestFractionSpec.plain.varTypes Tryz.prog ++ Tryz.f8.resultTypes.toList) = true := by kernel_rfl

end Go.Proofs.YtdbpcmpkpbamhaaGreatDoor
