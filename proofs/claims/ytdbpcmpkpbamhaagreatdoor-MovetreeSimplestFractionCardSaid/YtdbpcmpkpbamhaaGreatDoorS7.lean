/- Proved: Rows.MovetreeSimplestFractionCardSaid, the tied card of the law of the simplest fraction: for every input the law returns true and leaves its arguments as they were. No condition beyond the row. -/
import Derived.Test.YtdbpcmpkpbamhaaGreatDoorS6
import Derived.Test.YtdbpcmpkpbamhaaGreatDoorS2
import Derived.Test.YtdbpcmpkpbamhaaGreatDoorCards
import Derived.Test.YtdbpcmpkpbamhaaGreatDoorTie
import Derived.SevenTiedAt
namespace Go.Proofs.YtdbpcmpkpbamhaaGreatDoor

theorem simplest_card : Rows.MovetreeSimplestFractionCardSaid :=
  Claim7.holds_tied_plain_at .later [] [.data, .data, .pinned] true (true, "779091110e896b4df1596f67ff848fca511cfbc75c4e23a1e79de0d51551a422") false simplest_holds (fun _ h => by cases h) simplest_wf (fun _ h => by cases h) movetreeSimplestFraction_row_tie rfl ⟨rfl, rfl⟩ card_main rfl
    (fun f fn hf hfn => by
      obtain rfl : f = 8 := Option.some.inj (simplest_name.symm.trans hf) |>.symm
      obtain rfl : fn = Tryz.f8 := (Option.some.inj (Tryz.func8.symm.trans hfn)).symm
      exact ⟨card_looks, fun j t ht => by
        rw [Tryz.params8] at ht
        have hm : t ∈ [50, 50, 5, 5] := by simpa using Array.mem_of_getElem? ht
        exact (show Tryz.prog.wantsStandIn t = false by simpa using List.all_eq_true.1 simplest_stands t hm)⟩)
    simplest_goes
#print axioms simplest_card

end Go.Proofs.YtdbpcmpkpbamhaaGreatDoor
