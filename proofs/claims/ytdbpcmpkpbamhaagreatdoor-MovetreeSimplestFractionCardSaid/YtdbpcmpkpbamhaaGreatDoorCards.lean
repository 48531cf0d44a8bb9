/-
  DERIVED. GIVEN WITH THE SEED: THE CARDS: each row of YtdbpcmpkpbamhaaGreatDoorRows.lean that lists a variable, with what it lists TIED to the program's text (the seventh form; the later family's looks); each row that meets fmt, with fmt's text TOLD by the authors' own Lean function (tested against real Go, not proved from fmt's source: count such statements apart). THE CARD IS WHAT COUNTS. Prove the row's statement (the work); the ties are given (YtdbpcmpkpbamhaaGreatDoorTie.lean); close each card by the builder's one call (the guide's Derived/Test/ToyasCard.lean, 'card_holds'). Laid BY PROGRAM, IN A SANDBOX (cutbox-door.mjs). By AI agents, Wed Nov 11 2026. No macro, syntax, notation, axiom, sorry.
-/
import Derived.Test.YtdbpcmpkpbamhaaGreatDoorRows
import GoSem.ClaimSeven
namespace Go.Proofs.YtdbpcmpkpbamhaaGreatDoor
namespace Rows

/-- THE TIED CARD OF 'voussoirlaw41.MovetreeApplication'. -/
def movetreeApplicationCard : Claim7 := { stood := { row := movetreeApplicationRow, standIns := [], harness := (true, "779091110e896b4df1596f67ff848fca511cfbc75c4e23a1e79de0d51551a422"), looks := false }, kinds := [], alts := [], laidByText := true, laidKinds := [.data, .data, .pinned], laidTests := true, laidLooks := .later }
def MovetreeApplicationCardSaid : Prop := Claim7.holds Tryz.pinned (.plain (OpenSpec.ofChange movetreeApplicationSpec)) movetreeApplicationCard

/-- THE TIED CARD OF 'voussoirlaw41.MovetreeValidity'. -/
def movetreeValidityCard : Claim7 := { stood := { row := movetreeValidityRow, standIns := [], harness := (true, "779091110e896b4df1596f67ff848fca511cfbc75c4e23a1e79de0d51551a422"), looks := false }, kinds := [], alts := [], laidByText := true, laidKinds := [.data, .data, .pinned], laidTests := true, laidLooks := .later }
def MovetreeValidityCardSaid : Prop := Claim7.holds Tryz.pinned (.plain (OpenSpec.ofChange movetreeValiditySpec)) movetreeValidityCard

/-- THE TIED CARD OF 'voussoirlaw41.MovetreeBatches'. -/
def movetreeBatchesCard : Claim7 := { stood := { row := movetreeBatchesRow, standIns := [], harness := (true, "779091110e896b4df1596f67ff848fca511cfbc75c4e23a1e79de0d51551a422"), looks := false }, kinds := [], alts := [], laidByText := true, laidKinds := [.data, .data, .pinned], laidTests := true, laidLooks := .later }
def MovetreeBatchesCardSaid : Prop := Claim7.holds Tryz.pinned (.plain (OpenSpec.ofChange movetreeBatchesSpec)) movetreeBatchesCard

/-- THE TIED CARD OF 'voussoirlaw41.MovetreeOrderKeys'. -/
def movetreeOrderKeysCard : Claim7 := { stood := { row := movetreeOrderKeysRow, standIns := [], harness := (true, "779091110e896b4df1596f67ff848fca511cfbc75c4e23a1e79de0d51551a422"), looks := false }, kinds := [], alts := [], laidByText := true, laidKinds := [.data, .data, .pinned], laidTests := true, laidLooks := .later }
def MovetreeOrderKeysCardSaid : Prop := Claim7.holds Tryz.pinned (.plain (OpenSpec.ofChange movetreeOrderKeysSpec)) movetreeOrderKeysCard

/-- THE TIED CARD OF 'voussoirlaw41.MovetreeDeletion'. -/
def movetreeDeletionCard : Claim7 := { stood := { row := movetreeDeletionRow, standIns := [], harness := (true, "779091110e896b4df1596f67ff848fca511cfbc75c4e23a1e79de0d51551a422"), looks := false }, kinds := [], alts := [], laidByText := true, laidKinds := [.data, .data, .pinned], laidTests := true, laidLooks := .later }
def MovetreeDeletionCardSaid : Prop := Claim7.holds Tryz.pinned (.plain (OpenSpec.ofChange movetreeDeletionSpec)) movetreeDeletionCard

/-- THE TIED CARD OF 'voussoirlaw41.MovetreeSimplestFraction'. -/
def movetreeSimplestFractionCard : Claim7 := { stood := { row := movetreeSimplestFractionRow, standIns := [], harness := (true, "779091110e896b4df1596f67ff848fca511cfbc75c4e23a1e79de0d51551a422"), looks := false }, kinds := [], alts := [], laidByText := true, laidKinds := [.data, .data, .pinned], laidTests := true, laidLooks := .later }
def MovetreeSimplestFractionCardSaid : Prop := Claim7.holds Tryz.pinned (.plain (OpenSpec.ofChange movetreeSimplestFractionSpec)) movetreeSimplestFractionCard

/-- THE TIED CARD OF 'voussoirlaw44.CausalDelivery'. -/
def causalDeliveryCard : Claim7 := { stood := { row := causalDeliveryRow, standIns := [], harness := (true, "779091110e896b4df1596f67ff848fca511cfbc75c4e23a1e79de0d51551a422"), looks := false }, kinds := [], alts := [], laidByText := true, laidKinds := [.data, .pinned], laidTests := true, laidLooks := .later }
def CausalDeliveryCardSaid : Prop := Claim7.holds Tryz.pinned (.plain (OpenSpec.ofChange causalDeliverySpec)) causalDeliveryCard

/-- THE TIED CARD OF 'voussoirlaw44.CausalOrder'. -/
def causalOrderCard : Claim7 := { stood := { row := causalOrderRow, standIns := [], harness := (true, "779091110e896b4df1596f67ff848fca511cfbc75c4e23a1e79de0d51551a422"), looks := false }, kinds := [], alts := [], laidByText := true, laidKinds := [.data, .pinned], laidTests := true, laidLooks := .later }
def CausalOrderCardSaid : Prop := Claim7.holds Tryz.pinned (.plain (OpenSpec.ofChange causalOrderSpec)) causalOrderCard

/-- THE TIED CARD OF 'voussoirlaw44.CausalConfluence'. -/
def causalConfluenceCard : Claim7 := { stood := { row := causalConfluenceRow, standIns := [], harness := (true, "779091110e896b4df1596f67ff848fca511cfbc75c4e23a1e79de0d51551a422"), looks := false }, kinds := [], alts := [], laidByText := true, laidKinds := [.data, .pinned], laidTests := true, laidLooks := .later }
def CausalConfluenceCardSaid : Prop := Claim7.holds Tryz.pinned (.plain (OpenSpec.ofChange causalConfluenceSpec)) causalConfluenceCard

/-- THE TIED CARD OF 'voussoirlaw44.CausalCompleteness'. -/
def causalCompletenessCard : Claim7 := { stood := { row := causalCompletenessRow, standIns := [], harness := (true, "779091110e896b4df1596f67ff848fca511cfbc75c4e23a1e79de0d51551a422"), looks := false }, kinds := [], alts := [], laidByText := true, laidKinds := [.data, .pinned], laidTests := true, laidLooks := .later }
def CausalCompletenessCardSaid : Prop := Claim7.holds Tryz.pinned (.plain (OpenSpec.ofChange causalCompletenessSpec)) causalCompletenessCard

/-- THE TIED CARD OF 'voussoirlaw44.CausalDuplicates'. -/
def causalDuplicatesCard : Claim7 := { stood := { row := causalDuplicatesRow, standIns := [], harness := (true, "779091110e896b4df1596f67ff848fca511cfbc75c4e23a1e79de0d51551a422"), looks := false }, kinds := [], alts := [], laidByText := true, laidKinds := [.data, .pinned], laidTests := true, laidLooks := .later }
def CausalDuplicatesCardSaid : Prop := Claim7.holds Tryz.pinned (.plain (OpenSpec.ofChange causalDuplicatesSpec)) causalDuplicatesCard

/-- THE TIED CARD OF 'voussoirlaw44.CausalMonotonicity'. -/
def causalMonotonicityCard : Claim7 := { stood := { row := causalMonotonicityRow, standIns := [], harness := (true, "779091110e896b4df1596f67ff848fca511cfbc75c4e23a1e79de0d51551a422"), looks := false }, kinds := [], alts := [], laidByText := true, laidKinds := [.data, .pinned], laidTests := true, laidLooks := .later }
def CausalMonotonicityCardSaid : Prop := Claim7.holds Tryz.pinned (.plain (OpenSpec.ofChange causalMonotonicitySpec)) causalMonotonicityCard

/-- THE SECOND FORM's CARD OF 'voussoirlaw41.MovetreeApplication'. -/
def movetreeApplicationUptoCard : Claim7 := { stood := { row := movetreeApplicationUptoRow, standIns := [], harness := (true, "779091110e896b4df1596f67ff848fca511cfbc75c4e23a1e79de0d51551a422"), looks := false }, kinds := [], alts := [], laidByText := true, laidKinds := [.data, .data, .pinned], laidTests := true, laidLooks := .later }
def MovetreeApplicationUptoCardSaid : Prop := Claim7.holds Tryz.pinned (.plain (OpenSpec.upto movetreeApplicationSpec)) movetreeApplicationUptoCard

/-- THE SECOND FORM's CARD OF 'voussoirlaw41.MovetreeValidity'. -/
def movetreeValidityUptoCard : Claim7 := { stood := { row := movetreeValidityUptoRow, standIns := [], harness := (true, "779091110e896b4df1596f67ff848fca511cfbc75c4e23a1e79de0d51551a422"), looks := false }, kinds := [], alts := [], laidByText := true, laidKinds := [.data, .data, .pinned], laidTests := true, laidLooks := .later }
def MovetreeValidityUptoCardSaid : Prop := Claim7.holds Tryz.pinned (.plain (OpenSpec.upto movetreeValiditySpec)) movetreeValidityUptoCard

/-- THE SECOND FORM's CARD OF 'voussoirlaw41.MovetreeBatches'. -/
def movetreeBatchesUptoCard : Claim7 := { stood := { row := movetreeBatchesUptoRow, standIns := [], harness := (true, "779091110e896b4df1596f67ff848fca511cfbc75c4e23a1e79de0d51551a422"), looks := false }, kinds := [], alts := [], laidByText := true, laidKinds := [.data, .data, .pinned], laidTests := true, laidLooks := .later }
def MovetreeBatchesUptoCardSaid : Prop := Claim7.holds Tryz.pinned (.plain (OpenSpec.upto movetreeBatchesSpec)) movetreeBatchesUptoCard

/-- THE SECOND FORM's CARD OF 'voussoirlaw41.MovetreeOrderKeys'. -/
def movetreeOrderKeysUptoCard : Claim7 := { stood := { row := movetreeOrderKeysUptoRow, standIns := [], harness := (true, "779091110e896b4df1596f67ff848fca511cfbc75c4e23a1e79de0d51551a422"), looks := false }, kinds := [], alts := [], laidByText := true, laidKinds := [.data, .data, .pinned], laidTests := true, laidLooks := .later }
def MovetreeOrderKeysUptoCardSaid : Prop := Claim7.holds Tryz.pinned (.plain (OpenSpec.upto movetreeOrderKeysSpec)) movetreeOrderKeysUptoCard

/-- THE SECOND FORM's CARD OF 'voussoirlaw41.MovetreeDeletion'. -/
def movetreeDeletionUptoCard : Claim7 := { stood := { row := movetreeDeletionUptoRow, standIns := [], harness := (true, "779091110e896b4df1596f67ff848fca511cfbc75c4e23a1e79de0d51551a422"), looks := false }, kinds := [], alts := [], laidByText := true, laidKinds := [.data, .data, .pinned], laidTests := true, laidLooks := .later }
def MovetreeDeletionUptoCardSaid : Prop := Claim7.holds Tryz.pinned (.plain (OpenSpec.upto movetreeDeletionSpec)) movetreeDeletionUptoCard

/-- THE SECOND FORM's CARD OF 'voussoirlaw41.MovetreeSimplestFraction'. -/
def movetreeSimplestFractionUptoCard : Claim7 := { stood := { row := movetreeSimplestFractionUptoRow, standIns := [], harness := (true, "779091110e896b4df1596f67ff848fca511cfbc75c4e23a1e79de0d51551a422"), looks := false }, kinds := [], alts := [], laidByText := true, laidKinds := [.data, .data, .pinned], laidTests := true, laidLooks := .later }
def MovetreeSimplestFractionUptoCardSaid : Prop := Claim7.holds Tryz.pinned (.plain (OpenSpec.upto movetreeSimplestFractionSpec)) movetreeSimplestFractionUptoCard

/-- THE SECOND FORM's CARD OF 'voussoirlaw44.CausalDelivery'. -/
def causalDeliveryUptoCard : Claim7 := { stood := { row := causalDeliveryUptoRow, standIns := [], harness := (true, "779091110e896b4df1596f67ff848fca511cfbc75c4e23a1e79de0d51551a422"), looks := false }, kinds := [], alts := [], laidByText := true, laidKinds := [.data, .pinned], laidTests := true, laidLooks := .later }
def CausalDeliveryUptoCardSaid : Prop := Claim7.holds Tryz.pinned (.plain (OpenSpec.upto causalDeliverySpec)) causalDeliveryUptoCard

/-- THE SECOND FORM's CARD OF 'voussoirlaw44.CausalOrder'. -/
def causalOrderUptoCard : Claim7 := { stood := { row := causalOrderUptoRow, standIns := [], harness := (true, "779091110e896b4df1596f67ff848fca511cfbc75c4e23a1e79de0d51551a422"), looks := false }, kinds := [], alts := [], laidByText := true, laidKinds := [.data, .pinned], laidTests := true, laidLooks := .later }
def CausalOrderUptoCardSaid : Prop := Claim7.holds Tryz.pinned (.plain (OpenSpec.upto causalOrderSpec)) causalOrderUptoCard

/-- THE SECOND FORM's CARD OF 'voussoirlaw44.CausalConfluence'. -/
def causalConfluenceUptoCard : Claim7 := { stood := { row := causalConfluenceUptoRow, standIns := [], harness := (true, "779091110e896b4df1596f67ff848fca511cfbc75c4e23a1e79de0d51551a422"), looks := false }, kinds := [], alts := [], laidByText := true, laidKinds := [.data, .pinned], laidTests := true, laidLooks := .later }
def CausalConfluenceUptoCardSaid : Prop := Claim7.holds Tryz.pinned (.plain (OpenSpec.upto causalConfluenceSpec)) causalConfluenceUptoCard

/-- THE SECOND FORM's CARD OF 'voussoirlaw44.CausalCompleteness'. -/
def causalCompletenessUptoCard : Claim7 := { stood := { row := causalCompletenessUptoRow, standIns := [], harness := (true, "779091110e896b4df1596f67ff848fca511cfbc75c4e23a1e79de0d51551a422"), looks := false }, kinds := [], alts := [], laidByText := true, laidKinds := [.data, .pinned], laidTests := true, laidLooks := .later }
def CausalCompletenessUptoCardSaid : Prop := Claim7.holds Tryz.pinned (.plain (OpenSpec.upto causalCompletenessSpec)) causalCompletenessUptoCard

/-- THE SECOND FORM's CARD OF 'voussoirlaw44.CausalDuplicates'. -/
def causalDuplicatesUptoCard : Claim7 := { stood := { row := causalDuplicatesUptoRow, standIns := [], harness := (true, "779091110e896b4df1596f67ff848fca511cfbc75c4e23a1e79de0d51551a422"), looks := false }, kinds := [], alts := [], laidByText := true, laidKinds := [.data, .pinned], laidTests := true, laidLooks := .later }
def CausalDuplicatesUptoCardSaid : Prop := Claim7.holds Tryz.pinned (.plain (OpenSpec.upto causalDuplicatesSpec)) causalDuplicatesUptoCard

/-- THE SECOND FORM's CARD OF 'voussoirlaw44.CausalMonotonicity'. -/
def causalMonotonicityUptoCard : Claim7 := { stood := { row := causalMonotonicityUptoRow, standIns := [], harness := (true, "779091110e896b4df1596f67ff848fca511cfbc75c4e23a1e79de0d51551a422"), looks := false }, kinds := [], alts := [], laidByText := true, laidKinds := [.data, .pinned], laidTests := true, laidLooks := .later }
def CausalMonotonicityUptoCardSaid : Prop := Claim7.holds Tryz.pinned (.plain (OpenSpec.upto causalMonotonicitySpec)) causalMonotonicityUptoCard
end Rows
end Go.Proofs.YtdbpcmpkpbamhaaGreatDoor
