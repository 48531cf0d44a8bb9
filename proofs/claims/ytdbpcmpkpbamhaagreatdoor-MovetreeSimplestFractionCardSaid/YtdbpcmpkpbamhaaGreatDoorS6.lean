/- The law of the simplest fraction: the row, and its tied card. -/
import Derived.Test.YtdbpcmpkpbamhaaGreatDoorS0
import Derived.Test.YtdbpcmpkpbamhaaGreatDoorS1
import Derived.MakeChecks
import Derived.SevenTiedAt
namespace Go.Proofs.YtdbpcmpkpbamhaaGreatDoor
open Go.ChangeShapes Go.WideShapes Go.ChangeAt Go.RowKit

theorem seatOwn : ownKnob Tryz.prog.godebug = none := by kernel_rfl

set_option maxRecDepth 100000 in
theorem simplest_lifted (os : Os) (started : os.Started) (H : Type) (enc : TypeId × Value → H) :
    ReturnsInHanded {} Tryz.checked os 8 .any (fun w args => (Rows.movetreeSimplestFractionSpec.pre enc Tryz.prog Tryz.f8 [] false w args ∧ laidMetH Tryz.prog Rows.movetreeSimplestFractionRow.laid w) ∧ sizedMet enc Tryz.prog Tryz.f8 (OpenSpec.ofChange Rows.movetreeSimplestFractionSpec) false w args)
      (Rows.movetreeSimplestFractionSpec.post enc Tryz.prog Tryz.f8 false true false false) := by
  refine returnsInHanded_of_change_and (C := Tryz.checked) (X := fun w _ => laidMetH Tryz.prog Rows.movetreeSimplestFractionRow.laid w) (fun _ _ _ hh h => h.of_heap hh) seatOwn started (by kernel_rfl) Tryz.func8
    (ChangeSpec.witness_shaped (enc := enc) (C := Tryz.checked) (os := os) (X := fun w _ => laidMetH Tryz.prog Rows.movetreeSimplestFractionRow.laid w) false (World.laidAll Tryz.prog os Rows.movetreeSimplestFractionRow.laid) #[.int .i8 0, .int .i8 0, .int .u8 0, .int .u8 0] 8 (World.laidAll_os _ _ _)
      (World.shaped_of_ZipB (by kernel_rfl) (by kernel_rfl)) (by kernel_rfl) (by kernel_rfl) (by kernel_rfl)
      (by rw [MakeChecks.laidMetH_plain _ _ _ (by kernel_rfl)]; exact laidMet_laidAll _ (by kernel_rfl) (by kernel_rfl))) ?_
  intro W base args ds gs before hval0 hW _ _ hL _
  have hval : ∀ (j : Nat) t v, Tryz.f8.params[j]? = some t → args[j]? = some v → Value.okWide Tryz.prog W .any base t v := hval0
  have hW' := hW
  obtain ⟨p, q, hA0, hV, rfl, _, _⟩ := hW
  have hA : DataW.TrodAll enc Tryz.prog W 0 (fun _ => true) true Tryz.f8.params.toList args.toList ds p := hA0
  rw [Tryz.params8] at hA hval
  obtain ⟨v0, v1, v2, v3, d0, d1, d2, d3, p0, p1, p2, p3, rfl, rfl, rfl, h0, h1, h2, h3⟩ := trodAll_four hA
  obtain ⟨rfl, rfl⟩ := trodVars_none hV
  obtain ⟨x0, rfl, rfl, rfl, w0⟩ := open_int Tryz.underlying50 (hval 0 50 v0 rfl rfl) h0
  obtain ⟨x1, rfl, rfl, rfl, w1⟩ := open_int Tryz.underlying50 (hval 1 50 v1 rfl rfl) h1
  obtain ⟨y0, rfl, rfl, rfl, w2⟩ := open_int Tryz.underlying5 (hval 2 5 v2 rfl rfl) h2
  obtain ⟨y1, rfl, rfl, rfl, w3⟩ := open_int Tryz.underlying5 (hval 3 5 v3 rfl rfl) h3
  simp only [List.append_nil] at hW'
  have b0 : -128 ≤ x0 ∧ x0 ≤ 127 := by simpa [Lit.wf, IntKind.min, IntKind.max, IntKind.signed, IntKind.bits] using w0
  have b1 : -128 ≤ x1 ∧ x1 ≤ 127 := by simpa [Lit.wf, IntKind.min, IntKind.max, IntKind.signed, IntKind.bits] using w1
  have b2 : 0 ≤ y0 ∧ y0 ≤ 255 := by simpa [Lit.wf, IntKind.min, IntKind.max, IntKind.signed, IntKind.bits] using w2
  have b3 : 0 ≤ y1 ∧ y1 ≤ 255 := by simpa [Lit.wf, IntKind.min, IntKind.max, IntKind.signed, IntKind.bits] using w3
  rw [MakeChecks.laidMetH_plain _ _ _ (by kernel_rfl)] at hL
  have hT : Lib.VarReads Tryz.prog W "voussoir/movetree.trash" Rows.laid_voussoir_movetree_trash := Lib.laidMet.reads hL (.tail _ (.head _))
  have hc := Vm.c8 x0 x1 y0 y1 b0.1 b0.2 b1.1 b1.2 b2.1 b2.2 b3.1 b3.2
  refine (Vm.calls_of_pure hc hT (vals := #[.int .i8 x0, .int .i8 x1, .int .u8 y0, .int .u8 y1]) rfl (fun i x v hx hv => ?_) (R := fun v => v = .bool true) (fun _ _ v h => h.val_inv)).mono fun e W' ⟨v, he, hv, hk⟩ => ?_
  · match i with
    | 0 => simp at hx hv; subst hx; subst hv; exact .val _ _
    | 1 => simp at hx hv; subst hx; subst hv; exact .val _ _
    | 2 => simp at hx hv; subst hx; subst hv; exact .val _ _
    | 3 => simp at hx hv; subst hx; subst hv; exact .val _ _
    | i + 4 => simp at hx
  subst he; subst hv
  exact ⟨_, rfl, _, _, _, [], [], [], hW', trodAll_mk1 (shut_bool Tryz.underlying4 _), trodAll_mk4 (shut_int Tryz.underlying50 w0) (shut_int Tryz.underlying50 w1) (shut_int Tryz.underlying5 w2) (shut_int Tryz.underlying5 w3), rfl, hk _, fun h => by cases h⟩

set_option maxRecDepth 100000 in
theorem simplest_facts : joinedFacts Tryz.prog 8 Tryz.f8 Rows.movetreeSimplestFractionSpec Rows.movetreeSimplestFractionRow = true := by
  unfold joinedFacts
  exact bandI (bandI (bandI (bandI (bandI (bandI (bandI (bandI (bandI (bandI (bandI (bandI (bandI (bandI (bandI (bandI (bandI (bandI (bandI (bandI (bandI (bandI (bandI (bandI (bandI (bandI (bandI (bandI (bandI (bandI (bandI simplest_k1 simplest_k2) simplest_k3) simplest_k4) simplest_k5) simplest_k6) simplest_k7) simplest_k8) simplest_k9) simplest_k10) simplest_k11) simplest_k12) simplest_k13) simplest_k14) simplest_k15) simplest_k16) simplest_k17) simplest_k18) simplest_k19) simplest_k20) simplest_k21) simplest_k22) simplest_k23) simplest_k24) simplest_k25) simplest_k26) simplest_k27) simplest_k28) simplest_k29) simplest_k30) simplest_k31) simplest_k32

set_option maxRecDepth 100000 in
theorem simplest_holds : Rows.MovetreeSimplestFractionSaid :=
  OpenClaim.holds_of_wide 8 Tryz.f8 rfl rfl rfl rfl rfl rfl rfl ⟨rfl, rfl, rfl, rfl, rfl⟩ rfl rfl rfl rfl rfl (by kernel_rfl) Tryz.func8 simplest_facts
    (of_decide_eq_true (by kernel_rfl)) (by unfold Func.isWrapper; first | (rw [if_pos (by decide +kernel)]; kernel_rfl) | (rw [if_neg (by decide +kernel)]; exact ⟨rfl, rfl⟩))
    (fun os started H enc _ => simplest_lifted os started H enc)

end Go.Proofs.YtdbpcmpkpbamhaaGreatDoor
