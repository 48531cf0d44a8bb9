/- The types that the seat's functions look at. -/
import Derived.Test.YtdbpcmpkpbamhaaGreatDoorMg
import Derived.Test.YtdbpcmpkpbamhaaGreatDoorProg
import Derived.KernelRfl
namespace Go.Proofs.YtdbpcmpkpbamhaaGreatDoor
set_option linter.unusedVariables false
set_option maxRecDepth 100000
namespace Vm
open Go

def tiOf (P : Program) (t : Nat) : Option TI :=
  match P.info? t, P.underlying t with
  | some i, some u => some ⟨u, i.size, i.bytes, i.zero, (match u with | .struct _ | .array _ _ => true | _ => false), (match P.stoodInHeld t, P.eqGuardType P.depth t with | false, false => true | _, _ => false)⟩
  | _, _ => none

def look : List (Nat × TI) → Nat → Option TI
  | [], _ => none
  | (k, x) :: r, t => match Nat.beq k t with
    | true => some x
    | false => look r t

theorem look_mem {t : Nat} {x : TI} : ∀ {l : List (Nat × TI)}, look l t = some x → (t, x) ∈ l
  | [], h => by simp [look] at h
  | (k, y) :: r, h => by
    simp only [look] at h
    split at h
    · rename_i e
      have := Nat.eq_of_beq_eq_true e
      subst this
      cases h
      exact List.mem_cons_self
    · exact List.mem_cons_of_mem _ (look_mem h)

theorem tok_of (P : Program) (l : List (Nat × TI)) (h : l.map (fun p => tiOf P p.1) = l.map (fun p => some p.2)) : TOk P (look l) := by
  have key : ∀ t ti, look l t = some ti → tiOf P t = some ti := by
    intro t ti ht
    have hm := look_mem ht
    obtain ⟨i, hi⟩ := List.mem_iff_getElem?.1 hm
    have e := congrArg (fun x => x[i]?) h
    simpa [hi] using e
  have main : ∀ t ti, look l t = some ti → ∃ i u, P.info? t = some i ∧ P.underlying t = some u ∧ ti = ⟨u, i.size, i.bytes, i.zero, (match u with | .struct _ | .array _ _ => true | _ => false), (match P.stoodInHeld t, P.eqGuardType P.depth t with | false, false => true | _, _ => false)⟩ := by
    intro t ti ht
    have e := key t ti ht
    unfold tiOf at e
    split at e
    · rename_i i u h1 h2
      exact ⟨i, u, h1, h2, (Option.some.inj e).symm⟩
    · cases e
  refine ⟨fun t ti ht => ?_, fun t ti ht => ?_, fun t ti ht hp => ?_, fun t ti ht => ?_⟩
  · obtain ⟨i, u, h1, h2, rfl⟩ := main t ti ht; exact h2
  · obtain ⟨i, u, h1, h2, rfl⟩ := main t ti ht; exact ⟨i, h1, rfl, rfl, rfl⟩
  · obtain ⟨i, u, h1, h2, rfl⟩ := main t ti ht
    simp only at hp
    split at hp
    · rename_i h3 h4; exact ⟨h3, h4⟩
    · cases hp
  · obtain ⟨i, u, h1, h2, rfl⟩ := main t ti ht
    rfl

def tyL : List (Nat × TI) := [
  (3, { u := TypeDesc.int IntKind.i64, size := 1, bytes := 8, zero := some (Value.int IntKind.i64 (Int.ofNat 0)), isAgg := false, plain := true }),
  (4, { u := TypeDesc.bool, size := 1, bytes := 1, zero := some (Value.bool false), isAgg := false, plain := true }),
  (9, { u := TypeDesc.string, size := 1, bytes := 16, zero := some (Value.string { data := { toList := [] } }), isAgg := false, plain := true }),
  (38, { u := TypeDesc.struct { toList := [{ name := "Neg", type := 4, offset := 0, embedded := false, tag := "", pkgPath := "", byteOffset := 0 }, { name := "Num", type := 9, offset := 1, embedded := false, tag := "", pkgPath := "", byteOffset := 8 }, { name := "Den", type := 9, offset := 2, embedded := false, tag := "", pkgPath := "", byteOffset := 24 }] }, size := 3, bytes := 40, zero := some (Value.agg { toList := [Value.bool false, Value.string { data := { toList := [] } }, Value.string { data := { toList := [] } }] }), isAgg := true, plain := true }),
  (57, { u := TypeDesc.struct { toList := [{ name := "Neg", type := 4, offset := 0, embedded := false, tag := "", pkgPath := "", byteOffset := 0 }, { name := "Mag", type := 9, offset := 1, embedded := false, tag := "", pkgPath := "", byteOffset := 8 }] }, size := 2, bytes := 24, zero := some (Value.agg { toList := [Value.bool false, Value.string { data := { toList := [] } }] }), isAgg := true, plain := true }),
  (25, { u := TypeDesc.struct { toList := [{ name := "Author", type := 9, offset := 0, embedded := false, tag := "", pkgPath := "", byteOffset := 0 }, { name := "N", type := 3, offset := 1, embedded := false, tag := "", pkgPath := "", byteOffset := 16 }] }, size := 2, bytes := 24, zero := some (Value.agg { toList := [Value.string { data := { toList := [] } }, Value.int IntKind.i64 (Int.ofNat 0)] }), isAgg := true, plain := true }),
  (23, { u := TypeDesc.slice 42, size := 1, bytes := 24, zero := some (Value.slice none 0 0), isAgg := false, plain := true }),
  (22, { u := TypeDesc.slice 40, size := 1, bytes := 24, zero := some (Value.slice none 0 0), isAgg := false, plain := true }),
  (31, { u := TypeDesc.slice 25, size := 1, bytes := 24, zero := some (Value.slice none 0 0), isAgg := false, plain := true }),
  (40, { u := TypeDesc.struct { toList := [{ name := "Node", type := 25, offset := 0, embedded := false, tag := "", pkgPath := "", byteOffset := 0 }, { name := "Parent", type := 25, offset := 2, embedded := false, tag := "", pkgPath := "", byteOffset := 24 }, { name := "Place", type := 38, offset := 4, embedded := false, tag := "", pkgPath := "", byteOffset := 48 }, { name := "Kind", type := 9, offset := 7, embedded := false, tag := "", pkgPath := "", byteOffset := 88 }] }, size := 8, bytes := 104, zero := some (Value.agg { toList := [Value.string { data := { toList := [] } }, Value.int IntKind.i64 (Int.ofNat 0), Value.string { data := { toList := [] } }, Value.int IntKind.i64 (Int.ofNat 0), Value.bool false, Value.string { data := { toList := [] } }, Value.string { data := { toList := [] } }, Value.string { data := { toList := [] } }] }), isAgg := true, plain := true }),
  (42, { u := TypeDesc.struct { toList := [{ name := "Id", type := 25, offset := 0, embedded := false, tag := "", pkgPath := "", byteOffset := 0 }, { name := "Clock", type := 3, offset := 2, embedded := false, tag := "", pkgPath := "", byteOffset := 24 }, { name := "Floor", type := 3, offset := 3, embedded := false, tag := "", pkgPath := "", byteOffset := 32 }, { name := "Deps", type := 31, offset := 4, embedded := false, tag := "", pkgPath := "", byteOffset := 40 }, { name := "Kind", type := 3, offset := 5, embedded := false, tag := "", pkgPath := "", byteOffset := 64 }, { name := "Node", type := 25, offset := 6, embedded := false, tag := "", pkgPath := "", byteOffset := 72 }, { name := "Parent", type := 25, offset := 8, embedded := false, tag := "", pkgPath := "", byteOffset := 96 }, { name := "Place", type := 38, offset := 10, embedded := false, tag := "", pkgPath := "", byteOffset := 120 }, { name := "Field", type := 9, offset := 13, embedded := false, tag := "", pkgPath := "", byteOffset := 160 }, { name := "Value", type := 9, offset := 14, embedded := false, tag := "", pkgPath := "", byteOffset := 176 }, { name := "Target", type := 25, offset := 15, embedded := false, tag := "", pkgPath := "", byteOffset := 192 }, { name := "Who", type := 9, offset := 17, embedded := false, tag := "", pkgPath := "", byteOffset := 216 }] }, size := 18, bytes := 232, zero := some (Value.agg { toList := [Value.string { data := { toList := [] } }, Value.int IntKind.i64 (Int.ofNat 0), Value.int IntKind.i64 (Int.ofNat 0), Value.int IntKind.i64 (Int.ofNat 0), Value.slice none 0 0, Value.int IntKind.i64 (Int.ofNat 0), Value.string { data := { toList := [] } }, Value.int IntKind.i64 (Int.ofNat 0), Value.string { data := { toList := [] } }, Value.int IntKind.i64 (Int.ofNat 0), Value.bool false, Value.string { data := { toList := [] } }, Value.string { data := { toList := [] } }, Value.string { data := { toList := [] } }, Value.string { data := { toList := [] } }, Value.string { data := { toList := [] } }, Value.int IntKind.i64 (Int.ofNat 0), Value.string { data := { toList := [] } }] }), isAgg := true, plain := true }),
  (66, { u := TypeDesc.struct { toList := [{ name := "Delivered", type := 23, offset := 0, embedded := false, tag := "", pkgPath := "", byteOffset := 0 }, { name := "Pending", type := 23, offset := 1, embedded := false, tag := "", pkgPath := "", byteOffset := 24 }, { name := "Seen", type := 31, offset := 2, embedded := false, tag := "", pkgPath := "", byteOffset := 48 }] }, size := 3, bytes := 72, zero := some (Value.agg { toList := [Value.slice none 0 0, Value.slice none 0 0, Value.slice none 0 0] }), isAgg := true, plain := true }),
  (67, { u := TypeDesc.int IntKind.i64, size := 1, bytes := 8, zero := some (Value.int IntKind.i64 (Int.ofNat 0)), isAgg := false, plain := true }),
  (36, { u := TypeDesc.func { toList := [22, 25] } { toList := [3] } false, size := 1, bytes := 8, zero := some Value.nilFunc, isAgg := false, plain := true }),
  (21, { u := TypeDesc.int IntKind.i32, size := 1, bytes := 4, zero := some (Value.int IntKind.i32 (Int.ofNat 0)), isAgg := false, plain := true }),
  (2, { u := TypeDesc.int IntKind.i64, size := 1, bytes := 8, zero := some (Value.int IntKind.i64 (Int.ofNat 0)), isAgg := false, plain := true }),
  (5, { u := TypeDesc.int IntKind.u8, size := 1, bytes := 1, zero := some (Value.int IntKind.u8 (Int.ofNat 0)), isAgg := false, plain := true }),
  (50, { u := TypeDesc.int IntKind.i8, size := 1, bytes := 1, zero := some (Value.int IntKind.i8 (Int.ofNat 0)), isAgg := false, plain := true }),
  (68, { u := TypeDesc.tuple { toList := [66, 67] }, size := 1, bytes := 0, zero := some (Value.tuple { toList := [Value.agg { toList := [Value.slice none 0 0, Value.slice none 0 0, Value.slice none 0 0] }, Value.int IntKind.i64 (Int.ofNat 0)] }), isAgg := false, plain := true }),
  (81, { u := TypeDesc.map 25 40, size := 1, bytes := 8, zero := some (Value.map none), isAgg := false, plain := true }),
  (82, { u := TypeDesc.tuple { toList := [40, 4] }, size := 1, bytes := 0, zero := some (Value.tuple { toList := [Value.agg { toList := [Value.string { data := { toList := [] } }, Value.int IntKind.i64 (Int.ofNat 0), Value.string { data := { toList := [] } }, Value.int IntKind.i64 (Int.ofNat 0), Value.bool false, Value.string { data := { toList := [] } }, Value.string { data := { toList := [] } }, Value.string { data := { toList := [] } }] }, Value.bool false] }), isAgg := false, plain := true }),
  (83, { u := TypeDesc.func { toList := [81, 25, 25] } { toList := [4] } false, size := 1, bytes := 8, zero := some Value.nilFunc, isAgg := false, plain := true }),
  (86, { u := TypeDesc.func { toList := [40, 40] } { toList := [3] } false, size := 1, bytes := 8, zero := some Value.nilFunc, isAgg := false, plain := true }),
  (88, { u := TypeDesc.map 25 4, size := 1, bytes := 8, zero := some (Value.map none), isAgg := false, plain := true }),
  (89, { u := TypeDesc.func { toList := [25] } { toList := [] } false, size := 1, bytes := 8, zero := some Value.nilFunc, isAgg := false, plain := true }),
  (91, { u := TypeDesc.func { toList := [9] } { toList := [4] } false, size := 1, bytes := 8, zero := some Value.nilFunc, isAgg := false, plain := true }),
  (96, { u := TypeDesc.tuple { toList := [57, 57] }, size := 1, bytes := 0, zero := some (Value.tuple { toList := [Value.agg { toList := [Value.bool false, Value.string { data := { toList := [] } }] }, Value.agg { toList := [Value.bool false, Value.string { data := { toList := [] } }] }] }), isAgg := false, plain := true }),
  (104, { u := TypeDesc.tuple { toList := [9, 4] }, size := 1, bytes := 0, zero := some (Value.tuple { toList := [Value.string { data := { toList := [] } }, Value.bool false] }), isAgg := false, plain := true }),
  (106, { u := TypeDesc.tuple { toList := [57, 57, 4] }, size := 1, bytes := 0, zero := some (Value.tuple { toList := [Value.agg { toList := [Value.bool false, Value.string { data := { toList := [] } }] }, Value.agg { toList := [Value.bool false, Value.string { data := { toList := [] } }] }, Value.bool false] }), isAgg := false, plain := true }),
  (109, { u := TypeDesc.int IntKind.u64, size := 1, bytes := 8, zero := some (Value.int IntKind.u64 (Int.ofNat 0)), isAgg := false, plain := true }),
  (110, { u := TypeDesc.tuple { toList := [9, 9, 4] }, size := 1, bytes := 0, zero := some (Value.tuple { toList := [Value.string { data := { toList := [] } }, Value.string { data := { toList := [] } }, Value.bool false] }), isAgg := false, plain := true }),
  (112, { u := TypeDesc.func { toList := [9] } { toList := [9] } false, size := 1, bytes := 8, zero := some Value.nilFunc, isAgg := false, plain := true }),
  (114, { u := TypeDesc.slice 23, size := 1, bytes := 24, zero := some (Value.slice none 0 0), isAgg := false, plain := true }),
  (116, { u := TypeDesc.func { toList := [42] } { toList := [4] } false, size := 1, bytes := 8, zero := some Value.nilFunc, isAgg := false, plain := true }),
  (123, { u := TypeDesc.func { toList := [42, 42] } { toList := [3] } false, size := 1, bytes := 8, zero := some Value.nilFunc, isAgg := false, plain := true }),
  (129, { u := TypeDesc.func { toList := [25] } { toList := [4] } false, size := 1, bytes := 8, zero := some Value.nilFunc, isAgg := false, plain := true }),
  (131, { u := TypeDesc.tuple { toList := [3, 4] }, size := 1, bytes := 0, zero := some (Value.tuple { toList := [Value.int IntKind.i64 (Int.ofNat 0), Value.bool false] }), isAgg := false, plain := true }),
  (137, { u := TypeDesc.int IntKind.u64, size := 1, bytes := 8, zero := some (Value.int IntKind.u64 (Int.ofNat 0)), isAgg := false, plain := true }),
  (144, { u := TypeDesc.slice 146, size := 1, bytes := 24, zero := some (Value.slice none 0 0), isAgg := false, plain := true }),
  (146, { u := TypeDesc.int IntKind.u32, size := 1, bytes := 4, zero := some (Value.int IntKind.u32 (Int.ofNat 0)), isAgg := false, plain := true }),
  (147, { u := TypeDesc.tuple { toList := [146, 146] }, size := 1, bytes := 0, zero := some (Value.tuple { toList := [Value.int IntKind.u32 (Int.ofNat 0), Value.int IntKind.u32 (Int.ofNat 0)] }), isAgg := false, plain := true }),
  (150, { u := TypeDesc.tuple { toList := [109, 4] }, size := 1, bytes := 0, zero := some (Value.tuple { toList := [Value.int IntKind.u64 (Int.ofNat 0), Value.bool false] }), isAgg := false, plain := true }),
  (152, { u := TypeDesc.tuple { toList := [144, 146] }, size := 1, bytes := 0, zero := some (Value.tuple { toList := [Value.slice none 0 0, Value.int IntKind.u32 (Int.ofNat 0)] }), isAgg := false, plain := true }),
  (154, { u := TypeDesc.tuple { toList := [144, 144] }, size := 1, bytes := 0, zero := some (Value.tuple { toList := [Value.slice none 0 0, Value.slice none 0 0] }), isAgg := false, plain := true }),
  (157, { u := TypeDesc.struct { toList := [{ name := "id", type := 25, offset := 0, embedded := false, tag := "", pkgPath := "voussoir/oplog", byteOffset := 0 }, { name := "node", type := 25, offset := 2, embedded := false, tag := "", pkgPath := "voussoir/oplog", byteOffset := 24 }, { name := "parent", type := 25, offset := 4, embedded := false, tag := "", pkgPath := "voussoir/oplog", byteOffset := 48 }, { name := "target", type := 25, offset := 6, embedded := false, tag := "", pkgPath := "voussoir/oplog", byteOffset := 72 }, { name := "clock", type := 3, offset := 8, embedded := false, tag := "", pkgPath := "voussoir/oplog", byteOffset := 96 }, { name := "floor", type := 3, offset := 9, embedded := false, tag := "", pkgPath := "voussoir/oplog", byteOffset := 104 }, { name := "kind", type := 3, offset := 10, embedded := false, tag := "", pkgPath := "voussoir/oplog", byteOffset := 112 }, { name := "place", type := 38, offset := 11, embedded := false, tag := "", pkgPath := "voussoir/oplog", byteOffset := 120 }, { name := "field", type := 9, offset := 14, embedded := false, tag := "", pkgPath := "voussoir/oplog", byteOffset := 160 }, { name := "value", type := 9, offset := 15, embedded := false, tag := "", pkgPath := "voussoir/oplog", byteOffset := 176 }, { name := "who", type := 9, offset := 16, embedded := false, tag := "", pkgPath := "voussoir/oplog", byteOffset := 192 }] }, size := 17, bytes := 208, zero := some (Value.agg { toList := [Value.string { data := { toList := [] } }, Value.int IntKind.i64 (Int.ofNat 0), Value.string { data := { toList := [] } }, Value.int IntKind.i64 (Int.ofNat 0), Value.string { data := { toList := [] } }, Value.int IntKind.i64 (Int.ofNat 0), Value.string { data := { toList := [] } }, Value.int IntKind.i64 (Int.ofNat 0), Value.int IntKind.i64 (Int.ofNat 0), Value.int IntKind.i64 (Int.ofNat 0), Value.int IntKind.i64 (Int.ofNat 0), Value.bool false, Value.string { data := { toList := [] } }, Value.string { data := { toList := [] } }, Value.string { data := { toList := [] } }, Value.string { data := { toList := [] } }, Value.string { data := { toList := [] } }] }), isAgg := true, plain := true }),
  (162, { u := TypeDesc.func { toList := [25, 9] } { toList := [3] } false, size := 1, bytes := 8, zero := some Value.nilFunc, isAgg := false, plain := true }),
  (167, { u := TypeDesc.int IntKind.i64, size := 1, bytes := 8, zero := some (Value.int IntKind.i64 (Int.ofNat 0)), isAgg := false, plain := true }),
  (168, { u := TypeDesc.tuple { toList := [3, 167] }, size := 1, bytes := 0, zero := some (Value.tuple { toList := [Value.int IntKind.i64 (Int.ofNat 0), Value.int IntKind.i64 (Int.ofNat 0)] }), isAgg := false, plain := true }),
  (175, { u := TypeDesc.slice 3, size := 1, bytes := 24, zero := some (Value.slice none 0 0), isAgg := false, plain := true }),
  (179, { u := TypeDesc.slice 57, size := 1, bytes := 24, zero := some (Value.slice none 0 0), isAgg := false, plain := true }),
  (180, { u := TypeDesc.slice 5, size := 1, bytes := 24, zero := some (Value.slice none 0 0), isAgg := false, plain := true }),
  (184, { u := TypeDesc.struct { toList := [{ name := "node", type := 25, offset := 0, embedded := false, tag := "", pkgPath := "voussoir/edit", byteOffset := 0 }, { name := "parent", type := 25, offset := 2, embedded := false, tag := "", pkgPath := "voussoir/edit", byteOffset := 24 }, { name := "target", type := 25, offset := 4, embedded := false, tag := "", pkgPath := "voussoir/edit", byteOffset := 48 }, { name := "place", type := 38, offset := 6, embedded := false, tag := "", pkgPath := "voussoir/edit", byteOffset := 72 }, { name := "field", type := 9, offset := 9, embedded := false, tag := "", pkgPath := "voussoir/edit", byteOffset := 112 }, { name := "value", type := 9, offset := 10, embedded := false, tag := "", pkgPath := "voussoir/edit", byteOffset := 128 }, { name := "who", type := 9, offset := 11, embedded := false, tag := "", pkgPath := "voussoir/edit", byteOffset := 144 }] }, size := 12, bytes := 160, zero := some (Value.agg { toList := [Value.string { data := { toList := [] } }, Value.int IntKind.i64 (Int.ofNat 0), Value.string { data := { toList := [] } }, Value.int IntKind.i64 (Int.ofNat 0), Value.string { data := { toList := [] } }, Value.int IntKind.i64 (Int.ofNat 0), Value.bool false, Value.string { data := { toList := [] } }, Value.string { data := { toList := [] } }, Value.string { data := { toList := [] } }, Value.string { data := { toList := [] } }, Value.string { data := { toList := [] } }] }), isAgg := true, plain := true }),
  (188, { u := TypeDesc.slice 9, size := 1, bytes := 24, zero := some (Value.slice none 0 0), isAgg := false, plain := true }),
  (189, { u := TypeDesc.tuple { toList := [188, 4] }, size := 1, bytes := 0, zero := some (Value.tuple { toList := [Value.slice none 0 0, Value.bool false] }), isAgg := false, plain := true }),
  (191, { u := TypeDesc.int IntKind.u64, size := 1, bytes := 8, zero := some (Value.int IntKind.u64 (Int.ofNat 0)), isAgg := false, plain := true }),
  (195, { u := TypeDesc.pointer 3, size := 1, bytes := 8, zero := some (Value.pointer none), isAgg := false, plain := true }),
  (209, { u := TypeDesc.pointer 191, size := 1, bytes := 8, zero := some (Value.pointer none), isAgg := false, plain := true }),
  (210, { u := TypeDesc.tuple { toList := [3, 3] }, size := 1, bytes := 0, zero := some (Value.tuple { toList := [Value.int IntKind.i64 (Int.ofNat 0), Value.int IntKind.i64 (Int.ofNat 0)] }), isAgg := false, plain := true }),
  (214, { u := TypeDesc.tuple { toList := [21, 3] }, size := 1, bytes := 0, zero := some (Value.tuple { toList := [Value.int IntKind.i32 (Int.ofNat 0), Value.int IntKind.i64 (Int.ofNat 0)] }), isAgg := false, plain := true }),
  (226, { u := TypeDesc.struct { toList := [{ name := "lo", type := 5, offset := 0, embedded := false, tag := "", pkgPath := "unicode/utf8", byteOffset := 0 }, { name := "hi", type := 5, offset := 1, embedded := false, tag := "", pkgPath := "unicode/utf8", byteOffset := 1 }] }, size := 2, bytes := 2, zero := some (Value.agg { toList := [Value.int IntKind.u8 (Int.ofNat 0), Value.int IntKind.u8 (Int.ofNat 0)] }), isAgg := true, plain := true })]

def tys (t : Nat) : Option TI := look tyL t
theorem tys_all : tyL.map (fun p => tiOf Tryz.prog p.1) = tyL.map (fun p => some p.2) := by kernel_rfl
theorem tys_ok : TOk Tryz.prog tys := tok_of Tryz.prog tyL tys_all
theorem mixed : Tryz.prog.follows .mixedOrders = true := by kernel_rfl

end Vm
end Go.Proofs.YtdbpcmpkpbamhaaGreatDoor

/- Walks: the settings, and first functions. -/
namespace Go.Proofs.YtdbpcmpkpbamhaaGreatDoor
set_option linter.unusedVariables false
set_option maxRecDepth 100000
namespace Vm
open Go

def bodyOf (fn : Func) : Code := match fn.body with
  | some c => c
  | none => .skip
def fi (f : Nat) (fn : Func) : FnI := ⟨f, fn, bodyOf fn, 0, []⟩
def fiH (f : Nat) (fn : Func) (n0 : Nat) (hc : List Nat) : FnI := ⟨f, fn, bodyOf fn, n0, hc⟩
def fnOk (fn : Func) : Bool := match fn.body with
  | some c => codeOk fn.ntmps c && !(fn.name == "runtime.NumGoroutine")
  | none => false

theorem vc_at {P : Program} {T : Nat → Option TI} {F : FnI} (S : Setting P T F) {Q : AV → List Blk → Prop} (stops : List (List Nat)) (n : Nat) {p : List Nat} {s : St} (h : vc P T F Q stops n (some p) s) : VC P F p s Q :=
  vc_sound S stops n (some p) s h

theorem pc {P : Program} {f : Nat} {args args' : List AV} {res : AV} (h : PureC P f args res) (e : args' = args) : PureC P f args' res := e ▸ h

theorem chkI {ops : Array Oper} {lo : Nat} {fps : List (List Nat × List Nat)} {draw : Bool} (h : chk ops lo fps = true) : draw = true → chk ops lo fps = true := fun _ => h
theorem chkBI {ops : Array Oper} {lo i : Nat} {fps : List (List Nat × List Nat)} {draw : Bool} (h : chkBar ops lo i fps = true) : draw = true → chkBar ops lo i fps = true := fun _ => h

theorem setting {f : Nat} {fn : Func} (h1 : Tryz.prog.funcs[f]? = some fn) (h2 : fnOk fn = true) : Setting Tryz.prog tys (fi f fn) := by
  unfold fnOk at h2
  split at h2
  · rename_i c hc
    simp only [Bool.and_eq_true, Bool.not_eq_true'] at h2
    have e : bodyOf fn = c := by simp [bodyOf, hc]
    exact ⟨tys_ok, mixed, h1, by show fn.body = some (bodyOf fn); rw [e, hc], by show codeOk fn.ntmps (bodyOf fn) = true; rw [e]; exact h2.1, h2.2⟩
  · cases h2

theorem settingH {f n0 : Nat} {hc : List Nat} {fn : Func} (h1 : Tryz.prog.funcs[f]? = some fn) (h2 : fnOk fn = true) : Setting Tryz.prog tys (fiH f fn n0 hc) :=
  have s := setting h1 h2
  ⟨s.types, s.mixed, s.func, s.body, s.ok, s.name⟩

theorem s91 : Setting Tryz.prog tys (fi 91 Tryz.f91) := setting (by kernel_rfl) (by kernel_rfl)

theorem extract_bs (l : List UInt8) (i j : Nat) : (bs l).extract i j = bs ((l.take j).drop i) := by
  apply ByteArray.ext
  simp only [ByteArray.data_extract]
  apply Array.ext'
  simp [List.drop_take]

theorem c91 (neg : Bool) (l : List UInt8) : PureC Tryz.prog 91 [.val (.bool neg), str l] (.agg [.val (.bool (neg && !l.isEmpty)), str l]) := by
  refine pureC_of_vc s91 rfl (Nat.le_of_ble_eq_true rfl) rfl ?_
  refine vc_sound s91 [] 100 (some []) _ ?_
  cases l with
  | nil =>
    repeat' first
      | apply And.intro
      | exact (fun h => Bool.noConfusion h)
      | (refine chkI ?_; kernel_rfl)
      | (refine chkBI ?_; kernel_rfl)
      | exact (fun _ => True.intro)
      | exact True.intro
      | exact (fun h => h)
      | exact rfl
      | decide
      | exact (fun _ => by decide)
      | exact (show (_ : Int) ≠ _ by decide)
      | fail
  | cons x l =>
    repeat' first
      | apply And.intro
      | exact (fun h => Bool.noConfusion h)
      | (refine chkI ?_; kernel_rfl)
      | (refine chkBI ?_; kernel_rfl)
      | exact (fun _ => True.intro)
      | exact True.intro
      | exact (fun h => h)
      | exact rfl
      | decide
      | exact (fun _ => by decide)
      | exact (show (_ : Int) ≠ _ by decide)
      | fail

def trimR (c : UInt8) (l : List UInt8) : List UInt8 := (l.reverse.dropWhile (· == c)).reverse

theorem s233 : Setting Tryz.prog tys (fi 233 Tryz.f233) := setting (by kernel_rfl) (by kernel_rfl)

theorem trimR_snoc (c x : UInt8) (l : List UInt8) : trimR c (l ++ [x]) = if x == c then trimR c l else l ++ [x] := by
  unfold trimR
  rw [List.reverse_append, List.reverse_singleton, List.singleton_append, List.dropWhile_cons]
  split <;> simp

theorem sz (l : List UInt8) : (bs l).size = l.length := rfl
theorem byteAt_bs (l : List UInt8) (i : Nat) : byteAt (bs l) i = ((l.getD i 0).toNat : Int) := rfl

theorem loop233 (c : UInt8) : ∀ (n : Nat) (l : List UInt8) (b : ByteArray) (v : Value), b = bs l → v = .int .u8 (c.toNat : Int) → l.length ≤ n → l.length < 2 ^ 62 →
    VC Tryz.prog (fi 233 Tryz.f233) [0, 0, 0, 1] ⟨[(0, .val (.string b)), (1, .val v)], []⟩ (Gives (str (trimR c l)))
  | n, l, _, _, rfl, rfl, hn, hl => by
    refine vc_sound s233 [[0, 0, 0, 1]] 100 (some [0, 0, 0, 1]) _ ?_
    repeat' first
      | apply And.intro
      | exact (fun h => Bool.noConfusion h)
      | (refine chkI ?_; kernel_rfl)
      | (refine chkBI ?_; kernel_rfl)
      | exact (fun _ => True.intro)
      | exact True.intro
      | exact (fun h => h)
      | exact rfl
      | decide
      | exact (fun _ => by decide)
      | exact (show (_ : Int) ≠ _ by decide)
      | fail
    · intro h
      have h : 0 < l.length := by simpa [sz] using h
      simp only [i64ok, sz]
      omega
    · intro h
      have h : 0 < l.length := by simpa [sz] using h
      simp only [sz]
      omega
    · conv => whnf
      split
      · rename_i hc
        simp only [Bool.and_eq_true, decide_eq_true_eq, sz, byteAt_bs, beq_iff_eq] at hc
        obtain ⟨hp, hx⟩ := hc
        obtain ⟨l', x, rfl⟩ : ∃ l' x, l = l' ++ [x] := ⟨l.dropLast, l.getLast (by intro h; simp [h] at hp), (List.dropLast_concat_getLast _).symm⟩
        have hxc : x = c := by
          have : (((l' ++ [x]).length : Int) - 1).toNat = l'.length := by simp
          rw [this] at hx
          simp only [List.getD_eq_getElem?_getD, List.getElem?_concat_length, Option.getD_some] at hx
          exact UInt8.toNat_inj.1 (by exact_mod_cast hx)
        subst hxc
        rw [trimR_snoc, if_pos (by simp)]
        have hl' : l'.length < 2 ^ 62 := by simp at hl; omega
        have hn' : 0 < n ∧ l'.length ≤ n - 1 := by simp at hn; omega
        repeat' first
          | apply And.intro
          | exact (fun h => Bool.noConfusion h)
          | (refine chkI ?_; kernel_rfl)
          | (refine chkBI ?_; kernel_rfl)
          | exact (fun _ => True.intro)
          | exact True.intro
          | exact (fun h => h)
          | exact rfl
          | decide
          | exact (fun _ => by decide)
          | exact (show (_ : Int) ≠ _ by decide)
          | fail
        · simp only [sz, List.length_append, List.length_singleton]; omega
        · simp only [sz, List.length_append, List.length_singleton]; omega
        · simp only [sz, List.length_append, List.length_singleton]; omega
        · simp only [sz, List.length_append, List.length_singleton]; omega
        · refine VC.forget 0 [0, 1] (Nat.zero_le _) (loop233 x (n - 1) l' _ _ ?_ rfl hn'.2 hl')
          have : (((bs (l' ++ [x])).size : Int) - 1).toNat = l'.length := by simp [sz]
          show (bs (l' ++ [x])).extract (0 : Int).toNat (((bs (l' ++ [x])).size : Int) - 1).toNat = bs l'
          rw [extract_bs, this]
          simp
      · rename_i hc
        have ht : trimR c l = l := by
          cases h : l.reverse with
          | nil => simp at h; subst h; rfl
          | cons x r =>
            have e : l = r.reverse ++ [x] := by rw [← List.reverse_reverse l, h]; simp
            rw [e, trimR_snoc, if_neg]
            intro hx
            have hx : x = c := by simpa using hx
            subst hx
            have : (((bs l).size : Int) - 1).toNat = r.reverse.length := by rw [sz, e]; simp
            rw [this, byteAt_bs] at hc
            have h1 : l.getD r.reverse.length 0 = x := by
              rw [e, List.getD_eq_getElem?_getD, List.getElem?_concat_length]; rfl
            rw [h1] at hc
            simp [sz, e] at hc
        repeat' first
          | apply And.intro
          | exact (fun h => Bool.noConfusion h)
          | (refine chkI ?_; kernel_rfl)
          | (refine chkBI ?_; kernel_rfl)
          | exact (fun _ => True.intro)
          | exact True.intro
          | exact (fun h => h)
          | exact rfl
          | decide
          | exact (fun _ => by decide)
          | exact (show (_ : Int) ≠ _ by decide)
          | fail
        rw [ht]
        rfl

theorem c233 (l : List UInt8) (c : UInt8) (hl : l.length < 2 ^ 62) : PureC Tryz.prog 233 [str l, u8 c] (str (trimR c l)) := by
  refine pureC_of_vc s233 rfl (Nat.le_of_ble_eq_true rfl) rfl ?_
  refine vc_sound s233 [] 100 (some []) _ ?_
  repeat' first
    | apply And.intro
    | exact (fun h => Bool.noConfusion h)
    | (refine chkI ?_; kernel_rfl)
    | (refine chkBI ?_; kernel_rfl)
    | exact (fun _ => True.intro)
    | exact True.intro
    | exact (fun h => h)
    | exact rfl
    | decide
    | exact (fun _ => by decide)
    | exact (show (_ : Int) ≠ _ by decide)
    | fail
  exact VC.forget 0 [0, 1] (Nat.zero_le _) (loop233 c _ l _ _ rfl rfl (Nat.le_refl _) hl)

theorem s205 : Setting Tryz.prog tys (fi 205 Tryz.f205) := setting (by kernel_rfl) (by kernel_rfl)
theorem s148 : Setting Tryz.prog tys (fi 148 Tryz.f148) := setting (by kernel_rfl) (by kernel_rfl)

/-- TrimRight with a cutset of one NUL byte. -/
theorem c205 (l : List UInt8) (hl : l.length < 2 ^ 62) : PureC Tryz.prog 205 [str l, str [0]] (str (trimR 0 l)) := by
  refine pureC_of_vc s205 rfl (Nat.le_of_ble_eq_true rfl) rfl ?_
  cases l with
  | nil =>
    refine vc_sound s205 [] 100 (some []) _ ?_
    repeat' first
      | apply And.intro
      | exact (fun h => Bool.noConfusion h)
      | (refine chkI ?_; kernel_rfl)
      | (refine chkBI ?_; kernel_rfl)
      | exact (fun _ => True.intro)
      | exact True.intro
      | exact (fun h => h)
      | exact rfl
      | decide
      | exact (fun _ => by decide)
      | exact (show (_ : Int) ≠ _ by decide)
      | fail
  | cons x xs =>
    refine vc_sound s205 [] 100 (some []) _ ?_
    repeat' first
      | apply And.intro
      | exact (fun h => Bool.noConfusion h)
      | (refine chkI ?_; kernel_rfl)
      | (refine chkBI ?_; kernel_rfl)
      | exact (fun _ => True.intro)
      | exact True.intro
      | exact (fun h => h)
      | exact rfl
      | decide
      | exact (fun _ => by decide)
      | exact (show (_ : Int) ≠ _ by decide)
      | fail
    refine Exists.intro _ (And.intro (c233 (x :: xs) 0 hl) ?_)
    repeat' first
      | apply And.intro
      | exact (fun h => Bool.noConfusion h)
      | (refine chkI ?_; kernel_rfl)
      | (refine chkBI ?_; kernel_rfl)
      | exact (fun _ => True.intro)
      | exact True.intro
      | exact (fun h => h)
      | exact rfl
      | decide
      | exact (fun _ => by decide)
      | exact (show (_ : Int) ≠ _ by decide)
      | fail

theorem c148 (l : List UInt8) (hl : l.length < 2 ^ 62) : PureC Tryz.prog 148 [str l] (str (trimR 0 l)) := by
  refine pureC_of_vc s148 rfl (Nat.le_of_ble_eq_true rfl) rfl ?_
  refine vc_sound s148 [] 100 (some []) _ ?_
  repeat' first
    | apply And.intro
    | exact (fun h => Bool.noConfusion h)
    | (refine chkI ?_; kernel_rfl)
    | (refine chkBI ?_; kernel_rfl)
    | exact (fun _ => True.intro)
    | exact True.intro
    | exact (fun h => h)
    | exact rfl
    | decide
    | exact (fun _ => by decide)
    | exact (show (_ : Int) ≠ _ by decide)
    | fail
  refine Exists.intro _ (And.intro (c205 l hl) ?_)
  repeat' first
    | apply And.intro
    | exact (fun h => Bool.noConfusion h)
    | (refine chkI ?_; kernel_rfl)
    | (refine chkBI ?_; kernel_rfl)
    | exact (fun _ => True.intro)
    | exact True.intro
    | exact (fun h => h)
    | exact rfl
    | decide
    | exact (fun _ => by decide)
    | exact (show (_ : Int) ≠ _ by decide)
    | fail

theorem s90 : Setting Tryz.prog tys (fi 90 Tryz.f90) := setting (by kernel_rfl) (by kernel_rfl)
/-- integer.Normalize -/
theorem c90 (neg : Bool) (l : List UInt8) (hl : l.length < 2 ^ 62) : PureC Tryz.prog 90 [.agg [.val (.bool neg), str l]] (.agg [.val (.bool (neg && !(trimR 0 l).isEmpty)), str (trimR 0 l)]) := by
  refine pureC_of_vc s90 rfl (Nat.le_of_ble_eq_true rfl) rfl ?_
  refine vc_sound s90 [] 100 (some []) _ ?_
  repeat' first
    | apply And.intro
    | exact (fun h => Bool.noConfusion h)
    | (refine chkI ?_; kernel_rfl)
    | (refine chkBI ?_; kernel_rfl)
    | exact (fun _ => True.intro)
    | exact True.intro
    | exact (fun h => h)
    | exact rfl
    | decide
    | exact (fun _ => by decide)
    | exact (show (_ : Int) ≠ _ by decide)
    | fail
  refine Exists.intro _ (And.intro (c148 l hl) ?_)
  repeat' first
    | apply And.intro
    | exact (fun h => Bool.noConfusion h)
    | (refine chkI ?_; kernel_rfl)
    | (refine chkBI ?_; kernel_rfl)
    | exact (fun _ => True.intro)
    | exact True.intro
    | exact (fun h => h)
    | exact rfl
    | decide
    | exact (fun _ => by decide)
    | exact (show (_ : Int) ≠ _ by decide)
    | fail
  refine Exists.intro _ (And.intro (c91 _ _) ?_)
  repeat' first
    | apply And.intro
    | exact (fun h => Bool.noConfusion h)
    | (refine chkI ?_; kernel_rfl)
    | (refine chkBI ?_; kernel_rfl)
    | exact (fun _ => True.intro)
    | exact True.intro
    | exact (fun h => h)
    | exact rfl
    | decide
    | exact (fun _ => by decide)
    | exact (show (_ : Int) ≠ _ by decide)
    | fail

end Vm
end Go.Proofs.YtdbpcmpkpbamhaaGreatDoor

/- Numbers as bytes: plain Lean, no program in sight. -/
namespace Go.Proofs.YtdbpcmpkpbamhaaGreatDoor
set_option linter.unusedVariables false
namespace Vm

def dec : List UInt8 → Nat
  | [] => 0
  | x :: l => x.toNat + 256 * dec l

def encF : Nat → Nat → List UInt8
  | 0, _ => []
  | k + 1, n => match n with
    | 0 => []
    | n + 1 => UInt8.ofNat ((n + 1) % 256) :: encF k ((n + 1) / 256)
def enc (n : Nat) : List UInt8 := encF n n

theorem encF_fuel : ∀ (k k' n : Nat), n ≤ k → n ≤ k' → encF k n = encF k' n
  | 0, 0, n, _, _ => rfl
  | 0, k' + 1, n, h, _ => by have : n = 0 := by omega
                             subst this; rfl
  | k + 1, 0, n, _, h => by have : n = 0 := by omega
                            subst this; rfl
  | k + 1, k' + 1, 0, _, _ => rfl
  | k + 1, k' + 1, n + 1, h, h' => by
    simp only [encF]
    rw [encF_fuel k k' ((n + 1) / 256) (by omega) (by omega)]

theorem enc_zero : enc 0 = [] := rfl
theorem enc_pos {n : Nat} (h : 0 < n) : enc n = UInt8.ofNat (n % 256) :: enc (n / 256) := by
  cases n with
  | zero => omega
  | succ n =>
    show encF (n + 1) (n + 1) = _
    simp only [encF]
    unfold enc
    rw [encF_fuel n ((n + 1) / 256) ((n + 1) / 256) (by omega) (by omega)]

theorem dec_enc (n : Nat) : dec (enc n) = n := by
  induction n using Nat.strongRecOn with
  | _ n ih =>
    rcases Nat.eq_zero_or_pos n with h | h
    · subst h; rfl
    · rw [enc_pos h, dec, ih (n / 256) (by omega)]
      have : (UInt8.ofNat (n % 256)).toNat = n % 256 := by simp [UInt8.toNat_ofNat']
      rw [this]; omega

theorem dec_append (a b : List UInt8) : dec (a ++ b) = dec a + 256 ^ a.length * dec b := by
  induction a with
  | nil => simp [dec]
  | cons x a ih =>
    simp only [List.cons_append, dec, ih, List.length_cons, Nat.pow_succ]
    rw [Nat.mul_add, Nat.add_assoc]
    congr 1
    rw [← Nat.mul_assoc, Nat.mul_comm 256 (256 ^ a.length)]

theorem dec_lt (l : List UInt8) : dec l < 256 ^ l.length := by
  induction l with
  | nil => simp [dec]
  | cons x l ih =>
    have := x.toNat_lt
    simp only [dec, List.length_cons, Nat.pow_succ]
    omega

theorem enc_inj {a b : Nat} (h : enc a = enc b) : a = b := by rw [← dec_enc a, h, dec_enc]

theorem enc_nil_iff {n : Nat} : enc n = [] ↔ n = 0 := by
  constructor
  · intro h; rw [← dec_enc n, h]; rfl
  · rintro rfl; rfl

theorem enc_isEmpty (n : Nat) : (enc n).isEmpty = (n == 0) := by
  rcases Nat.eq_zero_or_pos n with h | h
  · subst h; rfl
  · rw [enc_pos h]; simp; omega

theorem trimR_cons (x : UInt8) (l : List UInt8) : trimR 0 (x :: l) = if trimR 0 l = [] ∧ x = 0 then [] else x :: trimR 0 l := by
  unfold trimR
  rw [List.reverse_cons, List.dropWhile_append]
  split
  · rename_i h
    have h : l.reverse.dropWhile (· == 0) = [] := by simpa using h
    rw [h]
    by_cases hx : x = 0 <;> simp [hx]
  · rename_i h
    have h : l.reverse.dropWhile (· == 0) ≠ [] := by simpa using h
    rw [if_neg (by simp only [List.reverse_eq_nil_iff]; exact fun e => h e.1)]
    simp

theorem trimR_dec (l : List UInt8) : trimR 0 l = enc (dec l) := by
  induction l with
  | nil => rfl
  | cons x l ih =>
    rw [trimR_cons, ih, dec]
    by_cases h : enc (dec l) = [] ∧ x = 0
    · rw [if_pos h]
      have := enc_nil_iff.1 h.1
      rw [this, h.2]; rfl
    · rw [if_neg h]
      have hx := x.toNat_lt
      have hp : 0 < x.toNat + 256 * dec l := by
        rcases Nat.eq_zero_or_pos (dec l) with h0 | h0
        · have : x.toNat ≠ 0 := fun e => h ⟨by rw [h0]; rfl, UInt8.toNat_inj.1 (by simpa using e)⟩
          omega
        · omega
      rw [enc_pos hp]
      congr 1
      · rw [show (x.toNat + 256 * dec l) % 256 = x.toNat by omega]; simp
      · rw [show (x.toNat + 256 * dec l) / 256 = dec l by omega]

theorem trimR_enc (n : Nat) : trimR 0 (enc n) = enc n := by rw [trimR_dec, dec_enc]

theorem enc_length_le {n k : Nat} (h : n < 256 ^ k) : (enc n).length ≤ k := by
  induction k generalizing n with
  | zero => have : n = 0 := by simpa using h
            subst this; simp [enc_zero]
  | succ k ih =>
    rcases Nat.eq_zero_or_pos n with h0 | h0
    · subst h0; simp [enc_zero]
    · rw [enc_pos h0, List.length_cons]
      have : n / 256 < 256 ^ k := by rw [Nat.pow_succ] at h; omega
      have := ih this
      omega

end Vm
end Go.Proofs.YtdbpcmpkpbamhaaGreatDoor

/- Limbs of numbers: plain Lean. -/
namespace Go.Proofs.YtdbpcmpkpbamhaaGreatDoor
set_option linter.unusedVariables false
namespace Vm
open Go

def limb (n j : Nat) : Nat := n / 2 ^ (32 * j) % 2 ^ 32

theorem p256 (i : Nat) : (256 : Nat) ^ i = 2 ^ (8 * i) := by rw [Nat.pow_mul]

theorem limb_low {D x i j : Nat} (hj : j < i / 4) : limb (D + 256 ^ i * x) j = limb D j := by
  unfold limb
  have e : (256 : Nat) ^ i * x = 2 ^ (32 * j) * (2 ^ 32 * (2 ^ (8 * i - 32 * (j + 1)) * x)) := by
    rw [p256, ← Nat.mul_assoc, ← Nat.mul_assoc, ← Nat.pow_add, ← Nat.pow_add]
    congr 2; omega
  rw [e, Nat.add_mul_div_left _ _ (Nat.two_pow_pos _), Nat.add_mul_mod_self_left]

theorem limb_zero {D j : Nat} (h : D < 2 ^ (32 * j)) : limb D j = 0 := by
  unfold limb; rw [Nat.div_eq_of_lt h]

theorem limb_high {D x i j : Nat} (hD : D < 256 ^ i) (hx : x < 256) (hj : i / 4 < j) : limb (D + 256 ^ i * x) j = limb D j := by
  have h1 : (256 : Nat) ^ (i + 1) ≤ 2 ^ (32 * j) := by rw [p256]; exact Nat.pow_le_pow_right (by omega) (by omega)
  have h2 : 256 ^ i * x + 256 ^ i ≤ 256 ^ (i + 1) := by
    rw [Nat.pow_succ, ← Nat.mul_succ]; exact Nat.mul_le_mul_left _ hx
  rw [limb_zero (by omega), limb_zero (by omega)]

theorem limb_at {D x i : Nat} (hD : D < 256 ^ i) (hx : x < 256) : limb (D + 256 ^ i * x) (i / 4) = limb D (i / 4) ||| x * 2 ^ (8 * (i % 4)) ∧ x * 2 ^ (8 * (i % 4)) < 2 ^ 32 ∧ limb D (i / 4) < 2 ^ 32 := by
  have hi : (256 : Nat) ^ i = 2 ^ (32 * (i / 4)) * 2 ^ (8 * (i % 4)) := by rw [p256, ← Nat.pow_add]; congr 1; omega
  have hr : 2 ^ (8 * (i % 4)) * 2 ^ 8 ≤ 2 ^ 32 := by rw [← Nat.pow_add]; exact Nat.pow_le_pow_right (by omega) (by omega)
  have hy : D / 2 ^ (32 * (i / 4)) < 2 ^ (8 * (i % 4)) := by
    rw [Nat.div_lt_iff_lt_mul (Nat.two_pow_pos _), Nat.mul_comm, ← hi]; exact hD
  have hm : x * 2 ^ (8 * (i % 4)) + 2 ^ (8 * (i % 4)) ≤ 2 ^ 32 := by
    refine Nat.le_trans ?_ hr
    rw [← Nat.succ_mul, Nat.mul_comm]
    exact Nat.mul_le_mul_left _ hx
  have hpos := Nat.two_pow_pos (8 * (i % 4))
  have e1 : limb D (i / 4) = D / 2 ^ (32 * (i / 4)) := by unfold limb; rw [Nat.mod_eq_of_lt (by omega)]
  refine ⟨?_, by omega, by rw [e1]; omega⟩
  rw [e1]
  unfold limb
  rw [hi, Nat.mul_assoc, Nat.add_mul_div_left _ _ (Nat.two_pow_pos _), Nat.mod_eq_of_lt (by rw [Nat.mul_comm x] at hm; omega)]
  rw [Nat.add_comm, Nat.two_pow_add_eq_or_of_lt hy, Nat.or_comm, Nat.mul_comm x]

theorem wrap_u32 (n : Nat) : IntKind.u32.wrap (n : Int) = ((n % 2 ^ 32 : Nat) : Int) := by
  simp only [IntKind.wrap, IntKind.bits, IntKind.signed]
  simp
theorem wrap_u64 (n : Nat) : IntKind.u64.wrap (n : Int) = ((n % 2 ^ 64 : Nat) : Int) := by
  simp only [IntKind.wrap, IntKind.bits, IntKind.signed]
  simp
theorem wrap_u8 (n : Nat) : IntKind.u8.wrap (n : Int) = ((n % 2 ^ 8 : Nat) : Int) := by
  simp only [IntKind.wrap, IntKind.bits, IntKind.signed]
  simp

theorem or_u32 {x y : Nat} (hx : x < 2 ^ 32) (hy : y < 2 ^ 32) : bitsOf .or .u32 (x : Int) (y : Int) = ((x ||| y : Nat) : Int) := by
  show IntKind.u32.wrap (((BitVec.ofInt 32 (x : Int) ||| BitVec.ofInt 32 (y : Int)).toNat : Nat) : Int) = _
  have e : (BitVec.ofInt 32 (x : Int) ||| BitVec.ofInt 32 (y : Int)).toNat = x ||| y := by
    rw [BitVec.toNat_or, BitVec.ofInt_natCast, BitVec.ofInt_natCast, BitVec.toNat_ofNat, BitVec.toNat_ofNat, Nat.mod_eq_of_lt hx, Nat.mod_eq_of_lt hy]
  rw [e, wrap_u32, Nat.mod_eq_of_lt (Nat.or_lt_two_pow hx hy)]

theorem or_u64 {x y : Nat} (hx : x < 2 ^ 64) (hy : y < 2 ^ 64) : bitsOf .or .u64 (x : Int) (y : Int) = ((x ||| y : Nat) : Int) := by
  show IntKind.u64.wrap (((BitVec.ofInt 64 (x : Int) ||| BitVec.ofInt 64 (y : Int)).toNat : Nat) : Int) = _
  have e : (BitVec.ofInt 64 (x : Int) ||| BitVec.ofInt 64 (y : Int)).toNat = x ||| y := by
    rw [BitVec.toNat_or, BitVec.ofInt_natCast, BitVec.ofInt_natCast, BitVec.toNat_ofNat, BitVec.toNat_ofNat, Nat.mod_eq_of_lt hx, Nat.mod_eq_of_lt hy]
  rw [e, wrap_u64, Nat.mod_eq_of_lt (Nat.or_lt_two_pow hx hy)]

theorem dec_take_succ (l : List UInt8) (i : Nat) (h : i < l.length) : dec (l.take (i + 1)) = dec (l.take i) + 256 ^ i * l[i].toNat := by
  rw [List.take_add_one, List.getElem?_eq_getElem h, dec_append]
  simp [dec, List.length_take, Nat.min_eq_left (Nat.le_of_lt h)]

theorem dec_take_lt (l : List UInt8) (i : Nat) : dec (l.take i) < 256 ^ i :=
  Nat.lt_of_lt_of_le (dec_lt _) (Nat.pow_le_pow_right (by omega) (by simp; omega))

theorem shr_nat (x m : Nat) : (x : Int).fdiv (2 ^ m) = ((x / 2 ^ m : Nat) : Int) := by
  have : ((2 : Int) ^ m) = ((2 ^ m : Nat) : Int) := by simp
  rw [this, Int.fdiv_eq_ediv_of_nonneg _ (Int.natCast_nonneg _)]; rfl

/-- The value of limbs. -/
def val32 : List Nat → Nat
  | [] => 0
  | x :: l => x + 2 ^ 32 * val32 l

def b4 (x : Nat) : List UInt8 := [UInt8.ofNat x, UInt8.ofNat (x / 2 ^ 8), UInt8.ofNat (x / 2 ^ 16), UInt8.ofNat (x / 2 ^ 24)]

theorem dec_b4 (x : Nat) (hx : x < 2 ^ 32) : dec (b4 x) = x := by
  simp only [b4, dec, UInt8.toNat_ofNat']
  omega

theorem b4_len (xs : List Nat) : (xs.flatMap b4).length = 4 * xs.length := by
  induction xs with
  | nil => rfl
  | cons x xs ih => rw [List.flatMap_cons, List.length_append, ih]; simp [b4]; omega

theorem dec_flat (xs : List Nat) (h : ∀ x ∈ xs, x < 2 ^ 32) : dec (xs.flatMap b4) = val32 xs := by
  induction xs with
  | nil => rfl
  | cons x xs ih =>
    rw [List.flatMap_cons, dec_append, dec_b4 x (h x (by simp)), ih fun y hy => h y (by simp [hy])]
    simp [b4, val32]

theorem val32_limbs (m n : Nat) : val32 ((List.range m).map (limb n)) = n % 2 ^ (32 * m) := by
  induction m generalizing n with
  | zero => simp [val32, Nat.mod_one]
  | succ m ih =>
    rw [List.range_succ_eq_map, List.map_cons, val32, List.map_map]
    have e : (limb n ∘ Nat.succ) = limb (n / 2 ^ 32) := by
      funext j
      simp only [Function.comp, limb]
      rw [Nat.div_div_eq_div_mul, ← Nat.pow_add]
      congr 3; omega
    rw [e, ih]
    have : limb n 0 = n % 2 ^ 32 := by simp [limb]
    rw [this, show 32 * (m + 1) = 32 + 32 * m by omega, Nat.pow_add, Nat.mod_mul]

theorem and_u32 {x y : Nat} (hx : x < 2 ^ 32) (hy : y < 2 ^ 32) : bitsOf .and .u32 (x : Int) (y : Int) = ((x &&& y : Nat) : Int) := by
  show IntKind.u32.wrap (((BitVec.ofInt 32 (x : Int) &&& BitVec.ofInt 32 (y : Int)).toNat : Nat) : Int) = _
  have e : (BitVec.ofInt 32 (x : Int) &&& BitVec.ofInt 32 (y : Int)).toNat = x &&& y := by
    rw [BitVec.toNat_and, BitVec.ofInt_natCast, BitVec.ofInt_natCast, BitVec.toNat_ofNat, BitVec.toNat_ofNat, Nat.mod_eq_of_lt hx, Nat.mod_eq_of_lt hy]
  rw [e, wrap_u32, Nat.mod_eq_of_lt (Nat.and_lt_two_pow _ hy)]
theorem xor_u32 {x y : Nat} (hx : x < 2 ^ 32) (hy : y < 2 ^ 32) : bitsOf .xor .u32 (x : Int) (y : Int) = ((x ^^^ y : Nat) : Int) := by
  show IntKind.u32.wrap (((BitVec.ofInt 32 (x : Int) ^^^ BitVec.ofInt 32 (y : Int)).toNat : Nat) : Int) = _
  have e : (BitVec.ofInt 32 (x : Int) ^^^ BitVec.ofInt 32 (y : Int)).toNat = x ^^^ y := by
    rw [BitVec.toNat_xor, BitVec.ofInt_natCast, BitVec.ofInt_natCast, BitVec.toNat_ofNat, BitVec.toNat_ofNat, Nat.mod_eq_of_lt hx, Nat.mod_eq_of_lt hy]
  rw [e, wrap_u32, Nat.mod_eq_of_lt (Nat.xor_lt_two_pow hx hy)]

theorem wrapI_u32 (n : Int) : IntKind.u32.wrap n = n % 4294967296 := by
  simp only [IntKind.wrap, IntKind.bits, IntKind.signed]; simp
theorem wrapI_u64 (n : Int) : IntKind.u64.wrap n = n % 18446744073709551616 := by
  simp only [IntKind.wrap, IntKind.bits, IntKind.signed]; simp

theorem top_bit {n : Nat} (h : n < 2 ^ 32) : n / 2 ^ 31 = (n.testBit 31).toNat := by
  rw [Nat.testBit_eq_decide_div_mod_eq]
  have : n / 2 ^ 31 < 2 := by omega
  by_cases h1 : n / 2 ^ 31 % 2 = 1
  · simp [h1]; omega
  · simp [h1]; omega

theorem top_dec {n : Nat} (h : n < 2 ^ 32) : n.testBit 31 = decide (2 ^ 31 ≤ n) := by
  rw [Nat.testBit_eq_decide_div_mod_eq]
  by_cases h1 : 2 ^ 31 ≤ n
  · have : n / 2 ^ 31 = 1 := by omega
    simp [h1, this]
  · have : n / 2 ^ 31 = 0 := by omega
    simp [h1, this]

/-- The borrow of bits.Sub32. -/
theorem borrow (x y d c : Nat) (hx : x < 2 ^ 32) (hy : y < 2 ^ 32) (hc : c ≤ 1) (hd : d = (x + 2 ^ 32 - y - c) % 2 ^ 32) :
    ((4294967295 ^^^ x) &&& y ||| (4294967295 ^^^ (x ^^^ y)) &&& d) / 2 ^ 31 = if x < y + c then 1 else 0 := by
  have hd2 : d < 2 ^ 32 := by omega
  have hm : (4294967295 : Nat) < 2 ^ 32 := by omega
  rw [top_bit (Nat.or_lt_two_pow (Nat.and_lt_two_pow _ hy) (Nat.and_lt_two_pow _ hd2))]
  rw [Nat.testBit_or, Nat.testBit_and, Nat.testBit_and, Nat.testBit_xor, Nat.testBit_xor, Nat.testBit_xor, top_dec hx, top_dec hy, top_dec hd2, top_dec hm]
  by_cases h1 : 2 ^ 31 ≤ x <;> by_cases h2 : 2 ^ 31 ≤ y <;> by_cases h3 : 2 ^ 31 ≤ d <;> by_cases h4 : x < y + c <;> simp [h1, h2, h3, h4] <;> omega

theorem limb_mod (N i j : Nat) : limb (N % 2 ^ (32 * i)) j = if j < i then limb N j else 0 := by
  split
  · rename_i h
    have e : N = N % 2 ^ (32 * i) + 256 ^ (4 * i) * (N / 2 ^ (32 * i)) := by
      rw [p256, show 8 * (4 * i) = 32 * i by omega, Nat.add_comm, Nat.div_add_mod]
    conv => rhs; rw [e]
    rw [limb_low (by omega)]
  · rename_i h
    refine limb_zero (Nat.lt_of_lt_of_le (Nat.mod_lt _ (Nat.two_pow_pos _)) (Nat.pow_le_pow_right (by omega) (by omega)))

theorem limb_lt (n j : Nat) : limb n j < 2 ^ 32 := Nat.mod_lt _ (Nat.two_pow_pos _)

theorem mod_succ_limb (X i : Nat) : X % 2 ^ (32 * (i + 1)) = X % 2 ^ (32 * i) + 2 ^ (32 * i) * limb X i := by
  rw [show 32 * (i + 1) = 32 * i + 32 by omega, Nat.pow_add, Nat.mod_mul]; rfl

/-- The carry into limb i of a sum. -/
def carry (X Y i : Nat) : Nat := (X % 2 ^ (32 * i) + Y % 2 ^ (32 * i)) / 2 ^ (32 * i)

theorem carry_le (X Y i : Nat) : carry X Y i ≤ 1 := by
  unfold carry
  have h1 := Nat.mod_lt X (Nat.two_pow_pos (32 * i))
  have h2 := Nat.mod_lt Y (Nat.two_pow_pos (32 * i))
  have : (X % 2 ^ (32 * i) + Y % 2 ^ (32 * i)) / 2 ^ (32 * i) < 2 := by
    rw [Nat.div_lt_iff_lt_mul (Nat.two_pow_pos _)]; omega
  omega

theorem carry_succ (X Y i : Nat) : carry X Y (i + 1) = (limb X i + limb Y i + carry X Y i) / 2 ^ 32 := by
  unfold carry
  rw [mod_succ_limb, mod_succ_limb]
  have e : X % 2 ^ (32 * i) + 2 ^ (32 * i) * limb X i + (Y % 2 ^ (32 * i) + 2 ^ (32 * i) * limb Y i) = (X % 2 ^ (32 * i) + Y % 2 ^ (32 * i)) + 2 ^ (32 * i) * (limb X i + limb Y i) := by
    rw [Nat.mul_add]; omega
  rw [e, show 32 * (i + 1) = 32 * i + 32 by omega, Nat.pow_add, ← Nat.div_div_eq_div_mul, Nat.add_mul_div_left _ _ (Nat.two_pow_pos _), Nat.add_comm]

theorem limb_add (X Y i : Nat) : limb (X + Y) i = (limb X i + limb Y i + carry X Y i) % 2 ^ 32 := by
  have hp := Nat.two_pow_pos (32 * i)
  have e : (X + Y) / 2 ^ (32 * i) = X / 2 ^ (32 * i) + Y / 2 ^ (32 * i) + carry X Y i := by
    unfold carry
    have h1 := Nat.div_add_mod X (2 ^ (32 * i))
    have h2 := Nat.div_add_mod Y (2 ^ (32 * i))
    have : X + Y = (X % 2 ^ (32 * i) + Y % 2 ^ (32 * i)) + 2 ^ (32 * i) * (X / 2 ^ (32 * i) + Y / 2 ^ (32 * i)) := by
      rw [Nat.mul_add]; omega
    conv => lhs; rw [this]
    rw [Nat.add_mul_div_left _ _ hp]; omega
  unfold limb
  rw [e]
  omega

/-- The number of limbs. -/
def nl (n : Nat) : Nat := ((enc n).length + 3) / 4

theorem lt_nl (n : Nat) : n < 2 ^ (32 * nl n) := by
  have h := dec_lt (enc n)
  rw [dec_enc, p256] at h
  refine Nat.lt_of_lt_of_le h (Nat.pow_le_pow_right (by omega) ?_)
  unfold nl; omega

theorem limb_nl {n j : Nat} (h : nl n ≤ j) : limb n j = 0 :=
  limb_zero (Nat.lt_of_lt_of_le (lt_nl n) (Nat.pow_le_pow_right (by omega) (by omega)))

theorem val_range {m n : Nat} (h : n < 2 ^ (32 * m)) : trimR 0 (((List.range m).map (limb n)).flatMap b4) = enc n := by
  rw [trimR_dec, dec_flat _ (fun x hx => by
    obtain ⟨j, _, rfl⟩ := List.mem_map.1 hx
    exact limb_lt _ _), val32_limbs, Nat.mod_eq_of_lt h]

/-- The order of numbers, as Go tells it. -/
def cmpN (a b : Nat) : Int := if a < b then -1 else if b < a then 1 else 0

theorem cmpN_lt {a b : Nat} (h : a < b) : cmpN a b = -1 := by simp [cmpN, h]
theorem cmpN_gt {a b : Nat} (h : b < a) : cmpN a b = 1 := by simp [cmpN, h]; omega
theorem cmpN_eq (a : Nat) : cmpN a a = 0 := by simp [cmpN]

theorem enc_len_mono {m n : Nat} (h : m ≤ n) : (enc m).length ≤ (enc n).length := by
  have := dec_lt (enc n)
  rw [dec_enc] at this
  exact enc_length_le (by omega)

theorem lt_of_enc_len {m n : Nat} (h : (enc m).length < (enc n).length) : m < n := by
  rcases Nat.lt_or_ge m n with h1 | h1
  · exact h1
  · have := enc_len_mono h1; omega

/-- Two lists of bytes that are alike above a place. -/
theorem dec_lt_at {a b : List UInt8} (hl : a.length = b.length) {k : Nat} (hk : k < a.length) (ht : a.drop (k + 1) = b.drop (k + 1)) (hx : a[k] < b[k]'(by omega)) : dec a < dec b := by
  have ea : a = a.take k ++ (a[k] :: a.drop (k + 1)) := by rw [List.getElem_cons_drop, List.take_append_drop]
  have eb : b = b.take k ++ (b[k]'(by omega) :: b.drop (k + 1)) := by rw [List.getElem_cons_drop, List.take_append_drop]
  have hA := dec_take_lt a k
  have hB := dec_take_lt b k
  have la : (a.take k).length = k := by simp; omega
  have lb : (b.take k).length = k := by simp; omega
  rw [ea, eb, dec_append, dec_append, dec, dec, la, lb, ← ht]
  have hx : a[k].toNat + 1 ≤ (b[k]'(by omega)).toNat := hx
  generalize dec (a.drop (k + 1)) = t
  generalize a[k].toNat = x at *
  generalize (b[k]'(by omega)).toNat = y at *
  generalize dec (a.take k) = p at *
  generalize dec (b.take k) = q at *
  have h1 : 256 ^ k * (x + 256 * t) + 256 ^ k ≤ 256 ^ k * (y + 256 * t) := by
    rw [← Nat.mul_succ]; exact Nat.mul_le_mul_left _ (by omega)
  omega

end Vm
end Go.Proofs.YtdbpcmpkpbamhaaGreatDoor
