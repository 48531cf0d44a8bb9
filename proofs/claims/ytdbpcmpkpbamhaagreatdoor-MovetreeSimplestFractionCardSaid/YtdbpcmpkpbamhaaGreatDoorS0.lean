/- What a row's condition gives a walk: the variable that Apply reads; and what a pure call leaves. -/
import Derived.Test.YtdbpcmpkpbamhaaGreatDoorMs
import Derived.Test.YtdbpcmpkpbamhaaGreatDoorRows
import Derived.ProofKit
import Derived.LaidLaws
import Derived.Lay
import Derived.Lib.LaidU8
import Derived.Carry
namespace Go.Proofs.YtdbpcmpkpbamhaaGreatDoor
set_option linter.unusedVariables false
set_option maxRecDepth 100000
namespace Vm
open Go

theorem trash_cells {W : World} (h : Lib.VarReads Tryz.prog W "voussoir/movetree.trash" Rows.laid_voussoir_movetree_trash) : W.cell? ⟨0, 0, none⟩ = some (.string ⟨#[45]⟩) ∧ W.cell? ⟨0, 1, none⟩ = some (.int .i64 0) := by
  obtain ⟨g, t, cs, fuel, p, hg, ht, hv, hd⟩ := h
  obtain rfl := Option.some.inj ((show Tryz.prog.globalNamed "voussoir/movetree.trash" = some 0 by kernel_rfl).symm.trans hg)
  obtain rfl := Option.some.inj ((show (Tryz.prog.globals[0]?).map (·.type) = some 25 by kernel_rfl).symm.trans ht)
  obtain ⟨xs, n, _, ex, hcl, hl, hel⟩ := DataW.trod_struct Tryz.underlying25 hd
  have c25 : Tryz.prog.cellsOf 25 = 2 := by kernel_rfl
  have c9 : Tryz.prog.cellsOf 9 = 1 := by kernel_rfl
  have c3 : Tryz.prog.cellsOf 3 = 1 := by kernel_rfl
  have e3 : xs.map (·.1) = [.lit (.string [45]), .lit (.int .i64 0)] := (DataW.agg.inj (Prod.mk.inj ex).1).symm
  obtain ⟨x0, x1, rfl⟩ : ∃ a b, xs = [a, b] := by
    match xs, e3 with
    | [a, b], _ => exact ⟨a, b, rfl⟩
  simp only [List.map_cons, List.map_nil, List.cons.injEq, and_true] at e3
  have h0 := hel 0 { name := "Author", type := 9, offset := 0, embedded := false, tag := "", pkgPath := "", byteOffset := 0 } rfl
  have h1 := hel 1 { name := "N", type := 3, offset := 1, embedded := false, tag := "", pkgPath := "", byteOffset := 16 } rfl
  dsimp only at h0 h1
  rw [c9] at h0
  rw [c3] at h1
  obtain ⟨s, k1, k2, _⟩ := DataW.trod_string (x := x0) Tryz.underlying9 h0
  obtain ⟨z, m1, m2, _⟩ := DataW.trod_int (x := x1) Tryz.underlying3 h1
  rw [c25] at hcl
  have e4 : s = ⟨#[45]⟩ := by
    have := e3.1
    rw [k2] at this
    simp only [DataW.lit.injEq, Lit.string.injEq] at this
    obtain ⟨⟨l⟩⟩ := s
    simp only at this
    rw [this]
  have e5 : z = 0 := by
    have := e3.2
    rw [m2] at this
    simpa using this
  subst e4 e5
  have g0 : cs.toList[0]? = some (.string ⟨#[45]⟩) := by
    have := congrArg (fun l => l[0]?) k1
    simpa using this
  have g1 : cs.toList[1]? = some (.int .i64 0) := by
    have := congrArg (fun l => l[0]?) m1
    simpa using this
  exact ⟨by rw [World.var?_cell hg hv 0]; simpa using g0, by rw [World.var?_cell hg hv 1]; simpa using g1⟩

theorem glob_of_laid {W : World} (h : Lib.VarReads Tryz.prog W "voussoir/movetree.trash" Rows.laid_voussoir_movetree_trash) : Glob W.cell? fun r => r < W.heap.size := by
  obtain ⟨h0, h1⟩ := trash_cells h
  have hlt : 0 < W.heap.size := by
    unfold World.cell? at h0
    cases hb : W.heap[0]? with
    | none => simp [hb] at h0
    | some o => exact (Array.getElem?_eq_some_iff.1 hb).1
  intro p hp
  simp only [gl, List.mem_cons, List.not_mem_nil, or_false] at hp
  subst hp
  refine .ipt _ _ _ (fun j => match j with | 0 => .string ⟨#[45]⟩ | _ => .int .i64 0) rfl (fun j c hj => ?_) fun j c hj => ?_
  · match j with
    | 0 => simp only [List.getElem?_cons_zero, Option.some.injEq] at hj; subst hj; exact ⟨hlt, rfl, h0⟩
    | 1 => simp only [List.getElem?_cons_succ, List.getElem?_cons_zero, Option.some.injEq] at hj; subst hj; exact ⟨hlt, rfl, h1⟩
    | j + 2 => simp at hj
  · match j with
    | 0 => simp only [List.getElem?_cons_zero, Option.some.injEq] at hj; subst hj; exact .val _ _
    | 1 => simp only [List.getElem?_cons_succ, List.getElem?_cons_zero, Option.some.injEq] at hj; subst hj; exact .val _ _
    | j + 2 => simp at hj

theorem keptBut_of_trans {W W' : World} {imm imm' : Nat → Prop} {φ φ' : Phi} (t : Trans W imm φ W' imm' φ' fun _ => False) (may : MemPlace → Prop) : W.keptBut W' may := by
  refine ⟨t.os, t.output, fun i hi => ?_⟩
  rw [t.keep i hi fun b rb _ h => h.elim]
  split <;> simp_all

/-- A pure function of plain arguments, from a world that meets the row's condition. -/
theorem calls_of_pure {f : Nat} {args : List AV} {res : AV} (h : PureC Tryz.prog f args res) {W : World} (hr : Lib.VarReads Tryz.prog W "voussoir/movetree.trash" Rows.laid_voussoir_movetree_trash) {vals : Array Value} (hl : vals.size = args.length)
    (hv : ∀ (i : Nat) (x : AV) (v : Value), args[i]? = some x → vals[i]? = some v → VRel W.cell? (fun r => r < W.heap.size) Phi.none x v) {R : Value → Prop} (hR : ∀ (cell : Addr → Option Value) (imm : Nat → Prop) v, VRel cell imm Phi.none res v → R v) :
    Calls Tryz.prog f vals W fun e W' => ∃ v, e = .returned v ∧ R v ∧ ∀ may, W.keptBut W' may :=
  (h.2.2 W (fun r => r < W.heap.size) vals (fun _ h => h) (glob_of_laid hr) hl hv).mono fun e W' ⟨v, imm', he, ht, _, hx⟩ => ⟨v, he, hR _ _ _ hx, keptBut_of_trans ht⟩

end Vm
end Go.Proofs.YtdbpcmpkpbamhaaGreatDoor
