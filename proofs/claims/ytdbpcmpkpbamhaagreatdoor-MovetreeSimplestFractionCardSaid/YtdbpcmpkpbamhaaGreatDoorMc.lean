/- The abstract machine: variables in memory. -/
import Derived.Test.YtdbpcmpkpbamhaaGreatDoorMb
import Derived.Deep.AppendSrc
import Derived.Laws.MakeOwn
namespace Go.Proofs.YtdbpcmpkpbamhaaGreatDoor
set_option linter.unusedVariables false
set_option linter.unusedSimpArgs false
namespace Vm
open Go

theorem trans_alloc {w w' : World} {imm imm' : Nat → Prop} {φ : Phi} {id : Nat} {rb : RB} {ob : Obj} (hid : φ id = none)
    (h1 : w'.os = w.os) (h2 : w'.tape = w.tape) (h3 : w'.output = w.output) (h4 : w.drawn ≤ w'.drawn) (h5 : w'.heap = w.heap.push ob)
    (hrb : rb.base.block = w.heap.size) (hi1 : ∀ r, imm r → imm' r) (hi2 : ∀ r, imm' r → imm r ∨ w.heap.size ≤ r) (himm : ∀ r, imm r → r < w.heap.size) (wr : Nat → Prop) : Trans w imm φ w' imm' (phiSet φ id rb) wr := by
  have hold : ∀ r, r < w.heap.size → w'.heap[r]? = w.heap[r]? := fun r hr => by rw [h5, Array.getElem?_push, if_neg (by omega)]
  refine ⟨h1, h2, h3, h4, by rw [h5]; simp, fun r hr _ => hold r hr, fun r hr => hold r (himm r hr), hi1, fun r hr => ?_, fun b rb' hb => ?_, fun b rb' hb => ?_⟩
  · rcases hi2 r hr with h | h
    · exact .inl h
    · exact .inr (.inl h)
  · have : b ≠ id := fun e => by rw [e, hid] at hb; cases hb
    exact ⟨rb', by simp [phiSet, this, hb], Nat.le_refl _, fun _ => rfl⟩
  · by_cases e : b = id
    · subst e
      simp [phiSet] at hb
      subst hb
      exact .inr ⟨hid, by omega⟩
    · simp [phiSet, e] at hb
      exact .inl ⟨rb', hb, .inl rfl⟩

theorem Trans.weaken {w w' : World} {imm imm' : Nat → Prop} {φ φ' : Phi} {wr wr' : Nat → Prop} (t : Trans w imm φ w' imm' φ' wr) (h : ∀ b, wr b → wr' b) : Trans w imm φ w' imm' φ' wr' :=
  ⟨t.os, t.tape, t.output, t.drawn, t.size, fun r hr hne => t.keep r hr fun b rb hb hw => hne b rb hb (h b hw), t.immKeep, t.immMono, fun r hr => by
    rcases t.immNew r hr with h' | h' | ⟨b, rb, hb, he, hw⟩
    · exact .inl h'
    · exact .inr (.inl h')
    · exact .inr (.inr ⟨b, rb, hb, he, h b hw⟩), t.phi, t.own⟩

/-- A new block: what is behind an operation that makes one. -/
theorem After.alloc {w w' : World} {imm : Nat → Prop} {φ : Phi} {H : Nat → Option Blk} {id : Nat} {rb : RB} {ob : Obj} {d : AV} {v : Value} {x : Blk} (hH : Heap w imm φ H) (hid : φ id = none)
    (h1 : w'.os = w.os) (h2 : w'.tape = w.tape) (h3 : w'.output = w.output) (h4 : w.drawn ≤ w'.drawn) (h5 : w'.heap = w.heap.push ob)
    (hrb : rb.base.block = w.heap.size) (hx : (∀ y u, VRel w.cell? imm φ y u → VRel w'.cell? imm (phiSet φ id rb) y u) → w'.heap[w.heap.size]? = some ob → ¬ imm w.heap.size → BRel w' imm (phiSet φ id rb) x rb)
    (hv : (phiSet φ id rb) id = some rb → VRel w'.cell? imm (phiSet φ id rb) d v) : After w imm φ H id d (.alloc x) v w' := by
  have t := fun wr => trans_alloc (imm' := imm) (wr := wr) hid h1 h2 h3 h4 h5 hrb (fun _ h => h) (fun _ h => .inl h) hH.immLt
  have hnew : w'.heap[w.heap.size]? = some ob := by rw [h5]; simp
  have hni : ¬ imm w.heap.size := fun h => by have := hH.immLt _ h; omega
  refine ⟨imm, phiSet φ id rb, hv (by simp [phiSet]), t _, ?_, fun b hb hb' => ⟨rfl, ?_⟩, fun _ => by simp [phiSet]⟩
  · refine hH.upd (t _) (hx (fun y u hy => (t (· = id)).vrel hy) hnew hni) (by rw [hrb, h5]; simp) (.inr (by omega)) fun r hr => ?_
    rw [h5]
    have := hH.immLt r hr
    simp; omega
  · by_cases e : b = id
    · exact e
    · simp [phiSet, e, hb] at hb'

theorem vrel_cells {cell : Addr → Option Value} {imm : Nat → Prop} {φ : Phi} {x : AV} {v : Value} (h : VRel cell imm φ x v) (hc : (cellsOf x).all AV.isCell = true) :
    v.cells.size = (cellsOf x).length ∧ ∀ (j : Nat) (c : AV), (cellsOf x)[j]? = some c → ∃ u, v.cells[j]? = some u ∧ VRel cell imm φ c u := by
  cases x with
  | agg cs =>
    cases h with
    | agg _ _ us hs hcs =>
      refine ⟨hs, fun j c hj => ?_⟩
      have hlt : j < us.size := by have := (List.getElem?_eq_some_iff.1 hj).1; simp [cellsOf] at this; omega
      exact ⟨us[j], by simp [Value.cells, hlt], hcs j c _ hj (by simp [hlt])⟩
  | _ =>
    have hone := h.oneCell (by simpa [cellsOf] using hc)
    have e : v.cells = #[v] := by cases v <;> simp [Value.oneCell'] at hone <;> rfl
    refine ⟨by rw [e]; rfl, fun j c hj => ?_⟩
    rw [e]
    cases j with
    | zero => simp [cellsOf] at hj; subst hj; exact ⟨v, rfl, h⟩
    | succ j => simp [cellsOf] at hj

def boxVC (s : St) (x : AV) (k : AV → Eff → Prop) : Prop :=
  match (cellsOf x).all AV.isCell with
  | true => k (.ptr s.heap.length 0 0 0) (.alloc (.box (cellsOf x) false))
  | false => False

theorem box_after {w : World} {imm : Nat → Prop} {φ : Phi} {H : Nat → Option Blk} {id : Nat} {x : AV} {u : Value} {ty : TypeId} (hH : Heap w imm φ H) (hid : φ id = none) (hc : (cellsOf x).all AV.isCell = true) (hu : VRel w.cell? imm φ x u) :
    After w imm φ H id (.ptr id 0 0 0) (.alloc (.box (cellsOf x) false)) (.pointer (some ⟨w.heap.size, 0, none⟩)) { w with heap := w.heap.push (.cells u.cells ty) } := by
  obtain ⟨h1, h2⟩ := vrel_cells hu hc
  refine After.alloc (rb := ⟨⟨w.heap.size, 0, none⟩, (cellsOf x).length, 1, 0, 1⟩) hH hid rfl rfl rfl (Nat.le_refl _) rfl rfl (fun hmono hnew hni => ?_) fun hself => ?_
  · refine ⟨rfl, rfl, hni, fun c hcm => by simpa using (List.all_eq_true.1 hc) c hcm, rfl, _, ty, hnew, by simp [h1], fun j c hj => ?_⟩
    obtain ⟨y, hy1, hy2⟩ := h2 j c hj
    exact ⟨y, by simpa using hy1, hmono _ _ hy2⟩
  · exact .ptr _ _ _ _ _ _ _ hself (Nat.le_refl _) ⟨_, rfl⟩ fun _ => by simp [Addr.add]

theorem box_ok {P : Program} {o : Oper} {s : St} {k : AV → Eff → Prop} {x : Operand} {t : Nat} (ho : o.op = .box t x) (h : boxVC s (ev s x) k) : Good P none o s k := by
  unfold boxVC at h
  split at h
  case h_2 => exact h.elim
  rename_i hc
  refine ⟨_, .alloc _, fun a w imm φ H hev hH hid hacc => ?_, trivial, h⟩
  have hu := hev x (by simp [ho, Op.operands])
  exact .of_run (w' := { w with heap := w.heap.push (.cells (a.eval x).cells t) }) (v := .pointer (some ⟨w.heap.size, 0, none⟩)) (by simp [execOp, ho, Instr.box, newVar, newRow]) (box_after hH (hid rfl) hc hu)

def allocVC (T : Nat → Option TI) (s : St) (t : Nat) (k : AV → Eff → Prop) : Prop :=
  match T t with
  | some ti => match ti.zero with
    | some z => boxVC s (ofConst z) k
    | none => False
  | none => False

theorem alloc_ok {P : Program} {T : Nat → Option TI} (hT : TOk P T) {o : Oper} {s : St} {k : AV → Eff → Prop} {t : Nat} (ho : o.op = .alloc t) (h : allocVC T s t k) : Good P none o s k := by
  unfold allocVC at h
  split at h
  case h_2 => exact h.elim
  rename_i ti ht
  split at h
  case h_2 => exact h.elim
  rename_i z hz
  unfold boxVC at h
  split at h
  case h_2 => exact h.elim
  rename_i hc
  refine ⟨_, .alloc _, fun a w imm φ H hev hH hid hacc => ?_, trivial, h⟩
  exact .of_run (w' := { w with heap := w.heap.push (.cells z.cells t) }) (v := .pointer (some ⟨w.heap.size, 0, none⟩))
    (by simp [execOp, ho, Instr.alloc, newVar, newRow, hT.run_zeroValue ht hz]) (box_after hH (hid rfl) hc (ofConst_rel z))

/-! ### Loads and stores -/
def ofCells (ti : TI) (cs : List AV) : Option AV :=
  match ti.isAgg with
  | true => match Nat.ble ti.size cs.length with
    | true => some (.agg (cs.take ti.size))
    | false => none
  | false => cs.head?

theorem loadVar_run {P : Program} {T : Nat → Option TI} (hT : TOk P T) {t : Nat} {ti : TI} (ht : T t = some ti) {w : World} {imm : Nat → Prop} {φ : Phi} {a : Addr} {cs : List AV} {d : AV}
    (hc : ∀ (j : Nat) (c : AV), cs[j]? = some c → ∃ u, w.cell? (a.add j) = some u ∧ VRel w.cell? imm φ c u) (hd : ofCells ti cs = some d) : ∃ v, (loadVar t a).run P w = .ok v w ∧ VRel w.cell? imm φ d v := by
  unfold ofCells at hd
  split at hd
  · rename_i hagg
    split at hd
    case h_2 => cases hd
    rename_i hle
    have hle : ti.size ≤ cs.length := Nat.le_of_ble_eq_true hle
    cases hd
    obtain ⟨f, hf⟩ : ∃ f : Nat → Value, ∀ j, j < ti.size → w.cell? (a.add j) = some (f j) := ⟨fun j => (w.cell? (a.add j)).getD undef, fun j hj => by
      obtain ⟨u, h1, _⟩ := hc j cs[j] (by simp [show j < cs.length by omega])
      simp [h1]⟩
    have hl := run_loadCells (P := P) w a ti.size f fun j hj => hf j hj
    refine ⟨.agg ((List.range ti.size).map f).toArray, by simp only [loadVar, Sem.run_bind, hT.run_isAgg ht, hagg, Result.andThen_ok, if_true, hT.run_sizeOf ht, hl, Sem.run_pure], .agg _ _ _ (by simp; omega) fun i c u h1 h2 => ?_⟩
    rw [List.getElem?_take] at h1
    split at h1
    · rename_i hi
      obtain ⟨u', h3, h4⟩ := hc i c h1
      have : u = u' := by
        simp [hi] at h2
        rw [← h2]
        exact Option.some.inj ((hf i hi).symm.trans h3)
      rw [this]; exact h4
    · cases h1
  · rename_i hagg
    obtain ⟨u, h1, h2⟩ := hc 0 d (by rw [← List.head?_eq_getElem?]; exact hd)
    have h1' : w.cell? a = some u := by simpa [Addr.add] using h1
    exact ⟨u, by simp [loadVar, hT.run_isAgg ht, hagg, h1'], h2⟩

def loadVC (T : Nat → Option TI) (c : Option Bool) (s : St) (t : Nat) (x : AV) (k : AV → Eff → Prop) : Prop :=
  match T t with
  | some ti => un c x fun x => match x with
    | .ipt cs => match ofCells ti cs with
      | some d => strict d fun d => k d .none
      | none => False
    | .ptr b i off g => match s.heap[b]? with
      | some (.box cs _) => match Nat.beq g 0, Nat.beq i 0, ofCells ti (cs.drop off) with
        | true, true, some d => strict d fun d => k d .none
        | _, _, _ => False
      | some (.row elems _ g') => ∃ e, imp c (g' = g ∧ elems[i]? = some e) ∧ match ofCells ti ((cellsOf e).drop off) with
        | some d => strict d fun d => k d .none
        | none => False
      | _ => False
    | _ => False
  | none => False

theorem cell_of_row {w : World} {base : Addr} {arr : Array Value} {ty : TypeId} (hs : base.spot = none) (ha : w.heap[base.block]? = some (.cells arr ty (0, 0))) {j : Nat} {u : Value} (h : arr[base.off + j]? = some u) : w.cell? (base.add j) = some u := by
  rw [Addr.add_off hs]
  simp [World.cell?, ha, h]

theorem un_blk {c : Option Bool} {x : AV} {K : AV → Prop} (h : un c x K) : ∃ v, K v ∧ (∀ b, b ∈ blkOf v → b ∈ blkOf x) ∧ imp c (∀ {cell : Addr → Option Value} {imm : Nat → Prop} {φ : Phi} {u : Value}, VRel cell imm φ x u → VRel cell imm φ v u) := by
  cases x with
  | gd g v =>
    simp only [un, strict_eq] at h
    refine ⟨v, h.2, fun b hb => ?_, h.1.mono fun hg cell imm φ u hu => ?_⟩
    · exact hb
    · cases hu with | gd _ _ _ _ ht hf => exact ht hg
  | _ => exact ⟨_, by simpa only [un, strict_eq] using h, fun b hb => hb, .of fun hu => hu⟩

theorem good_read {P : Program} {c : Option Bool} {o : Oper} {s : St} {k : AV → Eff → Prop} {d : AV} (hk : k d .none)
    (h : imp c (∀ (a : Act) (w : World) (imm : Nat → Prop) (φ : Phi) (H : Nat → Option Blk), (∀ x ∈ o.op.operands, VRel w.cell? imm φ (ev s x) (a.eval x)) → Heap w imm φ H → (∀ b ∈ accOf o s, H b = s.heap[b]?) →
      ∃ v, (execOp a.eval o).run P w = .ok (.value v) w ∧ VRel w.cell? imm φ d v)) : Good P c o s k :=
  ⟨d, .none, h.mono fun h a w imm φ H hev hH hn hacc => let ⟨v, hr, hv⟩ := h a w imm φ H hev hH hacc; .of_run hr (After.pure hH hv), trivial, hk⟩

theorem load_ok {P : Program} {T : Nat → Option TI} (hT : TOk P T) {c : Option Bool} {o : Oper} {s : St} {k : AV → Eff → Prop} {t : Nat} {x : Operand} (ho : o.op = .load t x) (h : loadVC T c s t (ev s x) k) : Good P c o s k := by
  unfold loadVC at h
  split at h
  case h_2 => exact h.elim
  rename_i ti ht
  obtain ⟨vx, h, hbx, hx⟩ := un_blk h
  have hop : x ∈ o.op.operands := by simp [ho, Op.operands]
  have hac : accOf o s = blkOf (ev s x) := by simp [accOf, ho]
  have run : ∀ (a : Act) (w : World) ad v, a.eval x = .pointer (some ad) → (loadVar t ad).run P w = .ok v w → (execOp a.eval o).run P w = .ok (.value v) w := by
    intro a w ad v e h
    simp [execOp, ho, e, Instr.loadAt, Instr.sureAddr, h]
  split at h
  · rename_i cs
    split at h
    case h_2 => exact h.elim
    rename_i d hd
    rw [strict_eq] at h
    refine good_read h (hx.mono fun hx a w imm φ H hev hH hacc => ?_)
    have r := hx (hev x hop)
    generalize hu : a.eval x = u at r
    cases r with
    | ipt _ _ ad us ha hdd hv =>
      obtain ⟨v, h1, h2⟩ := loadVar_run hT ht (φ := Phi.none) (a := ad) (imm := imm) (fun j c hj => ⟨us j, (hdd j c hj).2.2, hv j c hj⟩) hd
      exact ⟨v, run a w ad v hu h1, vrel_none h2 φ⟩
  · rename_i b i off g
    have hb0 : b ∈ blkOf (ev s x) := hbx b (by simp [blkOf])
    split at h
    · rename_i cs ro hsb
      split at h
      case h_2 => exact h.elim
      rename_i d hg0 hi0 hd
      rw [strict_eq] at h
      refine good_read h (hx.mono fun hx a w imm φ H hev hH hacc => ?_)
      have r := hx (hev x hop)
      generalize hu : a.eval x = u at r
      have hg0 : g = 0 := by simpa using hg0
      have hi0 : i = 0 := by simpa using hi0
      subst hg0; subst hi0
      cases r with
      | ptr _ _ _ _ _ _ rb hb hg hs hv =>
        obtain ⟨y, hy, hbr⟩ := hH.blk b rb hb
        rw [hacc b (by rw [hac]; exact hb0), hsb] at hy
        cases hy
        obtain ⟨h1, h2, _, _, hsp, arr, ty, ha, hl, hc⟩ := hbr
        have e := hv h1
        subst e
        obtain ⟨v, r1, r2⟩ := loadVar_run hT ht (φ := φ) (imm := imm) (a := rb.base.add (0 * rb.k + off)) (w := w) (fun j c hj => by
          rw [List.getElem?_drop] at hj
          obtain ⟨u, h3, h4⟩ := hc _ _ hj
          exact ⟨u, by rw [Nat.zero_mul, Nat.zero_add, Addr.add_add]; exact cell_of_row hsp ha h3, h4⟩) hd
        exact ⟨v, run a w _ v hu r1, r2⟩
    · rename_i elems q g' hsb
      obtain ⟨e, hob, h⟩ := h
      split at h
      case h_2 => exact h.elim
      rename_i d hd
      rw [strict_eq] at h
      refine good_read h ((hx.and hob).mono fun ⟨hx, hge, hel⟩ a w imm φ H hev hH hacc => ?_)
      have r := hx (hev x hop)
      generalize hu : a.eval x = u at r
      cases r with
      | ptr _ _ _ _ _ _ rb hb hg hs hv =>
        obtain ⟨y, hy, hbr⟩ := hH.blk b rb hb
        rw [hacc b (by rw [hac]; exact hb0), hsb] at hy
        cases hy
        obtain ⟨h1, h2, _, _, _, h5, h6, hsp, arr, ty, ha, hl, hc⟩ := hbr
        have e' := hv (by omega)
        subst e'
        obtain ⟨v, r1, r2⟩ := loadVar_run hT ht (φ := Phi.none) (imm := imm) (a := rb.base.add (i * rb.k + off)) (w := w) (fun j c hj => by
          rw [List.getElem?_drop] at hj
          obtain ⟨u, h3, h4⟩ := hc _ _ (flat_get elems h5 _ _ _ _ hel hj)
          exact ⟨u, by rw [Addr.add_add, h2, Nat.add_assoc]; exact cell_of_row hsp ha h3, h4⟩) hd
        exact ⟨v, run a w _ v hu r1, vrel_none r2 φ⟩
    · exact h.elim
  · exact h.elim

end Vm
end Go.Proofs.YtdbpcmpkpbamhaaGreatDoor

/- The abstract machine: stores; structs and slices that are built. -/
namespace Go.Proofs.YtdbpcmpkpbamhaaGreatDoor
set_option linter.unusedVariables false
set_option linter.unusedSimpArgs false
namespace Vm
open Go

theorem phiSet_self {φ : Phi} {b : Nat} {rb : RB} (h : φ b = some rb) : phiSet φ b rb = φ := by
  funext b'
  unfold phiSet
  split
  · rename_i e; rw [e, h]
  · rfl

theorem trans_setRow {w : World} {imm : Nat → Prop} {φ : Phi} {b : Nat} {rb : RB} (hb : φ b = some rb) (hni : ¬ imm rb.base.block) (arr : Array Value) : Trans w imm φ (w.setRow rb.base.block arr) imm φ (· = b) :=
  ⟨rfl, rfl, rfl, Nat.le_refl _, by simp, fun r hr hne => setRow_other w _ r arr (fun e => hne b rb hb rfl e.symm), fun r hr => setRow_other w _ r arr (fun e => hni (e ▸ hr)), fun _ h => h, fun _ h => .inl h,
    fun b rb h => ⟨rb, h, Nat.le_refl _, fun _ => rfl⟩, fun b rb h => .inl ⟨rb, h, .inl rfl⟩⟩

theorem After.write {w : World} {imm : Nat → Prop} {φ : Phi} {H : Nat → Option Blk} {id b : Nat} {rb : RB} {arr arr' : Array Value} {ty : TypeId} {x : Blk} (hH : Heap w imm φ H) (hb : φ b = some rb) (hni : ¬ imm rb.base.block)
    (ha : w.heap[rb.base.block]? = some (.cells arr ty (0, 0)))
    (hx : (∀ ψ, (∀ b rb, ψ b = some rb → ∃ rb', ψ b = some rb' ∧ rb.gen ≤ rb'.gen ∧ (rb'.gen = rb.gen → rb' = rb)) → ∀ y u, VRel w.cell? imm ψ y u → VRel (w.setRow rb.base.block arr').cell? imm ψ y u) →
      (w.setRow rb.base.block arr').heap[rb.base.block]? = some (.cells arr' ty (0, 0)) → BRel (w.setRow rb.base.block arr') imm φ x rb) :
    After w imm φ H id .junk (.set b x) undef (w.setRow rb.base.block arr') := by
  have t := trans_setRow (w := w) hb hni arr'
  have e := phiSet_self hb
  refine ⟨imm, φ, .junk _ _, t, ?_, fun b' h1 h2 => absurd h1 h2, fun h => by simp [Eff.isNew] at h⟩
  have := Heap.upd (rb := rb) (x := x) hH (b := b) (w' := w.setRow rb.base.block arr') (imm' := imm) (by rw [e]; exact t)
    (by rw [e]; exact hx (fun ψ hψ y u hy => hy.mono (fun a u hi hc => by rw [cell_of_heap (t.immKeep _ hi)]; exact hc) (fun _ h => h) hψ) (setRow_heap w _ arr arr' ty _ ha))
    (by simp; exact hH.lt b rb hb) (.inl ⟨rb, hb, rfl⟩) (fun r hr => by simp; exact hH.immLt r hr)
  rw [e] at this
  exact this

theorem phi_refl (ψ : Phi) : ∀ b rb, ψ b = some rb → ∃ rb', ψ b = some rb' ∧ rb.gen ≤ rb'.gen ∧ (rb'.gen = rb.gen → rb' = rb) := fun b rb h => ⟨rb, h, Nat.le_refl _, fun _ => rfl⟩

def spliceL (cs : List AV) (off : Nat) (vs : List AV) : List AV := cs.take off ++ vs ++ cs.drop (off + vs.length)

theorem spliceL_get {cs vs : List AV} {off : Nat} (h : off + vs.length ≤ cs.length) (j : Nat) : (spliceL cs off vs)[j]? = if off ≤ j ∧ j < off + vs.length then vs[j - off]? else cs[j]? := by
  unfold spliceL
  by_cases h1 : j < off
  · rw [List.append_assoc, List.getElem?_append_left (by simp; omega), List.getElem?_take, if_pos h1, if_neg (by omega)]
  · rw [List.append_assoc, List.getElem?_append_right (by simp; omega)]
    by_cases h2 : j < off + vs.length
    · rw [List.getElem?_append_left (by simp; omega), if_pos ⟨by omega, h2⟩]
      congr 1
      simp; omega
    · rw [List.getElem?_append_right (by simp; omega), List.getElem?_drop, if_neg (by omega)]
      congr 1
      simp; omega

theorem spliceL_len {cs vs : List AV} {off : Nat} (h : off + vs.length ≤ cs.length) : (spliceL cs off vs).length = cs.length := by
  simp [spliceL]; omega

/-- The row's cells behind storeCells. -/
theorem splice_arr {arr : Array Value} {o : Nat} {us : List Value} (h : o + us.length ≤ arr.size) (j : Nat) :
    (arr.toList.take o ++ us ++ arr.toList.drop (o + us.length)).toArray[j]? = if o ≤ j ∧ j < o + us.length then us[j - o]? else arr[j]? := by
  simp only [List.getElem?_toArray]
  by_cases h1 : j < o
  · rw [List.append_assoc, List.getElem?_append_left (by simp; omega), List.getElem?_take, if_pos h1, if_neg (by omega)]
    simp
  · rw [List.append_assoc, List.getElem?_append_right (by simp; omega)]
    by_cases h2 : j < o + us.length
    · rw [List.getElem?_append_left (by simp; omega), if_pos ⟨by omega, h2⟩]
      congr 1
      simp; omega
    · rw [List.getElem?_append_right (by simp; omega), List.getElem?_drop, if_neg (by omega)]
      rw [Array.getElem?_toList]
      congr 1
      simp; omega

theorem splice_size {arr : Array Value} {o : Nat} {us : List Value} (h : o + us.length ≤ arr.size) : (arr.toList.take o ++ us ++ arr.toList.drop (o + us.length)).toArray.size = arr.size := by
  simp; omega

def mkE (e : AV) (cs : List AV) : AV :=
  match e with
  | .agg _ => .agg cs
  | _ => cs.headD .junk

theorem flat_set {q : Nat} {elems : List AV} (hk : ∀ x ∈ elems, (cellsOf x).length = q) {i : Nat} (hi : i < elems.length) {e : AV} (he : (cellsOf e).length = q) :
    flat (elems.set i e) = spliceL (flat elems) (i * q) (cellsOf e) := by
  rw [List.set_eq_take_append_cons_drop, if_pos hi, flat_append]
  simp only [flat, spliceL]
  rw [flat_take _ _ hk (by omega), flat_drop _ _ hk (by omega), he, List.append_assoc, Nat.succ_mul]

def storeVC (T : Nat → Option TI) (s : St) (t : Nat) (x y : AV) (k : AV → Eff → Prop) : Prop :=
  match T t with
  | some ti => un none x fun x => un none y fun y =>
    match (cellsOf y).all AV.isCell, Nat.beq (cellsOf y).length ti.size with
    | true, true => match x with
      | .ptr b i off g => match s.heap[b]? with
        | some (.box cs false) => match Nat.beq g 0, Nat.beq i 0, Nat.ble (off + (cellsOf y).length) cs.length with
          | true, true, true => k .junk (.set b (.box (spliceL cs off (cellsOf y)) false))
          | _, _, _ => False
        | some (.row elems q g') => match (cellsOf y).all AV.dcell with
          | true => ∃ e, (g' = g ∧ elems[i]? = some e ∧ off + (cellsOf y).length ≤ (cellsOf e).length) ∧ k .junk (.set b (.row (elems.set i (mkE e (spliceL (cellsOf e) off (cellsOf y)))) q g'))
          | false => False
        | _ => False
      | _ => False
    | _, _ => False
  | none => False

theorem store_ok {P : Program} {T : Nat → Option TI} (hT : TOk P T) {o : Oper} {s : St} {k : AV → Eff → Prop} {t : Nat} {x y : Operand} (ho : o.op = .store t x y) (h : storeVC T s t (ev s x) (ev s y) k) : Good P none o s k := by
  unfold storeVC at h
  split at h
  case h_2 => exact h.elim
  rename_i ti ht
  obtain ⟨vx, h1, hbx, hx⟩ := un_blk h
  clear h
  obtain ⟨vy, h, hy⟩ := un_spec h1
  clear h1
  split at h
  case h_2 => exact h.elim
  rename_i hcell hsz
  have hsz : (cellsOf vy).length = ti.size := Nat.eq_of_beq_eq_true hsz
  split at h
  case h_2 => exact h.elim
  rename_i b i off g
  have hac : ∀ b, b ∈ blkOf (ev s x) → b ∈ accOf o s := fun b hb => by simp [accOf, ho]; exact hb
  have hb0 : b ∈ accOf o s := hac b (hbx b (by simp [blkOf]))
  have run : ∀ (a : Act) (w : World) imm (φ : Phi) (arr : Array Value) ty blk o', (∀ x ∈ o.op.operands, VRel w.cell? imm φ (ev s x) (a.eval x)) → a.eval x = .pointer (some ⟨blk, o', none⟩) → w.heap[blk]? = some (.cells arr ty (0, 0)) →
      o' + (cellsOf vy).length ≤ arr.size → ∃ us : List Value, us.length = (cellsOf vy).length ∧ (∀ (j : Nat) (c : AV), (cellsOf vy)[j]? = some c → ∃ u, us[j]? = some u ∧ VRel w.cell? imm φ c u) ∧
        (execOp a.eval o).run P w = .ok .skip (w.setRow blk (arr.toList.take o' ++ us ++ arr.toList.drop (o' + us.length)).toArray) := by
    intro a w imm φ arr ty blk o' hev e ha hl
    have r2 := hy (hev y (by simp [ho, Op.operands]))
    obtain ⟨c1, c2⟩ := vrel_cells r2 hcell
    refine ⟨(a.eval y).cells.toList, by simpa using c1, fun j c hj => ?_, ?_⟩
    · obtain ⟨u, h1, h2⟩ := c2 j c hj
      exact ⟨u, by simpa using h1, h2⟩
    · have hst := run_storeCells_at P blk o' ty (a.eval y).cells.toList 0 arr w ha (by simp [c1]; omega) fun v hv => by
        obtain ⟨j, hj, rfl⟩ := List.getElem_of_mem hv
        simp at hj
        obtain ⟨u, h1, h2⟩ := c2 j (cellsOf vy)[j] (by simp [show j < (cellsOf vy).length by omega])
        have : u = (a.eval y).cells[j] := by simp [hj] at h1; exact h1.symm
        simp only [Array.getElem_toList]
        rw [← this]
        exact h2.oneCell (by simpa using (List.all_eq_true.1 hcell) _ (List.getElem_mem _))
      simp only [Nat.add_zero] at hst
      simp [execOp, ho, Instr.storeAt, e, Instr.sureAddr, storeVar, hT.run_sizeOf ht, c1, hsz, hst]
  split at h
  · rename_i cs hsb
    split at h
    case h_2 => exact h.elim
    rename_i hg0 hi0 hle
    have hg0 : g = 0 := by simpa using hg0
    have hi0 : i = 0 := by simpa using hi0
    have hle : off + (cellsOf vy).length ≤ cs.length := Nat.le_of_ble_eq_true hle
    subst hg0; subst hi0
    refine ⟨_, .set _ _, fun a w imm φ H hev hH hid hacc => ?_, (List.getElem?_eq_some_iff.1 hsb).1, h⟩
    have r := hx (hev x (by simp [ho, Op.operands]))
    generalize hu : a.eval x = u at r
    cases r with
    | ptr _ _ _ _ _ _ rb hb hg hs hv =>
      obtain ⟨z, hz, hbr⟩ := hH.blk b rb hb
      rw [hacc b hb0, hsb] at hz
      cases hz
      obtain ⟨h1, h2, h3, h4, hsp, arr, ty, ha, hl, hc⟩ := hbr
      have e := hv h1
      rw [Nat.zero_mul, Nat.zero_add, Addr.add_off hsp] at e
      subst e
      obtain ⟨us, u1, u2, u3⟩ := run a w imm φ arr ty _ _ hev hu ha (by omega)
      refine .of_skip u3 (After.write hH hb h3 ha fun hmono hnew => ⟨h1, by rw [spliceL_len hle]; exact h2, h3, fun c hcm => ?_, hsp, _, ty, hnew, by rw [splice_size (by omega), spliceL_len hle]; exact hl, fun j c hj => ?_⟩)
      · simp only [spliceL, List.mem_append] at hcm
        rcases hcm with (hcm | hcm) | hcm
        · exact h4 c (List.mem_of_mem_take hcm)
        · exact by simpa using (List.all_eq_true.1 hcell) c hcm
        · exact h4 c (List.mem_of_mem_drop hcm)
      · rw [spliceL_get hle] at hj
        rw [splice_arr (by omega)]
        split at hj
        · rename_i hin
          obtain ⟨u, q1, q2⟩ := u2 _ c hj
          exact ⟨u, by rw [if_pos (by omega), show rb.base.off + j - (rb.base.off + off) = j - off by omega]; exact q1, hmono φ (phi_refl φ) _ _ q2⟩
        · rename_i hin
          obtain ⟨u, q1, q2⟩ := hc j c hj
          exact ⟨u, by rw [if_neg (by omega)]; exact q1, hmono φ (phi_refl φ) _ _ q2⟩
  · rename_i elems q g' hsb
    split at h
    case h_2 => exact h.elim
    rename_i hdc
    obtain ⟨e, ⟨hge, hel, hle⟩, h⟩ := h
    refine ⟨_, .set _ _, fun a w imm φ H hev hH hid hacc => ?_, (List.getElem?_eq_some_iff.1 hsb).1, h⟩
    have r := hx (hev x (by simp [ho, Op.operands]))
    generalize hu : a.eval x = u at r
    cases r with
    | ptr _ _ _ _ _ _ rb hb hg hs hv =>
      obtain ⟨z, hz, hbr⟩ := hH.blk b rb hb
      rw [hacc b hb0, hsb] at hz
      cases hz
      obtain ⟨h1, h2, h3, h3', h4, h5, h6, hsp, arr, ty, ha, hl, hc⟩ := hbr
      have e' := hv (by omega)
      rw [h2, Addr.add_off hsp] at e'
      subst e'
      have hil : i < elems.length := (List.getElem?_eq_some_iff.1 hel).1
      have hke : (cellsOf e).length = q := h5 e (List.mem_of_getElem? hel)
      have hfl : (flat elems).length = elems.length * q := flat_len elems h5
      have hmul : i * q + q ≤ elems.length * q := by
        have := Nat.mul_le_mul_right q (show i + 1 ≤ elems.length by omega)
        rw [Nat.succ_mul] at this
        exact this
      have hroom : elems.length * q ≤ rb.room * q := Nat.mul_le_mul_right q (by omega)
      obtain ⟨us, u1, u2, u3⟩ := run a w imm φ arr ty _ _ hev hu ha (by omega)
      have hcm : cellsOf (mkE e (spliceL (cellsOf e) off (cellsOf vy))) = spliceL (cellsOf e) off (cellsOf vy) := by
        cases e with
        | agg ce => rfl
        | _ =>
          have hle' : off + (cellsOf vy).length ≤ 1 := hle
          have hoff : (cellsOf vy).length = 0 ∨ (off = 0 ∧ (cellsOf vy).length = 1) := by omega
          rcases hoff with h0 | ⟨h0, h1'⟩
          · have hnil := List.eq_nil_of_length_eq_zero h0
            rw [hnil]
            have hoff1 : off = 0 ∨ off = 1 := by omega
            rcases hoff1 with rfl | rfl <;> simp [spliceL, cellsOf, mkE]
          · subst h0
            obtain ⟨vc, hvc⟩ := List.length_eq_one_iff.1 h1'
            rw [hvc]
            have hone : vc.isCell = true := by have := (List.all_eq_true.1 hcell) vc (by rw [hvc]; simp); simpa using this
            simp [spliceL, cellsOf, mkE]
            cases vc <;> simp [AV.isCell] at hone <;> rfl
      have hlen' : (spliceL (cellsOf e) off (cellsOf vy)).length = q := by rw [spliceL_len hle, hke]
      have hkeep : ∀ x ∈ elems.set i (mkE e (spliceL (cellsOf e) off (cellsOf vy))), (cellsOf x).length = q := by
        intro x hx
        rcases List.mem_or_eq_of_mem_set hx with hx | rfl
        · exact h5 x hx
        · rw [hcm, hlen']
      have hfs := flat_set h5 hil (e := mkE e (spliceL (cellsOf e) off (cellsOf vy))) (by rw [hcm, hlen'])
      rw [hcm] at hfs
      have hb1 : i * q + (spliceL (cellsOf e) off (cellsOf vy)).length ≤ (flat elems).length := by omega
      refine .of_skip u3 (After.write hH hb h4 ha fun hmono hnew => ⟨h1, h2, by simpa using h3, h3', h4, hkeep, fun c hcm' => ?_, hsp, _, ty, hnew, by rw [splice_size (by omega)]; exact hl, fun j c hj => ?_⟩)
      · rw [hfs] at hcm'
        simp only [spliceL, List.mem_append] at hcm'
        rcases hcm' with (hcm' | (hcm' | hcm') | hcm') | hcm'
        · exact h6 c (List.mem_of_mem_take hcm')
        · refine h6 c ?_
          obtain ⟨j, hj, rfl⟩ := List.getElem_of_mem (List.mem_of_mem_take hcm')
          exact List.mem_of_getElem? (flat_get elems h5 i e j _ hel (by simp))
        · exact by simpa using (List.all_eq_true.1 hdc) c hcm'
        · refine h6 c ?_
          obtain ⟨j, hj, rfl⟩ := List.getElem_of_mem (List.mem_of_mem_drop hcm')
          exact List.mem_of_getElem? (flat_get elems h5 i e j _ hel (by simp))
        · exact h6 c (List.mem_of_mem_drop hcm')
      · rw [hfs, spliceL_get hb1] at hj
        rw [splice_arr (by omega)]
        split at hj
        · rename_i hin
          rw [spliceL_get hle] at hj
          split at hj
          · rename_i hin2
            obtain ⟨u, q1, q2⟩ := u2 _ c hj
            have hdcc : c.dcell = true := by simpa using (List.all_eq_true.1 hdc) c (List.mem_of_getElem? hj)
            exact ⟨u, by rw [if_pos (by omega), show rb.base.off + j - (rb.base.off + (i * q + off)) = j - i * q - off by omega]; exact q1, hmono Phi.none (phi_refl _) _ _ (q2.dcell hdcc)⟩
          · rename_i hin2
            have := flat_get elems h5 i e _ c hel hj
            rw [show i * q + (j - i * q) = j by omega] at this
            obtain ⟨u, q1, q2⟩ := hc j c this
            exact ⟨u, by rw [if_neg (by omega)]; exact q1, hmono Phi.none (phi_refl _) _ _ q2⟩
        · rename_i hin
          obtain ⟨u, q1, q2⟩ := hc j c hj
          exact ⟨u, by rw [if_neg (by omega)]; exact q1, hmono Phi.none (phi_refl _) _ _ q2⟩
  · exact h.elim

end Vm
end Go.Proofs.YtdbpcmpkpbamhaaGreatDoor

/- The abstract machine: structs and slices that are built, made, and appended to. -/
namespace Go.Proofs.YtdbpcmpkpbamhaaGreatDoor
set_option linter.unusedVariables false
set_option linter.unusedSimpArgs false
namespace Vm
open Go

/-! ### Filling -/
theorem fold_set (vs : List Value) : ∀ (cs : Array Value) (off n : Nat), off + n + vs.length ≤ cs.size →
    ((vs.zipIdx n).foldl (fun cs (p : Value × Nat) => cs.setIfInBounds (off + p.2) p.1) cs).size = cs.size ∧
    ∀ j : Nat, ((vs.zipIdx n).foldl (fun cs (p : Value × Nat) => cs.setIfInBounds (off + p.2) p.1) cs)[j]? = if off + n ≤ j ∧ j < off + n + vs.length then vs[j - (off + n)]? else cs[j]? := by
  induction vs with
  | nil => intro cs off n h; exact ⟨rfl, fun j => by simp; omega⟩
  | cons v vs ih =>
    intro cs off n h
    simp only [List.zipIdx_cons, List.foldl_cons]
    have hl : off + (n + 1) + vs.length ≤ (cs.setIfInBounds (off + n) v).size := by simp at h ⊢; omega
    obtain ⟨h1, h2⟩ := ih (cs.setIfInBounds (off + n) v) off (n + 1) hl
    refine ⟨by rw [h1]; simp, fun j => ?_⟩
    rw [h2 j]
    simp only [List.length_cons] at h ⊢
    by_cases e : j = off + n
    · subst e
      rw [if_neg (by omega), if_pos (by omega), Array.getElem?_setIfInBounds]
      simp; omega
    · by_cases hin : off + (n + 1) ≤ j ∧ j < off + (n + 1) + vs.length
      · rw [if_pos hin, if_pos (by omega), show j - (off + n) = (j - (off + (n + 1))) + 1 by omega, List.getElem?_cons_succ]
      · rw [if_neg hin, if_neg (by omega), Array.getElem?_setIfInBounds, if_neg (by omega)]

def CellsRel (cell : Addr → Option Value) (imm : Nat → Prop) (φ : Phi) (cs : List AV) (us : Array Value) : Prop :=
  us.size = cs.length ∧ ∀ (j : Nat) (c : AV) (u : Value), cs[j]? = some c → us[j]? = some u → VRel cell imm φ c u

def fillL (place : Nat → Option (Nat × Nat)) : List AV → List (Nat × AV) → Option (List AV)
  | cs, [] => some cs
  | cs, (i, x) :: rest =>
    match place i with
    | some (off, size) => match (cellsOf x).all AV.isCell, Nat.beq (cellsOf x).length size, Nat.ble (off + (cellsOf x).length) cs.length with
      | true, true, true => fillL place (spliceL cs off (cellsOf x)) rest
      | _, _, _ => none
    | none => none

theorem fill_one {cell : Addr → Option Value} {imm : Nat → Prop} {φ : Phi} {cs : List AV} {us : Array Value} {x : AV} {v : Value} {off : Nat} (h : CellsRel cell imm φ cs us) (hv : VRel cell imm φ x v)
    (hc : (cellsOf x).all AV.isCell = true) (hl : off + (cellsOf x).length ≤ cs.length) :
    CellsRel cell imm φ (spliceL cs off (cellsOf x)) (v.cells.zipIdx.foldl (fun cs (p : Value × Nat) => cs.setIfInBounds (off + p.2) p.1) us) := by
  obtain ⟨h1, h2⟩ := vrel_cells hv hc
  have e : v.cells.zipIdx.foldl (fun cs (p : Value × Nat) => cs.setIfInBounds (off + p.2) p.1) us = (v.cells.toList.zipIdx 0).foldl (fun cs (p : Value × Nat) => cs.setIfInBounds (off + p.2) p.1) us := by
    rw [← Array.foldl_toList, Array.toList_zipIdx]
  have hsz : off + 0 + v.cells.toList.length ≤ us.size := by simp [h1, h.1]; omega
  obtain ⟨f1, f2⟩ := fold_set v.cells.toList us off 0 hsz
  rw [e]
  refine ⟨by rw [f1, h.1, spliceL_len hl], fun j c u hj hu => ?_⟩
  rw [f2] at hu
  rw [spliceL_get hl] at hj
  simp only [Nat.add_zero, Array.length_toList, h1] at hu
  split at hj
  · rename_i hin
    rw [if_pos hin] at hu
    obtain ⟨u', q1, q2⟩ := h2 _ c hj
    have : u = u' := by
      rw [Array.getElem?_toList] at hu
      rw [q1] at hu
      exact (Option.some.inj hu).symm
    rw [this]; exact q2
  · rename_i hin
    rw [if_neg hin] at hu
    exact h.2 j c u hj hu

theorem fill_rel {cell : Addr → Option Value} {imm : Nat → Prop} {φ : Phi} {place : Nat → Option (Nat × Nat)} (ev : Operand → AV) (rv : Operand → Value) : ∀ (parts : List (Nat × Operand)) (cs cs' : List AV) (us : Array Value),
    CellsRel cell imm φ cs us → (∀ p ∈ parts, VRel cell imm φ (ev p.2) (rv p.2)) → fillL place cs (parts.map fun p => (p.1, ev p.2)) = some cs' →
    ∃ us', Instr.fill place us (parts.map fun p => (p.1, rv p.2)) = some us' ∧ CellsRel cell imm φ cs' us'
  | [], cs, cs', us, h, _, hf => by simp [fillL] at hf; subst hf; exact ⟨us, rfl, h⟩
  | (i, x) :: parts, cs, cs', us, h, hp, hf => by
    simp only [List.map_cons, fillL] at hf
    split at hf
    case h_2 => cases hf
    rename_i off size hpl
    split at hf
    case h_2 => cases hf
    rename_i hc hsz hle
    have hsz := Nat.eq_of_beq_eq_true hsz
    have hle := Nat.le_of_ble_eq_true hle
    have hv := hp (i, x) (by simp)
    have h1 := fill_one h hv hc hle
    obtain ⟨us', f1, f2⟩ := fill_rel ev rv parts _ cs' _ h1 (fun p hp' => hp p (by simp [hp'])) hf
    obtain ⟨c1, _⟩ := vrel_cells hv hc
    refine ⟨us', ?_, f2⟩
    simp only [List.map_cons, Instr.fill, hpl]
    rw [if_neg ?_]
    · exact f1
    · simp only [c1, hsz, ne_eq, not_true_eq_false, Bool.or_eq_true, decide_eq_true_eq, gt_iff_lt, false_or, Nat.not_lt, decide_false, Bool.false_or]
      rw [h.1, ← hsz]; exact hle

theorem ofConst_cells {cell : Addr → Option Value} {imm : Nat → Prop} {φ : Phi} (z : Value) : CellsRel cell imm φ (z.cells.toList.map ofConst1) z.cells := by
  refine ⟨by simp, fun j c u h1 h2 => ?_⟩
  simp at h1
  obtain ⟨y, hy, rfl⟩ := h1
  rw [h2] at hy; cases hy
  exact ofConst1_rel _

def placeOf (T : Nat → Option TI) (fs : Array Field) (i : Nat) : Option (Nat × Nat) :=
  match fs[i]? with
  | some fd => match T fd.type with
    | some ti => some (fd.offset, ti.size)
    | none => none
  | none => none

def buildVC (T : Nat → Option TI) (s : St) (t : Nat) (parts : Array (Nat × Operand)) (k : AV → Eff → Prop) : Prop :=
  match T t with
  | some ti => match ti.u, ti.zero with
    | .struct fs, some z => match fs.toList.all (fun f => (T f.type).isSome) with
      | true => match fillL (placeOf T fs) (z.cells.toList.map ofConst1) (parts.toList.map fun p => (p.1, ev s p.2)) with
        | some cs => k (.agg cs) .none
        | none => False
      | false => False
    | _, _ => False
  | none => False

theorem build_ok {P : Program} {T : Nat → Option TI} (hT : TOk P T) {c : Option Bool} {o : Oper} {s : St} {k : AV → Eff → Prop} {t : Nat} {parts : Array (Nat × Operand)} (ho : o.op = .build t parts) (h : buildVC T s t parts k) : Good P c o s k := by
  unfold buildVC at h
  split at h
  case h_2 => exact h.elim
  rename_i ti ht
  split at h
  case h_2 => exact h.elim
  rename_i fs z hu hz
  split at h
  case h_2 => exact h.elim
  rename_i hall
  split at h
  case h_2 => exact h.elim
  rename_i cs hf
  refine good_pure h (.of fun a w imm φ hev => ?_)
  obtain ⟨us', f1, f2⟩ := fill_rel (ev s) a.eval parts.toList _ cs z.cells (ofConst_cells z) (fun p hp => hev p.2 (by
    simp only [ho, Op.operands, List.mem_toArray, List.mem_map]
    exact ⟨p, hp, rfl⟩)) hf
  refine ⟨.agg us', ?_, .agg _ _ _ f2.1 f2.2⟩
  obtain ⟨it, i1, i2, i3, i4⟩ := hT.info t ti ht
  have hun := hT.under t ti ht
  rw [hu] at hun
  have hpl : fs.toList.mapM (fun f => (P.info? f.type).map fun i => (f.offset, i.size)) = some (fs.toList.map fun f => (f.offset, ((T f.type).map TI.size).getD 0)) := by
    generalize fs.toList = l at hall
    induction l with
    | nil => rfl
    | cons f l ih =>
      simp at hall
      obtain ⟨tj, hj⟩ := Option.isSome_iff_exists.1 hall.1
      obtain ⟨ij, j1, j2, _⟩ := hT.info _ _ hj
      simp only [List.mapM_cons, j1, Option.map_some, Option.bind_eq_bind, Option.bind_some, ih (by simpa using hall.2), List.map_cons, hj, Option.getD_some, j2]
      rfl
  have hb : P.built t (parts.toList.map fun p => (p.1, a.eval p.2)) = some us' := by
    simp only [Program.built, i1, hun, i4, hz, hpl]
    rw [← f1]
    congr 1
    funext i
    unfold placeOf
    simp only [List.getElem?_toArray, List.getElem?_map, Array.getElem?_toList]
    cases hfi : fs[i]? with
    | none => rfl
    | some fd =>
      have hmem : fd ∈ fs.toList := by simpa using Array.mem_of_getElem? hfi
      obtain ⟨tj, hj⟩ := Option.isSome_iff_exists.1 ((List.all_eq_true.1 hall) fd hmem)
      simp [hj]
  have hr := run_build (P := P) w t (parts.map fun p => (p.1, a.eval p.2)) us' (by simpa using hb)
  simp only [execOp, ho, hr, Sem.run_bind]
  simp [hr]

end Vm
end Go.Proofs.YtdbpcmpkpbamhaaGreatDoor

/- The abstract machine: slices that are built, made, and appended to. -/
namespace Go.Proofs.YtdbpcmpkpbamhaaGreatDoor
set_option linter.unusedVariables false
set_option linter.unusedSimpArgs false
namespace Vm
open Go

def seqIdx : Nat → List (Nat × Operand) → Bool
  | _, [] => true
  | n, (i, _) :: r => match Nat.beq i n with
    | true => seqIdx (n + 1) r
    | false => false

/-- Filling a row from left to right. -/
theorem fill_seq {cell : Addr → Option Value} {imm : Nat → Prop} {φ : Phi} (rv : Operand → Value) (size len : Nat) : ∀ (parts : List (Nat × Operand)) (n : Nat) (xs done : List AV) (us : Array Value),
    seqIdx n parts = true → xs.length = parts.length → done.length = n → (∀ x ∈ done, (cellsOf x).length = size) → (∀ x ∈ xs, (cellsOf x).length = size) → (∀ x ∈ xs, (cellsOf x).all AV.isCell = true) → n + xs.length = len →
    CellsRel cell imm φ (flat done ++ List.replicate (xs.length * size) .junk) us → (∀ (i : Nat) (p : Nat × Operand) (x : AV), parts[i]? = some p → xs[i]? = some x → VRel cell imm φ x (rv p.2)) →
    ∃ us', Instr.fill (fun i => some (i * size, size)) us (parts.map fun p => (p.1, rv p.2)) = some us' ∧ CellsRel cell imm φ (flat (done ++ xs)) us'
  | [], n, xs, done, us, hs, hxl, hd, hk1, hk2, hc, hl, hr, hp => by
    have : xs = [] := List.eq_nil_of_length_eq_zero (by simpa using hxl)
    subst this
    exact ⟨us, rfl, by simpa using hr⟩
  | (i, o) :: parts, n, xs, done, us, hs, hxl, hd, hk1, hk2, hc, hl, hr, hp => by
    simp only [seqIdx] at hs
    split at hs
    case h_2 => cases hs
    rename_i hi
    have hi := Nat.eq_of_beq_eq_true hi
    subst hi
    match xs, hxl with
    | x :: ys, hxl =>
    have hv := hp 0 (i, o) x rfl rfl
    have hcx := hc x (by simp)
    have hkx := hk2 x (by simp)
    have hfl : (flat done).length = i * size := by rw [flat_len _ hk1, hd]
    have hle : i * size + (cellsOf x).length ≤ (flat done ++ List.replicate ((x :: ys).length * size) AV.junk).length := by
      simp [hfl, hkx, Nat.succ_mul]
    have h1 := fill_one hr hv hcx hle
    have e : spliceL (flat done ++ List.replicate ((x :: ys).length * size) AV.junk) (i * size) (cellsOf x) = flat (done ++ [x]) ++ List.replicate (ys.length * size) AV.junk := by
      unfold spliceL
      rw [← hfl, List.take_left', flat_append]
      · simp only [flat, List.append_nil, List.append_assoc]
        congr 2
        rw [List.drop_append, List.drop_eq_nil_of_le (by omega), List.nil_append, hkx, List.drop_replicate]
        congr 1
        simp [Nat.succ_mul]
      · rfl
    rw [e] at h1
    obtain ⟨us', f1, f2⟩ := fill_seq rv size len parts (i + 1) ys (done ++ [x]) _ hs (by simpa using hxl) (by simp [hd]) (fun y hy => by
        rcases List.mem_append.1 hy with hy | hy
        · exact hk1 y hy
        · simp at hy; subst hy; exact hkx) (fun y hy => hk2 y (by simp [hy])) (fun y hy => hc y (by simp [hy])) (by simp at hl ⊢; omega) h1 (fun j p y h1 h2 => hp (j + 1) p y (by simpa using h1) (by simpa using h2))
    obtain ⟨c1, _⟩ := vrel_cells hv hcx
    refine ⟨us', ?_, by simpa using f2⟩
    simp only [List.map_cons, Instr.fill]
    rw [if_neg ?_]
    · exact f1
    · simp only [c1, hkx, ne_eq, not_true_eq_false, Bool.or_eq_true, decide_eq_true_eq, gt_iff_lt, false_or, Nat.not_lt, decide_false, Bool.false_or]
      rw [hr.1]
      simp [hfl, Nat.succ_mul]

def buildSliceVC (T : Nat → Option TI) (c : Option Bool) (s : St) (t len : Nat) (parts : Array (Nat × Operand)) (k : AV → Eff → Prop) : Prop :=
  match T t with
  | some ti => match ti.u with
    | .slice e => match T e with
      | some te => match len with
        | 0 => match c, parts.toList with
          | none, [] => k (.ref s.heap.length 0 0 (some 0) 0 te.size) (.alloc (.row [] te.size 0))
          | _, _ => False
        | len + 1 => match te.zero, seqIdx 0 parts.toList with
          | some z, true => unL c (parts.toList.map fun p => ev s p.2) fun xs => match Nat.beq xs.length (len + 1), xs.all (fun x => Nat.beq (cellsOf x).length te.size && (cellsOf x).all AV.dcell), Nat.beq z.cells.size te.size && Nat.ble ((len + 1) * te.size) 16777216 with
            | true, true, true => forceLD xs fun xs => k (.sl (some false) (some (len + 1)) te.size xs) .none
            | _, _, _ => False
          | _, _ => False
      | none => False
    | _ => False
  | none => False

/-- New memory that nobody will write. -/
theorem After.imm {w w' : World} {imm : Nat → Prop} {φ : Phi} {H : Nat → Option Blk} {id : Nat} {arr : Array Value} {ty : TypeId} {d : AV} {v : Value} (hH : Heap w imm φ H)
    (h1 : w'.os = w.os) (h2 : w'.tape = w.tape) (h3 : w'.output = w.output) (h4 : w.drawn ≤ w'.drawn) (h5 : w'.heap = w.heap.push (.cells arr ty (0, 0)))
    (hv : (∀ ψ, (∀ b rb, ψ b = some rb → ∃ rb', ψ b = some rb' ∧ rb.gen ≤ rb'.gen ∧ (rb'.gen = rb.gen → rb' = rb)) → ∀ y u, VRel w.cell? imm ψ y u → VRel w'.cell? (fun r => imm r ∨ r = w.heap.size) ψ y u) →
      w'.heap[w.heap.size]? = some (.cells arr ty (0, 0)) → VRel w'.cell? (fun r => imm r ∨ r = w.heap.size) φ d v) : After w imm φ H id d .none v w' := by
  have hold : ∀ r, r < w.heap.size → w'.heap[r]? = w.heap[r]? := fun r hr => by rw [h5, Array.getElem?_push, if_neg (by omega)]
  have t : ∀ wr, Trans w imm φ w' (fun r => imm r ∨ r = w.heap.size) φ wr := fun wr =>
    ⟨h1, h2, h3, h4, by rw [h5]; simp, fun r hr _ => hold r hr, fun r hr => hold r (hH.immLt r hr), fun r hr => .inl hr, fun r hr => by
      rcases hr with hr | hr
      · exact .inl hr
      · exact .inr (.inl (by omega)), fun b rb h => ⟨rb, h, Nat.le_refl _, fun _ => rfl⟩, fun b rb h => .inl ⟨rb, h, .inl rfl⟩⟩
  have hb : ∀ r, (imm r ∨ r = w.heap.size) → r < w'.heap.size := fun r hr => by
    rw [h5]
    rcases hr with hr | hr
    · have := hH.immLt r hr; simp; omega
    · simp; omega
  refine ⟨_, φ, hv (fun ψ hψ y u hy => hy.mono (fun a u hi hc => by rw [cell_of_heap (hold _ (hH.immLt _ hi))]; exact hc) (fun r hr => .inl hr) hψ) (by rw [h5]; simp), t _, hH.keep (t _) hb, fun b h1 h2 => absurd h1 h2, fun h => by simp [Eff.isNew] at h⟩

theorem buildSlice_ok {P : Program} {T : Nat → Option TI} (hT : TOk P T) {c : Option Bool} {o : Oper} {s : St} {k : AV → Eff → Prop} {t len : Nat} {parts : Array (Nat × Operand)} (ho : o.op = .buildSlice t len parts) (h : buildSliceVC T c s t len parts k) : Good P c o s k := by
  unfold buildSliceVC at h
  split at h
  case h_2 => exact h.elim
  rename_i ti ht
  split at h
  case h_2 => exact h.elim
  rename_i e hu
  split at h
  case h_2 => exact h.elim
  rename_i te hte
  split at h
  · split at h
    case h_2 => exact h.elim
    rename_i hpn
    refine ⟨_, .alloc _, fun a w imm φ H hev hH hid hacc => ?_, trivial, h⟩
    have r1 := hT.run_underlying ht w
    rw [hu] at r1
    refine .of_run (w' := { w with heap := w.heap.push (.cells #[] e) }) (v := .slice (some ⟨w.heap.size, 0, none⟩) 0 0) ?_ ?_
    · have hp0 : parts = #[] := by simpa using hpn
      simp [execOp, ho, Instr.buildSlice, r1, hT.run_sizeOf hte, hp0, Instr.fill, newRow, Array.range_zero']
    · refine After.alloc (rb := ⟨⟨w.heap.size, 0, none⟩, te.size, 0, 0, 0⟩) hH (hid rfl) rfl rfl rfl (Nat.le_refl _) rfl rfl (fun hmono hnew hni => ?_) fun hself => ?_
      · exact ⟨rfl, rfl, rfl, Nat.le_refl _, hni, by simp, by simp [flat], rfl, _, e, hnew, by simp, fun j c hj => by simp [flat] at hj⟩
      · exact .ref _ _ _ _ _ _ _ _ _ hself (Nat.le_refl _) ⟨_, _, rfl, Nat.le_refl _⟩ fun _ => ⟨rfl, _, _, rfl, Nat.le_refl _, Nat.le_refl _, fun e => by simp at e, fun m e => by simp at e; exact e, fun h => by omega, rfl⟩
  · rename_i len
    split at h
    case h_2 => exact h.elim
    rename_i z hz hxs
    obtain ⟨xs, h, hxl, hun'⟩ := unL_spec _ h
    split at h
    case h_2 => exact h.elim
    rename_i hl hc hle
    rw [forceLD_eq] at h
    have hl := Nat.eq_of_beq_eq_true hl
    simp only [Bool.and_eq_true] at hle
    have hzs := Nat.eq_of_beq_eq_true hle.1
    have hle := Nat.le_of_ble_eq_true hle.2
    have hk : ∀ x ∈ xs, (cellsOf x).length = te.size := fun x hx => by
      have := (List.all_eq_true.1 hc) x hx
      simp only [Bool.and_eq_true] at this
      exact Nat.eq_of_beq_eq_true this.1
    have hd : ∀ x ∈ xs, ∀ c ∈ cellsOf x, c.dcell = true := fun x hx c hcx => by
      have := (List.all_eq_true.1 hc) x hx
      simp only [Bool.and_eq_true] at this
      exact (List.all_eq_true.1 this.2) c hcx
    refine ⟨_, .none, hun'.mono fun hun' a w imm φ H hev hH hid hacc => ?_, trivial, h⟩
    have r1 := hT.run_underlying ht w
    rw [hu] at r1
    obtain ⟨us, f1, f2⟩ := fill_seq (cell := w.cell?) (imm := imm) (φ := φ) a.eval te.size (len + 1) parts.toList 0 xs [] ((Array.range ((len + 1) * te.size)).map (z.cells[· % z.cells.size]!)) hxs (by simpa using hxl) rfl (by simp) hk
      (fun x hx => List.all_eq_true.2 fun c hcx => dcell_isCell (hd x hx c hcx)) (by omega) ⟨by simp [flat, hl], fun j c u h1 h2 => by
        simp only [flat, List.nil_append, List.getElem?_replicate] at h1
        split at h1
        · cases h1; exact .junk _ _
        · cases h1⟩ (fun i p x hp hx => hun' i (ev s p.2) x _ (by simp only [List.getElem?_map, hp, Option.map_some]) hx (hev p.2 (by
          simp only [ho, Op.operands, List.mem_toArray, List.mem_map]
          exact ⟨p, List.mem_of_getElem? hp, rfl⟩)))
    simp only [List.nil_append] at f2
    refine .of_run (w' := { w with heap := w.heap.push (.cells us e) }) (v := .slice (some ⟨w.heap.size, 0, none⟩) (len + 1) (len + 1)) ?_ ?_
    · have hn : ¬ (16777216 < (len + 1) * te.size) := by omega
      by_cases h0 : (len + 1) * te.size = 0
      · have hsz : te.size = 0 := by rcases Nat.mul_eq_zero.1 h0 with h | h <;> omega
        simp only [hsz, Nat.mul_zero, Array.range_zero', Array.map_empty] at f1
        simp [execOp, ho, Instr.buildSlice, r1, hT.run_sizeOf hte, hsz, f1, newRow, Array.range_zero']
      · simp [execOp, ho, Instr.buildSlice, r1, hT.run_sizeOf hte, hn, h0, hT.run_zeroValue hte hz, f1, newRow]
    · refine After.imm hH rfl rfl rfl (Nat.le_refl _) rfl fun hmono hnew => ?_
      rw [← hl]
      refine .sl _ _ _ _ _ _ _ (fun j => us.getD j undef) (by simp) (.inr rfl) (Nat.le_refl _) rfl hk (fun j c hj => ?_) fun j c hj => ?_
      · have hlt : j < us.size := by rw [f2.1]; exact (List.getElem?_eq_some_iff.1 hj).1
        obtain ⟨y, hy, hcy⟩ : ∃ y ∈ xs, c ∈ cellsOf y := by
          have : ∀ (l : List AV), c ∈ flat l → ∃ y ∈ l, c ∈ cellsOf y := by
            intro l
            induction l with
            | nil => simp [flat]
            | cons y l ih =>
              intro hm
              simp only [flat, List.mem_append] at hm
              rcases hm with hm | hm
              · exact ⟨y, by simp, hm⟩
              · obtain ⟨z, h1, h2⟩ := ih hm; exact ⟨z, by simp [h1], h2⟩
          exact this xs (List.mem_of_getElem? hj)
        refine ⟨.inr rfl, hd y hy c hcy, ?_⟩
        rw [Addr.add_off rfl]
        simp [World.cell?, hlt]
      · have hlt : j < us.size := by rw [f2.1]; exact (List.getElem?_eq_some_iff.1 hj).1
        have hmem : c ∈ flat xs := List.mem_of_getElem? hj
        have hdc : c.dcell = true := by
          have : ∀ (l : List AV), (∀ x ∈ l, ∀ c ∈ cellsOf x, c.dcell = true) → c ∈ flat l → c.dcell = true := by
            intro l
            induction l with
            | nil => simp [flat]
            | cons y l ih =>
              intro hh hm
              simp only [flat, List.mem_append] at hm
              rcases hm with hm | hm
              · exact hh y (by simp) c hm
              · exact ih (fun x hx => hh x (by simp [hx])) hm
          exact this xs hd hmem
        have hv := f2.2 j c (us[j]'hlt) hj (by simp [hlt])
        have e1 : us.getD j undef = us[j]'hlt := by simp [hlt]
        rw [e1]
        exact (hmono φ (phi_refl φ) _ _ hv).dcell hdc

end Vm
end Go.Proofs.YtdbpcmpkpbamhaaGreatDoor
