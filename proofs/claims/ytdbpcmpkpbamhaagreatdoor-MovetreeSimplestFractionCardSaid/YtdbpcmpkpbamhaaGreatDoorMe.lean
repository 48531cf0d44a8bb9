/- The abstract machine: maps. -/
import Derived.Test.YtdbpcmpkpbamhaaGreatDoorMd
import Derived.Maps.RangeRun
import Derived.WideKeyRuns
namespace Go.Proofs.YtdbpcmpkpbamhaaGreatDoor
set_option linter.unusedVariables false
set_option linter.unusedSimpArgs false
namespace Vm
open Go
open Go.ChangeMaps (setBlock)

theorem trans_setBlock {w : World} {imm : Nat → Prop} {φ : Phi} {b : Nat} {rb : RB} (hb : φ b = some rb) (hni : ¬ imm rb.base.block) (o : Obj) : Trans w imm φ (setBlock w rb.base.block o) imm φ (· = b) := by
  have oth : ∀ r, rb.base.block ≠ r → (setBlock w rb.base.block o).heap[r]? = w.heap[r]? := fun r hr => by
    simp only [setBlock, Array.getElem?_setIfInBounds]; rw [if_neg hr]
  exact ⟨rfl, rfl, rfl, Nat.le_refl _, by simp [setBlock], fun r hr hne => oth r (hne b rb hb rfl), fun r hr => oth r (fun e => hni (e ▸ hr)), fun _ h => h, fun _ h => .inl h,
    fun b rb h => ⟨rb, h, Nat.le_refl _, fun _ => rfl⟩, fun b rb h => .inl ⟨rb, h, .inl rfl⟩⟩

theorem After.writeO {w : World} {imm : Nat → Prop} {φ : Phi} {H : Nat → Option Blk} {id b : Nat} {rb : RB} {o : Obj} {x : Blk} (hH : Heap w imm φ H) (hb : φ b = some rb) (hni : ¬ imm rb.base.block)
    (hx : (∀ ψ, (∀ b rb, ψ b = some rb → ∃ rb', ψ b = some rb' ∧ rb.gen ≤ rb'.gen ∧ (rb'.gen = rb.gen → rb' = rb)) → ∀ y u, VRel w.cell? imm ψ y u → VRel (setBlock w rb.base.block o).cell? imm ψ y u) →
      (setBlock w rb.base.block o).heap[rb.base.block]? = some o → BRel (setBlock w rb.base.block o) imm φ x rb) :
    After w imm φ H id .junk (.set b x) undef (setBlock w rb.base.block o) := by
  have t := trans_setBlock (w := w) hb hni o
  have e := phiSet_self hb
  have hlt := hH.lt b rb hb
  refine ⟨imm, φ, .junk _ _, t, ?_, fun b' h1 h2 => absurd h1 h2, fun h => by simp [Eff.isNew] at h⟩
  have := Heap.upd (rb := rb) (x := x) hH (b := b) (w' := setBlock w rb.base.block o) (imm' := imm) (by rw [e]; exact t)
    (by rw [e]; exact hx (fun ψ hψ y u hy => hy.mono (fun a u hi hc => by rw [cell_of_heap (t.immKeep _ hi)]; exact hc) (fun _ h => h) hψ) (by simp [setBlock, hlt]))
    (by simpa [setBlock] using hlt) (.inl ⟨rb, hb, rfl⟩) (fun r hr => by simpa [setBlock] using hH.immLt r hr)
  rw [e] at this
  exact this

/-! ### Keys: structs of whole numbers, strings and truth values, field behind field -/
section
variable (T : Nat → Option TI)
def leafT (t : Nat) : Bool :=
  match T t with
  | some ti => match ti.isAgg, ti.u with
    | false, .int _ => true
    | false, .string => true
    | false, .bool => true
    | _, _ => false
  | none => false

def keyFs : Nat → Nat → List Field → Bool
  | i, n, [] => Nat.beq i n
  | i, n, f :: fs => match decide (f.name = "_"), Nat.beq f.offset i, leafT T f.type with
    | false, true, true => keyFs (i + 1) n fs
    | _, _, _ => false

def keyOk (t : Nat) (key : AV) : Bool :=
  match T t, key with
  | some ti, .agg xs => match ti.u with
    | .struct fs => keyFs T 0 xs.length fs.toList
    | _ => false
  | _, _ => false

def findM (t : Nat) (key : AV) : List (AV × AV × Nat) → Nat → Option (Option (Nat × AV × AV × Nat))
  | [], _ => some none
  | e :: es, i => match eqT T 16 t key e.1 with
    | none => none
    | some b => match b with
      | true => some (some (i, e))
      | false => findM t key es (i + 1)
end

section
variable {P : Program} {T : Nat → Option TI} (hT : TOk P T)
include hT

theorem checkKey_leaf {t : Nat} (h : leafT T t = true) (em : Bool) (n : Nat) (v : Value) (w : World) : (Instr.checkKey em (n + 1) t v).run P w = .ok () w := by
  unfold leafT at h
  split at h
  case h_2 => cases h
  rename_i ti ht
  have hu := hT.run_underlying ht w
  rw [Instr.checkKey, Sem.run_bind, hu, Result.andThen_ok]
  split at h
  · rename_i k h1 h2; rw [h2]; rfl
  · rename_i h1 h2; rw [h2]; rfl
  · rename_i h1 h2; rw [h2]; rfl
  · cases h

omit hT in
theorem leafT_agg {t : Nat} (h : leafT T t = true) : ∃ ti, T t = some ti ∧ ti.isAgg = false := by
  unfold leafT at h
  split at h
  case h_2 => cases h
  rename_i ti ht
  refine ⟨ti, ht, ?_⟩
  cases ha : ti.isAgg with
  | false => rfl
  | true => rw [ha] at h; simp at h

theorem part_leaf {t : Nat} (h : leafT T t = true) {us : Array Value} {off : Nat} (hl : off < us.size) (w : World) : (part t us off).run P w = .ok us[off] w := by
  obtain ⟨ti, ht, ha⟩ := leafT_agg h
  have hu : us[off]? = some us[off] := Array.getElem?_eq_getElem hl
  simp only [part, Sem.run_bind, hT.run_isAgg ht, Result.andThen_ok, ha, Bool.false_eq_true, if_false, hu]
  rfl

theorem checkKey_run {t : Nat} {key : AV} (h : keyOk T t key = true) {cell : Addr → Option Value} {imm : Nat → Prop} {φ : Phi} {v : Value} (hv : VRel cell imm φ key v) (em : Bool) (w : World) : (Instr.checkKey em 10000 t v).run P w = .ok () w := by
  unfold keyOk at h
  split at h
  case h_2 => cases h
  rename_i ti xs ht
  split at h
  case h_2 => cases h
  rename_i fs hu
  cases hv with | agg _ _ us hs hc =>
  have hr := hT.run_underlying ht w
  rw [hu] at hr
  rw [Instr.checkKey]
  simp only [Sem.run_bind, hr, Result.andThen_ok]
  rw [← Array.forIn_toList]
  generalize fs.toList = L at h
  have key : ∀ (L : List Field) (i : Nat), keyFs T i xs.length L = true → i ≤ xs.length ∧ ∀ f ∈ L, f.name ≠ "_" ∧ leafT T f.type = true ∧ f.offset < xs.length := by
    intro L
    induction L with
    | nil => intro i h; simp only [keyFs] at h; have := Nat.eq_of_beq_eq_true h; exact ⟨by omega, fun f hf => by cases hf⟩
    | cons f L ih =>
      intro i h
      simp only [keyFs] at h
      split at h
      · rename_i h1 h2 h3
        obtain ⟨g1, g2⟩ := ih _ h
        have := Nat.eq_of_beq_eq_true h2
        refine ⟨by omega, fun f' hf => ?_⟩
        rcases List.mem_cons.1 hf with rfl | hf
        · exact ⟨by simpa using h1, h3, by omega⟩
        · exact g2 f' hf
      · cases h
  obtain ⟨_, hall⟩ := key L 0 h
  clear h key
  induction L with
  | nil => simp
  | cons f L ih =>
    obtain ⟨hn, hl, ho⟩ := hall f (by simp)
    have p1 := part_leaf hT hl (us := us) (off := f.offset) (by omega) w
    have p2 := checkKey_leaf hT hl em 9998 (us[f.offset]'(by omega)) w
    simp only [List.forIn_cons, Sem.run_bind, hn, ne_eq, not_false_eq_true, if_true, Result.andThen_ok, p1, p2, Sem.run_pure]
    exact ih (fun y hy => hall y (by simp [hy]))

def EntryRel (cell : Addr → Option Value) (imm : Nat → Prop) (e : AV × AV × Nat) (m : MapEntry) : Prop := VRel cell imm Phi.none e.1 m.key ∧ VRel cell imm Phi.none e.2.1 m.val ∧ m.born = e.2.2

theorem findM_spec {cell : Addr → Option Value} {imm : Nat → Prop} {φ : Phi} {t : Nat} {key : AV} {kv : Value} (hk : VRel cell imm φ key kv) (w : World) : ∀ (es : List (AV × AV × Nat)) (ms : List MapEntry) (i : Nat), ms.length = es.length →
    (∀ (j : Nat) (e : AV × AV × Nat) (m : MapEntry), es[j]? = some e → ms[j]? = some m → EntryRel cell imm e m) →
    (findM T t key es i = some none → (Instr.findAsking t kv ms i).run P w = .ok none w) ∧
    (∀ k e, findM T t key es i = some (some (k, e)) → ∃ j m, k = i + j ∧ es[j]? = some e ∧ ms[j]? = some m ∧ eqT T 16 t key e.1 = some true ∧ (Instr.findAsking t kv ms i).run P w = .ok (some (k, m.val)) w)
  | [], ms, i, hl, hr => by
    have : ms = [] := List.eq_nil_of_length_eq_zero (by simpa using hl)
    subst this
    exact ⟨fun _ => by simp [Instr.findAsking], fun k e h => by simp [findM] at h⟩
  | e :: es, ms, i, hl, hr => by
    match ms, hl with
    | m :: ms, hl =>
    obtain ⟨r1, r2, r3⟩ := hr 0 e m rfl rfl
    have ih := findM_spec (t := t) hk w es ms (i + 1) (by simpa using hl) (fun j e' m' h1 h2 => hr (j + 1) e' m' (by simpa using h1) (by simpa using h2))
    simp only [findM]
    cases he : eqT T 16 t key e.1 with
    | none => exact ⟨(fun h => by cases h), (fun k e h => by cases h)⟩
    | some b =>
      have hq : (Op.equal t kv m.key).run P w = .ok b w := by
        have := (eq_spec hT (cell := cell) (imm := imm) (φ := φ) 16).1 t key e.1 b kv m.key he hk (vrel_none r1 φ) 10000 w (by omega)
        exact this
      cases b with
      | true =>
        refine ⟨(fun h => by cases h), fun k e' h => ?_⟩
        cases h
        exact ⟨0, m, rfl, rfl, rfl, he, by simp [Instr.findAsking, hq]⟩
      | false =>
        refine ⟨fun h => ?_, fun k e' h => ?_⟩
        · simp [Instr.findAsking, hq, ih.1 h]
        · obtain ⟨j, m', h1, h2, h3, h4, h5⟩ := ih.2 k e' h
          exact ⟨j + 1, m', by omega, by simpa using h2, by simpa using h3, h4, by simp [Instr.findAsking, hq, h5]⟩

theorem findKey_run {t : Nat} {key : AV} (h : keyOk T t key = true) (kv : Value) (ms : List MapEntry) (w : World) : (Instr.findKey t kv ms).run P w = (Instr.findAsking t kv ms).run P w := by
  unfold keyOk at h
  split at h
  case h_2 => cases h
  rename_i ti xs ht
  split at h
  case h_2 => cases h
  rename_i fs hu
  refine run_findKey_eq w (by rw [hT.under t ti ht, hu]) _ _

omit hT in
/-- Keys that are equal are the same to the bit. -/
theorem key_bits {cell : Addr → Option Value} {imm : Nat → Prop} {φ φ' : Phi} {t : Nat} {x y : AV} {u v : Value} (hx : keyOk T t x = true) (hy : keyOk T t y = true) (he : eqT T 16 t x y = some true) (hu : VRel cell imm φ x u) (hv : VRel cell imm φ' y v) : Instr.sameBits 10000 v u = true := by
  unfold keyOk at hx hy
  split at hx
  case h_2 => cases hx
  rename_i ti xs ht
  split at hx
  case h_2 => cases hx
  rename_i fs hui
  cases y with
  | agg ys =>
    rw [ht] at hy
    simp only [hui] at hy
    cases hu with | agg _ _ us hs hc =>
    cases hv with | agg _ _ vs hs' hc' =>
    simp only [eqT, ht, hui] at he
    split at he
    case h_2 => cases he
    have main : ∀ (L : List Field) (i d : Nat), keyFs T i xs.length L = true → keyFs T i ys.length L = true → eqFs T d L xs ys = some true → xs.length = ys.length ∧ ∀ j, i ≤ j → j < xs.length → ∃ a b, xs[j]? = some (.val a) ∧ ys[j]? = some (.val b) ∧ Instr.sameBits 9999 b a = true := by
      intro L
      induction L with
      | nil => intro i d h1 h2 _; simp only [keyFs] at h1 h2; have := Nat.eq_of_beq_eq_true h1; have := Nat.eq_of_beq_eq_true h2; exact ⟨by omega, fun j h3 h4 => by omega⟩
      | cons f L ih =>
        intro i d h1 h2 he
        cases d with
        | zero => simp [eqFs] at he
        | succ d =>
        simp only [keyFs] at h1 h2
        simp only [eqFs] at he
        split at h1
        case h_2 => cases h1
        rename_i g1 g2 g3
        rw [g1, g2, g3] at h2
        simp only at h2
        have g2 := Nat.eq_of_beq_eq_true g2
        obtain ⟨tf, htf, hag⟩ := leafT_agg g3
        rw [htf] at he
        simp only at he
        split at he
        · cases he
        split at he
        case h_2 => cases he
        rename_i px py hpx hpy
        split at he
        case h_2 => cases he
        rename_i b r hb hr
        simp only [Option.some.injEq, Bool.and_eq_true] at he
        obtain ⟨rfl, rfl⟩ := he
        obtain ⟨l1, l2⟩ := ih (i + 1) d h1 h2 hr
        refine ⟨l1, fun j h3 h4 => ?_⟩
        by_cases hj : j = i
        · subst hj
          simp only [partOf, hag, g2] at hpx hpy
          cases d with
          | zero => simp [eqT] at hb
          | succ d =>
            simp only [eqT, htf] at hb
            unfold leafT at g3
            rw [htf] at g3
            simp only [hag] at g3
            split at hb
            · split at hb
              · rename_i hk
                simp at hb
                exact ⟨_, _, hpx, hpy, by simp [Instr.sameBits, hk, hb]⟩
              · cases hb
            · simp at hb; exact ⟨_, _, hpx, hpy, by simp [Instr.sameBits, hb]⟩
            · rename_i sa sb _
              simp only [Option.some.injEq] at hb
              exact ⟨_, _, hpx, hpy, by simp only [Instr.sameBits]; rw [beq_toListBytes] at hb ⊢; simpa using (by simpa using hb : sa.toList = sb.toList).symm⟩
            · rename_i hh; rw [hh] at g3; simp at g3
            · cases hb
        · exact l2 j (by omega) h4
    obtain ⟨hlen, hbits⟩ := main _ 0 15 hx hy he
    simp only [Instr.sameBits, Bool.and_eq_true, beq_iff_eq]
    refine ⟨by omega, ?_⟩
    rw [List.all_eq_true]
    intro p hp
    obtain ⟨j, hj⟩ := List.mem_iff_getElem?.1 hp
    rw [List.getElem?_zip_eq_some] at hj
    obtain ⟨j1, j2⟩ := hj
    rw [Array.getElem?_toList] at j1 j2
    have hjl : j < vs.size := (Array.getElem?_eq_some_iff.1 j1).1
    obtain ⟨a, b, k1, k2, k3⟩ := hbits j (by omega) (by omega)
    have e1 := hc j _ _ k1 j2
    have e2 := hc' j _ _ k2 j1
    obtain ⟨p1, p2⟩ := p
    cases e1; cases e2
    exact k3
  | _ => rw [ht] at hy; simp at hy

end

/-! ### The operations -/
def makeMapVC (s : St) (k : AV → Eff → Prop) : Prop := k (.mp s.heap.length) (.alloc (.map [] 0))

theorem makeMap_ok {P : Program} {o : Oper} {s : St} {k : AV → Eff → Prop} {t : Nat} (ho : o.op = .makeMap t none) (h : makeMapVC s k) : Good P none o s k := by
  refine ⟨.mp s.heap.length, .alloc (.map [] 0), fun a w imm φ H hev hH hn hacc => ?_, trivial, h⟩
  have hid := hn rfl
  have hrun : (execOp a.eval o).run P w = .ok (.value (.map (some w.heap.size))) { w with heap := w.heap.push (.map #[] 0) } := by
    simp only [execOp, ho, Option.map_none, Instr.makeMap, newObj, Sem.run_bind, Sem.run, Result.andThen_ok]
    rfl
  refine .of_run hrun (After.alloc (rb := ⟨⟨w.heap.size, 0, none⟩, 0, 0, 0, 0⟩) hH hid rfl rfl rfl (Nat.le_refl _) rfl rfl (fun hmono hnew hni => ?_) fun hself => ?_)
  · exact ⟨rfl, hni, #[], hnew, rfl, fun i e m h => by simp at h⟩
  · exact .mp _ _ _ _ hself ⟨_, rfl⟩ fun _ => rfl

def lookupVC (T : Nat → Option TI) (c : Option Bool) (s : St) (t : Nat) (x ix : AV) (ok : Bool) (k : AV → Eff → Prop) : Prop :=
  match T t with
  | some ti => un c x fun x => un c ix fun ix => match ti.u, x with
    | .map kt et, .mp b => match s.heap[b]? with
      | some (.map es _) => match keyOk T kt ix with
        | true => match findM T kt ix es 0 with
          | some (some e) => match ok with
            | true => forceD e.2.2.1 fun v => k (.tup [v, .val (.bool true)]) .none
            | false => forceD e.2.2.1 fun v => k v .none
          | some none => match T et with
            | some te => match te.zero with
              | some z => match ok with
                | true => forceD (ofConst z) fun v => k (.tup [v, .val (.bool false)]) .none
                | false => forceD (ofConst z) fun v => k v .none
              | none => False
            | none => False
          | none => False
        | false => False
      | _ => False
    | _, _ => False
  | none => False

theorem lookup_ok {P : Program} {T : Nat → Option TI} (hT : TOk P T) {c : Option Bool} {o : Oper} {s : St} {k : AV → Eff → Prop} {t : Nat} {x ix : Operand} {ok : Bool} (ho : o.op = .lookup t x ix ok)
    (h : lookupVC T c s t (ev s x) (ev s ix) ok k) : Good P c o s k := by
  unfold lookupVC at h
  split at h
  case h_2 => exact h.elim
  rename_i ti ht
  obtain ⟨vx, h, hbx, hx⟩ := un_blk h
  obtain ⟨vi, h, hbi, hi⟩ := un_blk h
  have hop : x ∈ o.op.operands := by simp [ho, Op.operands]
  have hop2 : ix ∈ o.op.operands := by simp [ho, Op.operands]
  have hac : ∀ b, b ∈ blkOf (ev s x) → b ∈ accOf o s := fun b hb => by simp [accOf, ho, hb]
  split at h
  case h_2 => exact h.elim
  rename_i kt et b hu _
  split at h
  case h_2 => exact h.elim
  rename_i es clock hsb
  split at h
  case h_2 => exact h.elim
  rename_i hkey
  have core : ∀ (d : AV), k d .none → (∀ (a : Act) (w : World) (imm : Nat → Prop) (φ : Phi) (kv : Value) (ms : Array MapEntry), VRel w.cell? imm φ vi kv → ms.size = es.length → (∀ (j : Nat) (e : AV × AV × Nat) (m : MapEntry), es[j]? = some e → ms[j]? = some m → EntryRel w.cell? imm e m) →
      (∃ i v, (Instr.findKey kt kv ms.toList).run P w = .ok (some (i, v)) w ∧ VRel w.cell? imm φ d (if ok then .tuple #[v, .bool true] else v)) ∨
      ∃ v, (Instr.findKey kt kv ms.toList).run P w = .ok none w ∧ (zeroValue et).run P w = .ok v w ∧ VRel w.cell? imm φ d (if ok then .tuple #[v, .bool false] else v)) → Good P c o s k := by
    intro d hk hfind
    refine good_read hk ((hx.and hi).mono fun ⟨hx, hi⟩ a w imm φ H hev hH hacc => ?_)
    have r := hx (hev x hop)
    have ri := hi (hev ix hop2)
    generalize hux : a.eval x = u at r
    cases r with
    | mp _ _ _ rb hb hs hv =>
    obtain ⟨y, hy, hbr⟩ := hH.blk b rb hb
    rw [hacc b (hac b (hbx b (by simp [blkOf]))), hsb] at hy
    cases hy
    obtain ⟨g1, g2, ms, hm, hml, hme⟩ := hbr
    have e := hv g1
    subst e
    have hun := hT.run_underlying ht w
    rw [hu] at hun
    have hck := checkKey_run hT hkey ri ms.isEmpty w
    rcases hfind a w imm φ (a.eval ix) ms ri hml hme with ⟨i, v, hr, hvr⟩ | ⟨v, hr, hz, hvr⟩
    · refine ⟨_, ?_, hvr⟩
      simp only [execOp, ho, hux, Instr.lookup, Sem.run_bind, hun, Result.andThen_ok, MapKept.run_getObj_map hm, Sem.run_pure, hck, hr]
    · refine ⟨_, ?_, hvr⟩
      simp only [execOp, ho, hux, Instr.lookup, Sem.run_bind, hun, Result.andThen_ok, MapKept.run_getObj_map hm, Sem.run_pure, hck, hr, hz]
  have tup2 : ∀ {cell : Addr → Option Value} {imm : Nat → Prop} {φ : Phi} {d : AV} {v : Value} (b : Bool), VRel cell imm φ d v → VRel cell imm φ (.tup [d, .val (.bool b)]) (.tuple #[v, .bool b]) := fun b hv =>
    .tup _ _ _ rfl fun i c u h1 h2 => by
      match i with
      | 0 => simp at h1 h2; subst h1; subst h2; exact hv
      | 1 => simp at h1 h2; subst h1; subst h2; exact .val _ _
      | i + 2 => simp at h1
  split at h
  · rename_i p hf
    obtain ⟨i, e⟩ := p
    have hfind : ∀ (a : Act) (w : World) (imm : Nat → Prop) (φ : Phi) (kv : Value) (ms : Array MapEntry), VRel w.cell? imm φ vi kv → ms.size = es.length → (∀ (j : Nat) (e : AV × AV × Nat) (m : MapEntry), es[j]? = some e → ms[j]? = some m → EntryRel w.cell? imm e m) →
        ∃ v, (Instr.findKey kt kv ms.toList).run P w = .ok (some (i, v)) w ∧ VRel w.cell? imm φ e.2.1 v := by
      intro a w imm φ kv ms hkv hml hme
      obtain ⟨j, m, g1, g2, g3, g4, g5⟩ := (findM_spec hT hkv w es ms.toList 0 (by simpa using hml) (fun j e m h1 h2 => hme j e m h1 (by simpa using h2))).2 i e hf
      have hrel := hme j e m g2 (by simpa using g3)
      exact ⟨m.val, by rw [findKey_run hT hkey, g5], vrel_none hrel.2.1 φ⟩
    split at h
    · rw [forceD_eq] at h
      refine core _ h fun a w imm φ kv ms hkv hml hme => ?_
      obtain ⟨v, hr, hv⟩ := hfind a w imm φ kv ms hkv hml hme
      exact .inl ⟨i, v, hr, tup2 _ hv⟩
    · rw [forceD_eq] at h
      refine core _ h fun a w imm φ kv ms hkv hml hme => ?_
      obtain ⟨v, hr, hv⟩ := hfind a w imm φ kv ms hkv hml hme
      exact .inl ⟨i, v, hr, hv⟩
  · rename_i hf
    split at h
    case h_2 => exact h.elim
    rename_i te hte
    split at h
    case h_2 => exact h.elim
    rename_i z hz
    have hfind : ∀ (a : Act) (w : World) (imm : Nat → Prop) (φ : Phi) (kv : Value) (ms : Array MapEntry), VRel w.cell? imm φ vi kv → ms.size = es.length → (∀ (j : Nat) (e : AV × AV × Nat) (m : MapEntry), es[j]? = some e → ms[j]? = some m → EntryRel w.cell? imm e m) →
        (Instr.findKey kt kv ms.toList).run P w = .ok none w := by
      intro a w imm φ kv ms hkv hml hme
      rw [findKey_run hT hkey]
      exact (findM_spec hT hkv w es ms.toList 0 (by simpa using hml) (fun j e m h1 h2 => hme j e m h1 (by simpa using h2))).1 hf
    split at h
    · rw [forceD_eq] at h
      exact core _ h fun a w imm φ kv ms hkv hml hme => .inr ⟨z, hfind a w imm φ kv ms hkv hml hme, hT.run_zeroValue hte hz w, tup2 _ (ofConst_rel _)⟩
    · rw [forceD_eq] at h
      exact core _ h fun a w imm φ kv ms hkv hml hme => .inr ⟨z, hfind a w imm φ kv ms hkv hml hme, hT.run_zeroValue hte hz w, ofConst_rel _⟩
  · exact h.elim

def mapUpdateVC (T : Nat → Option TI) (s : St) (t : Nat) (m key x : AV) (k : AV → Eff → Prop) : Prop :=
  strict m fun m => forceD key fun key => forceD x fun x => match T t with
  | some ti => match ti.u, m with
    | .map kt _, .mp b => match s.heap[b]? with
      | some (.map es clock) => match keyOk T kt key, key.data1, x.data1 with
        | true, true, true => match findM T kt key es 0 with
          | some none => k .junk (.set b (.map (es ++ [(key, x, clock)]) (clock + 1)))
          | some (some e) => match keyOk T kt e.2.1 with
            | true => k .junk (.set b (.map (es.set e.1 (key, x, e.2.2.2)) clock))
            | false => False
          | none => False
        | _, _, _ => False
      | _ => False
    | _, _ => False
  | none => False

theorem mapUpdate_ok {P : Program} {T : Nat → Option TI} (hT : TOk P T) {o : Oper} {s : St} {k : AV → Eff → Prop} {t : Nat} {m key x : Operand} (ho : o.op = .mapUpdate t m key x ∨ o.op = .insert t m key x)
    (h : mapUpdateVC T s t (ev s m) (ev s key) (ev s x) k) : Good P none o s k := by
  unfold mapUpdateVC at h
  rw [strict_eq, forceD_eq, forceD_eq] at h
  split at h
  case h_2 => exact h.elim
  rename_i ti ht
  have hop : m ∈ o.op.operands ∧ key ∈ o.op.operands ∧ x ∈ o.op.operands := by rcases ho with ho | ho <;> simp [ho, Op.operands]
  have hac : ∀ b, b ∈ blkOf (ev s m) → b ∈ accOf o s := fun b hb => by rcases ho with ho | ho <;> simp [accOf, ho, hb]
  have hexec : ∀ (a : Act) (w w' : World), (Instr.mapUpdate t (a.eval m) (a.eval key) (a.eval x)).run P w = .ok () w' → (execOp a.eval o).run P w = .ok .skip w' := fun a w w' h => by
    rcases ho with ho | ho <;> simp [execOp, ho, h]
  split at h
  case h_2 => exact h.elim
  rename_i kt et b hu hm
  split at h
  case h_2 => exact h.elim
  rename_i es clock hsb
  split at h
  case h_2 => exact h.elim
  rename_i hkey hkd hxd
  have hlt : b < s.heap.length := (List.getElem?_eq_some_iff.1 hsb).1
  split at h
  · rename_i hf
    refine ⟨.junk, .set b (.map (es ++ [(ev s key, ev s x, clock)]) (clock + 1)), fun a w imm φ H hev hH hn hacc => ?_, hlt, h⟩
    have r := hev m hop.1
    have rk := hev key hop.2.1
    have rx := hev x hop.2.2
    rw [hm] at r
    generalize hum : a.eval m = u at r
    cases r with
    | mp _ _ _ rb hb hs hv =>
    obtain ⟨y, hy, hbr⟩ := hH.blk b rb hb
    rw [hacc b (hac b (by rw [hm]; simp [blkOf])), hsb] at hy
    cases hy
    obtain ⟨g1, g2, ms, hms, hml, hme⟩ := hbr
    have e := hv g1
    subst e
    have hun := hT.run_underlying ht w
    rw [hu] at hun
    have hfa := (findM_spec hT rk w es ms.toList 0 (by simpa using hml) (fun j e m h1 h2 => hme j e m h1 (by simpa using h2))).1 hf
    refine .of_skip (w' := setBlock w rb.base.block (.map (ms.push { key := a.eval key, val := a.eval x, born := clock }) (clock + 1))) (hexec a w _ ?_) (After.writeO hH hb g2 fun hmono hnew => ?_)
    · rw [hum]
      simp only [Instr.mapUpdate, Sem.run_bind, hun, Result.andThen_ok, MapKept.run_getObj_map hms, checkKey_run hT hkey rk, findKey_run hT hkey, hfa, MapKept.run_setObj_map _ hms]
      rfl
    · refine ⟨g1, g2, _, hnew, by simp [hml], fun i e' m' h1 h2 => ?_⟩
      by_cases hi : i < es.length
      · rw [List.getElem?_append_left hi] at h1
        rw [Array.getElem?_push, if_neg (by omega)] at h2
        obtain ⟨q1, q2, q3⟩ := hme i e' m' h1 h2
        exact ⟨hmono _ (phi_refl _) _ _ q1, hmono _ (phi_refl _) _ _ q2, q3⟩
      · rw [List.getElem?_append_right (by omega)] at h1
        have hi2 : i = es.length := by
          have := (List.getElem?_eq_some_iff.1 h1).1; simp at this; omega
        subst hi2
        simp at h1
        rw [Array.getElem?_push, if_pos (by omega)] at h2
        cases h2; subst h1
        exact ⟨hmono _ (phi_refl _) _ _ (rk.data1 hkd), hmono _ (phi_refl _) _ _ (rx.data1 hxd), rfl⟩
  · rename_i p hf
    obtain ⟨i, e⟩ := p
    split at h
    case h_2 => exact h.elim
    rename_i hke
    refine ⟨.junk, .set b (.map (es.set i (ev s key, ev s x, e.2.2)) clock), fun a w imm φ H hev hH hn hacc => ?_, hlt, h⟩
    have r := hev m hop.1
    have rk := hev key hop.2.1
    have rx := hev x hop.2.2
    rw [hm] at r
    generalize hum : a.eval m = u at r
    cases r with
    | mp _ _ _ rb hb hs hv =>
    obtain ⟨y, hy, hbr⟩ := hH.blk b rb hb
    rw [hacc b (hac b (by rw [hm]; simp [blkOf])), hsb] at hy
    cases hy
    obtain ⟨g1, g2, ms, hms, hml, hme⟩ := hbr
    have ee := hv g1
    subst ee
    have hun := hT.run_underlying ht w
    rw [hu] at hun
    obtain ⟨j, mj, j1, j2, j3, j4, j5⟩ := (findM_spec hT rk w es ms.toList 0 (by simpa using hml) (fun j e m h1 h2 => hme j e m h1 (by simpa using h2))).2 i e hf
    have hij : i = j := by omega
    subst hij
    have j3' : ms[i]? = some mj := by simpa using j3
    obtain ⟨q1, q2, q3⟩ := hme i e mj j2 j3'
    have hbits := key_bits hkey hke j4 rk q1
    refine .of_skip (w' := setBlock w rb.base.block (.map (ms.modify i fun e => { e with key := a.eval key, val := a.eval x }) clock)) (hexec a w _ ?_) (After.writeO hH hb g2 fun hmono hnew => ?_)
    · rw [hum]
      simp only [Instr.mapUpdate, Sem.run_bind, hun, Result.andThen_ok, MapKept.run_getObj_map hms, checkKey_run hT hkey rk, findKey_run hT hkey, j5, j3', Option.map_some, Option.getD_some, Instr.keyThatStays, hbits, if_true, Sem.run_pure, MapKept.run_setObj_map _ hms]
      rfl
    · refine ⟨g1, g2, _, hnew, by simp [hml], fun i' e' m' h1 h2 => ?_⟩
      rw [Array.getElem?_modify] at h2
      by_cases hi : i = i'
      · subst hi
        have hlt2 : i < es.length := (List.getElem?_eq_some_iff.1 j2).1
        rw [List.getElem?_set_self hlt2] at h1
        cases h1
        rw [if_pos rfl, j3'] at h2
        simp at h2
        subst h2
        exact ⟨hmono _ (phi_refl _) _ _ (rk.data1 hkd), hmono _ (phi_refl _) _ _ (rx.data1 hxd), q3⟩
      · rw [List.getElem?_set_ne hi] at h1
        rw [if_neg hi] at h2
        obtain ⟨q1, q2, q3⟩ := hme i' e' m' h1 h2
        exact ⟨hmono _ (phi_refl _) _ _ q1, hmono _ (phi_refl _) _ _ q2, q3⟩
  · exact h.elim

def rangeVC (T : Nat → Option TI) (s : St) (t : Nat) (x : AV) (k : AV → Eff → Prop) : Prop :=
  match T t with
  | some ti => match ti.u, x with
    | .map _ _, .mp b => match s.heap[b]? with
      | some (.map _ clock) => k (.ptr s.heap.length 0 0 0) (.alloc (.iter (some b) clock [] clock))
      | _ => False
    | _, _ => False
  | none => False

theorem range_ok {P : Program} {T : Nat → Option TI} (hT : TOk P T) {o : Oper} {s : St} {k : AV → Eff → Prop} {t : Nat} {x : Operand} (ho : o.op = .range t x) (h : rangeVC T s t (ev s x) k) : Good P none o s k := by
  unfold rangeVC at h
  split at h
  case h_2 => exact h.elim
  rename_i ti ht
  split at h
  case h_2 => exact h.elim
  rename_i kt et b hu hx
  split at h
  case h_2 => exact h.elim
  rename_i es clock hsb
  refine ⟨.ptr s.heap.length 0 0 0, .alloc (.iter (some b) clock [] clock), fun a w imm φ H hev hH hn hacc => ?_, trivial, h⟩
  have hid := hn rfl
  have r := hev x (by simp [ho, Op.operands])
  rw [hx] at r
  generalize hux : a.eval x = u at r
  cases r with
  | mp _ _ _ rb hb hs hv =>
  obtain ⟨y, hy, hbr⟩ := hH.blk b rb hb
  rw [hacc b (by simp [accOf, ho, hx, blkOf]), hsb] at hy
  cases hy
  obtain ⟨g1, g2, ms, hms, hml, hme⟩ := hbr
  have e := hv g1
  subst e
  have hun := hT.under t ti ht
  rw [hu] at hun
  have hrun : (execOp a.eval o).run P w = .ok (.value (.pointer (some ⟨w.heap.size, 0, none⟩))) { w with heap := w.heap.push (.mapIter (some rb.base.block) clock #[] clock) } := by
    simp only [execOp, ho, hux, Sem.run_bind, run_range_map w t kt et rb.base.block ms clock hun hms, Result.andThen_ok]
    rfl
  have hbid : b ≠ s.heap.length := fun e => by rw [e, hid] at hb; cases hb
  refine .of_run hrun (After.alloc (rb := ⟨⟨w.heap.size, 0, none⟩, 0, 0, 0, 0⟩) hH hid rfl rfl rfl (Nat.le_refl _) rfl rfl (fun hmono hnew hni => ?_) fun hself => ?_)
  · exact ⟨rfl, hni, rfl, rfl, some rb.base.block, hnew, rb.base.block, rb, rfl, by simp [phiSet, hbid, hb], fun _ => rfl⟩
  · exact .ptr _ _ _ _ _ _ _ hself (Nat.le_refl _) ⟨_, rfl⟩ fun _ => rfl

def entryVC (s : St) (x : AV) (k : AV → Eff → Prop) : Prop :=
  match x with
  | .ptr b i off g => match Nat.beq i 0, Nat.beq off 0, Nat.beq g 0, s.heap[b]? with
    | true, true, true, some (.iter (some m) _ seen last) => match s.heap[m]? with
      | some (.map es clock) => ∃ e, (clock = last ∧ seen.getLast? = some e.2.2 ∧ es.find? (fun x => x.2.2 == e.2.2) = some e) ∧ forceD e.1 fun a => forceD e.2.1 fun b => k (.tup [a, b]) .none
      | _ => False
    | _, _, _, _ => False
  | _ => False

theorem find_rel {cell : Addr → Option Value} {imm : Nat → Prop} {n : Nat} : ∀ {es : List (AV × AV × Nat)} {ms : List MapEntry} {e : AV × AV × Nat}, ms.length = es.length → (∀ (j : Nat) (e : AV × AV × Nat) (m : MapEntry), es[j]? = some e → ms[j]? = some m → EntryRel cell imm e m) →
    es.find? (fun x => x.2.2 == n) = some e → ∃ m, ms.find? (fun x => x.born == n) = some m ∧ EntryRel cell imm e m
  | [], ms, e, hl, hr, h => by simp at h
  | x :: es, ms, e, hl, hr, h => by
    match ms, hl with
    | m :: ms, hl =>
    have h0 := hr 0 x m rfl rfl
    simp only [List.find?_cons] at h ⊢
    rw [h0.2.2]
    split at h
    · cases h; exact ⟨m, rfl, h0⟩
    · exact find_rel (by simpa using hl) (fun j e m h1 h2 => hr (j + 1) e m (by simpa using h1) (by simpa using h2)) h

theorem entry_ok {P : Program} {o : Oper} {s : St} {k : AV → Eff → Prop} {x : Operand} (ho : o.op = .entry x) (h : entryVC s (ev s x) k) : Good P none o s k := by
  unfold entryVC at h
  split at h
  case h_2 => exact h.elim
  rename_i b i off g hx
  split at h
  case h_2 => exact h.elim
  rename_i m since seen last hi0 ho0 hg0 hsb
  split at h
  case h_2 => exact h.elim
  rename_i es clock hsm
  obtain ⟨e, ⟨hcl, hlast, hfind⟩, h⟩ := h
  rw [forceD_eq, forceD_eq] at h
  have hi0 : i = 0 := by simpa using hi0
  have ho0 : off = 0 := by simpa using ho0
  have hg0 : g = 0 := by simpa using hg0
  subst hi0; subst ho0; subst hg0; subst hcl
  refine good_read h fun a w imm φ H hev hH hacc => ?_
  have r := hev x (by simp [ho, Op.operands])
  rw [hx] at r
  generalize hux : a.eval x = u at r
  have hac : accOf o s = [b, m] := by simp only [accOf, ho, hx, hsb]
  cases r with
  | ptr _ _ _ _ _ _ rb hb hg hs hv =>
  obtain ⟨y, hy, hbr⟩ := hH.blk b rb hb
  rw [hacc b (by simp [hac]), hsb] at hy
  cases hy
  obtain ⟨g1, g2, g3, g4, mo, g5, r0, rm, q1, q2, q3⟩ := hbr
  obtain ⟨y, hy, hbr⟩ := hH.blk m rm q2
  rw [hacc m (by simp [hac]), hsm] at hy
  cases hy
  obtain ⟨m1, m2, ms, m3, m4, m5⟩ := hbr
  have e1 := hv g1
  subst e1
  have e1 := q3 m1
  subst e1; subst q1
  have hbase : rb.base.add (0 * rb.k + 0) = ⟨rb.base.block, 0, none⟩ := by
    rw [show 0 * rb.k + 0 = 0 by omega]
    show (if (0 : Nat) = 0 then rb.base else _) = _
    rw [if_pos rfl]
    obtain ⟨⟨bb, oo, ss⟩, _⟩ := rb
    simp only at g3 g4
    subst g3; subst g4; rfl
  rw [hbase] at hux
  obtain ⟨me, hme, hrel⟩ := find_rel (ms := ms.toList) (by simpa using m4) (fun j e m h1 h2 => m5 j e m h1 (by simpa using h2)) hfind
  have hback : seen.toArray.back? = some e.2.2 := by simpa using hlast
  refine ⟨.tuple #[me.key, me.val], ?_, .tup _ _ _ rfl fun i c u h1 h2 => ?_⟩
  · simp only [execOp, ho, hux, Instr.entry, getObj, Sem.run_bind, Sem.run, g5, m3, Result.andThen_ok, hback, bne_self_eq_false, Bool.false_eq_true, if_false]
    rw [Array.find?_toList] at hme
    rw [hme]
    rfl
  · match i with
    | 0 => simp at h1 h2; subst h1; subst h2; exact vrel_none hrel.1 φ
    | 1 => simp at h1 h2; subst h1; subst h2; exact vrel_none hrel.2.1 φ
    | i + 2 => simp at h1

def lenMapVC (T : Nat → Option TI) (s : St) (t : Nat) (x : AV) (k : AV → Eff → Prop) : Prop :=
  match T t with
  | some ti => match ti.u, x with
    | .map _ _, .mp b => match s.heap[b]? with
      | some (.map es _) => k (.val (.int .i64 es.length)) .none
      | _ => False
    | _, _ => False
  | none => False

theorem lenMap_ok {P : Program} {T : Nat → Option TI} (hT : TOk P T) {o : Oper} {s : St} {k : AV → Eff → Prop} {x : Operand} {t : Nat} (ho : o.op = .call { callee := .builtin .len, args := #[x], argTypes := #[t] })
    (h : lenMapVC T s t (ev s x) k) : Good P none o s k := by
  unfold lenMapVC at h
  split at h
  case h_2 => exact h.elim
  rename_i ti ht
  split at h
  case h_2 => exact h.elim
  rename_i kt et b hu hx
  split at h
  case h_2 => exact h.elim
  rename_i es clock hsb
  refine good_read h fun a w imm φ H hev hH hacc => ?_
  have r := hev x (by simp [ho, Op.operands, Call.operands])
  rw [hx] at r
  generalize hux : a.eval x = u at r
  cases r with
  | mp _ _ _ rb hb hs hv =>
  obtain ⟨y, hy, hbr⟩ := hH.blk b rb hb
  rw [hacc b (by simp [accOf, ho, hx, blkMp]), hsb] at hy
  cases hy
  obtain ⟨g1, g2, ms, hms, hml, hme⟩ := hbr
  have e := hv g1
  subst e
  have hun := hT.run_underlying ht w
  rw [hu] at hun
  refine ⟨.int .i64 es.length, ?_, .val _ _⟩
  simp only [execOp, ho, resolve, Sem.run_bind, Sem.run_pure, Result.andThen_ok, invoke, builtin]
  simp only [List.map_toArray, List.map_cons, List.map_nil, hux, Builtin.len_]
  simp [hun, MapKept.run_getObj_map hms, hml, goInt]

end Vm
end Go.Proofs.YtdbpcmpkpbamhaaGreatDoor

/- The abstract machine: operations with more than one outcome, and calls that write their caller's memory. -/
namespace Go.Proofs.YtdbpcmpkpbamhaaGreatDoor
set_option linter.unusedVariables false
set_option linter.unusedSimpArgs false
namespace Vm
open Go
open Go.ChangeMaps (setBlock)

/-- What is behind an operation: a value and a heap of which R holds. -/
def Behind (w : World) (imm : Nat → Prop) (φ : Phi) (R : AV → List Blk → Prop) (v : Value) (w' : World) : Prop :=
  ∃ imm' φ' d H', R d H' ∧ VRel w'.cell? imm' φ' d v ∧ Trans w imm φ w' imm' φ' all ∧ Heap w' imm' φ' fun b => H'[b]?

def OpN (P : Program) (o : Oper) (s : St) (R : AV → List Blk → Prop) : Prop :=
  ∀ (a : Act) (w : World) (imm : Nat → Prop) (φ : Phi), (∀ x ∈ o.op.operands, VRel w.cell? imm φ (ev s x) (a.eval x)) → Heap w imm φ (fun b => s.heap[b]?) → Does P o a w (Behind w imm φ R)

theorem getD_set {H : List Blk} {b : Nat} {x : Blk} (h : b < H.length) : (fun b' => (H.set b x)[b']?) = upd (fun b' => H[b']?) b x := by
  funext b'
  simp only [upd]
  by_cases e : b' = b
  · subst e; simp [h]
  · rw [if_neg e, List.getElem?_set_ne (Ne.symm e)]

/-! ### The next entry of a map -/
def leftL (es : List (AV × AV × Nat)) (seen : List Nat) : List (AV × AV × Nat) := es.filter fun e => !(seen.elem e.2.2)

def nextVC (s : St) (x : AV) (R : AV → List Blk → Prop) : Prop :=
  match x with
  | .ptr b i off g => match Nat.beq i 0, Nat.beq off 0, Nat.beq g 0, s.heap[b]? with
    | true, true, true, some (.iter (some m) since seen last) => match s.heap[m]? with
      | some (.map es clock) => (∀ e ∈ es, e.2.2 < since) ∧ since ≤ last ∧ (leftL es seen = [] → R (.tup [.val (.bool false)]) s.heap) ∧
          ∀ e ∈ leftL es seen, forceD e.1 fun k => forceD e.2.1 fun v => forceH (s.heap.set b (.iter (some m) since (seen ++ [e.2.2]) clock)) fun H => R (.tup [.val (.bool true), k, v]) H
      | _ => False
    | _, _, _, _ => False
  | _ => False

theorem next_ok {P : Program} {o : Oper} {s : St} {R : AV → List Blk → Prop} {x : Operand} (ho : o.op = .next x false) (h : nextVC s (ev s x) R) : OpN P o s R := by
  unfold nextVC at h
  split at h
  case h_2 => exact h.elim
  rename_i b i off g hx
  split at h
  case h_2 => exact h.elim
  rename_i m since seen last hi0 ho0 hg0 hsb
  split at h
  case h_2 => exact h.elim
  rename_i es clock hsm
  obtain ⟨hold, hsc, hend, hgo⟩ := h
  have hi0 : i = 0 := by simpa using hi0
  have ho0 : off = 0 := by simpa using ho0
  have hg0 : g = 0 := by simpa using hg0
  subst hi0; subst ho0; subst hg0
  intro a w imm φ hev hH
  have r := hev x (by simp [ho, Op.operands])
  rw [hx] at r
  generalize hux : a.eval x = u at r
  cases r with
  | ptr _ _ _ _ _ _ rb hb hg hs hv =>
  obtain ⟨y, hy, hbr⟩ := hH.blk b rb hb
  rw [hsb] at hy
  cases hy
  obtain ⟨g1, g2, g3, g4, mo, g5, r0, rm, q1, q2, q3⟩ := hbr
  obtain ⟨y, hy, hbr⟩ := hH.blk m rm q2
  rw [hsm] at hy
  cases hy
  obtain ⟨m1, m2, ms, m3, m4, m5⟩ := hbr
  have e := hv g1
  subst e
  have e := q3 m1
  subst e; subst q1
  have hbase : rb.base.add (0 * rb.k + 0) = ⟨rb.base.block, 0, none⟩ := by
    rw [show 0 * rb.k + 0 = 0 by omega]
    show (if (0 : Nat) = 0 then rb.base else _) = _
    rw [if_pos rfl]
    obtain ⟨⟨bb, oo, ss⟩, _⟩ := rb
    simp only at g3 g4
    subst g3; subst g4; rfl
  rw [hbase] at hux
  have hborn : ∀ z ∈ ms.toList, z.born < since := fun z hz => by
    obtain ⟨j, hj⟩ := List.mem_iff_getElem?.1 hz
    rw [Array.getElem?_toList] at hj
    have hjl : j < ms.size := (Array.getElem?_eq_some_iff.1 hj).1
    have he : es[j]? = some es[j] := List.getElem?_eq_getElem (by omega)
    rw [(m5 j _ z he hj).2.2]
    exact hold _ (List.mem_of_getElem? he)
  have hsize : b < s.heap.length := (List.getElem?_eq_some_iff.1 hsb).1
  rcases run_next_at (P := P) w o.type rb.base.block rm.base.block since last seen.toArray ms clock g5 m3 hborn hsc with ⟨hn, hrun⟩ | ⟨m', hm', w1, hw1, hrun⟩
  · refine .of_run (w' := w) (v := .tuple #[.bool false]) (by simp only [execOp, ho, hux, hrun, Sem.run_bind, Result.andThen_ok]; rfl) ⟨imm, φ, .tup [.val (.bool false)], s.heap, hend ?_, ?_, Trans.refl _ _ _ _, hH⟩
    · rw [List.eq_nil_iff_forall_not_mem]
      intro e he
      simp only [leftL, List.mem_filter, Bool.not_eq_true'] at he
      obtain ⟨j, hj⟩ := List.mem_iff_getElem?.1 he.1
      have hjl : j < es.length := (List.getElem?_eq_some_iff.1 hj).1
      have hm : ms[j]? = some ms[j] := Array.getElem?_eq_getElem (by omega)
      have hb3 := (m5 j e _ hj hm).2.2
      have : ms[j] ∈ leftOf ms seen.toArray := by
        simp only [leftOf, Array.mem_filter]
        refine ⟨Array.mem_of_getElem? hm, ?_⟩
        rw [hb3]
        simpa using he.2
      have := Array.size_pos_of_mem this
      omega
    · refine .tup _ _ _ rfl fun i c u h1 h2 => ?_
      match i with
      | 0 => simp at h1 h2; subst h1; subst h2; exact .val _ _
      | i + 1 => simp at h1
  · have hm'' : m' ∈ ms ∧ seen.elem m'.born = false := by
      simp only [leftOf, Array.mem_toList_iff, Array.mem_filter] at hm'
      exact ⟨hm'.1, by simpa using hm'.2⟩
    obtain ⟨j, hj⟩ := Array.mem_iff_getElem?.1 hm''.1
    have hjl : j < ms.size := (Array.getElem?_eq_some_iff.1 hj).1
    have he : es[j]? = some es[j] := List.getElem?_eq_getElem (by omega)
    obtain ⟨k1, k2, k3⟩ := m5 j _ m' he hj
    have hR := hgo es[j] (by simp only [leftL, List.mem_filter]; exact ⟨List.mem_of_getElem? he, by rw [← k3, hm''.2]; rfl⟩)
    rw [forceD_eq, forceD_eq, forceH_eq] at hR
    have t0 : Trans w imm φ w1 imm φ (fun _ => False) := by
      rcases hw1 with rfl | rfl
      · exact Trans.refl _ _ _ _
      · exact ⟨rfl, rfl, rfl, Nat.le_succ _, Nat.le_refl _, fun _ _ _ => rfl, fun _ _ => rfl, fun _ h => h, fun _ h => .inl h, fun b rb h => ⟨rb, h, Nat.le_refl _, fun _ => rfl⟩, fun b rb h => .inl ⟨rb, h, .inl rfl⟩⟩
    have hsz : w1.heap = w.heap := by rcases hw1 with rfl | rfl <;> rfl
    have hH1 := hH.keep t0 (fun r hr => by rw [hsz]; exact hH.immLt r hr)
    obtain ⟨imm', φ', _, t1, hH2, _, _⟩ := After.writeO (id := 0) (o := .mapIter (some rm.base.block) since (seen.toArray.push m'.born) clock) (x := .iter (some m) since (seen ++ [es[j].2.2]) clock) hH1 hb g2 fun hmono hnew => by
      exact ⟨g1, g2, g3, g4, some rm.base.block, by rw [hnew, k3]; simp, rm.base.block, rm, rfl, q2, fun _ => rfl⟩
    refine .of_run (w' := setBlock w1 rb.base.block (.mapIter (some rm.base.block) since (seen.toArray.push m'.born) clock)) (v := .tuple #[.bool true, m'.key, m'.val]) (by simp only [execOp, ho, hux, hrun, Sem.run_bind, Result.andThen_ok]; rfl)
      ⟨imm', φ', _, _, hR, ?_, t0.comp t1 (fun _ h => h.elim) (fun _ _ _ => trivial), ?_⟩
    · refine .tup _ _ _ rfl fun i c u h1 h2 => ?_
      match i with
      | 0 => simp at h1 h2; subst h1; subst h2; exact .val _ _
      | 1 => simp at h1 h2; subst h1; subst h2; exact t1.vrel (t0.vrel (vrel_none k1 φ))
      | 2 => simp at h1 h2; subst h1; subst h2; exact t1.vrel (t0.vrel (vrel_none k2 φ))
      | i + 3 => simp at h1
    · rw [getD_set hsize]; exact hH2

/-! ### Blocks by other names -/
def renO (r : Nat → Option Nat) (x : AV) : Option AV :=
  match x with
  | .ref b off len lim g k => match r b with
    | some b' => some (.ref b' off len lim g k)
    | none => none
  | .ptr b i off g => match r b with
    | some b' => some (.ptr b' i off g)
    | none => none
  | .mp b => match r b with
    | some b' => some (.mp b')
    | none => none
  | .val v => some (.val v)
  | .sl n c k xs => some (.sl n c k xs)
  | .ipt cs => some (.ipt cs)
  | .junk => some .junk
  | _ => none
def renL (f : AV → Option AV) : List AV → Option (List AV)
  | [] => some []
  | x :: xs => match f x with
    | some y => match renL f xs with
      | some ys => some (y :: ys)
      | none => none
    | none => none
def renC (f : AV → Option AV) (x : AV) : Option AV :=
  match x with
  | .fn n fs cs => match renL f fs, renL f cs with
    | some a, some b => some (.fn n a b)
    | _, _ => none
  | x => f x
def renV (f : AV → Option AV) (x : AV) : Option AV :=
  match x with
  | .agg cs => match renL (renC f) cs with
    | some cs => some (.agg cs)
    | none => none
  | x => renC f x
def renT (f : AV → Option AV) (x : AV) : Option AV :=
  match x with
  | .tup vs => match renL (renV f) vs with
    | some vs => some (.tup vs)
    | none => none
  | x => renV f x
def renB (r : Nat → Option Nat) (f : AV → Option AV) (x : Blk) : Option Blk :=
  match x with
  | .box cs ro => match renL (renC f) cs with
    | some cs => some (.box cs ro)
    | none => none
  | .iter (some m) a b c => match r m with
    | some m' => some (.iter (some m') a b c)
    | none => none
  | x => some x

theorem renL_get {f : AV → Option AV} : ∀ {xs ys : List AV}, renL f xs = some ys → ys.length = xs.length ∧ ∀ (i : Nat) (y : AV), ys[i]? = some y → ∃ x, xs[i]? = some x ∧ f x = some y
  | [], ys, h => by simp only [renL, Option.some.injEq] at h; subst h; exact ⟨rfl, fun i y h => by simp at h⟩
  | x :: xs, ys, h => by
    simp only [renL] at h
    split at h
    case h_2 => cases h
    rename_i y hy
    split at h
    case h_2 => cases h
    rename_i ys' hys
    cases h
    obtain ⟨h1, h2⟩ := renL_get hys
    refine ⟨by simp [h1], fun i y' hi => ?_⟩
    cases i with
    | zero => simp at hi; subst hi; exact ⟨x, rfl, hy⟩
    | succ i => simpa using h2 i y' (by simpa using hi)

/-- A turning of values that keeps what they say, from one map of blocks to another. -/
def RenOk (cell : Addr → Option Value) (imm imm' : Nat → Prop) (φ φ' : Phi) (f : AV → Option AV) : Prop :=
  ∀ x y v, f x = some y → VRel cell imm φ x v → VRel cell imm' φ' y v ∧ y.isCell = x.isCell

theorem renO_ok {cell : Addr → Option Value} {imm imm' : Nat → Prop} {φ φ' : Phi} {r : Nat → Option Nat} (hi : ∀ q, imm q → imm' q) (hr : ∀ b b', r b = some b' → φ' b' = φ b) : RenOk cell imm imm' φ φ' (renO r) := by
  intro x y v h hv
  have same : ∀ {z : AV}, z.simple = true → VRel cell imm φ z v → VRel cell imm' φ' z v := fun hs hz => (vrel_imm hz hi).simple hs
  unfold renO at h
  cases x with
  | ref b off len lim g k =>
    simp only at h
    split at h
    case h_2 => cases h
    rename_i b' hb'
    cases h
    cases hv with
    | ref _ _ _ _ _ _ _ _ rb hb hg hs hv => exact ⟨.ref _ _ _ _ _ _ _ _ rb (by rw [hr b b' hb', hb]) hg hs hv, rfl⟩
  | ptr b i off g =>
    simp only at h
    split at h
    case h_2 => cases h
    rename_i b' hb'
    cases h
    cases hv with
    | ptr _ _ _ _ _ _ rb hb hg hs hv => exact ⟨.ptr _ _ _ _ _ _ rb (by rw [hr b b' hb', hb]) hg hs hv, rfl⟩
  | mp b =>
    simp only at h
    split at h
    case h_2 => cases h
    rename_i b' hb'
    cases h
    cases hv with
    | mp _ _ _ rb hb hs hv => exact ⟨.mp _ _ _ rb (by rw [hr b b' hb', hb]) hs hv, rfl⟩
  | val u => cases h; exact ⟨same rfl hv, rfl⟩
  | sl => cases h; exact ⟨same rfl hv, rfl⟩
  | ipt => cases h; exact ⟨same rfl hv, rfl⟩
  | junk => cases h; exact ⟨.junk _ _, rfl⟩
  | _ => cases h

section
variable {cell : Addr → Option Value} {imm imm' : Nat → Prop} {φ φ' : Phi} {f : AV → Option AV} (hf : RenOk cell imm imm' φ φ' f)
include hf

theorem renC_ok : RenOk cell imm imm' φ φ' (renC f) := by
  intro x y v h hv
  cases x with
  | fn n fs cs =>
    simp only [renC] at h
    split at h
    case h_2 => cases h
    rename_i a b ha hb
    cases h
    cases hv with
    | fn _ _ _ _ us vs h1 h2 hfs hcs =>
      obtain ⟨l1, g1⟩ := renL_get ha
      obtain ⟨l2, g2⟩ := renL_get hb
      refine ⟨.fn _ _ _ _ _ _ (by omega) (by omega) (fun i c u hc hu => ?_) fun i c u hc hu => ?_, rfl⟩
      · obtain ⟨x, hx, hxc⟩ := g1 i c hc
        exact (hf x c u hxc (hfs i x u hx hu)).1
      · obtain ⟨x, hx, hxc⟩ := g2 i c hc
        exact (hf x c u hxc (hcs i x u hx hu)).1
  | _ => exact hf _ _ _ h hv

theorem renV_ok {x y : AV} {v : Value} (h : renV f x = some y) (hv : VRel cell imm φ x v) : VRel cell imm' φ' y v := by
  cases x with
  | agg cs =>
    simp only [renV] at h
    split at h
    case h_2 => cases h
    rename_i ys hys
    cases h
    cases hv with
    | agg _ _ us hs hc =>
      obtain ⟨l1, g1⟩ := renL_get hys
      refine .agg _ _ _ (by omega) fun i c u hc' hu => ?_
      obtain ⟨x, hx, hxc⟩ := g1 i c hc'
      exact (renC_ok hf x c u hxc (hc i x u hx hu)).1
  | _ => simp only [renV] at h; exact (renC_ok hf _ _ _ h hv).1

theorem renT_ok {x y : AV} {v : Value} (h : renT f x = some y) (hv : VRel cell imm φ x v) : VRel cell imm' φ' y v := by
  cases x with
  | tup cs =>
    simp only [renT] at h
    split at h
    case h_2 => cases h
    rename_i ys hys
    cases h
    cases hv with
    | tup _ _ us hs hc =>
      obtain ⟨l1, g1⟩ := renL_get hys
      refine .tup _ _ _ (by omega) fun i c u hc' hu => ?_
      obtain ⟨x, hx, hxc⟩ := g1 i c hc'
      exact renV_ok hf hxc (hc i x u hx hu)
  | _ => simp only [renT] at h; exact renV_ok hf h hv
end

theorem renB_ok {w : World} {imm imm' : Nat → Prop} {φ φ' : Phi} {r : Nat → Option Nat} {f : AV → Option AV} (hi : ∀ q, imm q → imm' q) (hr : ∀ b b', r b = some b' → φ' b' = φ b) (hf : RenOk w.cell? imm imm' φ φ' f)
    (hd : ∀ x y, f x = some y → x.dcell = true → y.dcell = true) (hs : ∀ x y, f x = some y → x.simple = true → y.simple = true) {x y : Blk} {rb : RB} (h : renB r f x = some y) (hb : BRel w imm φ x rb) (hni : ¬ imm rb.base.block → ¬ imm' rb.base.block) : BRel w imm' φ' y rb := by
  have none_mono : ∀ c u, VRel w.cell? imm Phi.none c u → VRel w.cell? imm' Phi.none c u := fun c u h => h.mono (fun _ _ _ h => h) hi none_phi
  cases x with
  | row elems k g =>
    simp only [renB, Option.some.injEq] at h
    subst h
    obtain ⟨h1, h2, h3, h3', h4, h5, h6, h7⟩ := hb
    exact ⟨h1, h2, h3, h3', hni h4, h5, h6, h7.vrel rfl none_mono⟩
  | box cs ro =>
    simp only [renB] at h
    split at h
    case h_2 => cases h
    rename_i ys hys
    cases h
    obtain ⟨l1, g1⟩ := renL_get hys
    obtain ⟨h1, h2, h4, h5, hsp, arr, ty, ha, hl, hc⟩ := hb
    refine ⟨h1, by omega, ?_, fun c hc' => ?_, hsp, arr, ty, ha, by omega, fun j c hj => ?_⟩
    · cases ro
      · exact hni h4
      · refine ⟨hi _ h4.1, fun c hc' => ?_⟩
        obtain ⟨j, hj⟩ := List.mem_iff_getElem?.1 hc'
        obtain ⟨x, hx, hxc⟩ := g1 j c hj
        have hxd := h4.2 x (List.mem_of_getElem? hx)
        cases x with
        | fn n fs cs' =>
          simp only [renC] at hxc
          split at hxc
          case h_2 => cases hxc
          rename_i a b ha hb
          cases hxc
          simp only [AV.dcell, Bool.and_eq_true, List.all_eq_true] at hxd ⊢
          refine ⟨fun z hz => ?_, fun z hz => ?_⟩
          · obtain ⟨j, hj⟩ := List.mem_iff_getElem?.1 hz
            obtain ⟨x, hx, hxz⟩ := (renL_get ha).2 j z hj
            exact hs x z hxz (hxd.1 x (List.mem_of_getElem? hx))
          · obtain ⟨j, hj⟩ := List.mem_iff_getElem?.1 hz
            obtain ⟨x, hx, hxz⟩ := (renL_get hb).2 j z hj
            exact hs x z hxz (hxd.2 x (List.mem_of_getElem? hx))
        | _ => exact hd _ _ hxc hxd
    · obtain ⟨j, hj⟩ := List.mem_iff_getElem?.1 hc'
      obtain ⟨x, hx, hxc⟩ := g1 j c hj
      obtain ⟨u, _, hu⟩ := hc j x hx
      rw [(renC_ok hf x c u hxc hu).2]
      exact h5 x (List.mem_of_getElem? hx)
    · obtain ⟨x, hx, hxc⟩ := g1 j c hj
      obtain ⟨u, hu1, hu⟩ := hc j x hx
      exact ⟨u, hu1, (renC_ok hf x c u hxc hu).1⟩
  | map es clock =>
    simp only [renB, Option.some.injEq] at h
    subst h
    obtain ⟨h1, h2, h3⟩ := hb
    exact ⟨h1, hni h2, h3.vrel rfl none_mono⟩
  | iter m a b c =>
    obtain ⟨h1, h2, h3, h4, mo, h5, h6⟩ := hb
    cases m with
    | none =>
      simp only [renB, Option.some.injEq] at h
      subst h
      exact ⟨h1, hni h2, h3, h4, mo, h5, h6⟩
    | some m =>
      simp only [renB] at h
      split at h
      case h_2 => cases h
      rename_i m' hm'
      cases h
      obtain ⟨q, rb', e1, e2, e3⟩ := h6
      exact ⟨h1, hni h2, h3, h4, mo, h5, q, rb', e1, by rw [hr m m' hm', e2], e3⟩
  | dead =>
    simp only [renB, Option.some.injEq] at h
    subst h
    trivial

theorem renO_dcell {r : Nat → Option Nat} {x y : AV} (h : renO r x = some y) (hd : x.dcell = true) : y.dcell = true := by
  unfold renO at h
  cases x with
  | val | sl | ipt => cases h; exact hd
  | _ => simp [AV.dcell] at hd <;> simp at h
theorem renO_simple {r : Nat → Option Nat} {x y : AV} (h : renO r x = some y) (hd : x.simple = true) : y.simple = true := by
  unfold renO at h
  cases x with
  | val | sl | ipt => cases h; exact hd
  | _ => simp [AV.simple] at hd

/-! ### A call that writes its caller's memory -/
/-- Called with these arguments, where the blocks 0, 1, .. are H: it comes to a value and blocks of which Q holds. -/
def HeapC (P : Program) (f : Nat) (args : List AV) (H : List Blk) (Q : AV → List Blk → Prop) : Prop :=
  Callable P f ∧ ∀ (w : World) (imm : Nat → Prop) (φ : Phi) (vals : Array Value), Heap w imm φ (fun b => H[b]?) → vals.size = args.length →
    (∀ (i : Nat) (x : AV) (v : Value), args[i]? = some x → vals[i]? = some v → VRel w.cell? imm φ x v) →
    Calls P f vals w fun e w' => ∃ v, e = .returned v ∧ Behind w imm φ Q v w'

theorem HeapC.mono {P : Program} {f : Nat} {args : List AV} {H : List Blk} {Q Q' : AV → List Blk → Prop} (h : HeapC P f args H Q) (hq : ∀ d H', Q d H' → Q' d H') : HeapC P f args H Q' :=
  ⟨h.1, fun w imm φ vals h1 h2 h3 => (h.2 w imm φ vals h1 h2 h3).mono fun e w' ⟨v, he, imm', φ', d, H', g, r⟩ => ⟨v, he, imm', φ', d, H', hq _ _ g, r⟩⟩

def idxIn : List Nat → Nat → Nat → Option Nat
  | [], _, _ => none
  | c :: cs, i, b => match Nat.beq c b with
    | true => some i
    | false => idxIn cs (i + 1) b

theorem idxIn_get : ∀ {bs : List Nat} {i b j : Nat}, idxIn bs i b = some j → i ≤ j ∧ bs[j - i]? = some b
  | [], i, b, j, h => by simp [idxIn] at h
  | c :: cs, i, b, j, h => by
    simp only [idxIn] at h
    split at h
    · rename_i e
      have e := Nat.eq_of_beq_eq_true e
      simp only [Option.some.injEq] at h
      subst h; subst e
      exact ⟨Nat.le_refl _, by simp⟩
    · obtain ⟨h1, h2⟩ := idxIn_get h
      refine ⟨by omega, ?_⟩
      rw [show j - i = (j - (i + 1)) + 1 by omega]
      simpa using h2

theorem idxIn_of : ∀ {bs : List Nat} {i b k : Nat}, bs.Nodup → bs[k]? = some b → idxIn bs i b = some (i + k)
  | [], i, b, k, hn, h => by simp at h
  | c :: cs, i, b, k, hn, h => by
    simp only [idxIn]
    cases k with
    | zero => simp at h; subst h; simp
    | succ k =>
      simp at h
      have hne : c ≠ b := fun e => by subst e; exact (List.nodup_cons.1 hn).1 (List.mem_of_getElem? h)
      have hb : Nat.beq c b = false := by
        cases hb : Nat.beq c b with
        | true => exact absurd (Nat.eq_of_beq_eq_true hb) hne
        | false => rfl
      rw [hb]
      simp only
      rw [idxIn_of (List.nodup_cons.1 hn).2 h]
      congr 1; omega

def outF (bs : List Nat) (n b : Nat) : Option Nat :=
  match bs[b]? with
  | some c => some c
  | none => some (n + (b - bs.length))

def pickR (r : Nat → Option Nat) (H : List Blk) : List Nat → Option (List Blk)
  | [] => some []
  | b :: bs => match H[b]? with
    | some x => match renB r (renO r) x with
      | some y => match pickR r H bs with
        | some ys => some (y :: ys)
        | none => none
      | none => none
    | none => none

theorem pickR_get {r : Nat → Option Nat} {H : List Blk} : ∀ {bs : List Nat} {ys : List Blk}, pickR r H bs = some ys → ys.length = bs.length ∧ ∀ (i b : Nat), bs[i]? = some b → ∃ x y, H[b]? = some x ∧ ys[i]? = some y ∧ renB r (renO r) x = some y
  | [], ys, h => by simp only [pickR, Option.some.injEq] at h; subst h; exact ⟨rfl, fun i b h => by simp at h⟩
  | b :: bs, ys, h => by
    simp only [pickR] at h
    split at h
    case h_2 => cases h
    rename_i x hx
    split at h
    case h_2 => cases h
    rename_i y hy
    split at h
    case h_2 => cases h
    rename_i ys' hys
    cases h
    obtain ⟨h1, h2⟩ := pickR_get hys
    refine ⟨by simp [h1], fun i b' hi => ?_⟩
    cases i with
    | zero => simp at hi; subst hi; exact ⟨x, y, hx, rfl, hy⟩
    | succ i => simpa using h2 i b' (by simpa using hi)

def renBs (r : Nat → Option Nat) : List Blk → Option (List Blk)
  | [] => some []
  | x :: xs => match renB r (renO r) x with
    | some y => match renBs r xs with
      | some ys => some (y :: ys)
      | none => none
    | none => none

theorem renBs_get {r : Nat → Option Nat} : ∀ {xs ys : List Blk}, renBs r xs = some ys → ys.length = xs.length ∧ ∀ (i : Nat) (x : Blk), xs[i]? = some x → ∃ y, ys[i]? = some y ∧ renB r (renO r) x = some y
  | [], ys, h => by simp only [renBs, Option.some.injEq] at h; subst h; exact ⟨rfl, fun i b h => by simp at h⟩
  | x :: xs, ys, h => by
    simp only [renBs] at h
    split at h
    case h_2 => cases h
    rename_i y hy
    split at h
    case h_2 => cases h
    rename_i ys' hys
    cases h
    obtain ⟨h1, h2⟩ := renBs_get hys
    refine ⟨by simp [h1], fun i b' hi => ?_⟩
    cases i with
    | zero => simp at hi; subst hi; exact ⟨y, rfl, hy⟩
    | succ i => simpa using h2 i b' (by simpa using hi)

def putB : List Nat → List Blk → List Blk → List Blk
  | [], xs, H => H ++ xs
  | b :: bs, x :: xs, H => putB bs xs (H.set b x)
  | _ :: _, [], H => H

theorem putB_get : ∀ {bs : List Nat} {xs H : List Blk}, bs.Nodup → (∀ b ∈ bs, b < H.length) → bs.length ≤ xs.length →
    (∀ (i b : Nat), bs[i]? = some b → (putB bs xs H)[b]? = xs[i]?) ∧ (∀ (b : Nat), b ∉ bs → b < H.length → (putB bs xs H)[b]? = H[b]?) ∧ (∀ (j : Nat), (putB bs xs H)[H.length + j]? = xs[bs.length + j]?)
  | [], xs, H, hn, hb, hl => ⟨fun i b h => by simp at h, fun b _ h => by simp only [putB]; rw [List.getElem?_append_left h], fun j => by simp only [putB]; rw [List.getElem?_append_right (by omega)]; simp⟩
  | c :: bs, x :: xs, H, hn, hb, hl => by
    obtain ⟨hc, hn'⟩ := List.nodup_cons.1 hn
    have hcl := hb c (by simp)
    obtain ⟨h1, h2, h3⟩ := putB_get (bs := bs) (xs := xs) (H := H.set c x) hn' (fun b h => by simpa using hb b (by simp [h])) (by simpa using hl)
    simp only [putB]
    refine ⟨fun i b hi => ?_, fun b hnb hbl => ?_, fun j => ?_⟩
    · cases i with
      | zero => simp at hi; subst hi; rw [h2 c hc (by simpa using hcl)]; simp [hcl]
      | succ i => simp at hi; simpa using h1 i b hi
    · simp at hnb
      rw [h2 b hnb.2 (by simpa using hbl), List.getElem?_set_ne (Ne.symm hnb.1)]
    · have := h3 j
      simp only [List.length_set] at this
      rw [this, List.length_cons, show bs.length + 1 + j = (bs.length + j) + 1 by omega, List.getElem?_cons_succ]
  | _ :: _, [], _, _, _, hl => by simp at hl

def okBs : List Nat → Nat → Bool
  | [], _ => true
  | b :: bs, n => match Nat.blt b n, bs.elem b with
    | true, false => okBs bs n
    | _, _ => false

theorem okBs_spec : ∀ {bs : List Nat} {n : Nat}, okBs bs n = true → bs.Nodup ∧ ∀ b ∈ bs, b < n
  | [], n, _ => ⟨List.nodup_nil, fun b h => by cases h⟩
  | b :: bs, n, h => by
    simp only [okBs] at h
    split at h
    · rename_i h1 h2
      obtain ⟨g1, g2⟩ := okBs_spec h
      rw [Nat.blt_eq] at h1
      refine ⟨List.nodup_cons.2 ⟨by simpa using h2, g1⟩, fun c hc => ?_⟩
      rcases List.mem_cons.1 hc with rfl | hc
      · exact h1
      · exact g2 c hc
    · cases h

def backVC (bs : List Nat) (H : List Blk) (d : AV) (H' : List Blk) (R : AV → List Blk → Prop) : Prop :=
  match Nat.ble bs.length H'.length, renT (renO (outF bs H.length)) d, renBs (outF bs H.length) H' with
  | true, some d', some Hr => forceD d' fun d' => forceH (putB bs Hr H) fun H'' => R d' H''
  | _, _, _ => False

def heapCallVC (P : Program) (s : St) (f : AV) (args : List AV) (R : AV → List Blk → Prop) : Prop :=
  match f with
  | .fn n fs cs => unL none args fun args => ∃ (bs : List Nat) (Q : AV → List Blk → Prop), okBs bs s.heap.length = true ∧
      match renL (renV (renO (idxIn bs 0))) (fs ++ args ++ cs), pickR (idxIn bs 0) s.heap bs with
      | some as, some Hc => HeapC P n as Hc Q ∧ ∀ d H', Q d H' → backVC bs s.heap d H' R
      | _, _ => False
  | _ => False

theorem heapCall_ok {P : Program} {o : Oper} {s : St} {R : AV → List Blk → Prop} {f : Operand} {args : Array Operand} {tys : Array TypeId} (ho : o.op = .call { callee := .value f, args := args, argTypes := tys })
    (h : heapCallVC P s (ev s f) (evL s args) R) : OpN P o s R := by
  unfold heapCallVC at h
  split at h
  case h_2 => exact h.elim
  rename_i n fs cs hfe
  obtain ⟨ys, ⟨bs, Q, hok, h⟩, hl, hys⟩ := unL_spec _ h
  obtain ⟨hnd, hbl⟩ := okBs_spec hok
  split at h
  case h_2 => exact h.elim
  rename_i as Hc has hHc
  obtain ⟨⟨hcall, hcalls⟩, hback⟩ := h
  intro a w imm φ hev hH
  rw [ho] at hev
  have r1 := hev f (by simp [Op.operands, Call.operands])
  rw [hfe] at r1
  have r2 : ∀ (i : Nat) (y : AV) (u : Value), ys[i]? = some y → (args.map a.eval)[i]? = some u → VRel w.cell? imm φ y u := by
    intro i y u h1 h2
    simp at h2
    obtain ⟨x, hx, rfl⟩ := h2
    refine hys i (ev s x) y _ (by simp [evL, hx]) h1 (hev x ?_)
    simp only [Op.operands, Call.operands, Array.mem_append]
    exact .inr (Array.mem_of_getElem? hx)
  generalize hu : a.eval f = u at r1
  cases r1 with
  | fn _ _ _ _ us vs h1 h2 hfs hcs =>
  have hrun : (execOp a.eval o).run P w = .ok (.enter n ((us ++ args.map a.eval) ++ vs)) w := by
    simp only [execOp, ho, resolve, hu, Deferred.ofValue, Sem.run_bind, Sem.run_pure, Result.andThen_ok, invoke]
    exact run_callFunc hcall _ w
  obtain ⟨φc, hφc⟩ : ∃ φc : Phi, ∀ i, φc i = (bs[i]?).bind φ := ⟨_, fun _ => rfl⟩
  have hin : ∀ b i, idxIn bs 0 b = some i → φc i = φ b := fun b i hi => by
    have := (idxIn_get hi).2
    rw [hφc, Nat.sub_zero] at *
    rw [this]; rfl
  have hcin : ∀ i rb, φc i = some rb → ∃ b, bs[i]? = some b ∧ φ b = some rb := fun i rb hi => by
    rw [hφc] at hi
    cases hb : bs[i]? with
    | none => rw [hb] at hi; cases hi
    | some b => rw [hb] at hi; exact ⟨b, rfl, hi⟩
  have hren := renO_ok (cell := w.cell?) (imm := imm) (imm' := imm) (r := idxIn bs 0) (fun _ h => h) hin
  obtain ⟨hpl, hpg⟩ := pickR_get hHc
  have hHc' : Heap w imm φc (fun b => Hc[b]?) := by
    refine ⟨fun i rb hi => ?_, fun i rb hi => ?_, fun i j rb rb' hi hj he => ?_, hH.immLt, hH.glob⟩
    · obtain ⟨b, hb1, hb2⟩ := hcin i rb hi
      obtain ⟨x, y, g1, g2, g3⟩ := hpg i b hb1
      obtain ⟨x', hx', hbr⟩ := hH.blk b rb hb2
      rw [g1] at hx'; cases hx'
      exact ⟨y, g2, renB_ok (fun _ h => h) hin hren (fun _ _ => renO_dcell) (fun _ _ => renO_simple) g3 hbr fun h => h⟩
    · obtain ⟨b, hb1, hb2⟩ := hcin i rb hi
      exact hH.lt b rb hb2
    · obtain ⟨b, hb1, hb2⟩ := hcin i rb hi
      obtain ⟨c, hc1, hc2⟩ := hcin j rb' hj
      have := hH.inj b c rb rb' hb2 hc2 he
      subst this
      have e1 := idxIn_of (i := 0) hnd hb1
      have e2 := idxIn_of (i := 0) hnd hc1
      rw [e1] at e2
      simpa using e2
  intro next Qx hnext
  unfold Oper.wp
  rw [hrun]
  obtain ⟨hasl, hasg⟩ := renL_get has
  have hargs := hcalls w imm φc ((us ++ args.map a.eval) ++ vs) hHc' (by rw [hasl]; simp [h1, h2, hl, evL]) fun i x v hx hv => by
    obtain ⟨x0, hx0, hxr⟩ := hasg i x hx
    refine renV_ok hren hxr ?_
    rw [List.append_assoc] at hx0
    rw [Array.append_assoc] at hv
    have hyl : ys.length = args.size := by simpa [evL] using hl
    by_cases hi : i < fs.length
    · rw [List.getElem?_append_left hi] at hx0
      rw [Array.getElem?_append_left (by omega)] at hv
      exact hfs i x0 v hx0 hv
    · rw [List.getElem?_append_right (by omega)] at hx0
      rw [Array.getElem?_append_right (by omega)] at hv
      by_cases hi2 : i - fs.length < ys.length
      · rw [List.getElem?_append_left hi2] at hx0
        rw [Array.getElem?_append_left (by simp; omega)] at hv
        exact r2 _ x0 v hx0 (by rw [← h1]; exact hv)
      · rw [List.getElem?_append_right (by omega)] at hx0
        rw [Array.getElem?_append_right (by simp; omega)] at hv
        refine hcs _ x0 v hx0 ?_
        have e : i - us.size - (Array.map a.eval args).size = i - fs.length - ys.length := by simp; omega
        rw [← e]
        exact hv
  refine hargs.mono fun e w' ⟨v, he, imm', φc', d, H', hQ, hdv, ht, hH'⟩ => ?_
  subst he
  have hb := hback d H' hQ
  unfold backVC at hb
  split at hb
  case h_2 => exact hb.elim
  rename_i d' Hr hlen hd' hHr
  rw [forceD_eq, forceH_eq] at hb
  have hlen : bs.length ≤ H'.length := by simpa using hlen
  obtain ⟨hrl, hrg⟩ := renBs_get hHr
  obtain ⟨p1, p2, p3⟩ := putB_get (bs := bs) (xs := Hr) (H := s.heap) hnd hbl (by omega)
  have hold : ∀ b, φ b ≠ none → b < s.heap.length := fun b hb => by
    cases hp : φ b with
    | none => exact absurd hp hb
    | some rb => obtain ⟨x, hx, _⟩ := hH.blk b rb hp; exact (List.getElem?_eq_some_iff.1 hx).1
  obtain ⟨φ', hφ'⟩ : ∃ φ' : Phi, ∀ b, φ' b = if b < s.heap.length then (match idxIn bs 0 b with | some i => φc' i | none => φ b) else φc' (bs.length + (b - s.heap.length)) := ⟨_, fun _ => rfl⟩
  have hout : ∀ i b, outF bs s.heap.length i = some b → φ' b = φc' i := fun i b hi => by
    unfold outF at hi
    split at hi
    · rename_i c hc
      cases hi
      rw [hφ', if_pos (hbl _ (List.mem_of_getElem? hc)), idxIn_of hnd hc]
      simp
    · rename_i hc
      cases hi
      have : bs.length ≤ i := by
        rcases Nat.lt_or_ge i bs.length with h | h
        · rw [List.getElem?_eq_getElem h] at hc; cases hc
        · exact h
      rw [hφ', if_neg (by omega)]
      congr 1; omega
  -- a name of the caller's: old and untouched, handed in, or new
  have hname : ∀ b rb, φ' b = some rb → (b < s.heap.length ∧ b ∉ bs ∧ φ b = some rb) ∨ (∃ i, bs[i]? = some b ∧ φc' i = some rb) ∨ (∃ j, b = s.heap.length + j ∧ φc' (bs.length + j) = some rb) := fun b rb hb => by
    rw [hφ'] at hb
    split at hb
    · rename_i hlt
      cases hi : idxIn bs 0 b with
      | none =>
        rw [hi] at hb
        refine .inl ⟨hlt, fun hm => ?_, hb⟩
        obtain ⟨k, hk⟩ := List.mem_iff_getElem?.1 hm
        rw [idxIn_of hnd hk] at hi; cases hi
      | some i =>
        rw [hi] at hb
        exact .inr (.inl ⟨i, by simpa using (idxIn_get hi).2, hb⟩)
    · exact .inr (.inr ⟨b - s.heap.length, by omega, hb⟩)
  have t : Trans w imm φ w' imm' φ' (· ∈ bs) := by
    refine ⟨ht.os, ht.tape, ht.output, ht.drawn, ht.size, fun r hr hne => ht.keep r hr fun i rb hi _ => ?_, ht.immKeep, ht.immMono, fun r hr => ?_, fun b rb hb => ?_, fun b rb' hb => ?_⟩
    · obtain ⟨b, hb1, hb2⟩ := hcin i rb hi
      exact hne b rb hb2 (List.mem_of_getElem? hb1)
    · rcases ht.immNew r hr with h | h | ⟨i, rb, hi, he, _⟩
      · exact .inl h
      · exact .inr (.inl h)
      · obtain ⟨b, hb1, hb2⟩ := hcin i rb hi
        exact .inr (.inr ⟨b, rb, hb2, he, List.mem_of_getElem? hb1⟩)
    · have hlt := hold b (by simp [hb])
      rw [hφ', if_pos hlt]
      cases hi : idxIn bs 0 b with
      | none => exact ⟨rb, hb, Nat.le_refl _, fun _ => rfl⟩
      | some i => exact ht.phi i rb (by rw [hin b i hi, hb])
    · rcases hname b rb' hb with ⟨_, _, h⟩ | ⟨i, hi, h⟩ | ⟨j, hj, h⟩
      · exact .inl ⟨rb', h, .inl rfl⟩
      · rcases ht.own i rb' h with ⟨rb, hrb, he⟩ | ⟨hn, he⟩
        · refine .inl ⟨rb, ?_, he⟩
          rw [hφc, hi] at hrb; exact hrb
        · refine .inr ⟨?_, he⟩
          rw [hφc, hi] at hn; exact hn
      · rcases ht.own _ rb' h with ⟨rb, hrb, he⟩ | ⟨hn, he⟩
        · obtain ⟨b', hb', _⟩ := hcin _ rb hrb
          have := (List.getElem?_eq_some_iff.1 hb').1
          omega
        · refine .inr ⟨?_, he⟩
          cases hp : φ b with
          | none => rfl
          | some rb => have := hold b (by simp [hp]); omega
  have hren2 := renO_ok (cell := w'.cell?) (imm := imm') (imm' := imm') (r := outF bs s.heap.length) (fun _ h => h) hout
  have hHeap : Heap w' imm' φ' (fun b => (putB bs Hr s.heap)[b]?) := by
    have blkc : ∀ i rb, φc' i = some rb → ∃ y, Hr[i]? = some y ∧ BRel w' imm' φ' y rb := fun i rb hi => by
      obtain ⟨x, hx, hbr⟩ := hH'.blk i rb hi
      obtain ⟨y, hy, hxy⟩ := hrg i x hx
      exact ⟨y, hy, renB_ok (fun _ h => h) hout hren2 (fun _ _ => renO_dcell) (fun _ _ => renO_simple) hxy hbr fun h => h⟩
    have mixed : ∀ b rb i rb', b < s.heap.length → b ∉ bs → φ b = some rb → φc' i = some rb' → rb.base.block = rb'.base.block → False := fun b rb i rb' h1 h2 h3 h4 he => by
      have hlt := hH.lt b rb h3
      rcases ht.own i rb' h4 with ⟨rb0, hrb0, e | e⟩ | ⟨_, e⟩
      · obtain ⟨b', hb1, hb2⟩ := hcin i rb0 hrb0
        have := hH.inj b b' rb rb0 h3 hb2 (by omega)
        subst this
        exact h2 (List.mem_of_getElem? hb1)
      · omega
      · omega
    refine ⟨fun b rb hb => ?_, fun b rb hb => ?_, fun b b' rb rb' hb hb' he => ?_, hH'.immLt, hH'.glob⟩
    · rcases hname b rb hb with ⟨h1, h2, h3⟩ | ⟨i, hi, h⟩ | ⟨j, hj, h⟩
      · obtain ⟨x, hx, hbr⟩ := hH.blk b rb h3
        refine ⟨x, (p2 b h2 h1).trans hx, BRel.trans t hbr (hH.lt b rb h3) fun b' rb' hb' hm he => ?_⟩
        have := hH.inj b' b rb' rb hb' h3 he
        subst this
        exact h2 hm
      · obtain ⟨y, hy, hbr⟩ := blkc i rb h
        exact ⟨y, (p1 i b hi).trans hy, hbr⟩
      · subst hj
        obtain ⟨y, hy, hbr⟩ := blkc _ rb h
        exact ⟨y, (p3 j).trans hy, hbr⟩
    · rcases hname b rb hb with ⟨h1, h2, h3⟩ | ⟨i, hi, h⟩ | ⟨j, hj, h⟩
      · exact Nat.lt_of_lt_of_le (hH.lt b rb h3) ht.size
      · exact hH'.lt i rb h
      · exact hH'.lt _ rb h
    · rcases hname b rb hb with ⟨h1, h2, h3⟩ | ⟨i, hi, h⟩ | ⟨j, hj, h⟩ <;> rcases hname b' rb' hb' with ⟨k1, k2, k3⟩ | ⟨i', hi', k⟩ | ⟨j', hj', k⟩
      · exact hH.inj b b' rb rb' h3 k3 he
      · exact (mixed b rb i' rb' h1 h2 h3 k he).elim
      · exact (mixed b rb _ rb' h1 h2 h3 k he).elim
      · exact (mixed b' rb' i rb k1 k2 k3 h he.symm).elim
      · have := hH'.inj i i' rb rb' h k he
        subst this
        rw [hi] at hi'
        simpa using hi'
      · have := hH'.inj _ _ rb rb' h k he
        have := (List.getElem?_eq_some_iff.1 hi).1
        omega
      · exact (mixed b' rb' _ rb k1 k2 k3 h he.symm).elim
      · have := hH'.inj _ _ rb rb' h k he
        have := (List.getElem?_eq_some_iff.1 hi').1
        omega
      · have := hH'.inj _ _ rb rb' h k he
        omega
  exact hnext v w' ⟨imm', φ', d', putB bs Hr s.heap, hb, renT_ok hren2 hd' hdv, t.weaken fun _ _ => trivial, hHeap⟩

end Vm
end Go.Proofs.YtdbpcmpkpbamhaaGreatDoor
