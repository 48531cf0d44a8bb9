/- The abstract machine: make and append. -/
import Derived.Test.YtdbpcmpkpbamhaaGreatDoorMc
import Derived.Laws.BytesArg
namespace Go.Proofs.YtdbpcmpkpbamhaaGreatDoor
set_option linter.unusedVariables false
set_option linter.unusedSimpArgs false
namespace Vm
open Go

theorem flat_mem {c : AV} : ∀ (l : List AV), c ∈ flat l → ∃ y ∈ l, c ∈ cellsOf y
  | [], h => by simp [flat] at h
  | y :: l, h => by
    simp only [flat, List.mem_append] at h
    rcases h with h | h
    · exact ⟨y, by simp, h⟩
    · obtain ⟨z, h1, h2⟩ := flat_mem l h
      exact ⟨z, by simp [h1], h2⟩

theorem flat_replicate {e : AV} {q : Nat} (he : (cellsOf e).length = q) : ∀ (n j : Nat) (c : AV), (flat (List.replicate n e))[j]? = some c → (cellsOf e)[j % q]? = some c
  | 0, j, c, h => by simp [flat] at h
  | n + 1, j, c, h => by
    simp only [List.replicate_succ, flat] at h
    by_cases hj : j < q
    · rw [List.getElem?_append_left (by omega)] at h
      rw [Nat.mod_eq_of_lt hj]; exact h
    · rw [List.getElem?_append_right (by omega), he] at h
      have := flat_replicate he n _ c h
      rw [Nat.mod_eq_sub_mod (by omega)]; exact this

def makeSliceVC (T : Nat → Option TI) (s : St) (t : Nat) (l c : AV) (k : AV → Eff → Prop) : Prop :=
  match T t with
  | some ti => match ti.u with
    | .slice e => match T e with
      | some te => match te.zero with
        | some z => match Nat.beq (cellsOf (ofConst z)).length te.size, Nat.beq z.cells.size te.size, (cellsOf (ofConst z)).all AV.dcell with
          | true, true, true => un none l fun l => un none c fun c => match l, c with
            | .val (.int _ l), .val (.int _ c) => (0 ≤ l ∧ l ≤ c ∧ c * te.bytes ≤ 140737488355328 ∧ c ≤ 9223372036854775807) ∧
                k (.ref s.heap.length 0 l.toNat none 0 te.size) (.alloc (.row (List.replicate l.toNat (ofConst z)) te.size 0))
            | _, _ => False
          | _, _, _ => False
        | none => False
      | none => False
    | _ => False
  | none => False

theorem makeSlice_ok {P : Program} {T : Nat → Option TI} (hT : TOk P T) {o : Oper} {s : St} {k : AV → Eff → Prop} {t : Nat} {l c : Operand} (ho : o.op = .makeSlice t l c) (h : makeSliceVC T s t (ev s l) (ev s c) k) : Good P none o s k := by
  unfold makeSliceVC at h
  split at h
  case h_2 => exact h.elim
  rename_i ti ht
  split at h
  case h_2 => exact h.elim
  rename_i e hu
  split at h
  case h_2 => exact h.elim
  rename_i te hte
  split at h
  case h_2 => exact h.elim
  rename_i z hz
  split at h
  case h_2 => exact h.elim
  rename_i hk1 hk2 hdc
  have hk1 := Nat.eq_of_beq_eq_true hk1
  have hk2 := Nat.eq_of_beq_eq_true hk2
  obtain ⟨vl, h1, hl⟩ := un_spec h
  clear h
  obtain ⟨vc, h, hc⟩ := un_spec h1
  clear h1
  split at h
  case h_2 => exact h.elim
  rename_i kl l' kc c'
  obtain ⟨⟨h0, h1, h2, h3⟩, h⟩ := h
  refine ⟨_, .alloc _, fun a w imm φ H hev hH hid hacc => ?_, trivial, h⟩
  have e1 := (hl (hev l (by simp [ho, Op.operands]))).val_inv
  have e2 := (hc (hev c (by simp [ho, Op.operands]))).val_inv
  have r1 := hT.under t ti ht
  rw [hu] at r1
  obtain ⟨i, i1, i2, i3, i4⟩ := hT.info e te hte
  have hrun := run_make (P := P) w t e i z r1 i1 (by rw [i4, hz]) kl kc l' c' h0 h1 (by rw [i3, Int.mul_comm]; omega) h3
  obtain ⟨l', rfl⟩ := Int.eq_ofNat_of_zero_le h0
  obtain ⟨c', rfl⟩ := Int.eq_ofNat_of_zero_le (Int.le_trans h0 h1)
  simp only [Int.toNat_natCast] at hrun ⊢
  refine .of_run (w' := w.alloc (.cells (madeCells z.cells (c' * i.size)) e)) (v := .slice (some ⟨w.heap.size, 0, none⟩) l' c') (by simp [execOp, ho, e1, e2, hrun]) ?_
  have hcell : (cellsOf (ofConst z)).all AV.isCell = true := List.all_eq_true.2 fun c hc => dcell_isCell ((List.all_eq_true.1 hdc) c hc)
  refine After.alloc (rb := ⟨⟨w.heap.size, 0, none⟩, te.size, l', 0, c'⟩) hH (hid rfl) rfl rfl rfl (Nat.le_refl _) rfl rfl (fun hmono hnew hni => ?_) fun hself => ?_
  · refine ⟨rfl, rfl, by simp, by simp; omega, hni, fun x hx => ?_, fun c hcm => ?_, rfl, _, e, hnew, by simp [size_madeCells, i2], fun j c hj => ?_⟩
    · rw [(List.mem_replicate.1 hx).2]; exact hk1
    · obtain ⟨y, hy, hcy⟩ := flat_mem _ hcm
      rw [(List.mem_replicate.1 hy).2] at hcy
      exact (List.all_eq_true.1 hdc) c hcy
    · have hj' := flat_replicate hk1 _ _ _ hj
      have hlen : (flat (List.replicate l' (ofConst z))).length = l' * te.size := by
        rw [flat_len (k := te.size) _ fun x hx => by rw [(List.mem_replicate.1 hx).2]; exact hk1]
        simp
      have hjl : j < l' * te.size := by rw [← hlen]; exact (List.getElem?_eq_some_iff.1 hj).1
      have hle : l' * te.size ≤ c' * te.size := Nat.mul_le_mul_right _ (by omega)
      obtain ⟨u, u1, u2⟩ := (vrel_cells (ofConst_rel (cell := w.cell?) (imm := imm) (φ := Phi.none) z) hcell).2 _ c hj'
      have hms : 0 < te.size := by
        rcases Nat.eq_zero_or_pos te.size with h | h
        · rw [h] at hjl; simp at hjl
        · exact h
      have hmod : j % te.size < z.cells.size := by rw [hk2]; exact Nat.mod_lt _ hms
      refine ⟨u, ?_, vrel_none (u2.mono (fun a u hi hc => ?_) (fun _ h => h) (phi_refl _)) _⟩
      · rw [Nat.zero_add, i2]
        simp only [madeCells, Array.getElem?_map, Array.getElem?_range]
        rw [if_pos (by omega)]
        simp only [Option.map_some, hk2]
        have : z.cells[j % te.size]! = u := by
          rw [getElem!_pos z.cells _ hmod]
          rw [Array.getElem?_eq_getElem hmod] at u1
          exact Option.some.inj u1
        rw [this]
      · have hlt := hH.immLt _ hi
        rw [cell_of_heap (w' := w.alloc (.cells (madeCells z.cells (c' * i.size)) e))]
        · exact hc
        · show (w.heap.push _)[a.block]? = _
          rw [Array.getElem?_push, if_neg (by omega)]
  · exact .ref _ _ _ _ _ _ _ _ _ hself (Nat.le_refl _) ⟨_, _, rfl, by omega⟩ fun _ => ⟨rfl, _, _, rfl, by omega, by simp, fun _ => by simp; omega, (fun m e => by simp at e), fun h => ⟨by simp [Addr.add], by simp⟩, rfl⟩

/-! ### append -/
def srcVC (s : St) (q : Nat) (y : AV) (K : List AV → Prop) : Prop :=
  match y with
  | .sl _ _ q' ys => q' = q ∧ K ys
  | .ref b off len _ g q' => match s.heap[b]? with
    | some (.row elems q2 g') => (g' = g ∧ q' = q ∧ q2 = q) ∧ K ((elems.drop off).take len)
    | _ => False
  | _ => False

theorem srcVC_spec {P : Program} {s : St} {q : Nat} {y : AV} {K : List AV → Prop} (h : srcVC s q y K) : ∃ ys, K ys ∧
    ∀ {w : World} {imm : Nat → Prop} {φ : Phi} {H : Nat → Option Blk} {v : Value} {tx e' : TypeId}, VRel w.cell? imm φ y v → Heap w imm φ H → (∀ b ∈ blkOf y, H b = s.heap[b]?) → P.underlying tx = some (.slice e') →
      ∃ news, Src P q tx v ys.length news w ∧ (∀ x ∈ ys, (cellsOf x).length = q) ∧ (∀ c ∈ flat ys, c.dcell = true) ∧ ∀ (j : Nat) (c : AV), (flat ys)[j]? = some c → ∃ u, news[j]? = some u ∧ VRel w.cell? imm Phi.none c u := by
  have main : ∀ {w : World} {imm : Nat → Prop} {tx e' : TypeId} (ad : Addr) (cap : Nat) (ys : List AV), P.underlying tx = some (.slice e') → (∀ x ∈ ys, (cellsOf x).length = q) → (∀ c ∈ flat ys, c.dcell = true) →
      (∀ (j : Nat) (c : AV), (flat ys)[j]? = some c → ∃ u, w.cell? (ad.add j) = some u ∧ VRel w.cell? imm Phi.none c u) →
      ∃ news, Src P q tx (.slice (some ad) ys.length cap) ys.length news w ∧ ∀ (j : Nat) (c : AV), (flat ys)[j]? = some c → ∃ u, news[j]? = some u ∧ VRel w.cell? imm Phi.none c u := by
    intro w imm tx e' ad cap ys hun hk hd hc
    have hlen := flat_len ys hk
    refine ⟨(List.range (flat ys).length).map fun j => (w.cell? (ad.add j)).getD undef, Src.ofSlice w hun ad ys.length cap _ (by simp [hlen]) (fun j u hu => ?_) (fun u hu => ?_), fun j c hj => ?_⟩
    · obtain ⟨hj, he⟩ := List.getElem?_eq_some_iff.1 hu
      simp at hj he
      obtain ⟨u', h1, _⟩ := hc j (flat ys)[j] (by simp [hj])
      rw [h1] at he ⊢
      simp at he
      rw [he]
    · obtain ⟨j, hj, rfl⟩ := List.mem_map.1 hu
      have hj := List.mem_range.1 hj
      obtain ⟨u', h1, h2⟩ := hc j (flat ys)[j] (by simp [hj])
      rw [h1]
      exact h2.oneCell (dcell_isCell (hd _ (List.getElem_mem _)))
    · have hl := (List.getElem?_eq_some_iff.1 hj).1
      obtain ⟨u', h1, h2⟩ := hc j c hj
      exact ⟨u', by simp [hl, h1], h2⟩
  unfold srcVC at h
  split at h
  · rename_i n cp q' ys
    obtain ⟨rfl, h⟩ := h
    refine ⟨ys, h, fun {w imm φ H v tx e'} hv hH hacc hun => ?_⟩
    cases hv with
    | nil _ _ _ _ hn hc => exact ⟨[], Src.ofNil w hun 0, by simp, by simp [flat], fun j c hj => by simp [flat] at hj⟩
    | sl _ _ _ _ ad cap _ us hn hcc hcap ha hk1 hd hvv =>
      have hdd : ∀ c ∈ flat ys, c.dcell = true := fun c hc => by
        obtain ⟨j, hj, rfl⟩ := List.getElem_of_mem hc
        exact (hd j _ (by simp [hj])).2.1
      obtain ⟨news, n1, n2⟩ := main (w := w) (imm := imm) ad cap ys hun hk1 hdd fun j c hj => ⟨us j, (hd j c hj).2.2, hvv j c hj⟩
      exact ⟨news, n1, hk1, hdd, n2⟩
  · rename_i b off len lim g q'
    split at h
    case h_2 => exact h.elim
    rename_i elems q2 g' hsb
    obtain ⟨⟨hg', rfl, rfl⟩, h⟩ := h
    refine ⟨_, h, fun {w imm φ H v tx e'} hv hH hacc hun => ?_⟩
    cases hv with
    | ref _ _ _ _ _ _ _ _ rb hb hg hs hvv =>
      obtain ⟨z, hz, hbr⟩ := hH.blk b rb hb
      rw [hacc b (by simp [blkOf]), hsb] at hz
      cases hz
      obtain ⟨h1, h2, h3, h3', h4, h5, h6, hsp, arr, ty, ha, hl, hc⟩ := hbr
      obtain ⟨_, ad, cap, rfl, hcap, hn, hl1, hl2, had, hsp0⟩ := hvv (by omega)
      have hlen : ((elems.drop off).take len).length = len := by simp; omega
      have hk' : ∀ x ∈ (elems.drop off).take len, (cellsOf x).length = q2 := fun x hx => h5 x (List.mem_of_mem_drop (List.mem_of_mem_take hx))
      have hfl : flat ((elems.drop off).take len) = ((flat elems).drop (off * q2)).take (len * q2) := by
        rw [flat_take _ _ (fun x hx => h5 x (List.mem_of_mem_drop hx)) (by simp; omega), flat_drop _ _ h5 (by omega)]
      have hdd : ∀ c ∈ flat ((elems.drop off).take len), c.dcell = true := fun c hc => by
        rw [hfl] at hc
        exact h6 c (List.mem_of_mem_drop (List.mem_of_mem_take hc))
      have := main (w := w) (imm := imm) ad cap ((elems.drop off).take len) hun hk' hdd fun j c hj => by
        rw [hfl, List.getElem?_take] at hj
        split at hj
        case isFalse => cases hj
        rename_i hjl
        rw [List.getElem?_drop] at hj
        have hpos : 0 < cap := by
          rcases Nat.eq_zero_or_pos cap with h | h
          · have : len = 0 := by omega
            rw [this] at hjl; simp at hjl
          · exact h
        obtain ⟨u, q1, q3⟩ := hc _ _ hj
        refine ⟨u, ?_, q3⟩
        rw [(had hpos).1, Addr.add_add, h2]
        exact cell_of_row hsp ha q1
      rw [hlen] at this ⊢
      obtain ⟨news, n1, n2⟩ := this
      exact ⟨news, n1, hk', hdd, n2⟩
  · exact h.elim

theorem run_append_room_row {P : Program} (w : World) (t tx ty e : TypeId) (i : TypeInfo) (ht : P.underlying t = some (.slice e)) (hi : P.info? e = some i) (b off sLen sCap : Nat) (x : Value) (n : Nat) (news : List Value)
    (hs : Src P i.size tx x n news w) (hroom : sLen + n ≤ sCap) (arr : Array Value) (et : TypeId) (ha : w.heap[b]? = some (.cells arr et (0, 0))) (hfit : off + sLen * i.size + news.length ≤ arr.size) :
    (Builtin.append_ #[t, tx] ty #[.slice (some ⟨b, off, none⟩) sLen sCap, x]).run P w = .ok (.slice (some ⟨b, off, none⟩) (sLen + n) sCap)
      (w.setRow b (arr.toList.take (off + sLen * i.size) ++ news ++ arr.toList.drop (off + sLen * i.size + news.length)).toArray) := by
  have hst := run_storeCells_at P b (off + sLen * i.size) et news 0 arr w ha (by simpa using hfit) hs.one
  simp only [Nat.add_zero] at hst
  rcases hs.kind with ⟨e', hk⟩ | hk <;> simp [Builtin.append_, run_underlying ht, run_underlying hk, sizeOf, typeInfo, hi, hs.len, hroom, hs.cells, Addr.add_lit, hst]

theorem run_append_none {P : Program} (w : World) (t tx ty e : TypeId) (i : TypeInfo) (ht : P.underlying t = some (.slice e)) (hi : P.info? e = some i) (base : Option Addr) (sLen sCap : Nat) (x : Value)
    (hs : Src P i.size tx x 0 [] w) (hle : sLen ≤ sCap) : (Builtin.append_ #[t, tx] ty #[.slice base sLen sCap, x]).run P w = .ok (.slice base sLen sCap) w := by
  rcases hs.kind with ⟨e', hk⟩ | hk <;> cases base <;> simp [Builtin.append_, run_underlying ht, run_underlying hk, sizeOf, typeInfo, hi, hs.len, hle, hs.cells, storeCells]

def kOk : List AV → Nat → Nat → Prop
  | [], _, _ => True
  | _ :: _, q, k => q = k

def appendVC (T : Nat → Option TI) (s : St) (t tx : Nat) (x y : AV) (k : AV → Eff → Prop) : Prop :=
  match T t, T tx with
  | some ti, some tj => match ti.u, tj.u with
    | .slice e, .slice _ => match T e with
      | some te => match te.zero with
        | some z => match Nat.beq z.cells.size te.size with
         | true => un none x fun x => un none y fun y => srcVC s te.size y fun ys => match x with
          | .sl n (some cap) q xs =>
            ((cap < xs.length + ys.length ∧ (xs.length + ys.length) * te.bytes ≤ 140737488355328 ∧ (xs.length + ys.length) ≤ 9223372036854775807 ∧ kOk xs q te.size) ∧ k (.ref s.heap.length 0 (xs.length + ys.length) none 0 te.size) (.alloc (.row (xs ++ ys) te.size 0))) ∨
            (ys = [] ∧ k (.sl n (some cap) q xs) .none)
          | .ref b off len _ g q => match s.heap[b]? with
            | some (.row elems q' g') => (g' = g ∧ q = te.size ∧ (len + ys.length) * te.bytes ≤ 140737488355328 ∧ len + ys.length ≤ 9223372036854775807) ∧
              k (.ref b 0 (len + ys.length) none (g + 1) te.size) (.set b (.row ((elems.drop off).take len ++ ys) te.size (g + 1)))
            | _ => False
          | _ => False
         | false => False
        | none => False
      | none => False
    | _, _ => False
  | _, _ => False

end Vm
end Go.Proofs.YtdbpcmpkpbamhaaGreatDoor

/- The abstract machine: append. -/
namespace Go.Proofs.YtdbpcmpkpbamhaaGreatDoor
set_option linter.unusedVariables false
set_option linter.unusedSimpArgs false
namespace Vm
open Go

/-- The cells of a new row: what was there, what is appended, and spare room. -/
theorem rel_append {w' : World} {imm : Nat → Prop} {xs ys : List AV} {olds news rest : List Value} {q : Nat} (hx : ∀ x ∈ xs, (cellsOf x).length = q) (hol : olds.length = xs.length * q)
    (h1 : ∀ (j : Nat) (c : AV), (flat xs)[j]? = some c → ∃ u, olds[j]? = some u ∧ VRel w'.cell? imm Phi.none c u) (h2 : ∀ (j : Nat) (c : AV), (flat ys)[j]? = some c → ∃ u, news[j]? = some u ∧ VRel w'.cell? imm Phi.none c u)
    (j : Nat) (c : AV) (hj : (flat (xs ++ ys))[j]? = some c) : ∃ u, (olds ++ news ++ rest)[j]? = some u ∧ VRel w'.cell? imm Phi.none c u := by
  have hl := flat_len xs hx
  rw [flat_append] at hj
  by_cases hlt : j < (flat xs).length
  · rw [List.getElem?_append_left hlt] at hj
    obtain ⟨u, q1, q2⟩ := h1 j c hj
    exact ⟨u, by rw [List.append_assoc, List.getElem?_append_left (by omega)]; exact q1, q2⟩
  · rw [List.getElem?_append_right (by omega)] at hj
    obtain ⟨u, q1, q2⟩ := h2 _ c hj
    have := (List.getElem?_eq_some_iff.1 q1).1
    refine ⟨u, ?_, q2⟩
    rw [List.append_assoc, List.getElem?_append_right (by omega), List.getElem?_append_left (by omega), hol, ← hl]
    exact q1

theorem append_ok {P : Program} {T : Nat → Option TI} (hT : TOk P T) {o : Oper} {s : St} {k : AV → Eff → Prop} {t tx : Nat} {x y : Operand} (ho : o.op = .call { callee := .builtin .append, args := #[x, y], argTypes := #[t, tx] })
    (h : appendVC T s t tx (ev s x) (ev s y) k) : Good P none o s k := by
  unfold appendVC at h
  split at h
  case h_2 => exact h.elim
  rename_i ti tj ht htx
  split at h
  case h_2 => exact h.elim
  rename_i e e' hu hux
  split at h
  case h_2 => exact h.elim
  rename_i te hte
  split at h
  case h_2 => exact h.elim
  rename_i z hz
  split at h
  case h_2 => exact h.elim
  rename_i hzs
  have hzs := Nat.eq_of_beq_eq_true hzs
  obtain ⟨vx, h1, hbx, hx⟩ := un_blk h
  clear h
  obtain ⟨vy, h, hby, hy⟩ := un_blk h1
  clear h1
  obtain ⟨ys, h1, hsrc⟩ := srcVC_spec (P := P) h
  clear h
  have h := h1
  clear h1
  have hac : ∀ b, b ∈ blkOf (ev s x) ∨ b ∈ blkOf (ev s y) → b ∈ accOf o s := fun b hb => by
    simp only [accOf, ho, List.flatMap_cons, List.flatMap_nil, List.append_nil, List.mem_append]
    exact hb
  have opx : x ∈ o.op.operands := by simp [ho, Op.operands, Call.operands]
  have opy : y ∈ o.op.operands := by simp [ho, Op.operands, Call.operands]
  have hun := hT.under t ti ht
  rw [hu] at hun
  have hunx := hT.under tx tj htx
  rw [hux] at hunx
  obtain ⟨i, i1, i2, i3, i4⟩ := hT.info e te hte
  have run : ∀ (a : Act) (w w' : World) vx vy v, a.eval x = vx → a.eval y = vy → (Builtin.append_ #[t, tx] o.type #[vx, vy]).run P w = .ok v w' → (execOp a.eval o).run P w = .ok (.value v) w' := by
    intro a w w' vx vy v e1 e2 e
    simp only [execOp, ho, resolve, Sem.run_bind, Sem.run_pure, Result.andThen_ok, invoke, builtin]
    simp only [List.map_toArray, List.map_cons, List.map_nil, e1, e2, e, Result.andThen_ok]
  split at h
  · rename_i n cap q xs
    rcases h with ⟨⟨hg, hb, h63, hq⟩, h⟩ | ⟨hnil, h⟩
    · refine ⟨_, .alloc _, fun a w imm φ H hev hH hid hacc => ?_, trivial, h⟩
      obtain ⟨news, hs, hk2, hd2, hc2⟩ := hsrc (hy (hev y opy)) hH (fun b hb => hacc b (hac b (.inr (hby b hb)))) hunx
      have hv := hx (hev x opx)
      generalize hvy : a.eval y = uy at hs
      generalize hvx : a.eval x = ux at hv
      rw [← i2] at hs
      -- what was there
      obtain ⟨base, olds, hux', hol, hold, hk1, hd1, hc1⟩ : ∃ (base : Option Addr) (olds : List Value), ux = .slice base xs.length cap ∧ olds.length = xs.length * i.size ∧
          (Builtin.firstCells i.size xs.length (.slice base xs.length cap)).run P w.drew = .ok olds.toArray w.drew ∧ (∀ x ∈ xs, (cellsOf x).length = te.size) ∧ (∀ c ∈ flat xs, c.dcell = true) ∧
          ∀ (j : Nat) (c : AV), (flat xs)[j]? = some c → ∃ u, olds[j]? = some u ∧ VRel w.cell? imm Phi.none c u := by
        cases hv with
        | nil _ _ _ _ hn hc =>
          have : cap = 0 := by rcases hc with hc | hc <;> simp at hc; exact hc
          subst this
          exact ⟨none, [], rfl, by simp, run_firstCells_none _ _ _ _ _, by simp, by simp [flat], fun j c hj => by simp [flat] at hj⟩
        | sl _ _ _ _ ad cap' _ us hn hcc hcap ha hk1 hd hvv =>
          have : cap = cap' := by rcases hcc with hc | hc <;> simp at hc; exact hc
          subst this
          have hk1 : ∀ x ∈ xs, (cellsOf x).length = te.size := by
            cases xs with
            | nil => simp
            | cons x xs => have hq : q = te.size := hq; rw [← hq]; exact hk1
          have hlen := flat_len xs hk1
          refine ⟨some ad, (List.range (flat xs).length).map us, rfl, by simp [hlen, i2], run_firstCells_some _ _ _ _ _ _ _ (by simp [hlen, i2]) (fun j v hj => ?_), hk1, fun c hc => ?_, fun j c hj => ?_⟩
          · obtain ⟨hj', he⟩ := List.getElem?_eq_some_iff.1 hj
            simp at hj' he
            have := (hd j (flat xs)[j] (by simp [hj'])).2.2
            rw [← he]
            exact this
          · obtain ⟨j, hj, rfl⟩ := List.getElem_of_mem hc
            exact (hd j _ (by simp [hj])).2.1
          · have hl := (List.getElem?_eq_some_iff.1 hj).1
            exact ⟨us j, by simp [hl], hvv j c hj⟩
      subst hux'
      have hrun := run_append_grow_src (P := P) w t tx o.type e i z hun i1 (by rw [i4, hz]) base xs.length cap olds hold uy ys.length news hs hg (by omega) (growslice_fits hg (by rw [i3]; exact hb))
      refine .of_run (run a w _ _ _ _ hvx hvy hrun) ?_
      have hge := grownCap_ge w (xs.length + ys.length) cap e
      refine After.alloc (rb := ⟨⟨w.heap.size, 0, none⟩, te.size, xs.length + ys.length, 0, grownCap w (xs.length + ys.length) cap e⟩) hH (hid rfl) rfl rfl rfl (Nat.le_succ _) rfl rfl (fun hmono hnew hni => ?_) fun hself => ?_
      · have hzc := size_zeroCells z.cells (grownCap w (xs.length + ys.length) cap e - (xs.length + ys.length))
        refine ⟨rfl, rfl, by simp, hge, hni, fun x hx => ?_, fun c hc => ?_, rfl, _, e, hnew, ?_, fun j c hj => ?_⟩
        · rcases List.mem_append.1 hx with hx | hx
          · exact hk1 x hx
          · exact hk2 x hx
        · rw [flat_append] at hc
          rcases List.mem_append.1 hc with hc | hc
          · exact hd1 c hc
          · exact hd2 c hc
        · have e1 : xs.length * te.size + ys.length * te.size + (grownCap w (xs.length + ys.length) cap e - (xs.length + ys.length)) * te.size = grownCap w (xs.length + ys.length) cap e * te.size := by
            rw [← Nat.add_mul, ← Nat.add_mul]; congr 1; omega
          have e2 := hs.newsLen
          simp only [Nat.zero_add, Array.size_append, List.size_toArray, List.length_append, hol, e2, hzc, hzs, i2]
          omega
        · have hmono' : ∀ c u, VRel w.cell? imm Phi.none c u → VRel (w.drew.alloc (.cells ((olds ++ news).toArray ++ Builtin.zeroCells z.cells (grownCap w (xs.length + ys.length) cap e - (xs.length + ys.length))) e)).cell? imm Phi.none c u := fun c u hv =>
            hv.mono (fun a u hi hc => by
              have hlt := hH.immLt _ hi
              rw [cell_of_heap (w := w)]
              · exact hc
              · show (w.heap.push _)[a.block]? = _
                rw [Array.getElem?_push, if_neg (by omega)]) (fun _ h => h) (phi_refl _)
          obtain ⟨u, q1, q2⟩ := rel_append (w' := w.drew.alloc (.cells ((olds ++ news).toArray ++ Builtin.zeroCells z.cells (grownCap w (xs.length + ys.length) cap e - (xs.length + ys.length))) e)) (imm := imm)
            (rest := (Builtin.zeroCells z.cells (grownCap w (xs.length + ys.length) cap e - (xs.length + ys.length))).toList) hk1 (by rw [hol, i2]) (fun j c hj => let ⟨u, a, b⟩ := hc1 j c hj; ⟨u, a, hmono' _ _ b⟩)
            (fun j c hj => let ⟨u, a, b⟩ := hc2 j c hj; ⟨u, a, hmono' _ _ b⟩) j c hj
          refine ⟨u, ?_, q2⟩
          rw [← q1, Nat.zero_add]
          rw [← Array.getElem?_toList]
          simp
      · exact .ref _ _ _ _ _ _ _ _ _ hself (Nat.le_refl _) ⟨_, _, rfl, hge⟩ fun _ => ⟨rfl, _, _, rfl, hge, by simp, fun _ => by simp; exact hge, (fun m e => by simp at e), fun h => ⟨by simp [Addr.add], by simp⟩, rfl⟩
    · subst hnil
      refine ⟨_, .none, fun a w imm φ H hev hH hid hacc => ?_, trivial, h⟩
      obtain ⟨news, hs, hk2, hd2, hc2⟩ := hsrc (hy (hev y opy)) hH (fun b hb => hacc b (hac b (.inr (hby b hb)))) hunx
      have hv := hx (hev x opx)
      generalize hvy : a.eval y = uy at hs
      generalize hvx : a.eval x = ux at hv
      rw [← i2] at hs
      have hn0 : news = [] := List.eq_nil_of_length_eq_zero (by have := hs.newsLen; simpa using this)
      subst hn0
      have : ∃ base cap', ux = .slice base xs.length cap' ∧ xs.length ≤ cap' := by
        cases hv with
        | nil => exact ⟨none, 0, rfl, by simp⟩
        | sl _ _ _ _ ad cap' _ us hn hcc hcap ha hk1 hd hvv => exact ⟨_, _, rfl, hcap⟩
      obtain ⟨base, cap', hux', hle⟩ := this
      rw [hux'] at hv hvx
      have hrun := run_append_none (P := P) w t tx o.type e i hun i1 base xs.length cap' uy hs hle
      exact .of_run (run a w _ _ _ _ hvx hvy hrun) (After.pure hH hv)
  · rename_i b off len lim g q
    split at h
    case h_2 => exact h.elim
    rename_i elems q' g' hsb
    obtain ⟨⟨hg', hq, hb, h63⟩, h⟩ := h
    refine ⟨_, .set _ _, fun a w imm φ H hev hH hid hacc => ?_, (List.getElem?_eq_some_iff.1 hsb).1, h⟩
    obtain ⟨news, hs, hk2, hd2, hc2⟩ := hsrc (hy (hev y opy)) hH (fun b hb => hacc b (hac b (.inr (hby b hb)))) hunx
    have hv := hx (hev x opx)
    generalize hvy : a.eval y = uy at hs
    generalize hvx : a.eval x = ux at hv
    rw [← i2] at hs
    cases hv with
    | ref _ _ _ _ _ _ _ _ rb hpb hg hs' hvv =>
      obtain ⟨zz, hzz, hbr⟩ := hH.blk b rb hpb
      rw [hacc b (hac b (.inl (hbx b (by simp [blkOf])))), hsb] at hzz
      cases hzz
      obtain ⟨h1, h2, h3, h3', h4, h5, h6, hsp, arr, ty, ha, hl, hc⟩ := hbr
      obtain ⟨hkq, ad, cap, rfl, hcap, hn, hl1, hl2, had, hsp0⟩ := hvv (by omega)
      have hq' : q' = te.size := by omega
      subst hq'
      have hlen : ((elems.drop off).take len).length = len := by simp; omega
      have hk' : ∀ x ∈ (elems.drop off).take len, (cellsOf x).length = te.size := fun x hx => h5 x (List.mem_of_mem_drop (List.mem_of_mem_take hx))
      have hfl : flat ((elems.drop off).take len) = ((flat elems).drop (off * te.size)).take (len * te.size) := by
        rw [flat_take _ _ (fun x hx => h5 x (List.mem_of_mem_drop hx)) (by simp; omega), flat_drop _ _ h5 (by omega)]
      have hdd : ∀ c ∈ flat ((elems.drop off).take len), c.dcell = true := fun c hc => by
        rw [hfl] at hc
        exact h6 c (List.mem_of_mem_drop (List.mem_of_mem_take hc))
      have hkk : ∀ x ∈ (elems.drop off).take len ++ ys, (cellsOf x).length = te.size := fun x hx => by
        rcases List.mem_append.1 hx with hx | hx
        · exact hk' x hx
        · exact hk2 x hx
      have hddd : ∀ c ∈ flat ((elems.drop off).take len ++ ys), c.dcell = true := fun c hc => by
        rw [flat_append] at hc
        rcases List.mem_append.1 hc with hc | hc
        · exact hdd c hc
        · exact hd2 c hc
      have hfo : ∀ (j : Nat) (c : AV), (flat ((elems.drop off).take len))[j]? = some c → ∃ u, arr[rb.base.off + (off * te.size + j)]? = some u ∧ VRel w.cell? imm Phi.none c u := by
        intro j c hj
        rw [hfl, List.getElem?_take] at hj
        split at hj
        case isFalse => cases hj
        rw [List.getElem?_drop] at hj
        exact hc _ _ hj
      by_cases hroom : len + ys.length ≤ cap
      · by_cases hc0 : cap = 0
        · -- nothing there, nothing appended
          have hl0 : len = 0 := by omega
          have hy0 : ys.length = 0 := by omega
          have hyn := List.eq_nil_of_length_eq_zero hy0
          subst hyn
          subst hl0
          have hn0 : news = [] := List.eq_nil_of_length_eq_zero (by have := hs.newsLen; simpa using this)
          subst hn0
          have hrun := run_append_none (P := P) w t tx o.type e i hun i1 (some ad) 0 cap uy hs (by omega)
          refine .of_run (run a w _ _ _ _ hvx hvy hrun) ?_
          let rb' : RB := ⟨rb.base, te.size, 0, g + 1, 0⟩
          have hge : rb.gen = g := by omega
          have t' : Trans w imm φ w imm (phiSet φ b rb') (· = b) := ⟨rfl, rfl, rfl, Nat.le_refl _, Nat.le_refl _, fun _ _ _ => rfl, fun _ _ => rfl, fun _ h => h, fun _ h => .inl h, fun b2 rb2 hb2 => by
            by_cases hbb : b2 = b
            · subst hbb
              rw [hpb] at hb2; cases hb2
              exact ⟨rb', by simp [phiSet], by show rb.gen ≤ g + 1; omega, fun hh => by have : g + 1 = rb.gen := hh; omega⟩
            · exact ⟨rb2, by simp [phiSet, hbb, hb2], Nat.le_refl _, fun _ => rfl⟩, fun b2 rb2 hb2 => by
            by_cases hbb : b2 = b
            · subst hbb
              simp [phiSet] at hb2
              subst hb2
              exact .inl ⟨rb, hpb, .inl rfl⟩
            · simp [phiSet, hbb] at hb2
              exact .inl ⟨rb2, hb2, .inl rfl⟩⟩
          refine ⟨imm, phiSet φ b rb', ?_, t', hH.upd t' ⟨rfl, rfl, by simp [rb'], Nat.le_refl _, h4, by simp, by simp [flat], hsp, arr, ty, ha, by simp [rb']; omega, fun j c hj => by simp [flat] at hj⟩ (hH.lt b rb hpb) (.inl ⟨rb, hpb, rfl⟩) hH.immLt,
            fun b2 q1 q2 => ?_, fun h => by simp [Eff.isNew] at h⟩
          · refine .ref _ _ _ _ _ _ _ _ rb' (by simp [phiSet]) (by simp [rb']) ⟨_, _, rfl, by simp⟩ fun _ => ⟨rfl, _, _, rfl, by simp, by simp [rb'], fun _ => by simp [rb'], (fun m e => by simp at e), fun h => by omega, hsp0⟩
          · by_cases hbb : b2 = b
            · subst hbb; rw [hpb] at q1; cases q1
            · simp [phiSet, hbb, q1] at q2
        · -- room: in place
          have hpos : 0 < cap := by omega
          obtain ⟨had1, had2⟩ := had hpos
          have hmul1 : (off + cap) * te.size ≤ rb.room * te.size := Nat.mul_le_mul_right _ had2
          have hmul2 : (len + ys.length) * te.size ≤ cap * te.size := Nat.mul_le_mul_right _ hroom
          rw [Nat.add_mul] at hmul1 hmul2
          have hnl := hs.newsLen
          rw [i2] at hnl
          rw [h2] at had1
          rw [Addr.add_off hsp] at had1
          subst had1
          have hrun := run_append_room_row (P := P) w t tx o.type e i hun i1 rb.base.block (rb.base.off + off * te.size) len cap uy ys.length news hs hroom arr ty ha (by rw [i2]; omega)
          rw [i2] at hrun
          refine .of_run (run a w _ _ _ _ hvx hvy hrun) ?_
          let rb' : RB := ⟨⟨rb.base.block, rb.base.off + off * te.size, none⟩, te.size, len + ys.length, g + 1, rb.room - off⟩
          have hge : rb.gen = g := by omega
          generalize hw' : (arr.toList.take (rb.base.off + off * te.size + len * te.size) ++ news ++ arr.toList.drop (rb.base.off + off * te.size + len * te.size + news.length)).toArray = arr'
          have t0 := trans_setRow (w := w) hpb h4 arr'
          have t' : Trans w imm φ (w.setRow rb.base.block arr') imm (phiSet φ b rb') (· = b) := ⟨t0.os, t0.tape, t0.output, t0.drawn, t0.size, t0.keep, t0.immKeep, t0.immMono, t0.immNew, fun b2 rb2 hb2 => by
            by_cases hbb : b2 = b
            · subst hbb
              rw [hpb] at hb2; cases hb2
              exact ⟨rb', by simp [phiSet], by show rb.gen ≤ g + 1; omega, fun hh => by have : g + 1 = rb.gen := hh; omega⟩
            · exact ⟨rb2, by simp [phiSet, hbb, hb2], Nat.le_refl _, fun _ => rfl⟩, fun b2 rb2 hb2 => by
            by_cases hbb : b2 = b
            · subst hbb
              simp [phiSet] at hb2
              subst hb2
              exact .inl ⟨rb, hpb, .inl rfl⟩
            · simp [phiSet, hbb] at hb2
              exact .inl ⟨rb2, hb2, .inl rfl⟩⟩
          have hmono : ∀ c u, VRel w.cell? imm Phi.none c u → VRel (w.setRow rb.base.block arr').cell? imm Phi.none c u := fun c u hv =>
            hv.mono (fun a u hi hc => by rw [cell_of_heap (t0.immKeep _ hi)]; exact hc) (fun _ h => h) (phi_refl _)
          have hsub : (rb.room - off) * te.size = rb.room * te.size - off * te.size := Nat.sub_mul _ _ _
          refine ⟨imm, phiSet φ b rb', ?_, t', hH.upd t' ⟨rfl, rfl, by simp [rb']; omega, by show len + ys.length ≤ rb.room - off; omega, h4, hkk, hddd, rfl, arr', ty, setRow_heap w _ arr arr' ty _ ha, ?_, fun j c hj => ?_⟩ (by simp [rb']; exact hH.lt b rb hpb)
            (.inl ⟨rb, hpb, rfl⟩) (fun r hr => by simp; exact hH.immLt r hr), fun b2 q1 q2 => ?_, fun h => by simp [Eff.isNew] at h⟩
          · refine .ref _ _ _ _ _ _ _ _ rb' (by simp [phiSet]) (by simp [rb']) ⟨_, _, rfl, hroom⟩ fun _ => ⟨rfl, _, _, rfl, hroom, by simp [rb'], fun _ => by simp [rb']; omega, (fun m e => by simp at e), fun h => ⟨by simp [rb', Addr.add], by show 0 + cap ≤ rb.room - off; omega⟩, rfl⟩
          · subst hw'
            rw [splice_size (by omega)]
            show rb.base.off + off * te.size + (rb.room - off) * te.size ≤ arr.size
            rw [hsub]; omega
          · subst hw'
            rw [flat_append] at hj
            have hlf : (flat ((elems.drop off).take len)).length = len * te.size := by rw [flat_len _ hk', hlen]
            show ∃ u, (_ : Array Value)[rb.base.off + off * te.size + j]? = some u ∧ _
            rw [splice_arr (by omega)]
            by_cases hjl : j < len * te.size
            · rw [List.getElem?_append_left (by omega)] at hj
              obtain ⟨u, q1, q2⟩ := hfo j c hj
              exact ⟨u, by rw [if_neg (by omega), Nat.add_assoc]; exact q1, hmono _ _ q2⟩
            · rw [List.getElem?_append_right (by omega), hlf] at hj
              obtain ⟨u, q1, q2⟩ := hc2 _ c hj
              have := (List.getElem?_eq_some_iff.1 q1).1
              exact ⟨u, by rw [if_pos (by omega), show rb.base.off + off * te.size + j - (rb.base.off + off * te.size + len * te.size) = j - len * te.size by omega]; exact q1, hmono _ _ q2⟩
          · by_cases hbb : b2 = b
            · subst hbb; rw [hpb] at q1; cases q1
            · simp [phiSet, hbb, q1] at q2
      · -- no room: a new row
        have hg1 : cap < len + ys.length := by omega
        have hfle : ∀ j, j < len * te.size → ∃ u c, (flat ((elems.drop off).take len))[j]? = some c ∧ arr[rb.base.off + (off * te.size + j)]? = some u ∧ VRel w.cell? imm Phi.none c u := by
          intro j hj
          have hlf : (flat ((elems.drop off).take len)).length = len * te.size := by rw [flat_len _ hk', hlen]
          obtain ⟨u, q1, q2⟩ := hfo j (flat ((elems.drop off).take len))[j] (by simp [hlf, hj])
          exact ⟨u, _, by simp [hlf, hj], q1, q2⟩
        let olds : List Value := (List.range (len * te.size)).map fun j => (arr[rb.base.off + (off * te.size + j)]?).getD undef
        have hol : olds.length = len * te.size := by simp [olds]
        have hold : (Builtin.firstCells i.size len (.slice (some ad) len cap)).run P w.drew = .ok olds.toArray w.drew := by
          refine run_firstCells_some _ _ _ _ _ _ _ (by rw [hol, i2]) fun j v hj => ?_
          obtain ⟨hj', he⟩ := List.getElem?_eq_some_iff.1 hj
          rw [hol] at hj'
          have hpos : 0 < cap := by
            rcases Nat.eq_zero_or_pos cap with h | h
            · have : len = 0 := by omega
              rw [this] at hj'; simp at hj'
            · exact h
          obtain ⟨had1, had2⟩ := had hpos
          obtain ⟨u, c, _, q1, q2⟩ := hfle j hj'
          have : v = u := by
            simp [olds] at he
            rw [q1] at he
            simpa using he.symm
          subst this
          show w.cell? _ = _
          rw [had1, Addr.add_add, h2]
          exact cell_of_row hsp ha q1
        have hrun := run_append_grow_src (P := P) w t tx o.type e i z hun i1 (by rw [i4, hz]) (some ad) len cap olds hold uy ys.length news hs hg1 (by omega) (growslice_fits hg1 (by rw [i3]; exact hb))
        refine .of_run (run a w _ _ _ _ hvx hvy hrun) ?_
        have hge := grownCap_ge w (len + ys.length) cap e
        generalize hcap' : grownCap w (len + ys.length) cap e = cap' at *
        generalize harr : ((olds ++ news).toArray ++ Builtin.zeroCells z.cells (cap' - (len + ys.length))) = arr'
        let rb' : RB := ⟨⟨w.heap.size, 0, none⟩, te.size, len + ys.length, g + 1, cap'⟩
        have hold' : ∀ r, r < w.heap.size → (w.drew.alloc (.cells arr' e)).heap[r]? = w.heap[r]? := fun r hr => by
          show (w.heap.push _)[r]? = _
          rw [Array.getElem?_push, if_neg (by omega)]
        have hnew : (w.drew.alloc (.cells arr' e)).heap[w.heap.size]? = some (.cells arr' e (0, 0)) := by
          show (w.heap.push _)[_]? = _
          simp
        have hsz : (w.drew.alloc (.cells arr' e)).heap.size = w.heap.size + 1 := by
          show (w.heap.push _).size = _
          simp
        have t' : Trans w imm φ (w.drew.alloc (.cells arr' e)) imm (phiSet φ b rb') (· = b) := ⟨rfl, rfl, rfl, Nat.le_succ _, by rw [hsz]; omega, fun r hr _ => hold' r hr, fun r hr => hold' r (hH.immLt r hr), fun _ h => h, fun _ h => .inl h, fun b2 rb2 hb2 => by
            by_cases hbb : b2 = b
            · subst hbb
              rw [hpb] at hb2; cases hb2
              exact ⟨rb', by simp [phiSet], by show rb.gen ≤ g + 1; omega, fun hh => by have : g + 1 = rb.gen := hh; omega⟩
            · exact ⟨rb2, by simp [phiSet, hbb, hb2], Nat.le_refl _, fun _ => rfl⟩, fun b2 rb2 hb2 => by
            by_cases hbb : b2 = b
            · subst hbb
              simp [phiSet] at hb2
              subst hb2
              exact .inl ⟨rb, hpb, .inr (Nat.le_refl _)⟩
            · simp [phiSet, hbb] at hb2
              exact .inl ⟨rb2, hb2, .inl rfl⟩⟩
        have hmono : ∀ c u, VRel w.cell? imm Phi.none c u → VRel (w.drew.alloc (.cells arr' e)).cell? imm Phi.none c u := fun c u hv =>
          hv.mono (fun a u hi hc => by rw [cell_of_heap (hold' _ (hH.immLt _ hi))]; exact hc) (fun _ h => h) (phi_refl _)
        have hni : ¬ imm w.heap.size := fun h => by have := hH.immLt _ h; omega
        refine ⟨imm, phiSet φ b rb', ?_, t', hH.upd t' ⟨rfl, rfl, by simp [rb']; omega, hge, hni, hkk, hddd, rfl, arr', e, hnew, ?_, fun j c hj => ?_⟩ (by simp [rb', hsz]) (.inr (Nat.le_refl _)) (fun r hr => by rw [hsz]; have := hH.immLt r hr; omega),
          fun b2 q1 q2 => ?_, fun h => by simp [Eff.isNew] at h⟩
        · exact .ref _ _ _ _ _ _ _ _ rb' (by simp [phiSet]) (by simp [rb']) ⟨_, _, rfl, hge⟩ fun _ => ⟨rfl, _, _, rfl, hge, by simp [rb'], fun _ => by simp [rb']; exact hge, (fun m e => by simp at e), fun h => ⟨by simp [rb', Addr.add], by simp [rb']⟩, rfl⟩
        · subst harr
          have hzc := size_zeroCells z.cells (cap' - (len + ys.length))
          have e1 : len * te.size + ys.length * te.size + (cap' - (len + ys.length)) * te.size = cap' * te.size := by
            rw [← Nat.add_mul, ← Nat.add_mul]; congr 1; omega
          have e2 := hs.newsLen
          show 0 + cap' * te.size ≤ _
          simp only [Nat.zero_add, Array.size_append, List.size_toArray, List.length_append, hol, e2, hzc, hzs, i2]
          omega
        · subst harr
          obtain ⟨u, q1, q2⟩ := rel_append (w' := w.drew.alloc (.cells ((olds ++ news).toArray ++ Builtin.zeroCells z.cells (cap' - (len + ys.length))) e)) (imm := imm)
            (rest := (Builtin.zeroCells z.cells (cap' - (len + ys.length))).toList) hk' (by rw [hol, hlen]) (fun j c hj => by
              obtain ⟨u, q1, q2⟩ := hfo j c hj
              have hjl : j < len * te.size := by
                have := (List.getElem?_eq_some_iff.1 hj).1
                rw [flat_len _ hk', hlen] at this
                exact this
              exact ⟨u, by simp [olds, hjl, q1], hmono _ _ q2⟩)
            (fun j c hj => let ⟨u, a, b⟩ := hc2 j c hj; ⟨u, a, hmono _ _ b⟩) j c hj
          refine ⟨u, ?_, q2⟩
          show (_ : Array Value)[0 + j]? = _
          rw [← q1, Nat.zero_add]
          rw [← Array.getElem?_toList]
          simp
        · by_cases hbb : b2 = b
          · subst hbb; rw [hpb] at q1; cases q1
          · simp [phiSet, hbb, q1] at q2
  · exact h.elim

end Vm
end Go.Proofs.YtdbpcmpkpbamhaaGreatDoor

/- The abstract machine: a string out of bytes; calls of functions that only compute, with memory of one's own that nobody writes any more. -/
namespace Go.Proofs.YtdbpcmpkpbamhaaGreatDoor
set_option linter.unusedVariables false
set_option linter.unusedSimpArgs false
namespace Vm
open Go

abbrev bs (l : List UInt8) : ByteArray := ⟨⟨l⟩⟩
abbrev str (l : List UInt8) : AV := .val (.string (bs l))
abbrev u8 (c : UInt8) : AV := .val (.int .u8 (c.toNat : Int))

def bytesVC (T : Nat → Option TI) (c : Option Bool) (s : St) (src dst : Nat) (x : AV) (k : AV → Eff → Prop) : Prop :=
  match T src, T dst with
  | some ti, some tj => match ti.u, tj.u with
    | .slice e, .string => match T e with
      | some te => match te.u with
        | .int .u8 => un c x fun x => srcVC s 1 x fun ys => ∃ l : List UInt8, imp c (ys = l.map u8) ∧ k (str l) .none
        | _ => False
      | none => False
    | _, _ => convVC T c src dst x k
  | _, _ => False

theorem flat_u8 : ∀ l : List UInt8, flat (l.map u8) = l.map u8
  | [] => rfl
  | x :: l => by rw [List.map_cons, flat, flat_u8 l]; rfl

theorem bytesVC_ok {P : Program} {T : Nat → Option TI} (hT : TOk P T) {c : Option Bool} {o : Oper} {s : St} {k : AV → Eff → Prop} {src dst : Nat} {x : Operand} (ho : o.op = .convert src dst x)
    (h : bytesVC T c s src dst (ev s x) k) : Good P c o s k := by
  unfold bytesVC at h
  split at h
  case h_2 => exact h.elim
  rename_i ti tj h1 h2
  split at h
  case h_2 => exact convVC_ok hT ho h
  rename_i e hu1 hu2
  split at h
  case h_2 => exact h.elim
  rename_i te hte
  split at h
  case h_2 => exact h.elim
  rename_i hue
  obtain ⟨vx, h, hbx, hx⟩ := un_blk h
  obtain ⟨ys, hk, hsrc⟩ := srcVC_spec (P := P) h
  obtain ⟨l, hl, hk⟩ := hk
  have q1 := hT.under src ti h1
  have q2 := hT.under dst tj h2
  have q3 := hT.under e te hte
  rw [hu1] at q1
  rw [hu2] at q2
  rw [hue] at q3
  have hac : accOf o s = blkOf (ev s x) := by simp [accOf, ho]
  refine good_read hk ((hx.and hl).mono fun ⟨hx, hl⟩ a w imm φ H hev hH hacc => ⟨_, ?_, .val _ _⟩)
  have r := hx (hev x (by simp [ho, Op.operands]))
  obtain ⟨news, hs, h3, h4, h5⟩ := hsrc r hH (fun b hb => hacc b (by rw [hac]; exact hbx b hb)) q1
  subst hl
  have hn : news = (l.map fun c : UInt8 => (c.toNat : Int)).map (Value.int .u8) := by
    refine List.ext_getElem? fun j => ?_
    rw [flat_u8] at h5
    by_cases hj : j < l.length
    · obtain ⟨u, hu, hv⟩ := h5 j (u8 l[j]) (by simp [hj])
      rw [hu, hv.val_inv]
      simp [hj]
    · have := hs.newsLen
      rw [List.getElem?_eq_none (by simp at this; omega), List.getElem?_eq_none (by simp; omega)]
  have hfin : ∀ (ad : Addr) (cap : Nat), a.eval x = .slice (some ad) l.length cap → (execOp a.eval o).run P w = .ok (.value (.string (bs l))) w := by
    intro ad cap he
    have hc := hs.cells
    rw [he] at hc
    simp only [Builtin.firstCells, List.length_map, Nat.mul_one] at hc
    rw [hn] at hc
    have hcv : (convert src dst (.slice (some ad) l.length cap)).run P w = .ok (.string (bs l)) w := by
      rw [run_convert_bytes_string w src dst e _ _ cap q1 q3 q2, run_bytesToString w _ _ cap (l.map fun c : UInt8 => (c.toNat : Int)) hc, foldl_push_bytes]
      have : (ByteArray.empty.data ++ (List.map (fun n : Int => UInt8.ofNat n.toNat) (List.map (fun c : UInt8 => (c.toNat : Int)) l)).toArray) = l.toArray := by
        apply Array.ext'
        simp [ByteArray.empty, ByteArray.emptyWithCapacity, Function.comp_def]
        rfl
      rw [this]
    simp only [execOp, ho, he, Sem.run_bind, hcv, Result.andThen_ok, Sem.run_pure]
  have hlen := hs.len w
  cases hu : a.eval x with
  | slice ad n cap =>
    rw [hu] at hlen
    cases ad with
    | some ad =>
      refine hfin ad cap ?_
      simp [Builtin.lenOf] at hlen
      rw [hu, hlen]
    | none =>
      have hl0 : l = [] := by
        rw [hu] at r
        unfold srcVC at h
        cases r with
        | nil => 
          simp only at h
          simp [Builtin.lenOf] at hlen
          exact List.eq_nil_of_length_eq_zero hlen.symm
        | ref _ _ _ _ _ _ _ _ _ _ _ hs' => obtain ⟨_, _, h, _⟩ := hs'; cases h
        | _ => exact h.elim
      subst hl0
      have := run_convert_bytes_nil (P := P) w src e q1 q3 n cap dst q2
      simp only [execOp, ho, hu, Sem.run_bind, this, Result.andThen_ok, Sem.run_pure]
      rfl
  | string b0 =>
    exfalso
    rw [hu] at r
    unfold srcVC at h
    cases r with
    | ref _ _ _ _ _ _ _ _ _ _ _ hs' => obtain ⟨_, _, h, _⟩ := hs'; cases h
    | _ => exact h.elim
  | _ => rw [hu] at hlen; simp [Builtin.lenOf] at hlen

/-! ### Own memory that nobody writes any more -/
def frz1 (H : List Blk) (x : AV) : AV :=
  match x with
  | .ref b off len lim g k => match H[b]? with
    | some (.row elems _ g') => match Nat.beq g' g with
      | true => .sl (some false) none k ((elems.drop off).take len)
      | false => .junk
    | _ => .junk
  | .ptr b i off g => match H[b]? with
    | some (.box cs _) => match Nat.beq g 0, Nat.beq i 0, cs.all AV.dcell with
      | true, true, true => .ipt (cs.drop off)
      | _, _, _ => .junk
    | _ => .junk
  | x => x
def frzA (H : List Blk) (x : AV) : AV :=
  match x with
  | .agg cs => .agg (cs.map (frz1 H))
  | x => frz1 H x
def frz (H : List Blk) (x : AV) : AV :=
  match x with
  | .tup vs => .tup (vs.map (frzA H))
  | x => frzA H x

def immAll (imm : Nat → Prop) (φ : Phi) : Nat → Prop := fun r => imm r ∨ ∃ b rb, φ b = some rb ∧ rb.base.block = r

theorem vrel_imm {cell : Addr → Option Value} {imm imm' : Nat → Prop} {φ : Phi} {x : AV} {v : Value} (h : VRel cell imm φ x v) (hi : ∀ r, imm r → imm' r) : VRel cell imm' φ x v :=
  h.mono (fun _ _ _ h => h) hi fun b rb h => ⟨rb, h, Nat.le_refl _, fun _ => rfl⟩

theorem frz1_rel {w : World} {imm imm' : Nat → Prop} {φ : Phi} {H : List Blk} (hi : ∀ r, imm r → imm' r) {Hf : Nat → Option Blk} (hH : Heap w imm φ Hf) {x : AV} {v : Value} (hA : ∀ b ∈ blkOf x, Hf b = H[b]?) (h : VRel w.cell? imm φ x v) (hB : ∀ b ∈ blkOf x, ∀ rb, φ b = some rb → imm' rb.base.block) (hd : (frz1 H x).dcell = true) : VRel w.cell? imm' Phi.none (frz1 H x) v := by
  have gen : x.dcell = true → VRel w.cell? imm' Phi.none x v := fun hd => (vrel_imm h hi).dcell hd
  unfold frz1 at hd ⊢
  cases h with
  | ref _ b off len lim g k v rb hb hg hs hv =>
    simp only at hd ⊢
    obtain ⟨y, hy, hbr⟩ := hH.blk b rb hb
    rw [hA b (by simp [blkOf])] at hy
    rw [hy] at hd ⊢
    cases y with
    | row elems k' g' =>
      simp only at hd ⊢
      cases hge : Nat.beq g' g with
      | false => rw [hge] at hd; simp [AV.dcell] at hd
      | true =>
        simp only
        have hge := Nat.eq_of_beq_eq_true hge
        obtain ⟨e1, e2, e3, e4, hni, hk, hdc, hsp, arr, ty, ha, hl, hc⟩ := hbr
        obtain ⟨hkk, a, c, rfl, hle, hn, hl1, hl2, had, hsp0⟩ := hv (by omega)
        have hlen : ((elems.drop off).take len).length = len := by simp; omega
        have : VRel w.cell? imm' Phi.none (.sl (some false) none k ((elems.drop off).take len)) (.slice (some a) ((elems.drop off).take len).length c) := by
          have sub : ∀ (j : Nat) (y : AV), (flat ((elems.drop off).take len))[j]? = some y → (flat elems)[off * k + j]? = some y ∧ 0 < c := by
            intro j y hj
            rw [flat_take (k := k') _ _ (fun x hx => hk x (List.mem_of_mem_drop hx)) (by simp; omega), List.getElem?_take] at hj
            split at hj
            · rename_i hlt
              rw [flat_drop _ _ hk (by omega), List.getElem?_drop] at hj
              refine ⟨by rw [← hkk, e2]; exact hj, ?_⟩
              cases len with
              | zero => simp at hlt
              | succ n => omega
            · cases hj
          obtain ⟨f, hf⟩ : ∃ f : Nat → Value, ∀ j, f j = (arr[rb.base.off + (off * k + j)]?).getD undef := ⟨_, fun _ => rfl⟩
          have key : ∀ (j : Nat) (y : AV), (flat ((elems.drop off).take len))[j]? = some y → w.cell? (a.add j) = some (f j) ∧ VRel w.cell? imm Phi.none y (f j) ∧ a.block = rb.base.block ∧ y.dcell = true := by
            intro j y hj
            obtain ⟨h1, h2⟩ := sub j y hj
            obtain ⟨u, hu, hur⟩ := hc _ _ h1
            have hfu : f j = u := by rw [hf, hu]; rfl
            obtain ⟨hae, _⟩ := had h2
            refine ⟨?_, hfu ▸ hur, ?_, hdc y (List.mem_of_getElem? h1)⟩
            · rw [hfu, hae, Addr.add_add, hkk]
              exact cell_of_row hsp ha hu
            · rw [hae]; unfold Addr.add; split <;> rfl
          refine .sl _ _ _ _ _ _ _ f (by simp) (.inl rfl) (by rw [hlen]; exact hle) hsp0 (fun x hx => ?_) (fun j y hj => ?_) fun j y hj => ?_
          · rw [← hkk, e2]; exact hk x (List.mem_of_mem_drop (List.mem_of_mem_take hx))
          · obtain ⟨h1, h2, h3, h4⟩ := key j y hj
            exact ⟨by rw [h3]; exact hB b (by simp [blkOf]) rb hb, h4, h1⟩
          · exact vrel_imm (key j y hj).2.1 hi
        rw [hlen] at this
        exact this
    | _ => simp [AV.dcell] at hd
  | ptr _ b i off g v rb hb hg hs hv =>
    simp only at hd ⊢
    obtain ⟨y, hy, hbr⟩ := hH.blk b rb hb
    rw [hA b (by simp [blkOf])] at hy
    rw [hy] at hd ⊢
    cases y with
    | box cs ro =>
      simp only at hd ⊢
      split
      · rename_i hg0 hi0 hall
        have hg0 : g = 0 := by simpa using hg0
        have hi0 : i = 0 := by simpa using hi0
        subst hg0; subst hi0
        obtain ⟨e1, e2, _, _, hsp, arr, ty, ha, hl, hc⟩ := hbr
        have e := hv e1
        subst e
        obtain ⟨f, hf⟩ : ∃ f : Nat → Value, ∀ j, f j = (arr[rb.base.off + (off + j)]?).getD undef := ⟨_, fun _ => rfl⟩
        have key : ∀ (j : Nat) (y : AV), (cs.drop off)[j]? = some y → w.cell? ((rb.base.add (0 * rb.k + off)).add j) = some (f j) ∧ VRel w.cell? imm φ y (f j) ∧ y.dcell = true := by
          intro j y hj
          rw [List.getElem?_drop] at hj
          obtain ⟨u, hu, hur⟩ := hc _ _ hj
          have hfu : f j = u := by rw [hf, hu]; rfl
          refine ⟨?_, hfu ▸ hur, (List.all_eq_true.1 hall) y (List.mem_of_getElem? hj)⟩
          rw [hfu, Addr.add_add, Nat.zero_mul, Nat.zero_add]
          exact cell_of_row hsp ha hu
        refine .ipt _ _ _ f (by unfold Addr.add; split <;> simp_all) (fun j y hj => ?_) fun j y hj => ?_
        · obtain ⟨h1, h2, h3⟩ := key j y hj
          exact ⟨by have := hB b (by simp [blkOf]) rb hb; unfold Addr.add; (repeat' split) <;> exact this, h3, h1⟩
        · obtain ⟨h1, h2, h3⟩ := key j y hj
          exact (vrel_imm h2 hi).dcell h3
      · rename_i hne
        simp only [AV.dcell] at hd
        cases hd
    | _ => simp [AV.dcell] at hd
  | _ => exact gen hd


/-! ### A call with memory of one's own that nobody writes any more -/
def refIn : List AV → Option Nat
  | [] => none
  | .ref b _ _ _ _ _ :: _ => some b
  | _ :: r => refIn r

def AV.dataC (x : AV) : Bool :=
  match x with
  | .agg cs => cs.all AV.dcell
  | .tup _ => false
  | x => x.dcell || (match x with | .val _ => true | _ => false)

def oneRef (b : Nat) (x : AV) : Bool :=
  match x with
  | .ref b' _ _ _ _ _ => Nat.beq b' b
  | x => x.data

section
variable (P : Program)
def valueCallF (s : St) (c : Option Bool) (f : AV) (args : List AV) (k : AV → Eff → Prop) : Prop :=
  un c f fun f => match f with
  | .fn n fs cs => unL c args fun args => match args.all AV.data with
    | true => pureCall P c n (fs ++ args ++ cs) k
    | false => match c, refIn args with
      | none, some b => match s.heap[b]?, args.all (oneRef b), fs.all AV.data, cs.all AV.data, (args.map (frz1 s.heap)).all AV.dataC with
        | some _, true, true, true, true => ∃ res, PureC P n (fs ++ args.map (frz1 s.heap) ++ cs) res ∧ strict res fun res => k res (.set b .dead)
        | _, _, _, _, _ => False
      | _, _ => False
  | _ => False
end

theorem unL_blk {c : Option Bool} : ∀ (xs : List AV) {K : List AV → Prop}, unL c xs K → ∃ ys, K ys ∧ ys.length = xs.length ∧ (∀ (i : Nat) (x y : AV), xs[i]? = some x → ys[i]? = some y → ∀ b ∈ blkOf y, b ∈ blkOf x) ∧
    imp c (∀ {cell : Addr → Option Value} {imm : Nat → Prop} {φ : Phi} (i : Nat) (x y : AV) (u : Value), xs[i]? = some x → ys[i]? = some y → VRel cell imm φ x u → VRel cell imm φ y u)
  | [], K, h => ⟨[], h, rfl, fun i x y h => by simp at h, .of fun i x y u h => by simp at h⟩
  | x :: xs, K, h => by
    obtain ⟨y, h, hb, hy⟩ := un_blk h
    obtain ⟨ys, h, hl, hbs, hys⟩ := unL_blk xs h
    refine ⟨y :: ys, h, by simp [hl], fun i a b h1 h2 => ?_, (hy.and hys).mono fun ⟨hy, hys⟩ cell imm φ i a b u h1 h2 hu => ?_⟩
    · cases i with
      | zero => simp at h1 h2; subst h1; subst h2; exact hb
      | succ i => simp at h1 h2; exact hbs i a b h1 h2
    · cases i with
      | zero => simp at h1 h2; subst h1; subst h2; exact hy hu
      | succ i => simp at h1 h2; exact hys i a b u h1 h2 hu

theorem valueCallF_ok {P : Program} {c : Option Bool} {o : Oper} {s : St} {k : AV → Eff → Prop} {f : Operand} {args : Array Operand} {tys : Array TypeId} (ho : o.op = .call { callee := .value f, args := args, argTypes := tys })
    (h : valueCallF P s c (ev s f) (evL s args) k) : Good P c o s k := by
  obtain ⟨vf, h, hf⟩ := un_spec h
  split at h
  case h_2 => exact h.elim
  rename_i n fs cs
  obtain ⟨ys, h, hl, hbl, hys⟩ := unL_blk _ h
  have r2' : ∀ {a : Act} {w : World} {imm : Nat → Prop} {φ : Phi}, (∀ x ∈ o.op.operands, VRel w.cell? imm φ (ev s x) (a.eval x)) →
      (∀ {cell : Addr → Option Value} {imm : Nat → Prop} {φ : Phi} (i : Nat) (x y : AV) (u : Value), (evL s args)[i]? = some x → ys[i]? = some y → VRel cell imm φ x u → VRel cell imm φ y u) →
      ∀ (i : Nat) (y : AV) (u : Value), ys[i]? = some y → (args.map a.eval)[i]? = some u → VRel w.cell? imm φ y u := by
    intro a w imm φ hev hys i y u h1 h2
    simp at h2
    obtain ⟨x, hx, rfl⟩ := h2
    rw [ho] at hev
    refine hys i (ev s x) y _ (by simp [evL, hx]) h1 (hev x ?_)
    simp only [Op.operands, Call.operands, Array.mem_append]
    exact .inr (Array.mem_of_getElem? hx)
  have parts : ∀ {R : AV → Value → Prop} {us vs : Array Value} {a : Act} (zs : List AV), zs.length = ys.length → us.size = fs.length → vs.size = cs.length → (∀ (i : Nat) (x : AV) (v : Value), fs[i]? = some x → us[i]? = some v → R x v) → (∀ (i : Nat) (x : AV) (v : Value), cs[i]? = some x → vs[i]? = some v → R x v) →
      (∀ (i : Nat) (x : AV) (v : Value), zs[i]? = some x → (args.map a.eval)[i]? = some v → R x v) → ∀ (i : Nat) (x : AV) (v : Value), (fs ++ zs ++ cs)[i]? = some x → ((us ++ args.map a.eval) ++ vs)[i]? = some v → R x v := by
    intro R us vs a zs hzl h1 h2 hfs hcs hzs i x v hx hv
    have hlz : (args.map a.eval).size = zs.length := by rw [hzl, hl]; simp [evL]
    rw [List.append_assoc] at hx
    rw [Array.append_assoc] at hv
    by_cases hi : i < fs.length
    · rw [List.getElem?_append_left hi] at hx
      rw [Array.getElem?_append_left (by omega)] at hv
      exact hfs i x v hx hv
    · rw [List.getElem?_append_right (by omega)] at hx
      rw [Array.getElem?_append_right (by omega)] at hv
      by_cases hi2 : i - fs.length < zs.length
      · rw [List.getElem?_append_left hi2] at hx
        rw [Array.getElem?_append_left (by omega)] at hv
        exact hzs _ x v hx (by rw [← h1]; exact hv)
      · rw [List.getElem?_append_right (by omega)] at hx
        rw [Array.getElem?_append_right (by omega)] at hv
        refine hcs _ x v hx ?_
        have e : i - us.size - (args.map a.eval).size = i - fs.length - zs.length := by omega
        rw [← e]
        exact hv
  split at h
  · rename_i hd
    unfold pureCall at h
    split at h
    case h_2 => exact h.elim
    rename_i hd
    obtain ⟨res, hp, hk⟩ := h
    rw [strict_eq] at hk
    refine ⟨res, .none, ((hf.and hys).and hp).mono fun ⟨⟨hf, hys⟩, hcall, hres, hp⟩ a w imm φ H hev hH hn hacc => ?_, trivial, hk⟩
    have r2 := r2' hev hys
    rw [ho] at hev
    have r1 := hf (hev f (by simp [Op.operands, Call.operands]))
    generalize hu : a.eval f = u at r1
    cases r1 with
    | fn _ _ _ _ us vs h1 h2 hfs hcs =>
    have hrun : (execOp a.eval o).run P w = .ok (.enter n ((us ++ args.map a.eval) ++ vs)) w := by
      simp only [execOp, ho, resolve, hu, Deferred.ofValue, Sem.run_bind, Sem.run_pure, Result.andThen_ok, invoke]
      exact run_callFunc hcall _ w
    intro next Q hnext
    unfold Oper.wp
    rw [hrun]
    have hc := hp w imm ((us ++ args.map a.eval) ++ vs) hH.immLt hH.glob (by simp [h1, h2, hl, evL]) fun i x v hx hv => by
      have hdx : x.data = true := by simpa using (List.all_eq_true.1 hd) x (List.mem_of_getElem? hx)
      exact VRel.data (φ := φ) (parts (R := VRel w.cell? imm φ) ys rfl h1 h2 hfs hcs r2 i x v hx hv) hdx
    refine hc.mono fun e w' ⟨v, imm', he, ht, him, hv⟩ => ?_
    subst he
    exact hnext v w' ⟨imm', φ, vrel_none hv φ, ht.of_pure φ, hH.keep (ht.of_pure φ) him, fun b h1 h2 => absurd h1 h2, fun h => by simp [Eff.isNew] at h⟩
  · cases c with
    | some g => exact h.elim
    | none =>
    cases hb : refIn ys with
    | none => rw [hb] at h; exact h.elim
    | some b =>
    rw [hb] at h
    simp only at h
    split at h
    case h_2 => exact h.elim
    rename_i blk hsb hone hfd hcd hdd
    obtain ⟨res, ⟨hcall, hres, hp⟩, hk⟩ := h
    rw [strict_eq] at hk
    have hlt : b < s.heap.length := (List.getElem?_eq_some_iff.1 hsb).1
    have hf' : ∀ {cell : Addr → Option Value} {imm : Nat → Prop} {φ : Phi} {u : Value}, VRel cell imm φ (ev s f) u → VRel cell imm φ (.fn n fs cs) u := hf
    have hys' : ∀ {cell : Addr → Option Value} {imm : Nat → Prop} {φ : Phi} (i : Nat) (x y : AV) (u : Value), (evL s args)[i]? = some x → ys[i]? = some y → VRel cell imm φ x u → VRel cell imm φ y u := hys
    refine ⟨res, .set b .dead, fun a w imm φ H hev hH hn hacc => ?_, hlt, hk⟩
    have r2 := r2' hev hys'
    have hyacc : ∀ (i : Nat) (y : AV), ys[i]? = some y → ∀ b ∈ blkOf y, H b = s.heap[b]? := by
      intro i y hy b' hb'
      refine hacc b' ?_
      have hi : i < (evL s args).length := by rw [← hl]; exact (List.getElem?_eq_some_iff.1 hy).1
      have := hbl i _ y (List.getElem?_eq_getElem hi) hy b' hb'
      simp only [accOf, ho]
      simp only [evL, List.getElem_map] at this
      exact List.mem_flatMap.2 ⟨_, List.getElem_mem _, this⟩
    rw [ho] at hev
    have r1 := hf' (hev f (by simp [Op.operands, Call.operands]))
    generalize hu : a.eval f = u at r1
    cases r1 with
    | fn _ _ _ _ us vs h1 h2 hfs hcs =>
    have hrun : (execOp a.eval o).run P w = .ok (.enter n ((us ++ args.map a.eval) ++ vs)) w := by
      simp only [execOp, ho, resolve, hu, Deferred.ofValue, Sem.run_bind, Sem.run_pure, Result.andThen_ok, invoke]
      exact run_callFunc hcall _ w
    intro next Q hnext
    unfold Oper.wp
    rw [hrun]
    let immB : Nat → Prop := fun r => imm r ∨ ∃ rb, φ b = some rb ∧ rb.base.block = r
    have hsub : ∀ r, imm r → immB r := fun r h => .inl h
    have hc := hp w immB ((us ++ args.map a.eval) ++ vs) (fun r hr => by
        rcases hr with hr | ⟨rb, hrb, rfl⟩
        · exact hH.immLt r hr
        · exact hH.lt b rb hrb) (hH.glob.mono hsub) (by simp [h1, h2, hl, evL]) (parts (R := VRel w.cell? immB Phi.none) (ys.map (frz1 s.heap)) (by simp) h1 h2
          (fun i x v hx hv => (vrel_imm (hfs i x v hx hv) hsub).data ((List.all_eq_true.1 hfd) x (List.mem_of_getElem? hx)))
          (fun i x v hx hv => (vrel_imm (hcs i x v hx hv) hsub).data ((List.all_eq_true.1 hcd) x (List.mem_of_getElem? hx))) fun i x v hx hv => by
            simp at hx
            obtain ⟨y, hy, rfl⟩ := hx
            have ho1 := (List.all_eq_true.1 hone) y (List.mem_of_getElem? hy)
            have hdy := (List.all_eq_true.1 hdd) _ (List.mem_map.2 ⟨y, List.mem_of_getElem? hy, rfl⟩)
            cases y with
            | ref b' off len lim g k' =>
              have hbb : b' = b := Nat.eq_of_beq_eq_true ho1
              subst hbb
              refine frz1_rel hsub hH (hyacc i _ hy) (r2 i _ v hy hv) (fun b2 hb2 rb hrb => ?_) ?_
              · simp [blkOf] at hb2; subst hb2; exact .inr ⟨rb, hrb, rfl⟩
              · revert hdy
                unfold frz1
                simp only
                split
                · split <;> simp [AV.dataC, AV.dcell]
                · simp [AV.dataC, AV.dcell]
            | ptr _ _ _ _ => simp [oneRef, AV.data, AV.data1, AV.dcell] at ho1
            | _ => exact (vrel_imm (r2 i _ v hy hv) hsub).data ho1)
    refine hc.mono fun e w' ⟨v, imm', he, ht, him, hv⟩ => ?_
    subst he
    have htr : Trans w imm φ w' imm' φ (Eff.set b .dead).wr := ⟨ht.os, ht.tape, ht.output, ht.drawn, ht.size, fun r hr hne => ht.keep r hr fun b rb hb _ => by simp [Phi.none] at hb, fun r hr => ht.immKeep r (hsub r hr), fun r hr => ht.immMono r (hsub r hr), fun r hr => by
        rcases ht.immNew r hr with (h | ⟨rb, hrb, he⟩) | h | ⟨_, _, h, _⟩
        · exact .inl h
        · exact .inr (.inr ⟨b, rb, hrb, he, rfl⟩)
        · exact .inr (.inl h)
        · simp [Phi.none] at h, fun b rb hb => ⟨rb, hb, Nat.le_refl _, fun _ => rfl⟩, fun b rb hb => .inl ⟨rb, hb, .inl rfl⟩⟩
    refine hnext v w' ⟨imm', φ, vrel_none hv φ, htr, ⟨fun b' rb' hb' => ?_, fun b' rb' hb' => Nat.lt_of_lt_of_le (hH.lt b' rb' hb') ht.size, hH.inj, him, hH.glob.trans htr⟩, fun b h1 h2 => absurd h1 h2, fun h => by simp [Eff.isNew] at h⟩
    by_cases hbb : b' = b
    · exact ⟨.dead, by simp [Eff.app, upd, hbb], trivial⟩
    · obtain ⟨x, hx, hr⟩ := hH.blk b' rb' hb'
      exact ⟨x, by simp [Eff.app, upd, hbb, hx], BRel.trans htr hr (hH.lt _ _ hb') fun b2 rb2 hb2 hw => by
        have hw : b2 = b := hw
        subst hw
        intro he
        exact hbb (hH.inj b' b2 rb' rb2 hb' hb2 he.symm)⟩

end Vm
end Go.Proofs.YtdbpcmpkpbamhaaGreatDoor
