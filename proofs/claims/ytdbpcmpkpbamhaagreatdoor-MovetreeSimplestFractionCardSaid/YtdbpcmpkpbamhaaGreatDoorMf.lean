/- The abstract machine: all operations, and a region of operations in whatever order. -/
import Derived.Test.YtdbpcmpkpbamhaaGreatDoorMe
namespace Go.Proofs.YtdbpcmpkpbamhaaGreatDoor
set_option linter.unusedVariables false
set_option linter.unusedSimpArgs false
namespace Vm
open Go

def moveVC (c : Option Bool) (x : AV) (k : AV → Eff → Prop) : Prop := match c with
  | none => strict x fun v => k v .none
  | some _ => un c x fun v => k v .none

theorem moveVC_ok {P : Program} {c : Option Bool} {o : Oper} {s : St} {k : AV → Eff → Prop} {x : Operand} (ho : o.op = .move x ∨ o.op = .assign x) (h : moveVC c (ev s x) k) : Good P c o s k := by
  cases c with
  | none => exact move_ok ho h
  | some b =>
    obtain ⟨v, h, hv⟩ := un_spec h
    refine good_pure h (hv.mono fun hv a w imm φ hev => ⟨a.eval x, ?_, hv (hev x ?_)⟩)
    · rcases ho with ho | ho <;> simp [execOp, ho]
    · rcases ho with ho | ho <;> simp [ho, Op.operands]

def opVC (P : Program) (T : Nat → Option TI) (c : Option Bool) (o : Oper) (s : St) (k : AV → Eff → Prop) : Prop :=
  match o.op with
  | .move x => moveVC c (ev s x) k
  | .assign x => moveVC c (ev s x) k
  | .pick cc a b => pickVC c a b (ev s cc) (ev s a) (ev s b) k
  | .box _ x => match c with
    | none => boxVC s (ev s x) k
    | some _ => False
  | .alloc t => match c with
    | none => allocVC T s t k
    | some _ => False
  | .build t parts => buildVC T s t parts k
  | .buildSlice t len parts => buildSliceVC T c s t len parts k
  | .load t x => loadVC T c s t (ev s x) k
  | .store t x y => match c with
    | none => storeVC T s t (ev s x) (ev s y) k
    | some _ => False
  | .binOp op t x y _ => binVC T c op t (ev s x) (ev s y) k
  | .unOp op _ x => unVC c op (ev s x) k
  | .convert src dst x => bytesVC T c s src dst (ev s x) k
  | .makeFunc fn f cp => match fn with
    | .func n => k (.fn n (evL s f) (evL s cp)) .none
    | _ => False
  | .makeSlice t l cp => match c with
    | none => makeSliceVC T s t (ev s l) (ev s cp) k
    | some _ => False
  | .slice t x lo hi mx => sliceVC T c s t (ev s x) lo hi mx k
  | .fieldAddr t x f => fieldAddrVC T c t (ev s x) f k
  | .field t x f => fieldVC T c t (ev s x) f k
  | .indexAddr t x i => indexAddrVC T c t (ev s x) (ev s i) k
  | .index t x i => indexVC T c t (ev s x) (ev s i) k
  | .extract x i => extractVC c (ev s x) i k
  | .nilCheck x => nilCheckVC c (ev s x) k
  | .makeMap _ r => match c, r with
    | none, none => makeMapVC s k
    | _, _ => False
  | .lookup t x ix ok => lookupVC T c s t (ev s x) (ev s ix) ok k
  | .mapUpdate t m key x => match c with
    | none => mapUpdateVC T s t (ev s m) (ev s key) (ev s x) k
    | some _ => False
  | .insert t m key x => match c with
    | none => mapUpdateVC T s t (ev s m) (ev s key) (ev s x) k
    | some _ => False
  | .range t x => match c with
    | none => rangeVC T s t (ev s x) k
    | some _ => False
  | .entry x => match c with
    | none => entryVC s (ev s x) k
    | some _ => False
  | .call cl => match cl.callee with
    | .value f => valueCallF P s c (ev s f) (evL s cl.args) k
    | .builtin .len => match cl.args.toList, cl.argTypes.toList with
      | [x], [t] => match c, blkMp (ev s x) with
        | none, _ :: _ => lenMapVC T s t (ev s x) k
        | _, _ => lenVC T c t (ev s x) k
      | _, _ => False
    | .builtin .min => match cl.args.toList with
      | [x, y] => minmax c false (ev s x) (ev s y) k
      | _ => False
    | .builtin .max => match cl.args.toList with
      | [x, y] => minmax c true (ev s x) (ev s y) k
      | _ => False
    | .builtin .append => match c, cl.args.toList, cl.argTypes.toList with
      | none, [x, y], [t, tx] => appendVC T s t tx (ev s x) (ev s y) k
      | _, _, _ => False
    | _ => False
  | _ => False

theorem arr1 {α : Type} {xs : Array α} {x : α} (h : xs.toList = [x]) : xs = #[x] := by rw [← h]
theorem arr2 {α : Type} {xs : Array α} {x y : α} (h : xs.toList = [x, y]) : xs = #[x, y] := by rw [← h]

theorem opVC_ok {P : Program} {T : Nat → Option TI} (hT : TOk P T) {c : Option Bool} {o : Oper} {s : St} {k : AV → Eff → Prop} (h : opVC P T c o s k) : Good P c o s k := by
  unfold opVC at h
  split at h
  · rename_i ho; exact moveVC_ok (.inl ho) h
  · rename_i ho; exact moveVC_ok (.inr ho) h
  · rename_i ho; exact pickVC_ok ho h
  · rename_i ho; split at h
    · exact box_ok ho h
    · exact h.elim
  · rename_i ho; split at h
    · exact alloc_ok hT ho h
    · exact h.elim
  · rename_i ho; exact build_ok hT ho h
  · rename_i ho; exact buildSlice_ok hT ho h
  · rename_i ho; exact load_ok hT ho h
  · rename_i ho; split at h
    · exact store_ok hT ho h
    · exact h.elim
  · rename_i ho; exact binVC_ok hT ho h
  · rename_i ho; exact unVC_ok ho h
  · rename_i ho; exact bytesVC_ok hT ho h
  · rename_i ho; split at h
    · exact makeFunc_ok ho h
    · exact h.elim
  · rename_i ho; split at h
    · exact makeSlice_ok hT ho h
    · exact h.elim
  · rename_i ho; exact slice_ok hT ho h
  · rename_i ho; exact fieldAddr_ok hT ho h
  · rename_i ho; exact field_ok hT ho h
  · rename_i ho; exact indexAddr_ok hT ho h
  · rename_i ho; exact index_ok hT ho h
  · rename_i ho; exact extract_ok ho h
  · rename_i ho; exact nilCheck_ok ho h
  · rename_i ho; split at h
    · exact makeMap_ok ho h
    · exact h.elim
  · rename_i ho; exact lookup_ok hT ho h
  · rename_i ho; split at h
    · exact mapUpdate_ok hT (.inl ho) h
    · exact h.elim
  · rename_i ho; split at h
    · exact mapUpdate_ok hT (.inr ho) h
    · exact h.elim
  · rename_i ho; split at h
    · exact range_ok hT ho h
    · exact h.elim
  · rename_i ho; split at h
    · exact entry_ok ho h
    · exact h.elim
  · rename_i cl ho
    obtain ⟨callee, args, tys⟩ := cl
    simp only at h
    split at h
    · exact valueCallF_ok ho h
    · split at h
      · rename_i h1 h2
        rw [arr1 h1, arr1 h2] at ho
        split at h
        · exact lenMap_ok hT ho h
        · exact len_ok hT ho h
      · exact h.elim
    · split at h
      · rename_i h1
        rw [arr2 h1] at ho
        exact minmax_ok (mx := false) ho h
      · exact h.elim
    · split at h
      · rename_i h1
        rw [arr2 h1] at ho
        exact minmax_ok (mx := true) ho h
      · exact h.elim
    · split at h
      · rename_i h1 h2
        rw [arr2 h1, arr2 h2] at ho
        exact append_ok hT ho h
      · exact h.elim
    · exact h.elim
  · exact h.elim

/-! ### A region -/
def St.step (s : St) (dst : Option Nat) (d : AV) (e : Eff) : St :=
  ⟨match dst with
    | some t => (t, d) :: s.slots
    | none => s.slots, e.appL s.heap⟩

/-- The state behind an operation, worked out. -/
def stepK (s : St) (dst : Option Nat) (d : AV) (e : Eff) (k : St → Prop) : Prop :=
  forceD d fun d => match s with
  | ⟨l, h⟩ => match e with
    | .none => match dst with
      | some t => k ⟨(t, d) :: l, h⟩
      | none => k ⟨l, h⟩
    | e => forceH (e.appL h) fun h => match dst with
      | some t => k ⟨(t, d) :: l, h⟩
      | none => k ⟨l, h⟩

theorem stepK_eq (s : St) (dst : Option Nat) (d : AV) (e : Eff) (k : St → Prop) : stepK s dst d e k = k (s.step dst d e) := by
  obtain ⟨l, h⟩ := s
  cases e <;> cases dst <;> simp only [stepK, forceD_eq, forceH_eq, St.step, Eff.appL]

def gdOf (ops : Array Oper) (s : St) (o : Oper) : Option (Option Bool) :=
  match o.guard with
  | none => some none
  | some (j, want) => match (ops[j]?).bind (·.dst) with
    | some t => match slotGet s.slots t with
      | .val (.bool b) => some (some (match want with | true => b | false => !b))
      | .gd g (.val (.bool b)) => some (some (g && match want with | true => b | false => !b))
      | .gd g .junk => match g with
        | false => some (some false)
        | true => none
      | _ => none
    | none => none

def Eff.wrL (e : Eff) (id : Nat) : List Nat :=
  match e with
  | .none => []
  | .alloc _ => [id]
  | .set b _ => [b]

/-! Which operations of a region run before which, in every order. -/
def direct (ops : Array Oper) (i j : Nat) : Bool :=
  match ops[j]? with
  | some o => o.after.toList.any fun e => Region.binds .any e && Nat.beq e.on i
  | none => false

/-- i is before j, by edges that hold in every order. -/
def ordB (ops : Array Oper) : Nat → Nat → Nat → Bool
  | 0, _, _ => false
  | f + 1, i, j => match ops[j]? with
    | some o => o.after.toList.any fun e => Region.binds .any e && (Nat.beq e.on i || ordB ops f i e.on)
    | none => false

def namesOf (ops : Array Oper) (o : Oper) : List Nat :=
  (o.op.operands.toList.filterMap fun | .tmp t => some t | _ => none) ++ (match o.guard with | some (j, _) => ((ops[j]?).bind (·.dst)).toList | none => [])

def slotApart (ops : Array Oper) (x y : Oper) : Bool :=
  match x.dst with
  | some d => !((namesOf ops y).elem d) && (match y.dst with | some d' => !(Nat.beq d d') | none => true)
  | none => true

def blkApart (x y : List Nat × List Nat) : Bool := x.2.all fun b => !(y.1.elem b) && !(y.2.elem b)

def backB (ops : Array Oper) : Bool := (List.range ops.size).all fun j => match ops[j]? with
  | some o => o.after.toList.all fun e => !(Region.binds .any e) || Nat.blt e.on j
  | none => true

def chkPair (ops : Array Oper) (lo : Nat) (fps : List (List Nat × List Nat)) (i j : Nat) : Bool :=
  ordB ops ops.size i j || match ops[i]?, ops[j]?, fps[i - lo]?, fps[j - lo]? with
    | some x, some y, some fx, some fy => slotApart ops x y && slotApart ops y x && blkApart fx fy && blkApart fy fx
    | _, _, _, _ => false

def chk (ops : Array Oper) (lo : Nat) (fps : List (List Nat × List Nat)) : Bool :=
  backB ops && (List.range fps.length).all fun j => (List.range j).all fun i => chkPair ops lo fps (lo + i) (lo + j)

/-- All others are before it or behind it. -/
def barOk (ops : Array Oper) (i : Nat) : Bool := (List.range ops.size).all fun j => match Nat.blt j i, Nat.blt i j with
  | true, _ => ordB ops ops.size j i
  | false, true => ordB ops ops.size i j
  | false, false => true

def chkBar (ops : Array Oper) (lo i : Nat) (fps : List (List Nat × List Nat)) : Bool := chk ops lo fps && barOk ops i

def elemN (n : Nat) : List Nat → Bool
  | [] => false
  | m :: r => match Nat.beq n m with
    | true => true
    | false => elemN n r

/-- An operation at which the walk goes on for each outcome; hc: the functions that are called with their caller's memory. -/
def barrier (hc : List Nat) (o : Oper) (s : St) : Bool :=
  match o.op with
  | .next _ false => true
  | .call cl => match cl.callee with
    | .value f => match ev s f with
      | .fn n _ _ => elemN n hc
      | _ => false
    | _ => false
  | _ => false

def opNVC (P : Program) (o : Oper) (s : St) (R : AV → List Blk → Prop) : Prop :=
  match o.op with
  | .next x b => match b with
    | false => nextVC s (ev s x) R
    | true => False
  | .call cl => match cl.callee with
    | .value f => heapCallVC P s (ev s f) (evL s cl.args) R
    | _ => False
  | _ => False

theorem opNVC_ok {P : Program} {o : Oper} {s : St} {R : AV → List Blk → Prop} (h : opNVC P o s R) : OpN P o s R := by
  unfold opNVC at h
  split at h
  · rename_i ho; split at h
    · exact next_ok ho h
    · exact h.elim
  · rename_i cl ho
    obtain ⟨callee, args, tys⟩ := cl
    simp only at h
    split at h
    · exact heapCall_ok ho h
    · exact h.elim
  · exact h.elim

def putS (dst : Option Nat) (d : AV) (l : List (Nat × AV)) : List (Nat × AV) :=
  match dst with
  | some t => (t, d) :: l
  | none => l

def isJ (x : AV) : Bool :=
  match x with
  | .gd g .junk => !g
  | _ => false
/-- An operation reads what an operation left that was passed over. -/
def jOp (s : St) (o : Op) : Bool :=
  match o with
  | .move x | .assign x | .load _ x | .fieldAddr _ x _ | .field _ x _ | .extract x _ => isJ (ev s x)
  | .binOp _ _ x y _ => isJ (ev s x) || isJ (ev s y)
  | .pick x _ _ => isJ (ev s x)
  | _ => false

def opsVC (P : Program) (T : Nat → Option TI) (hc : List Nat) (ops : Array Oper) (draw : Bool) : List Oper → Nat → Nat → St → List (List Nat × List Nat) → (St → Prop) → Prop
  | [], _, lo, s, fps, K => (draw = true → chk ops lo fps = true) ∧ K s
  | o :: rest, i, lo, s, fps, K => match barrier hc o s with
    | true => match gdOf ops s o with
      | none => False
      | some none => (draw = true → chkBar ops lo i fps = true) ∧ opNVC P o s fun d H => opsVC P T hc ops draw rest (i + 1) (i + 1) ⟨putS o.dst d s.slots, H⟩ [] K
      | some (some b) => (b = true → (draw = true → chkBar ops lo i fps = true) ∧ opNVC P o s fun d H => opsVC P T hc ops draw rest (i + 1) (i + 1) ⟨putS o.dst d s.slots, H⟩ [] K) ∧
          (b = false → stepK s o.dst (.gd false .junk) .none fun s' => opsVC P T hc ops draw rest (i + 1) lo s' (fps ++ [(accOf o s, [])]) K)
    | false => match gdOf ops s o with
      | none => False
      | some none => opVC P T none o s fun d e => stepK s o.dst d e fun s' => opsVC P T hc ops draw rest (i + 1) lo s' (fps ++ [(accOf o s, e.wrL s.heap.length)]) K
      | some (some b) => match jOp s o.op with
        | true => match b with
          | false => stepK s o.dst (.gd false .junk) .none fun s' => opsVC P T hc ops draw rest (i + 1) lo s' (fps ++ [(accOf o s, [])]) K
          | true => False
        | false => opVC P T (some b) o s fun d e => match e with
          | .none => stepK s o.dst (.gd b d) .none fun s' => opsVC P T hc ops draw rest (i + 1) lo s' (fps ++ [(accOf o s, [])]) K
          | _ => False

def wantedB (want : Bool) (u : Value) : Bool :=
  match u with
  | .bool x => x == want
  | _ => false

def StepOk (P : Program) (ops : Array Oper) (o : Oper) (s : St) (d : AV) (e : Eff) : Prop :=
  (o.guard = none ∧ OpOk P o s (accOf o s) d e ∧ e.ok s) ∨
  (∃ j want t b d0, o.guard = some (j, want) ∧ (ops[j]?).bind (·.dst) = some t ∧ d = .gd b d0 ∧ e = .none ∧ (b = true → OpOk P o s (accOf o s) d0 .none) ∧
    ∀ {cell : Addr → Option Value} {imm : Nat → Prop} {φ : Phi} {u : Value}, VRel cell imm φ (slotGet s.slots t) u → wantedB want u = b)

theorem wantedB_val (want b : Bool) : (match want with | true => b | false => !b) = (b == want) := by cases want <;> cases b <;> rfl

/-- Nothing stands before the operation, or what stands before it holds. -/
def GuardOn (ops : Array Oper) (o : Oper) (s : St) : Prop :=
  o.guard = none ∨ ∃ j want t, o.guard = some (j, want) ∧ (ops[j]?).bind (·.dst) = some t ∧
    ∀ {cell : Addr → Option Value} {imm : Nat → Prop} {φ : Phi} {u : Value}, VRel cell imm φ (slotGet s.slots t) u → wantedB want u = true

theorem gdOf_none {ops : Array Oper} {o : Oper} {s : St} (hg : gdOf ops s o = some none) : o.guard = none := by
  unfold gdOf at hg
  split at hg
  · assumption
  · split at hg
    · split at hg
      · cases hg
      · cases hg
      · split at hg <;> cases hg
      · cases hg
    · cases hg

theorem gdOf_some {ops : Array Oper} {o : Oper} {s : St} {b : Bool} (hg : gdOf ops s o = some (some b)) : ∃ j want t, o.guard = some (j, want) ∧ (ops[j]?).bind (·.dst) = some t ∧
    ∀ {cell : Addr → Option Value} {imm : Nat → Prop} {φ : Phi} {u : Value}, VRel cell imm φ (slotGet s.slots t) u → wantedB want u = b := by
  unfold gdOf at hg
  split at hg
  · cases hg
  · rename_i j want hgu
    split at hg
    · rename_i t ht
      refine ⟨j, want, t, hgu, ht, fun {cell imm φ u} hu => ?_⟩
      split at hg
      · rename_i b0 hb0
        rw [hb0] at hu
        simp only [Option.some.injEq] at hg
        rw [hu.val_inv, ← hg, wantedB_val]; rfl
      · rename_i g b0 hb0
        rw [hb0] at hu
        simp only [Option.some.injEq] at hg
        rw [wantedB_val] at hg
        cases hu with
        | gd _ _ _ _ ht hf =>
          cases g
          · rw [hf rfl, ← hg]; rfl
          · rw [(ht rfl).val_inv, ← hg]; simp [wantedB]
      · rename_i g hb0
        rw [hb0] at hu
        cases g with
        | true => simp at hg
        | false =>
          simp only [Option.some.injEq] at hg
          cases hu with
          | gd _ _ _ _ ht hf => rw [hf rfl, ← hg]; rfl
      · cases hg
    · cases hg

/-- The first operation. -/
theorem opsVC_head {P : Program} {T : Nat → Option TI} (hT : TOk P T) {hc : List Nat} {ops : Array Oper} {draw : Bool} {o : Oper} {rest : List Oper} {i lo : Nat} {s : St} {fps : List (List Nat × List Nat)} {K : St → Prop} (h : opsVC P T hc ops draw (o :: rest) i lo s fps K) :
    (∃ d e, StepOk P ops o s d e ∧ opsVC P T hc ops draw rest (i + 1) lo (s.step o.dst d e) (fps ++ [(accOf o s, e.wrL s.heap.length)]) K) ∨
    (GuardOn ops o s ∧ (draw = true → chkBar ops lo i fps = true) ∧ OpN P o s fun d H => opsVC P T hc ops draw rest (i + 1) (i + 1) ⟨putS o.dst d s.slots, H⟩ [] K) := by
  simp only [opsVC] at h
  split at h
  · split at h
    · exact h.elim
    · rename_i hg
      exact .inr ⟨.inl (gdOf_none hg), h.1, opNVC_ok h.2⟩
    · rename_i b hg
      obtain ⟨j, want, t, g1, g2, g3⟩ := gdOf_some hg
      cases b with
      | true =>
        obtain ⟨h1, h2⟩ := h.1 rfl
        exact .inr ⟨.inr ⟨j, want, t, g1, g2, g3⟩, h1, opNVC_ok h2⟩
      | false =>
        have h := h.2 rfl
        rw [stepK_eq] at h
        exact .inl ⟨.gd false .junk, .none, .inr ⟨j, want, t, false, .junk, g1, g2, rfl, rfl, (fun h => by cases h), g3⟩, h⟩
  · refine .inl ?_
    split at h
    · exact h.elim
    · rename_i hg
      obtain ⟨d, e, h1, h1', h2⟩ := opVC_ok hT h
      rw [stepK_eq] at h2
      exact ⟨d, e, .inl ⟨gdOf_none hg, h1, h1'⟩, h2⟩
    · rename_i b hg
      obtain ⟨j, want, t, g1, g2, g3⟩ := gdOf_some hg
      split at h
      · cases b with
        | true => exact h.elim
        | false =>
          dsimp only at h
          rw [stepK_eq] at h
          exact ⟨.gd false .junk, .none, .inr ⟨j, want, t, false, .junk, g1, g2, rfl, rfl, (fun h => by cases h), g3⟩, h⟩
      obtain ⟨d, e, h1, h1', h2⟩ := opVC_ok hT h
      cases e with
      | none =>
        rw [stepK_eq] at h2
        exact ⟨.gd b d, .none, .inr ⟨j, want, t, b, d, g1, g2, rfl, rfl, h1, g3⟩, h2⟩
      | _ => exact h2.elim

/-- The operations up to the next one with more than one outcome. -/
theorem opsVC_seg {P : Program} {T : Nat → Option TI} (hT : TOk P T) {hc : List Nat} {ops : Array Oper} {draw : Bool} : ∀ (rest : List Oper) (i lo : Nat) (s : St) (fps : List (List Nat × List Nat)) {K : St → Prop}, opsVC P T hc ops draw rest i lo s fps K →
    ∃ (m : Nat) (D : Nat → AV) (E : Nat → Eff) (S : Nat → St), m ≤ rest.length ∧ S 0 = s ∧ (∀ j (o : Oper), j < m → rest[j]? = some o → StepOk P ops o (S j) (D j) (E j) ∧ S (j + 1) = (S j).step o.dst (D j) (E j)) ∧
      ((m = rest.length ∧ (draw = true → chk ops lo (fps ++ (List.range m).map fun j => (accOf (rest.getD j default) (S j), (E j).wrL (S j).heap.length)) = true) ∧ K (S m)) ∨
       ∃ o, rest[m]? = some o ∧ GuardOn ops o (S m) ∧ (draw = true → chkBar ops lo (i + m) (fps ++ (List.range m).map fun j => (accOf (rest.getD j default) (S j), (E j).wrL (S j).heap.length)) = true) ∧
         OpN P o (S m) fun d H => opsVC P T hc ops draw (rest.drop (m + 1)) (i + m + 1) (i + m + 1) ⟨putS o.dst d (S m).slots, H⟩ [] K)
  | [], i, lo, s, fps, K, h => ⟨0, fun _ => .junk, fun _ => .none, fun _ => s, Nat.le_refl _, rfl, fun j o hj => by omega, .inl (by simp only [opsVC] at h; simpa using h)⟩
  | o :: rest, i, lo, s, fps, K, h => by
    rcases opsVC_head hT h with ⟨d, e, h1, h2⟩ | ⟨hg, hb, hn⟩
    · obtain ⟨m, D, E, S, hm, s0, hs, hend⟩ := opsVC_seg hT rest _ _ _ _ h2
      have e2 : (List.range (m + 1)).map (fun i => (accOf ((o :: rest).getD i default) (match i with | 0 => s | i + 1 => S i), (match i with | 0 => e | i + 1 => E i : Eff).wrL (match i with | 0 => s | i + 1 => S i : St).heap.length)) =
          (accOf o s, e.wrL s.heap.length) :: (List.range m).map fun i => (accOf (rest.getD i default) (S i), (E i).wrL (S i).heap.length) := by
        simp only [List.range_succ_eq_map, List.map_cons, List.map_map]
        rfl
      refine ⟨m + 1, fun i => match i with | 0 => d | i + 1 => D i, fun i => match i with | 0 => e | i + 1 => E i, fun i => match i with | 0 => s | i + 1 => S i, by simp; omega, rfl, fun j o' hj ho => ?_, ?_⟩
      · cases j with
        | zero =>
          simp at ho
          subst ho
          exact ⟨h1, s0⟩
        | succ j => exact hs j o' (by omega) (by simpa using ho)
      · rw [e2]
        rcases hend with ⟨g1, g2, g3⟩ | ⟨o', g1, g2, g3, g4⟩
        · exact .inl ⟨by simp [g1], by simpa using g2, g3⟩
        · refine .inr ⟨o', by simpa using g1, g2, ?_, ?_⟩
          · rw [show i + (m + 1) = i + 1 + m by omega]; simpa using g3
          · rw [show i + (m + 1) + 1 = i + 1 + m + 1 by omega, List.drop_succ_cons]; exact g4
    · exact ⟨0, fun _ => .junk, fun _ => .none, fun _ => s, Nat.zero_le _, rfl, fun j o hj => by omega, .inr ⟨o, rfl, hg, by simpa using hb, by simpa using hn⟩⟩

theorem StepOk.set_lt {P : Program} {ops : Array Oper} {o : Oper} {s : St} {d : AV} {e : Eff} (h : StepOk P ops o s d e) : ∀ b x, e = .set b x → b < s.heap.length := by
  intro b x he
  rcases h with ⟨_, _, h⟩ | ⟨_, _, _, _, _, _, _, _, h, _⟩
  · rw [he] at h; exact h
  · rw [h] at he; cases he

/-- One operation of the region, at a world and a frame that say of its operands what the text's state says. -/
theorem step_sim {P : Program} {ops : Array Oper} {Q : Exit → Act → World → Prop} {i : Nat} {o : Oper} {s : St} {d : AV} {e : Eff} (ho : ops[i]? = some o) (hs : StepOk P ops o s d e) {a : Act} {w : World} {imm : Nat → Prop} {φ : Phi}
    {H : Nat → Option Blk} {K : Act → World → Prop} (hev : ∀ x ∈ o.op.operands, VRel w.cell? imm φ (ev s x) (a.eval x))
    (hgd : ∀ j want t, o.guard = some (j, want) → (ops[j]?).bind (·.dst) = some t → VRel w.cell? imm φ (slotGet s.slots t) (a.tmps.getD t undef)) (hH : Heap w imm φ H) (hid : e.isNew = true → φ s.heap.length = none)
    (hacc : ∀ b ∈ accOf o s, H b = s.heap[b]?) (hK : ∀ v w', After w imm φ H s.heap.length d e v w' → K (a.put o.dst v) w') : wpOp P ops Q i K a w := by
  unfold wpOp
  rw [ho]
  simp only
  rcases hs with ⟨hg, hok, _⟩ | ⟨j, want, t, b, d0, hg, ht, rfl, rfl, hok, hw⟩
  · rw [if_pos (by simp [Region.wanted, hg])]
    exact .inl (hok a w imm φ H hev hH hid hacc _ _ fun v w' h => hK v w' h)
  · have hy : (yielded ops a.tmps j == some want) = b := by
      have := hw (hgd j want t hg ht)
      rw [← this]
      unfold yielded
      rw [ht]
      simp only [Option.bind_some]
      cases hu : a.tmps[t]? with
      | none =>
        have : a.tmps.getD t undef = undef := by simp [Array.getD_eq_getD_getElem?, hu]
        rw [this]; rfl
      | some u =>
        have : a.tmps.getD t undef = u := by simp [Array.getD_eq_getD_getElem?, hu]
        rw [this]
        cases u <;> simp [wantedB]
    cases b with
    | true =>
      rw [if_pos (by simp only [Region.wanted, hg]; exact hy)]
      exact .inl (hok rfl a w imm φ H hev hH (fun h => by simp [Eff.isNew] at h) hacc _ _ fun v w' h => hK v w' (by
        obtain ⟨imm', φ', h1, h2, h3, h4, h5⟩ := h
        exact ⟨imm', φ', .gd _ _ _ _ (fun _ => h1) (fun h => by cases h), h2, h3, h4, h5⟩))
    | false =>
      rw [if_neg (by simp only [Region.wanted, hg]; rw [hy]; simp)]
      exact hK undef w (After.pure hH (.gd _ _ _ _ (fun h => by cases h) fun _ => rfl))

/-- An operation with more than one outcome, in a region. -/
theorem stepN_sim {P : Program} {ops : Array Oper} {Q : Exit → Act → World → Prop} {i : Nat} {o : Oper} {s : St} {R : AV → List Blk → Prop} (ho : ops[i]? = some o) (hg : GuardOn ops o s) (hn : OpN P o s R) {a : Act} {w : World} {imm : Nat → Prop} {φ : Phi}
    {K : Act → World → Prop} (hev : ∀ x ∈ o.op.operands, VRel w.cell? imm φ (ev s x) (a.eval x)) (hsl : ∀ t, VRel w.cell? imm φ (slotGet s.slots t) (a.tmps.getD t undef)) (hH : Heap w imm φ (fun b => s.heap[b]?)) (hK : ∀ v w', Behind w imm φ R v w' → K (a.put o.dst v) w') : wpOp P ops Q i K a w := by
  unfold wpOp
  rw [ho]
  simp only
  rcases hg with hg | ⟨j, want, t, hg, ht, hw⟩
  · rw [if_pos (by simp [Region.wanted, hg])]
    exact .inl (hn a w imm φ hev hH _ _ fun v w' h => hK v w' h)
  · have hy : (yielded ops a.tmps j == some want) = true := by
      have := hw (hsl t)
      rw [← this]
      unfold yielded
      rw [ht]
      simp only [Option.bind_some]
      cases hu : a.tmps[t]? with
      | none =>
        have : a.tmps.getD t undef = undef := by simp [Array.getD_eq_getD_getElem?, hu]
        rw [this]; rfl
      | some u =>
        have : a.tmps.getD t undef = u := by simp [Array.getD_eq_getD_getElem?, hu]
        rw [this]
        cases u <;> simp [wantedB]
    rw [if_pos (by simp only [Region.wanted, hg]; exact hy)]
    exact .inl (hn a w imm φ hev hH _ _ fun v w' h => hK v w' h)

end Vm
end Go.Proofs.YtdbpcmpkpbamhaaGreatDoor

/- The abstract machine: a region of operations, in whatever order the machine draws. -/
namespace Go.Proofs.YtdbpcmpkpbamhaaGreatDoor
set_option linter.unusedVariables false
set_option linter.unusedSimpArgs false
namespace Vm
open Go

/-- What the abstract state says of a frame and a world. -/
structure Rel (s : St) (a : Act) (w : World) (imm : Nat → Prop) (φ : Phi) : Prop where
  slots : ∀ t, VRel w.cell? imm φ (slotGet s.slots t) (a.tmps.getD t undef)
  heap : Heap w imm φ fun b => s.heap[b]?

theorem slotGet_put (l : List (Nat × AV)) (t t' : Nat) (d : AV) : slotGet ((t, d) :: l) t' = if t = t' then d else slotGet l t' := by
  simp only [slotGet]
  by_cases h : t = t'
  · subst h; simp
  · have : Nat.beq t t' = false := by
      cases hb : Nat.beq t t' with
      | true => exact absurd (Nat.eq_of_beq_eq_true hb) h
      | false => rfl
    rw [this, if_neg h]

theorem getD_put (a : Act) (dst : Option Nat) (v : Value) (t : Nat) (hd : ∀ d, dst = some d → d < a.tmps.size) : (a.put dst v).tmps.getD t undef = if dst = some t then v else a.tmps.getD t undef := by
  cases dst with
  | none => simp [Act.put]
  | some d =>
    have := hd d rfl
    simp only [Act.put, Array.getD_eq_getD_getElem?, Array.getElem?_setIfInBounds, Option.some.injEq]
    by_cases h : d = t
    · subst h; simp [this]
    · simp [h]

theorem put_size (a : Act) (dst : Option Nat) (v : Value) : (a.put dst v).tmps.size = a.tmps.size := by cases dst <;> simp [Act.put]
theorem put_defers' (a : Act) (dst : Option Nat) (v : Value) : (a.put dst v).defers = a.defers := by cases dst <;> simp [Act.put]

theorem step_slots (s : St) (dst : Option Nat) (d : AV) (e : Eff) (t : Nat) : slotGet (s.step dst d e).slots t = if dst = some t then d else slotGet s.slots t := by
  cases dst with
  | none => simp [St.step]
  | some x =>
    simp only [St.step, slotGet_put, Option.some.injEq]

theorem step_heap (s : St) (dst : Option Nat) (d : AV) (e : Eff) (hset : ∀ b x, e = .set b x → b < s.heap.length) : (fun b => (s.step dst d e).heap[b]?) = e.app s.heap.length fun b => s.heap[b]? := by
  funext b
  cases e with
  | none => rfl
  | alloc x =>
    simp only [St.step, Eff.appL, Eff.app, upd]
    by_cases h : b = s.heap.length
    · subst h; simp
    · rw [if_neg h]
      by_cases hl : b < s.heap.length
      · rw [List.getElem?_append_left hl]
      · rw [List.getElem?_append_right (by omega), List.getElem?_eq_none (by simp; omega), List.getElem?_eq_none (by omega)]
  | set c x =>
    have hl := hset c x rfl
    simp only [St.step, Eff.appL, Eff.app, upd]
    by_cases h : b = c
    · subst h; simp [hl]
    · rw [if_neg h, List.getElem?_set_ne (Ne.symm h)]

def dstOk (n : Nat) (o : Oper) : Bool :=
  match o.dst with
  | some d => Nat.blt d n
  | none => true

theorem evs_ok {s : St} {a : Act} {w : World} {imm : Nat → Prop} {φ : Phi} (hg : Glob w.cell? imm) {x : Operand} (hs : ∀ t, x = .tmp t → VRel w.cell? imm φ (slotGet s.slots t) (a.tmps.getD t undef)) : VRel w.cell? imm φ (ev s x) (a.eval x) := by
  cases x with
  | tmp t => exact hs t rfl
  | const v => exact ofConst_rel v
  | global g => exact glGet_rel φ g gl hg
  | func f => exact .fn _ _ _ _ _ _ rfl rfl (fun i c u h => by simp at h) fun i c u h => by simp at h

theorem Rel.evs {s : St} {a : Act} {w : World} {imm : Nat → Prop} {φ : Phi} (hr : Rel s a w imm φ) (x : Operand) : VRel w.cell? imm φ (ev s x) (a.eval x) := evs_ok hr.heap.glob fun t _ => hr.slots t

/-- Behind an operation with more than one outcome. -/
theorem Rel.behind {s : St} {a : Act} {w w' : World} {imm imm' : Nat → Prop} {φ φ' : Phi} {H : List Blk} {d : AV} {v : Value} {dst : Option Nat} (hr : Rel s a w imm φ) (hd : ∀ d, dst = some d → d < a.tmps.size) (hv : VRel w'.cell? imm' φ' d v) (ht : Trans w imm φ w' imm' φ' all)
    (hH : Heap w' imm' φ' (fun b => H[b]?)) : Rel ⟨putS dst d s.slots, H⟩ (a.put dst v) w' imm' φ' := by
  refine ⟨fun t => ?_, hH⟩
  rw [getD_put a dst v t hd]
  cases dst with
  | none => simp only [putS]; rw [if_neg (by simp)]; exact ht.vrel (hr.slots t)
  | some x =>
    simp only [putS, slotGet_put, Option.some.injEq]
    split
    · exact hv
    · exact ht.vrel (hr.slots t)

/-! ### In the order of the text -/
theorem region_text {P : Program} {T : Nat → Option TI} (hT : TOk P T) {hc : List Nat} {ops : Array Oper} {draw : Bool} {Q : Exit → Act → World → Prop} {n : Nat} : ∀ (rest : List Oper) (i lo : Nat) (s : St) (fps : List (List Nat × List Nat)) {K : St → Prop}, (∀ j, ops[i + j]? = rest[j]?) →
    opsVC P T hc ops draw rest i lo s fps K → (∀ o ∈ rest, dstOk n o = true) →
    ∀ (a : Act) (w : World) (imm : Nat → Prop) (φ : Phi), a.tmps.size = n → Rel s a w imm φ →
      (∀ s' a' w' imm' φ', K s' → a'.tmps.size = n → a'.defers = a.defers → Trans w imm φ w' imm' φ' all → Rel s' a' w' imm' φ' → Q .normal a' w') →
      wpOps P ops Q (List.range' i rest.length) a w
  | [], i, lo, s, fps, K, hops, h, hn, a, w, imm, φ, hsz, hr, hq => by
    simp only [List.length_nil, List.range'_zero, wpOps]
    simp only [opsVC] at h
    exact hq s a w imm φ h.2 hsz rfl (Trans.refl _ _ _ _) hr
  | o :: rest, i, lo, s, fps, K, hops, h, hn, a, w, imm, φ, hsz, hr, hq => by
    simp only [List.length_cons, List.range'_succ]
    rw [wpOps_cons]
    have ho : ops[i]? = some o := by simpa using hops 0
    have hd : ∀ d, o.dst = some d → d < a.tmps.size := fun d hd => by
      have := hn o (by simp)
      simp only [dstOk, hd] at this
      rw [hsz]
      rw [Nat.blt_eq] at this
      exact this
    have hops' : ∀ j, ops[i + 1 + j]? = rest[j]? := fun j => by have := hops (j + 1); simpa [Nat.add_assoc, Nat.add_comm 1 j] using this
    rcases opsVC_head hT h with ⟨d, e, h1, h2⟩ | ⟨hg, hb, hN⟩
    · have h3 := h1.set_lt
      refine step_sim ho h1 (fun x _ => hr.evs x) (fun j want t _ _ => hr.slots t) hr.heap (fun hnew => ?_) (fun b _ => rfl) fun v w' haft => ?_
      · cases hp : φ s.heap.length with
        | none => rfl
        | some rb =>
          obtain ⟨x, hx, _⟩ := hr.heap.blk _ rb hp
          simp at hx
      · obtain ⟨imm', φ', v1, t1, hp1, _, _⟩ := haft
        refine region_text hT rest (i + 1) lo _ _ hops' h2
          (fun o' ho' => hn o' (by simp [ho'])) (a.put o.dst v) w' imm' φ' (by rw [put_size, hsz]) ?_ fun s' a' w'' imm'' φ'' k g1 g2 g3 g4 => ?_
        · refine ⟨fun t => ?_, ?_⟩
          · rw [getD_put a o.dst v t hd, step_slots]
            split
            · exact v1
            · exact t1.vrel (hr.slots t)
          · rw [step_heap _ _ _ _ h3]; exact hp1
        · exact hq s' a' w'' imm'' φ'' k g1 (by rw [g2, put_defers']) (t1.comp g3 (fun _ _ => trivial) fun _ _ _ => trivial) g4
    · refine stepN_sim ho hg hN (fun x _ => hr.evs x) hr.slots hr.heap fun v w' haft => ?_
      obtain ⟨imm', φ', d, H', hR, v1, t1, hp1⟩ := haft
      refine region_text hT rest (i + 1) (i + 1) _ _ hops' hR
          (fun o' ho' => hn o' (by simp [ho'])) (a.put o.dst v) w' imm' φ' (by rw [put_size, hsz]) (hr.behind hd v1 t1 hp1) fun s' a' w'' imm'' φ'' k g1 g2 g3 g4 => ?_
      exact hq s' a' w'' imm'' φ'' k g1 (by rw [g2, put_defers']) (t1.comp g3 (fun _ _ => trivial) fun _ _ _ => trivial) g4

end Vm
end Go.Proofs.YtdbpcmpkpbamhaaGreatDoor

/- The abstract machine: a region whose order is drawn: whatever order its edges allow comes to what the text's order comes to, where no two operations that are not ordered touch one thing. -/
namespace Go.Proofs.YtdbpcmpkpbamhaaGreatDoor
set_option linter.unusedVariables false
set_option linter.unusedSimpArgs false
namespace Vm
open Go

def Closed (ops : Array Oper) (L : Nat → Bool) : Prop := ∀ i j, L j = true → direct ops i j = true → L i = true

theorem ordB_closed {ops : Array Oper} {L : Nat → Bool} (hL : Closed ops L) : ∀ (f i j : Nat), (∀ m, direct ops m j = true → L m = true) → ordB ops f i j = true → L i = true
  | 0, i, j, _, h => by simp [ordB] at h
  | f + 1, i, j, hj, h => by
    simp only [ordB] at h
    split at h
    case h_2 => cases h
    rename_i o ho
    obtain ⟨e, he, hb⟩ := List.any_eq_true.1 h
    simp only [Bool.and_eq_true, Bool.or_eq_true] at hb
    have hdir : direct ops e.on j = true := by
      simp only [direct, ho]
      exact List.any_eq_true.2 ⟨e, he, by simp [hb.1]⟩
    rcases hb.2 with h1 | h1
    · rw [← Nat.eq_of_beq_eq_true h1]; exact hj _ hdir
    · exact ordB_closed hL f i e.on (fun m hm => hL m e.on (hj _ hdir) hm) h1

section
variable {P : Program} {ops : Array Oper} {n : Nat} (D : Nat → AV) (E : Nat → Eff) (S : Nat → St)

/-- The value of a slot when the operations of L have run. -/
def slotL (L : Nat → Bool) (s0 : St) (t : Nat) : Nat → AV
  | 0 => slotGet s0.slots t
  | m + 1 => if L m = true ∧ ((ops[m]?).bind (·.dst)) = some t then D m else slotL L s0 t m

def touches (m b : Nat) : Bool :=
  match E m with
  | .none => false
  | .alloc _ => Nat.beq b (S m).heap.length
  | .set c _ => Nat.beq b c

def blkNew (m : Nat) : Option Blk :=
  match E m with
  | .none => none
  | .alloc x => some x
  | .set _ x => some x

def blkL (L : Nat → Bool) (s0 : St) (b : Nat) : Nat → Option Blk
  | 0 => s0.heap[b]?
  | m + 1 => if L m = true ∧ touches E S m b = true then blkNew E m else blkL L s0 b m

theorem slotL_congr {L L' : Nat → Bool} {s0 : St} {t : Nat} : ∀ m, (∀ i, i < m → ((ops[i]?).bind (·.dst)) = some t → L i = L' i) → slotL (ops := ops) D L s0 t m = slotL (ops := ops) D L' s0 t m
  | 0, _ => rfl
  | m + 1, h => by
    simp only [slotL]
    by_cases hd : ((ops[m]?).bind (·.dst)) = some t
    · rw [h m (by omega) hd, slotL_congr m fun i hi => h i (by omega)]
    · rw [if_neg (fun h => hd h.2), if_neg (fun h => hd h.2)]
      exact slotL_congr m fun i hi => h i (by omega)

theorem blkL_congr {L L' : Nat → Bool} {s0 : St} {b : Nat} : ∀ m, (∀ i, i < m → touches E S i b = true → L i = L' i) → blkL E S L s0 b m = blkL E S L' s0 b m
  | 0, _ => rfl
  | m + 1, h => by
    simp only [blkL]
    by_cases hd : touches E S m b = true
    · rw [h m (by omega) hd, blkL_congr m fun i hi => h i (by omega)]
    · rw [if_neg (fun h => hd h.2), if_neg (fun h => hd h.2)]
      exact blkL_congr m fun i hi => h i (by omega)

/-- Nothing above m is in L. -/
theorem slotL_up {L : Nat → Bool} {s0 : St} {t m : Nat} : ∀ k, (∀ i, m ≤ i → i < m + k → ((ops[i]?).bind (·.dst)) = some t → L i = false) → slotL (ops := ops) D L s0 t (m + k) = slotL (ops := ops) D L s0 t m
  | 0, _ => rfl
  | k + 1, h => by
    rw [show m + (k + 1) = (m + k) + 1 by omega]
    simp only [slotL]
    rw [if_neg ?_]
    · exact slotL_up k fun i h1 h2 => h i h1 (by omega)
    · rintro ⟨h1, h2⟩
      rw [h (m + k) (by omega) (by omega) h2] at h1
      cases h1

theorem blkL_up {L : Nat → Bool} {s0 : St} {b m : Nat} : ∀ k, (∀ i, m ≤ i → i < m + k → touches E S i b = true → L i = false) → blkL E S L s0 b (m + k) = blkL E S L s0 b m
  | 0, _ => rfl
  | k + 1, h => by
    rw [show m + (k + 1) = (m + k) + 1 by omega]
    simp only [blkL]
    rw [if_neg ?_]
    · exact blkL_up k fun i h1 h2 => h i h1 (by omega)
    · rintro ⟨h1, h2⟩
      rw [h (m + k) (by omega) (by omega) h2] at h1
      cases h1

theorem slotL_low {L : Nat → Bool} {s0 : St} {t : Nat} : ∀ m, (∀ i, i < m → L i = false) → slotL (ops := ops) D L s0 t m = slotGet s0.slots t
  | 0, _ => rfl
  | m + 1, h => by
    simp only [slotL]
    rw [if_neg (by rw [h m (by omega)]; simp)]
    exact slotL_low m fun i hi => h i (by omega)

theorem blkL_low {L : Nat → Bool} {s0 : St} {b : Nat} : ∀ m, (∀ i, i < m → L i = false) → blkL E S L s0 b m = s0.heap[b]?
  | 0, _ => rfl
  | m + 1, h => by
    simp only [blkL]
    rw [if_neg (by rw [h m (by omega)]; simp)]
    exact blkL_low m fun i hi => h i (by omega)

/-- The text's own states. -/
theorem slotL_text {L : Nat → Bool} {t lo : Nat} (hlow : ∀ i, i < lo → L i = false) : ∀ k, lo + k ≤ ops.size → (∀ i (o : Oper), lo ≤ i → i < lo + k → ops[i]? = some o → S (i + 1) = (S i).step o.dst (D i) (E i)) → (∀ i, lo ≤ i → i < lo + k → L i = true) →
    slotL (ops := ops) D L (S lo) t (lo + k) = slotGet (S (lo + k)).slots t
  | 0, _, _, _ => slotL_low (ops := ops) D lo hlow
  | k + 1, hm, hstep, h => by
    have ho : ops[lo + k]? = some ops[lo + k] := by simp [show lo + k < ops.size by omega]
    rw [show lo + (k + 1) = (lo + k) + 1 by omega]
    simp only [slotL, h (lo + k) (by omega) (by omega), true_and]
    rw [hstep (lo + k) _ (by omega) (by omega) ho, step_slots, slotL_text hlow k (by omega) (fun i o h1 h2 => hstep i o h1 (by omega)) fun i h1 h2 => h i h1 (by omega)]
    simp [ho]

theorem blkL_text {L : Nat → Bool} {b lo : Nat} (hlow : ∀ i, i < lo → L i = false) : ∀ k, lo + k ≤ ops.size → (∀ i (o : Oper), lo ≤ i → i < lo + k → ops[i]? = some o → S (i + 1) = (S i).step o.dst (D i) (E i)) →
    (∀ i (o : Oper), lo ≤ i → i < lo + k → ops[i]? = some o → ∀ b x, E i = .set b x → b < (S i).heap.length) → (∀ i, lo ≤ i → i < lo + k → L i = true) → blkL E S L (S lo) b (lo + k) = (S (lo + k)).heap[b]?
  | 0, _, _, _, _ => blkL_low E S lo hlow
  | k + 1, hm, hstep, hset, h => by
    have ho : ops[lo + k]? = some ops[lo + k] := by simp [show lo + k < ops.size by omega]
    rw [show lo + (k + 1) = (lo + k) + 1 by omega]
    simp only [blkL, h (lo + k) (by omega) (by omega), true_and]
    have e : ((S (lo + k)).step ops[lo + k].dst (D (lo + k)) (E (lo + k))).heap[b]? = (E (lo + k)).app (S (lo + k)).heap.length (fun b => (S (lo + k)).heap[b]?) b := congrFun (step_heap (S (lo + k)) ops[lo + k].dst (D (lo + k)) (E (lo + k)) (hset (lo + k) _ (by omega) (by omega) ho)) b
    rw [hstep (lo + k) _ (by omega) (by omega) ho]
    rw [e, blkL_text hlow k (by omega) (fun i o h1 h2 => hstep i o h1 (by omega)) (fun i o h1 h2 => hset i o h1 (by omega)) fun i h1 h2 => h i h1 (by omega)]
    generalize lo + k = m
    cases hE : E m with
    | none => simp [touches, blkNew, hE, Eff.app]
    | alloc x =>
      simp only [touches, blkNew, hE, Eff.app, upd]
      by_cases hb : b = (S m).heap.length
      · subst hb; simp
      · rw [if_neg hb, if_neg (fun h => hb (Nat.eq_of_beq_eq_true h))]
    | set c x =>
      simp only [touches, blkNew, hE, Eff.app, upd]
      by_cases hb : b = c
      · subst hb; simp
      · rw [if_neg hb, if_neg (fun h => hb (Nat.eq_of_beq_eq_true h))]
end

theorem dst_lt {ops : Array Oper} {m t : Nat} (h : (ops[m]?).bind (·.dst) = some t) : m < ops.size := by
  rcases Nat.lt_or_ge m ops.size with h' | h'
  · exact h'
  · rw [Array.getElem?_eq_none h'] at h; simp at h

/-- What has run of the piece of the region that begins at lo. -/
def inSeg (lo : Nat) (listed : Array Bool) (i : Nat) : Bool := listed.getD i false && decide (lo ≤ i)

/-- A piece of a region, from a state in which the operations of 'listed' have run. -/
theorem region_seg_go {P : Program} {ops : Array Oper} {Q : Exit → Act → World → Prop} {n lo hi : Nat} {D : Nat → AV} {E : Nat → Eff} {S : Nat → St} {fps : List (List Nat × List Nat)} (hlo : lo ≤ hi) (hhi : hi ≤ ops.size)
    (hs : ∀ i (o : Oper), lo ≤ i → i < hi → ops[i]? = some o → StepOk P ops o (S i) (D i) (E i) ∧ S (i + 1) = (S i).step o.dst (D i) (E i)) (hn : ∀ o ∈ ops.toList, dstOk n o = true)
    (hf : ∀ i (o : Oper), lo ≤ i → i < hi → ops[i]? = some o → fps[i - lo]? = some (accOf o (S i), (E i).wrL (S i).heap.length)) (hfl : fps.length = hi - lo) (hc : chk ops lo fps = true) (hbar : hi = ops.size ∨ barOk ops hi = true)
    (a0 : Act) (w0 : World) (imm0 : Nat → Prop) (φ0 : Phi)
    (hq : ∀ fuel (listed : Array Bool) a' w' imm' φ', listed.size = ops.size → (∀ i, listed.getD i false = decide (i < hi)) → ((List.range ops.size).filter fun i => !listed.getD i true).length ≤ fuel → a'.tmps.size = n → a'.defers = a0.defers → Trans w0 imm0 φ0 w' imm' φ' all →
      Rel (S hi) a' w' imm' φ' → wpAny P .any ops Q fuel listed a' w') :
    ∀ (fuel : Nat) (listed : Array Bool) (a : Act) (w : World) (imm : Nat → Prop) (φ : Phi), listed.size = ops.size → ((List.range ops.size).filter fun i => !listed.getD i true).length ≤ fuel →
      Closed ops (fun i => listed.getD i false) → (∀ i, i < lo → listed.getD i false = true) → (∀ i, hi ≤ i → listed.getD i false = false) → a.tmps.size = n → a.defers = a0.defers → Trans w0 imm0 φ0 w imm φ all →
      (∀ t, VRel w.cell? imm φ (slotL (ops := ops) D (inSeg lo listed) (S lo) t ops.size) (a.tmps.getD t undef)) →
      Heap w imm φ (fun b => blkL E S (inSeg lo listed) (S lo) b ops.size) →
      (∀ i, lo ≤ i → i < hi → listed.getD i false = false → (E i).isNew = true → φ (S i).heap.length = none) →
      wpAny P .any ops Q fuel listed a w := by
  have hstep : ∀ i (o : Oper), lo ≤ i → i < hi → ops[i]? = some o → S (i + 1) = (S i).step o.dst (D i) (E i) := fun i o h1 h2 h => (hs i o h1 h2 h).2
  have hset : ∀ i (o : Oper), lo ≤ i → i < hi → ops[i]? = some o → ∀ b x, E i = .set b x → b < (S i).heap.length := fun i o h1 h2 h => (hs i o h1 h2 h).1.set_lt
  simp only [chk, Bool.and_eq_true] at hc
  obtain ⟨hback, hpairs⟩ := hc
  have pair : ∀ i j, lo ≤ i → i < j → j < hi → chkPair ops lo fps i j = true := fun i j hl hij hj => by
    have := (List.all_eq_true.1 hpairs) (j - lo) (by simp; omega)
    have := (List.all_eq_true.1 this) (i - lo) (by simp; omega)
    rwa [show lo + (i - lo) = i by omega, show lo + (j - lo) = j by omega] at this
  have back : ∀ j (o : Oper), ops[j]? = some o → ∀ e ∈ o.after, Region.binds .any e = true → e.on < j := fun j o ho e he hb => by
    have hj : j < ops.size := (Array.getElem?_eq_some_iff.1 ho).1
    have := (List.all_eq_true.1 hback) j (by simpa using hj)
    rw [ho] at this
    have := (List.all_eq_true.1 this) e (by simpa using he)
    rw [hb] at this
    simp only [Bool.not_true, Bool.false_or, Nat.blt_eq] at this
    exact this
  have fin : ∀ (fuel : Nat) (listed : Array Bool) (a : Act) (w : World) (imm : Nat → Prop) (φ : Phi), listed.size = ops.size → ((List.range ops.size).filter fun i => !listed.getD i true).length ≤ fuel → (∀ i, listed.getD i false = decide (i < hi)) → a.tmps.size = n → a.defers = a0.defers → Trans w0 imm0 φ0 w imm φ all →
      (∀ t, VRel w.cell? imm φ (slotL (ops := ops) D (inSeg lo listed) (S lo) t ops.size) (a.tmps.getD t undef)) →
      Heap w imm φ (fun b => blkL E S (inSeg lo listed) (S lo) b ops.size) → wpAny P .any ops Q fuel listed a w := by
    intro fuel listed a w imm φ hls hcnt hall hsz hdf ht hsl hhp
    have hseg : ∀ i, inSeg lo listed i = decide (lo ≤ i ∧ i < hi) := fun i => by simp only [inSeg, hall i]; by_cases h1 : i < hi <;> by_cases h2 : lo ≤ i <;> simp [h1, h2]
    refine hq fuel listed a w imm φ hls hall hcnt hsz hdf ht ⟨fun t => ?_, ?_⟩
    · have := hsl t
      rw [show ops.size = hi + (ops.size - hi) by omega, slotL_up D (ops.size - hi) (fun i h1 h2 _ => by rw [hseg]; simp; omega)] at this
      have e := slotL_text (ops := ops) D E S (L := inSeg lo listed) (t := t) (lo := lo) (fun i hi => by rw [hseg]; simp; omega) (hi - lo) (by omega) (fun i o h1 h2 h => hstep i o h1 (by omega) h) (fun i h1 h2 => by rw [hseg]; simp; omega)
      rw [show lo + (hi - lo) = hi by omega] at e
      rwa [e] at this
    · have e : (fun b => blkL E S (inSeg lo listed) (S lo) b ops.size) = fun b => (S hi).heap[b]? := by
        funext b
        rw [show ops.size = hi + (ops.size - hi) by omega, blkL_up E S (ops.size - hi) (fun i h1 h2 _ => by rw [hseg]; simp; omega)]
        have e := blkL_text (ops := ops) D E S (L := inSeg lo listed) (b := b) (lo := lo) (fun i hi => by rw [hseg]; simp; omega) (hi - lo) (by omega) (fun i o h1 h2 h => hstep i o h1 (by omega) h) (fun i o h1 h2 h => hset i o h1 (by omega) h) (fun i h1 h2 => by rw [hseg]; simp; omega)
        rw [show lo + (hi - lo) = hi by omega] at e
        exact e
      rw [e] at hhp
      exact hhp
  -- either the piece has run, or one of its operations is ready
  have first : ∀ (listed : Array Bool), listed.size = ops.size → (∀ i, i < lo → listed.getD i false = true) → (∀ i, hi ≤ i → listed.getD i false = false) → (∀ i, listed.getD i false = decide (i < hi)) ∨
      ∃ k, lo ≤ k ∧ k < hi ∧ listed.getD k false = false ∧ k ∈ Region.ready .any ops listed := by
    intro listed hls hlow hup
    have key : ∀ m, lo + m ≤ hi → (∀ i, i < lo + m → listed.getD i false = true) ∨ ∃ k, lo ≤ k ∧ k < hi ∧ listed.getD k false = false ∧ ∀ j, j < k → listed.getD j false = true := by
      intro m
      induction m with
      | zero => intro _; exact .inl fun i hi => hlow i (by omega)
      | succ m ih =>
        intro hm
        rcases ih (by omega) with h | h
        · cases hl : listed.getD (lo + m) false with
          | true =>
            refine .inl fun i hi => ?_
            by_cases e : i = lo + m
            · subst e; exact hl
            · exact h i (by omega)
          | false => exact .inr ⟨lo + m, by omega, by omega, hl, h⟩
        · exact .inr h
    rcases key (hi - lo) (by omega) with h | ⟨k, h1, h2, h3, h4⟩
    · refine .inl fun i => ?_
      by_cases hi' : i < hi
      · rw [h i (by omega)]; simp [hi']
      · rw [hup i (by omega)]; simp [hi']
    · refine .inr ⟨k, h1, h2, h3, mem_ready.2 ⟨?_, ops[k], by simp [show k < ops.size by omega], fun e he hb => h4 e.on (back k _ (by simp [show k < ops.size by omega]) e he hb)⟩⟩
      have : k < listed.size := by omega
      simp only [Array.getD_eq_getD_getElem?, Array.getElem?_eq_getElem this, Option.getD_some] at h3 ⊢
      simpa using h3
  intro fuel
  induction fuel with
  | zero =>
    intro listed a w imm φ hls hcnt hcl hlow hup hsz hdf ht hsl hhp hnew
    rcases first listed hls hlow hup with h | ⟨k, h1, h2, h3, h4⟩
    · exact fin 0 listed a w imm φ hls hcnt h hsz hdf ht hsl hhp
    · exfalso
      have : k ∈ (List.range ops.size).filter fun i => !listed.getD i true := by
        simp only [List.mem_filter, List.mem_range]
        exact ⟨by omega, by rw [(mem_ready.1 h4).1]; rfl⟩
      have := List.length_pos_of_mem this
      omega
  | succ fuel ih =>
    intro listed a w imm φ hls hcnt hcl hlow hup hsz hdf ht hsl hhp hnew
    rcases first listed hls hlow hup with h | ⟨k, hk1, hk2, hk3, hk4⟩
    · exact fin _ listed a w imm φ hls hcnt h hsz hdf ht hsl hhp
    refine ⟨(fun hr => by rw [hr] at hk4; cases hk4), fun r hr => ?_⟩
    obtain ⟨hnot, o, ho, hpre⟩ := mem_ready.1 hr
    have hrl : r < ops.size := (Array.getElem?_eq_some_iff.1 ho).1
    have hnotF : listed.getD r false = false := by
      have : r < listed.size := by omega
      simp only [Array.getD_eq_getD_getElem?, Array.getElem?_eq_getElem this, Option.getD_some] at hnot ⊢
      exact hnot
    have hpreD : ∀ m, direct ops m r = true → listed.getD m false = true := fun m hm => by
      simp only [direct, ho] at hm
      obtain ⟨e, he, hb⟩ := List.any_eq_true.1 hm
      simp only [Bool.and_eq_true] at hb
      rw [← Nat.eq_of_beq_eq_true hb.2]
      exact hpre e (by simpa using he) hb.1
    have hrlo : lo ≤ r := by
      rcases Nat.lt_or_ge r lo with h | h
      · rw [hlow r h] at hnotF; cases hnotF
      · exact h
    have hrhi : r < hi := by
      rcases Nat.lt_or_ge r hi with h | h
      · exact h
      · exfalso
        rcases hbar with e | hb
        · omega
        · have hb := fun j hj => (List.all_eq_true.1 hb) j (by simpa using hj)
          by_cases e : r = hi
          · subst e
            have := hb k (by omega)
            rw [show Nat.blt k r = true by simpa using hk2] at this
            have := ordB_closed (L := fun i => listed.getD i false) hcl _ k r hpreD this
            rw [hk3] at this; cases this
          · have := hb r (by omega)
            rw [show Nat.blt r hi = false by rw [Bool.eq_false_iff]; intro h'; rw [Nat.blt_eq] at h'; omega, show Nat.blt hi r = true by rw [Nat.blt_eq]; omega] at this
            have := ordB_closed (L := fun i => listed.getD i false) hcl _ hi r hpreD this
            rw [hup hi (Nat.le_refl _)] at this; cases this
    -- what is not apart from r is ordered
    have before : ∀ i, i < r → ordB ops ops.size i r = true → listed.getD i false = true := fun i _ h => ordB_closed (L := fun i => listed.getD i false) hcl _ i r hpreD h
    have after : ∀ j, r < j → ordB ops ops.size r j = true → listed.getD j false = false := fun j _ h => by
      cases hl : listed.getD j false with
      | false => rfl
      | true =>
        have := ordB_closed (L := fun i => listed.getD i false) hcl _ r j (fun m hm => hcl m j hl hm) h
        rw [hnotF] at this; cases this
    have apart : ∀ i (x : Oper), lo ≤ i → i < hi → ops[i]? = some x → i ≠ r → (listed.getD i false = decide (i < r)) ∨
        (slotApart ops x o = true ∧ slotApart ops o x = true ∧ blkApart (accOf x (S i), (E i).wrL (S i).heap.length) (accOf o (S r), (E r).wrL (S r).heap.length) = true ∧
          blkApart (accOf o (S r), (E r).wrL (S r).heap.length) (accOf x (S i), (E i).wrL (S i).heap.length) = true) := fun i x hi1 hi2 hx hne => by
      have hil : i < ops.size := (Array.getElem?_eq_some_iff.1 hx).1
      rcases Nat.lt_or_gt_of_ne hne with hlt | hgt
      · have hp := pair i r hi1 hlt hrhi
        simp only [chkPair, Bool.or_eq_true] at hp
        rcases hp with hp | hp
        · exact .inl (by rw [before i hlt hp]; simp [hlt])
        · rw [hx, ho, hf i x hi1 hi2 hx, hf r o hrlo hrhi ho] at hp
          simp only [Bool.and_eq_true] at hp
          exact .inr ⟨hp.1.1.1, hp.1.1.2, hp.1.2, hp.2⟩
      · have hp := pair r i hrlo hgt hi2
        simp only [chkPair, Bool.or_eq_true] at hp
        rcases hp with hp | hp
        · exact .inl (by rw [after i hgt hp]; simp; omega)
        · rw [hx, ho, hf i x hi1 hi2 hx, hf r o hrlo hrhi ho] at hp
          simp only [Bool.and_eq_true] at hp
          exact .inr ⟨hp.1.1.2, hp.1.1.1, hp.2, hp.1.2⟩
    -- the operands read as in the text
    have slotEq : ∀ t, t ∈ namesOf ops o ∨ o.dst = some t → slotL (ops := ops) D (inSeg lo listed) (S lo) t ops.size = slotGet (S r).slots t := fun t ht => by
      have hkey : ∀ i, i < ops.size → i ≠ r → ((ops[i]?).bind (·.dst)) = some t → inSeg lo listed i = decide (lo ≤ i ∧ i < r) := fun i hi' hne hd => by
        by_cases h1 : lo ≤ i
        · by_cases h2 : i < hi
          · obtain ⟨x, hx⟩ : ∃ x, ops[i]? = some x := ⟨ops[i], by simp [hi']⟩
            rcases apart i x h1 h2 hx hne with h | ⟨h1, h2, _, _⟩
            · simp only [inSeg, h]
              by_cases h3 : i < r <;> simp [h1, h3]
            · exfalso
              rw [hx] at hd
              simp only [Option.bind_some] at hd
              simp only [slotApart, hd, Bool.and_eq_true] at h1
              rcases ht with ht | ht
              · have := h1.1
                simp at this
                exact this ht
              · have := h1.2
                rw [ht] at this
                simp at this
          · simp only [inSeg, hup i (by omega)]
            simp; omega
        · simp [inSeg, h1]
      rw [show ops.size = r + (ops.size - r) by omega, slotL_up D (ops.size - r) (fun i h1 h2 hd => by
        by_cases hir : i = r
        · subst hir; simp [inSeg, hnotF]
        · rw [hkey i (by omega) hir hd]; simp; omega)]
      rw [slotL_congr D (L' := fun i => decide (lo ≤ i)) r fun i hi hd => by rw [hkey i (by omega) (by omega) hd]; simp [hi]]
      have := slotL_text (ops := ops) D E S (L := fun i => decide (lo ≤ i)) (t := t) (lo := lo) (fun i hi => by simp; omega) (r - lo) (by omega) (fun i o h1 h2 h => hstep i o h1 (by omega) h) (fun i h1 h2 => by simpa using h1)
      rwa [show lo + (r - lo) = r by omega] at this
    have touch_wr : ∀ i b, touches E S i b = true ↔ b ∈ (E i).wrL (S i).heap.length := fun i b => by
      cases hE : E i <;> simp [touches, hE, Eff.wrL, Nat.beq_eq]
    have blkEq : ∀ b, b ∈ accOf o (S r) ∨ b ∈ (E r).wrL (S r).heap.length → blkL E S (inSeg lo listed) (S lo) b ops.size = (S r).heap[b]? := fun b hb => by
      have hkey : ∀ i, i < ops.size → i ≠ r → touches E S i b = true → inSeg lo listed i = decide (lo ≤ i ∧ i < r) := fun i hi' hne hd => by
        by_cases h1 : lo ≤ i
        · by_cases h2 : i < hi
          · obtain ⟨x, hx⟩ : ∃ x, ops[i]? = some x := ⟨ops[i], by simp [hi']⟩
            rcases apart i x h1 h2 hx hne with h | ⟨_, _, h3, _⟩
            · simp only [inSeg, h]
              by_cases h3 : i < r <;> simp [h1, h3]
            · exfalso
              have h4 := (List.all_eq_true.1 h3) b ((touch_wr i b).1 hd)
              simp only [Bool.and_eq_true, Bool.not_eq_true'] at h4
              rcases hb with hb | hb
              · have := h4.1; simp at this; exact this hb
              · have := h4.2; simp at this; exact this hb
          · simp only [inSeg, hup i (by omega)]
            simp; omega
        · simp [inSeg, h1]
      rw [show ops.size = r + (ops.size - r) by omega, blkL_up E S (ops.size - r) (fun i h1 h2 hd => by
        by_cases hir : i = r
        · subst hir; simp [inSeg, hnotF]
        · rw [hkey i (by omega) hir hd]; simp; omega)]
      rw [blkL_congr E S (L' := fun i => decide (lo ≤ i)) r fun i hi hd => by rw [hkey i (by omega) (by omega) hd]; simp [hi]]
      have := blkL_text (ops := ops) D E S (L := fun i => decide (lo ≤ i)) (b := b) (lo := lo) (fun i hi => by simp; omega) (r - lo) (by omega) (fun i o h1 h2 h => hstep i o h1 (by omega) h) (fun i o h1 h2 h => hset i o h1 (by omega) h) (fun i h1 h2 => by simpa using h1)
      rwa [show lo + (r - lo) = r by omega] at this
    have hd : ∀ d, o.dst = some d → d < a.tmps.size := fun d hd => by
      have := hn o (by simpa using Array.mem_of_getElem? ho)
      simp only [dstOk, hd] at this
      rw [hsz]
      rw [Nat.blt_eq] at this
      exact this
    refine step_sim ho (hs r o hrlo hrhi ho).1 (fun x hx => ?_) (fun j want t hg hdst => ?_) hhp (fun hne => hnew r hrlo hrhi hnotF hne) (fun b hb => blkEq b (.inl hb)) fun v w' haft => ?_
    · refine evs_ok hhp.glob fun t ht => ?_
      subst ht
      have := hsl t
      rw [slotEq t (.inl (by
        simp only [namesOf, List.mem_append, List.mem_filterMap]
        exact .inl ⟨.tmp t, by simpa using hx, rfl⟩))] at this
      exact this
    · have := hsl t
      rw [slotEq t (.inl (by
        simp only [namesOf, hg, hdst, List.mem_append]
        exact .inr (by simp)))] at this
      exact this
    · obtain ⟨imm', φ', v1, t1, hp1, hdom, hdom2⟩ := haft
      have hset' : ∀ i, (listed.setIfInBounds r true).getD i false = if i = r then true else listed.getD i false := fun i => by
        simp only [Array.getD_eq_getD_getElem?, Array.getElem?_setIfInBounds]
        by_cases h : r = i
        · subst h; simp [show r < listed.size by omega]
        · simp [h, Ne.symm h]
      have hsetT : ∀ i, (listed.setIfInBounds r true).getD i true = if i = r then true else listed.getD i true := fun i => by
        simp only [Array.getD_eq_getD_getElem?, Array.getElem?_setIfInBounds]
        by_cases h : r = i
        · subst h; simp [show r < listed.size by omega]
        · simp [h, Ne.symm h]
      refine ih _ (a.put o.dst v) w' imm' φ' (by simp [hls]) ?_ ?_ (fun i hi => by rw [hset']; split; rfl; exact hlow i hi) (fun i hi => by rw [hset', if_neg (by omega)]; exact hup i hi) (by rw [put_size, hsz]) (by rw [put_defers', hdf]) (ht.comp t1 (fun _ h => h) fun _ _ _ => trivial) (fun t => ?_) ?_ ?_
      · have hlt : ((List.range ops.size).filter fun i => !(listed.setIfInBounds r true).getD i true).length < ((List.range ops.size).filter fun i => !listed.getD i true).length := by
          have e : ((List.range ops.size).filter fun i => !(listed.setIfInBounds r true).getD i true) = ((List.range ops.size).filter fun i => !listed.getD i true).filter (· ≠ r) := by
            rw [List.filter_filter]
            congr 1
            funext i
            rw [hsetT]
            by_cases h : i = r <;> simp [h]
          rw [e]
          refine List.length_filter_lt_length_iff_exists.2 ⟨r, ?_, by simp⟩
          simp only [List.mem_filter, List.mem_range]
          exact ⟨hrl, by rw [hnot]; rfl⟩
        omega
      · intro i j hj hdir
        simp only [hset'] at hj ⊢
        by_cases hjr : j = r
        · subst hjr
          rw [hpreD i hdir]; simp
        · rw [if_neg hjr] at hj
          have h3 : listed.getD i false = true := hcl i j hj hdir
          rw [h3]; simp
      · rw [getD_put a o.dst v t hd]
        have hval : slotL (ops := ops) D (inSeg lo (listed.setIfInBounds r true)) (S lo) t ops.size = if o.dst = some t then D r else slotL (ops := ops) D (inSeg lo listed) (S lo) t ops.size := by
          by_cases hdt : o.dst = some t
          · rw [if_pos hdt]
            have hupt : ∀ i, r < i → i < ops.size → ((ops[i]?).bind (·.dst)) = some t → listed.getD i false = false := fun i h1 h2 hdi => by
              rcases Nat.lt_or_ge i hi with hih | hih
              case inr => exact hup i hih
              obtain ⟨x, hx⟩ : ∃ x, ops[i]? = some x := ⟨ops[i], by simp [h2]⟩
              rcases apart i x (by omega) hih hx (by omega) with h | ⟨h1', _, _, _⟩
              · rw [h]; simp; omega
              · exfalso
                rw [hx] at hdi
                simp only [Option.bind_some] at hdi
                simp [slotApart, hdi, hdt] at h1'
            rw [show ops.size = (r + 1) + (ops.size - (r + 1)) by omega, slotL_up D (ops.size - (r + 1)) fun i h1 h2 hdi => by
              simp only [inSeg]
              rw [hset', if_neg (by omega), hupt i (by omega) (by omega) hdi]; rfl]
            simp only [slotL, inSeg, hset', if_true, ho, Option.bind_some, hdt, and_true, Bool.true_and, decide_eq_true_eq]
            rw [if_pos hrlo]
          · rw [if_neg hdt]
            refine slotL_congr D ops.size fun i hi hdi => ?_
            simp only [inSeg]
            rw [hset']
            by_cases hir : i = r
            · subst hir; rw [ho] at hdi; exact absurd hdi hdt
            · rw [if_neg hir]
        rw [hval]
        split
        · exact v1
        · exact t1.vrel (hsl t)
      · have hval : (fun b => blkL E S (inSeg lo (listed.setIfInBounds r true)) (S lo) b ops.size) = (E r).app (S r).heap.length fun b => blkL E S (inSeg lo listed) (S lo) b ops.size := by
          funext b
          by_cases hdt : touches E S r b = true
          · have hupt : ∀ i, r < i → i < ops.size → touches E S i b = true → listed.getD i false = false := fun i h1 h2 hdi => by
              rcases Nat.lt_or_ge i hi with hih | hih
              case inr => exact hup i hih
              obtain ⟨x, hx⟩ : ∃ x, ops[i]? = some x := ⟨ops[i], by simp [h2]⟩
              rcases apart i x (by omega) hih hx (by omega) with h | ⟨_, _, h3, _⟩
              · rw [h]; simp; omega
              · exfalso
                have h4 := (List.all_eq_true.1 h3) b ((touch_wr i b).1 hdi)
                simp only [Bool.and_eq_true, Bool.not_eq_true'] at h4
                have := h4.2
                simp at this
                exact this ((touch_wr r b).1 hdt)
            rw [show ops.size = (r + 1) + (ops.size - (r + 1)) by omega, blkL_up E S (ops.size - (r + 1)) fun i h1 h2 hdi => by
              simp only [inSeg]
              rw [hset', if_neg (by omega), hupt i (by omega) (by omega) hdi]; rfl]
            simp only [blkL, inSeg, hset', if_true, hdt, and_true, Bool.true_and, decide_eq_true_eq]
            rw [if_pos hrlo]
            cases hE : E r with
            | none => simp [touches, hE] at hdt
            | alloc x =>
              simp only [touches, hE] at hdt
              simp [blkNew, hE, Eff.app, upd, Nat.eq_of_beq_eq_true hdt]
            | set c x =>
              simp only [touches, hE] at hdt
              simp [blkNew, hE, Eff.app, upd, Nat.eq_of_beq_eq_true hdt]
          · have e1 : blkL E S (inSeg lo (listed.setIfInBounds r true)) (S lo) b ops.size = blkL E S (inSeg lo listed) (S lo) b ops.size := by
              refine blkL_congr E S ops.size fun i hi hdi => ?_
              simp only [inSeg]
              rw [hset']
              by_cases hir : i = r
              · subst hir; exact absurd hdi hdt
              · rw [if_neg hir]
            rw [e1]
            cases hE : E r with
            | none => rfl
            | alloc x =>
              have : b ≠ (S r).heap.length := fun h => hdt (by simp [touches, hE, h])
              simp [Eff.app, upd, this]
            | set c x =>
              have : b ≠ c := fun h => hdt (by simp [touches, hE, h])
              simp [Eff.app, upd, this]
        rw [hval]
        exact hp1
      · intro i hi1 hi2 hli hne
        rw [hset'] at hli
        by_cases hir : i = r
        · simp [hir] at hli
        · rw [if_neg hir] at hli
          have h0 := hnew i hi1 hi2 hli hne
          cases hp : φ' (S i).heap.length with
          | none => rfl
          | some rb =>
            obtain ⟨hr1, hr2⟩ := hdom _ h0 (by rw [hp]; simp)
            exfalso
            -- two blocks that are made have two names
            have grow : ∀ k m, lo ≤ m → m + k ≤ hi → (S m).heap.length ≤ (S (m + k)).heap.length := by
              intro k
              induction k with
              | zero => intro m _ _; exact Nat.le_refl _
              | succ k ihk =>
                intro m hlm hm
                refine Nat.le_trans (ihk m hlm (by omega)) ?_
                have ho' : ops[m + k]? = some (ops[m + k]'(by omega)) := by simp [show m + k < ops.size by omega]
                rw [show m + (k + 1) = (m + k) + 1 by omega, hstep _ _ (by omega) (by omega) ho']
                cases E (m + k) <;> simp [St.step, Eff.appL]
            have lt : ∀ i j, lo ≤ i → i < j → j ≤ hi → (E i).isNew = true → (S i).heap.length < (S j).heap.length := fun i j hli hij hj hne => by
              have ho' : ops[i]? = some (ops[i]'(by omega)) := by simp [show i < ops.size by omega]
              have h1 : (S (i + 1)).heap.length = (S i).heap.length + 1 := by
                rw [hstep _ _ hli (by omega) ho']
                cases hE : E i <;> simp [hE, Eff.isNew] at hne
                simp [St.step, Eff.appL]
              have h2 := grow (j - (i + 1)) (i + 1) (by omega) (by omega)
              rw [show i + 1 + (j - (i + 1)) = j by omega] at h2
              omega
            rcases Nat.lt_or_gt_of_ne hir with h | h
            · have := lt i r hi1 h (by omega) hne; omega
            · have := lt r i hrlo h (by omega) hr1; omega

theorem listed_set {listed : Array Bool} {r n : Nat} (hls : listed.size = n) (hr : r < n) (d : Bool) (i : Nat) : (listed.setIfInBounds r true).getD i d = if i = r then true else listed.getD i d := by
  simp only [Array.getD_eq_getD_getElem?, Array.getElem?_setIfInBounds]
  by_cases h : r = i
  · subst h; simp [show r < listed.size by omega]
  · simp [h, Ne.symm h]

theorem unlisted {listed : Array Bool} {i : Nat} (h : i < listed.size) : listed.getD i true = listed.getD i false := by
  simp only [Array.getD_eq_getD_getElem?, Array.getElem?_eq_getElem h, Option.getD_some]

theorem ready_none {ops : Array Oper} {listed : Array Bool} (hls : listed.size = ops.size) (hall : ∀ i, i < ops.size → listed.getD i false = true) : Region.ready .any ops listed = [] := by
  rw [List.eq_nil_iff_forall_not_mem]
  intro i hi
  obtain ⟨h0, o, ho, _⟩ := mem_ready.1 hi
  have hil : i < ops.size := (Array.getElem?_eq_some_iff.1 ho).1
  rw [unlisted (by omega), hall i hil] at h0
  cases h0

/-- The rest of a region, from where all before it has run. -/
theorem region_any {P : Program} {T : Nat → Option TI} (hT : TOk P T) {hc : List Nat} {ops : Array Oper} {Q : Exit → Act → World → Prop} {n : Nat} {K : St → Prop} (hn : ∀ o ∈ ops.toList, dstOk n o = true) : ∀ (m lo : Nat) (s : St), ops.size - lo ≤ m → lo ≤ ops.size →
    opsVC P T hc ops true (ops.toList.drop lo) lo lo s [] K → ∀ (fuel : Nat) (listed : Array Bool) (a : Act) (w : World) (imm : Nat → Prop) (φ : Phi), listed.size = ops.size → ((List.range ops.size).filter fun i => !listed.getD i true).length ≤ fuel →
      Closed ops (fun i => listed.getD i false) → (∀ i, listed.getD i false = decide (i < lo)) → a.tmps.size = n → Rel s a w imm φ →
      (∀ s' a' w' imm' φ', K s' → a'.tmps.size = n → a'.defers = a.defers → Trans w imm φ w' imm' φ' all → Rel s' a' w' imm' φ' → Q .normal a' w') → wpAny P .any ops Q fuel listed a w := by
  have stop : ∀ {fuel : Nat} {listed : Array Bool} {a : Act} {w : World}, listed.size = ops.size → (∀ i, listed.getD i false = decide (i < ops.size)) → Q .normal a w → wpAny P .any ops Q fuel listed a w := by
    intro fuel listed a w hls hall hQ
    have hr0 := ready_none hls fun i hi => by rw [hall]; simpa using hi
    cases fuel with
    | zero => exact ⟨hr0, hQ⟩
    | succ fuel => exact ⟨fun _ => hQ, fun r hr => by rw [hr0] at hr; cases hr⟩
  have hnil : ops.toList.drop ops.size = [] := by rw [List.drop_eq_nil_iff]; simp
  intro m
  induction m with
  | zero =>
    intro lo s hm hlo h fuel listed a w imm φ hls hcnt hcl hall hsz hr hq
    have e : lo = ops.size := by omega
    subst e
    rw [hnil] at h
    simp only [opsVC] at h
    exact stop hls hall (hq s a w imm φ h.2 hsz rfl (Trans.refl _ _ _ _) hr)
  | succ m ihm =>
    intro lo s hm hlo h fuel listed a w imm φ hls hcnt hcl hall hsz hr hq
    obtain ⟨k, D, E, S, hk, s0, hs, hend⟩ := opsVC_seg hT _ _ _ _ _ h
    have hkl : lo + k ≤ ops.size := by simp at hk; omega
    have hget : ∀ i (o : Oper), lo ≤ i → ops[i]? = some o → (ops.toList.drop lo)[i - lo]? = some o := fun i o h1 h2 => by
      rw [List.getElem?_drop, show lo + (i - lo) = i by omega, Array.getElem?_toList]; exact h2
    have hchk : chk ops lo ([] ++ (List.range k).map fun j => (accOf ((ops.toList.drop lo).getD j default) (S j), (E j).wrL (S j).heap.length)) = true := by
      rcases hend with ⟨_, g, _⟩ | ⟨o, _, _, g, _⟩
      · exact g rfl
      · have := g rfl
        simp only [chkBar, Bool.and_eq_true] at this
        exact this.1
    have hbackB : backB ops = true := by have := hchk; simp only [chk, Bool.and_eq_true] at this; exact this.1
    have back : ∀ j (o : Oper), ops[j]? = some o → ∀ e ∈ o.after, Region.binds .any e = true → e.on < j := fun j o ho e he hb => by
      have hj : j < ops.size := (Array.getElem?_eq_some_iff.1 ho).1
      have := (List.all_eq_true.1 hbackB) j (by simpa using hj)
      rw [ho] at this
      have := (List.all_eq_true.1 this) e (by simpa using he)
      rw [hb] at this
      simp only [Bool.not_true, Bool.false_or, Nat.blt_eq] at this
      exact this
    have hseg0 : ∀ i, inSeg lo listed i = false := fun i => by
      simp only [inSeg, hall]
      by_cases h1 : lo ≤ i
      · simp [h1]
      · simp [h1]
    refine region_seg_go (n := n) (lo := lo) (hi := lo + k) (D := fun i => D (i - lo)) (E := fun i => E (i - lo)) (S := fun i => S (i - lo))
      (fps := [] ++ (List.range k).map fun j => (accOf ((ops.toList.drop lo).getD j default) (S j), (E j).wrL (S j).heap.length)) (by omega) hkl
      (fun i o h1 h2 ho => by have := hs (i - lo) o (by omega) (hget i o h1 ho); rwa [show i - lo + 1 = i + 1 - lo by omega] at this) hn (fun i o h1 h2 ho => ?_) (by simp) hchk ?_ a w imm φ ?_ fuel listed a w imm φ hls hcnt hcl
      (fun i hi => by rw [hall i]; simpa using hi) (fun i hi => by rw [hall i]; simp; omega) hsz rfl (Trans.refl _ _ _ _) (fun t => ?_) ?_ (fun i h1 h2 _ hne => ?_)
    · have := hget i o h1 ho
      simp only [List.nil_append, List.getElem?_map, List.getElem?_range (show i - lo < k by omega), Option.map_some, Option.some.injEq]
      rw [show (ops.toList.drop lo).getD (i - lo) default = o by rw [List.getD_eq_getElem?_getD, this]; rfl]
    · rcases hend with ⟨g, _, _⟩ | ⟨o, _, _, g, _⟩
      · left; simp at g; omega
      · right
        have := g rfl
        simp only [chkBar, Bool.and_eq_true] at this
        exact this.2
    · intro fuel listed a' w' imm' φ' hls' hall' hcnt' hsz' hdf' ht' hr'
      have hr' : Rel (S k) a' w' imm' φ' := by simpa using hr'
      have hclk : Closed ops (fun i => listed.getD i false) := fun i j hj hd => by
        have hj' : j < lo + k := by have := hall' j; simp only [this] at hj; simpa using hj
        simp only [direct] at hd
        split at hd
        case h_2 => cases hd
        rename_i o ho
        obtain ⟨e, he, hbe⟩ := List.any_eq_true.1 hd
        simp only [Bool.and_eq_true] at hbe
        have := back j o ho e (by simpa using he) hbe.1
        have := Nat.eq_of_beq_eq_true hbe.2
        show listed.getD i false = true
        rw [hall']; simp; omega
      rcases hend with ⟨g1, g2, g3⟩ | ⟨o, g1, g2, g3, g4⟩
      · have e : lo + k = ops.size := by simp at g1; omega
        exact stop hls' (fun i => by rw [hall', e]) (hq (S k) a' w' imm' φ' g3 hsz' hdf' ht' hr')
      · have ho : ops[lo + k]? = some o := by rw [List.getElem?_drop, Array.getElem?_toList] at g1; exact g1
        have hlt : lo + k < ops.size := (Array.getElem?_eq_some_iff.1 ho).1
        have hbar : barOk ops (lo + k) = true := by have := g3 rfl; simp only [chkBar, Bool.and_eq_true] at this; exact this.2
        have hnl : listed.getD (lo + k) true = false := by rw [unlisted (by omega), hall']; simp
        have hrdy : lo + k ∈ Region.ready .any ops listed := mem_ready.2 ⟨hnl, o, ho, fun e he hb => by
          rw [hall']; simpa using back _ o ho e he hb⟩
        have hmem : lo + k ∈ (List.range ops.size).filter fun i => !listed.getD i true := by
          simp only [List.mem_filter, List.mem_range]
          exact ⟨hlt, by rw [hnl]; rfl⟩
        cases fuel with
        | zero => exfalso; have := List.length_pos_of_mem hmem; omega
        | succ fuel =>
        refine ⟨(fun h0 => by rw [h0] at hrdy; cases hrdy), fun r hr => ?_⟩
        obtain ⟨hnot, o', ho', hpre⟩ := mem_ready.1 hr
        have hrl : r < ops.size := (Array.getElem?_eq_some_iff.1 ho').1
        have hnotF : listed.getD r false = false := by rw [← unlisted (by omega)]; exact hnot
        have hpreD : ∀ m, direct ops m r = true → listed.getD m false = true := fun m hm => by
          simp only [direct, ho'] at hm
          obtain ⟨e, he, hb⟩ := List.any_eq_true.1 hm
          simp only [Bool.and_eq_true] at hb
          rw [← Nat.eq_of_beq_eq_true hb.2]
          exact hpre e (by simpa using he) hb.1
        have hrge : lo + k ≤ r := by
          rw [hall'] at hnotF
          simpa using hnotF
        have hre : r = lo + k := by
          rcases Nat.eq_or_lt_of_le hrge with h | h
          · exact h.symm
          · exfalso
            have hb := (List.all_eq_true.1 hbar) r (by simpa using hrl)
            rw [show Nat.blt r (lo + k) = false by rw [Bool.eq_false_iff]; intro h'; rw [Nat.blt_eq] at h'; omega, show Nat.blt (lo + k) r = true by rw [Nat.blt_eq]; omega] at hb
            have := ordB_closed (L := fun i => listed.getD i false) hclk _ (lo + k) r hpreD hb
            simp only [hall'] at this
            simp at this
        subst hre
        rw [ho] at ho'
        cases ho'
        have hd : ∀ d, o.dst = some d → d < a'.tmps.size := fun d hd => by
          have := hn o (by simpa using Array.mem_of_getElem? ho)
          simp only [dstOk, hd] at this
          rw [hsz']
          rw [Nat.blt_eq] at this
          exact this
        refine stepN_sim ho g2 g4 (fun x _ => hr'.evs x) hr'.slots hr'.heap fun v w'' haft => ?_
        obtain ⟨imm2, φ2, d, H', hR, v1, t1, hp1⟩ := haft
        have hdrop : (ops.toList.drop lo).drop (k + 1) = ops.toList.drop (lo + k + 1) := by rw [List.drop_drop]; rfl
        rw [hdrop] at hR
        have hsetT := fun i => listed_set hls' hlt true i
        have hset' := fun i => listed_set hls' hlt false i
        refine ihm (lo + k + 1) _ (by omega) (by omega) hR fuel _ (a'.put o.dst v) w'' imm2 φ2 (by simp [hls']) ?_ ?_ (fun i => ?_) (by rw [put_size, hsz']) (hr'.behind hd v1 t1 hp1) fun s2 a2 w2 imm3 φ3 q1 q2 q3 q4 q5 => ?_
        · have hlt : ((List.range ops.size).filter fun i => !(listed.setIfInBounds (lo + k) true).getD i true).length < ((List.range ops.size).filter fun i => !listed.getD i true).length := by
            have e : ((List.range ops.size).filter fun i => !(listed.setIfInBounds (lo + k) true).getD i true) = ((List.range ops.size).filter fun i => !listed.getD i true).filter (· ≠ lo + k) := by
              rw [List.filter_filter]
              congr 1
              funext i
              rw [hsetT]
              by_cases h : i = lo + k <;> simp [h]
            rw [e]
            exact List.length_filter_lt_length_iff_exists.2 ⟨lo + k, hmem, by simp⟩
          omega
        · intro i j hj hdir
          simp only [hset'] at hj ⊢
          by_cases hjr : j = lo + k
          · subst hjr
            rw [hpreD i hdir]; simp
          · rw [if_neg hjr] at hj
            have h3 : listed.getD i false = true := hclk i j hj hdir
            rw [h3]; simp
        · rw [hset', hall']
          by_cases h1 : i = lo + k
          · simp [h1]
          · rw [if_neg h1]
            by_cases h2 : i < lo + k
            · rw [decide_eq_true h2, decide_eq_true (by omega)]
            · rw [decide_eq_false h2, decide_eq_false (by omega)]
        · exact hq s2 a2 w2 imm3 φ3 q1 q2 (by rw [q3, put_defers', hdf']) (ht'.comp (t1.comp q4 (fun _ _ => trivial) fun _ _ _ => trivial) (fun _ _ => trivial) fun _ _ _ => trivial) q5
    · have e : slotL (ops := ops) (fun i => D (i - lo)) (inSeg lo listed) (S (lo - lo)) t ops.size = slotGet (S (lo - lo)).slots t := slotL_low (ops := ops) _ ops.size fun i _ => hseg0 i
      show VRel w.cell? imm φ (slotL (ops := ops) (fun i => D (i - lo)) (inSeg lo listed) (S (lo - lo)) t ops.size) _
      rw [e, Nat.sub_self, s0]
      exact hr.slots t
    · have e : (fun b => blkL (fun i => E (i - lo)) (fun i => S (i - lo)) (inSeg lo listed) (S (lo - lo)) b ops.size) = fun b => s.heap[b]? := by
        funext b
        rw [blkL_low _ _ ops.size fun i _ => hseg0 i]
        simp only [Nat.sub_self, s0]
      show Heap w imm φ (fun b => blkL (fun i => E (i - lo)) (fun i => S (i - lo)) (inSeg lo listed) (S (lo - lo)) b ops.size)
      rw [e]
      exact hr.heap
    · have hge : s.heap.length ≤ (S (i - lo)).heap.length := by
        have grow : ∀ j, j ≤ k → s.heap.length ≤ (S j).heap.length := by
          intro j
          induction j with
          | zero => intro _; rw [s0]; exact Nat.le_refl _
          | succ j ih =>
            intro hj
            have ho : ops[lo + j]? = some (ops[lo + j]'(by omega)) := by simp [show lo + j < ops.size by omega]
            have := (hs j _ (by omega) (by have := hget (lo + j) _ (by omega) ho; rwa [show lo + j - lo = j by omega] at this)).2
            rw [this]
            refine Nat.le_trans (ih (by omega)) ?_
            cases E j <;> simp [St.step, Eff.appL]
        exact grow (i - lo) (by omega)
      show φ (S (i - lo)).heap.length = none
      cases hp : φ (S (i - lo)).heap.length with
      | none => rfl
      | some rb =>
        obtain ⟨x, hx, _⟩ := hr.heap.blk _ rb hp
        have := (List.getElem?_eq_some_iff.1 hx).1
        omega

end Vm
end Go.Proofs.YtdbpcmpkpbamhaaGreatDoor
