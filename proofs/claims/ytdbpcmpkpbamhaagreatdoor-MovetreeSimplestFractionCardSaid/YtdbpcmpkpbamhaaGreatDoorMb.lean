/- The abstract machine: one operation as a condition that is reckoned out; here those that neither write memory nor make any, and calls of functions that only compute. -/
import Derived.Test.YtdbpcmpkpbamhaaGreatDoorMa
namespace Go.Proofs.YtdbpcmpkpbamhaaGreatDoor
set_option linter.unusedVariables false
set_option linter.unusedSimpArgs false
namespace Vm
open Go

def blkOf : AV → List Nat
  | .ptr b _ _ _ => [b]
  | .ref b _ _ _ _ _ => [b]
  | .mp b => [b]
  | .gd _ x => blkOf x
  | _ => []

def blkMp : AV → List Nat
  | .mp b => [b]
  | _ => []

/-- The blocks of the abstract heap that an operation looks at. -/
def accOf (o : Oper) (s : St) : List Nat :=
  match o.op with
  | .load _ x => blkOf (ev s x)
  | .store _ x _ => blkOf (ev s x)
  | .convert _ _ x => blkOf (ev s x)
  | .lookup _ x _ _ => blkOf (ev s x)
  | .mapUpdate _ x _ _ => blkOf (ev s x)
  | .insert _ x _ _ => blkOf (ev s x)
  | .range _ x => blkOf (ev s x)
  | .entry x => match ev s x with
    | .ptr b _ _ _ => match s.heap[b]? with
      | some (.iter (some m) _ _ _) => [b, m]
      | _ => [b]
    | _ => []
  | .call { callee := .builtin .len, args, .. } => args.toList.flatMap fun x => blkMp (ev s x)
  | .call { callee := .builtin .append, args, .. } => args.toList.flatMap fun x => blkOf (ev s x)
  | .call { callee := .value _, args, .. } => args.toList.flatMap fun x => blkOf (ev s x)
  | _ => []

def Eff.ok (e : Eff) (s : St) : Prop :=
  match e with
  | .set b _ => b < s.heap.length
  | _ => True

def Good (P : Program) (c : Option Bool) (o : Oper) (s : St) (k : AV → Eff → Prop) : Prop := ∃ d e, imp c (OpOk P o s (accOf o s) d e) ∧ e.ok s ∧ k d e

def PureOk (P : Program) (o : Oper) (s : St) (d : AV) : Prop :=
  ∀ (a : Act) (w : World) (imm : Nat → Prop) (φ : Phi), (∀ x ∈ o.op.operands, VRel w.cell? imm φ (ev s x) (a.eval x)) → ∃ v, (execOp a.eval o).run P w = .ok (.value v) w ∧ VRel w.cell? imm φ d v

theorem good_pure {P : Program} {c : Option Bool} {o : Oper} {s : St} {k : AV → Eff → Prop} {d : AV} (hk : k d .none) (h : imp c (PureOk P o s d)) : Good P c o s k :=
  ⟨d, .none, h.mono fun h a w imm φ H hev hH hn hacc => let ⟨v, hr, hv⟩ := h a w imm φ hev; .of_run hr (After.pure hH hv), trivial, hk⟩

/-- An operand that a guard stands before. -/
def un (c : Option Bool) (x : AV) (K : AV → Prop) : Prop :=
  match x with
  | .gd g v => imp c (g = true) ∧ strict v K
  | v => strict v K

theorem un_spec {c : Option Bool} {x : AV} {K : AV → Prop} (h : un c x K) : ∃ v, K v ∧ imp c (∀ {cell : Addr → Option Value} {imm : Nat → Prop} {φ : Phi} {u : Value}, VRel cell imm φ x u → VRel cell imm φ v u) := by
  cases x with
  | gd g v =>
    simp only [un, strict_eq] at h
    refine ⟨v, h.2, h.1.mono fun hg cell imm φ u hu => ?_⟩
    cases hu with | gd _ _ _ _ ht hf => exact ht hg
  | _ => exact ⟨_, by simpa only [un, strict_eq] using h, .of fun hu => hu⟩

def unL (c : Option Bool) : List AV → (List AV → Prop) → Prop
  | [], K => K []
  | x :: xs, K => un c x fun x => unL c xs fun xs => K (x :: xs)

theorem unL_spec {c : Option Bool} : ∀ (xs : List AV) {K : List AV → Prop}, unL c xs K → ∃ ys, K ys ∧ ys.length = xs.length ∧
    imp c (∀ {cell : Addr → Option Value} {imm : Nat → Prop} {φ : Phi} (i : Nat) (x y : AV) (u : Value), xs[i]? = some x → ys[i]? = some y → VRel cell imm φ x u → VRel cell imm φ y u)
  | [], K, h => ⟨[], h, rfl, .of fun i x y u h => by simp at h⟩
  | x :: xs, K, h => by
    obtain ⟨y, h, hy⟩ := un_spec h
    obtain ⟨ys, h, hl, hys⟩ := unL_spec xs h
    refine ⟨y :: ys, h, by simp [hl], (hy.and hys).mono fun ⟨hy, hys⟩ cell imm φ i a b u h1 h2 hu => ?_⟩
    cases i with
    | zero => simp at h1 h2; subst h1; subst h2; exact hy hu
    | succ i => simp at h1 h2; exact hys i a b u h1 h2 hu

def unB (c : Option Bool) (c1 : Bool) (x : AV) (K : Bool → Prop) : Prop :=
  match x with
  | .val (.bool b) => K b
  | .gd g (.val (.bool b)) => imp c (c1 = true → g = true) ∧ K b
  | _ => False

theorem unB_spec {c : Option Bool} {c1 : Bool} {x : AV} {K : Bool → Prop} (h : unB c c1 x K) : ∃ b, K b ∧ imp c (c1 = true → ∀ {cell : Addr → Option Value} {imm : Nat → Prop} {φ : Phi} {u : Value}, VRel cell imm φ x u → u = .bool b) := by
  unfold unB at h
  split at h
  · rename_i b
    exact ⟨b, h, .of fun _ cell imm φ u hu => by cases hu; rfl⟩
  · rename_i g b
    refine ⟨b, h.2, h.1.mono fun hg hc cell imm φ u hu => ?_⟩
    cases hu with | gd _ _ _ _ ht hf => cases ht (hg hc); rfl
  · exact h.elim

theorem VRel.val_inv {cell : Addr → Option Value} {imm : Nat → Prop} {φ : Phi} {v u : Value} (h : VRel cell imm φ (.val v) u) : u = v := by cases h; rfl

def pickVC (c : Option Bool) (oa ob : Operand) (vc va vb : AV) (k : AV → Eff → Prop) : Prop :=
  un c vc fun vc => match vc with
  | .val (.bool c0) => match oa, ob with
    | .const (.bool true), _ => unB c (!c0) vb fun xb => k (.val (.bool (c0 || xb))) .none
    | _, .const (.bool false) => unB c c0 va fun xa => k (.val (.bool (c0 && xa))) .none
    | _, _ => False
  | _ => False

theorem pickVC_ok {P : Program} {c : Option Bool} {o : Oper} {s : St} {k : AV → Eff → Prop} {cc oa ob : Operand} (ho : o.op = .pick cc oa ob) (h : pickVC c oa ob (ev s cc) (ev s oa) (ev s ob) k) : Good P c o s k := by
  obtain ⟨vc, h, hc⟩ := un_spec h
  split at h
  · rename_i c0
    split at h
    · obtain ⟨xb, h, hb⟩ := unB_spec h
      refine good_pure h ((hc.and hb).mono fun ⟨hc, hb⟩ a w imm φ hev => ?_)
      rw [ho] at hev
      have e1 := hc (hev cc (by simp [Op.operands]))
      cases he1 : a.eval cc with
      | bool x =>
        rw [he1] at e1; cases e1
        cases c0
        · have e2 := hb (by simp) (hev ob (by simp [Op.operands]))
          exact ⟨.bool xb, by simp [execOp, ho, he1, asBool, e2], .val _ _⟩
        · exact ⟨.bool true, by simp [execOp, ho, he1, asBool, show a.eval (.const (.bool true)) = .bool true from rfl], .val _ _⟩
      | _ => rw [he1] at e1; cases e1
    · obtain ⟨xb, h, hb⟩ := unB_spec h
      refine good_pure h ((hc.and hb).mono fun ⟨hc, hb⟩ a w imm φ hev => ?_)
      rw [ho] at hev
      have e1 := hc (hev cc (by simp [Op.operands]))
      cases he1 : a.eval cc with
      | bool x =>
        rw [he1] at e1; cases e1
        cases c0
        · exact ⟨.bool false, by simp [execOp, ho, he1, asBool, show a.eval (.const (.bool false)) = .bool false from rfl], .val _ _⟩
        · have e2 := hb (by simp) (hev oa (by simp [Op.operands]))
          exact ⟨.bool xb, by simp [execOp, ho, he1, asBool, e2], .val _ _⟩
      | _ => rw [he1] at e1; cases e1
    · exact h.elim
  · exact h.elim

theorem move_ok {P : Program} {c : Option Bool} {o : Oper} {s : St} {k : AV → Eff → Prop} {x : Operand} (ho : o.op = .move x ∨ o.op = .assign x) (h : strict (ev s x) fun v => k v .none) : Good P c o s k := by
  rw [strict_eq] at h
  refine good_pure h (.of fun a w imm φ hev => ⟨a.eval x, ?_, hev x ?_⟩)
  · rcases ho with ho | ho <;> simp [execOp, ho]
  · rcases ho with ho | ho <;> simp [ho, Op.operands]

/-! ### Operators -/
section
variable (T : Nat → Option TI)
def binVC (c : Option Bool) (op : BinOp) (t : Nat) (x y : AV) (k : AV → Eff → Prop) : Prop :=
  un c x fun x => un c y fun y => match x, y with
  | .val (.int k1 a), .val (.int k2 b) => match op with
    | .shl => shiftBin .shl k1 a b fun o v => imp c o ∧ k (.val v) .none
    | .shr => shiftBin .shr k1 a b fun o v => imp c o ∧ k (.val v) .none
    | op => if k1 = k2 then intBin op k1 a b fun o v => imp c o ∧ k (.val v) .none else False
  | .val (.string a), .val (.string b) => strBin op a b fun o v => imp c o ∧ k (.val v) .none
  | x, y => match eqT T 20 t x y with
    | some b => match op with
      | .eql => k (.val (.bool b)) .none
      | .neq => k (.val (.bool (!b))) .none
      | _ => False
    | none => False
end

theorem binVC_ok {P : Program} {T : Nat → Option TI} (hT : TOk P T) {c : Option Bool} {o : Oper} {s : St} {k : AV → Eff → Prop} {op : BinOp} {t t' : Nat} {x y : Operand} (ho : o.op = .binOp op t x y t')
    (h : binVC T c op t (ev s x) (ev s y) k) : Good P c o s k := by
  obtain ⟨vx, h, hx⟩ := un_spec h
  obtain ⟨vy, h, hy⟩ := un_spec h
  have fin : ∀ (ob : Prop) (v : Value), imp c ob → k (.val v) .none → (∀ u1 u2, vx = .val u1 → vy = .val u2 → (∀ q : Value → Value → Prop, True) → ob → ∀ w, (eqGuard op t x y u1 u2).run P w = .ok () w ∧ (binOp op t u1 u2).run P w = .ok v w) →
      (∃ u1 u2, vx = .val u1 ∧ vy = .val u2) → Good P c o s k := by
    intro ob v hob hk hrun ⟨u1, u2, e1, e2⟩
    refine good_pure hk (((hx.and hy).and hob).mono fun ⟨⟨hx, hy⟩, hob⟩ a w imm φ hev => ?_)
    rw [ho] at hev
    have r1 := hx (hev x (by simp [Op.operands]))
    have r2 := hy (hev y (by simp [Op.operands]))
    subst e1; subst e2
    obtain ⟨g1, g2⟩ := hrun _ _ rfl rfl (fun _ => trivial) hob w
    have a1 : a.eval x = u1 := r1.val_inv
    have a2 : a.eval y = u2 := r2.val_inv
    exact ⟨v, by simp [execOp, ho, a1, a2, g1, g2], .val _ _⟩
  split at h
  · rename_i k1 a k2 b _
    have hg : ∀ w, (eqGuard op t x y (.int k1 a) (.int k2 b)).run P w = .ok () w := by
      intro w
      cases op <;> simp [eqGuard]
    split at h
    · obtain ⟨ob, v, ⟨h1, h2⟩, h3⟩ := shiftBin_spec (P := P) (t := t) (k' := k2) h
      exact fin ob v h1 h2 (fun u1 u2 e1 e2 _ hob w => by cases e1; cases e2; exact ⟨hg w, h3 hob w⟩) ⟨_, _, rfl, rfl⟩
    · obtain ⟨ob, v, ⟨h1, h2⟩, h3⟩ := shiftBin_spec (P := P) (t := t) (k' := k2) h
      exact fin ob v h1 h2 (fun u1 u2 e1 e2 _ hob w => by cases e1; cases e2; exact ⟨hg w, h3 hob w⟩) ⟨_, _, rfl, rfl⟩
    · split at h
      · rename_i hk
        subst hk
        obtain ⟨ob, v, ⟨h1, h2⟩, h3⟩ := intBin_spec (P := P) (t := t) h
        exact fin ob v h1 h2 (fun u1 u2 e1 e2 _ hob w => by cases e1; cases e2; exact ⟨hg w, h3 hob w⟩) ⟨_, _, rfl, rfl⟩
      · exact h.elim
  · rename_i a b
    obtain ⟨ob, v, ⟨h1, h2⟩, h3⟩ := strBin_spec (P := P) (t := t) h
    exact fin ob v h1 h2 (fun u1 u2 e1 e2 _ hob w => by cases e1; cases e2; exact ⟨by cases op <;> simp [eqGuard], h3 hob w⟩) ⟨_, _, rfl, rfl⟩
  · rename_i hn1 hn2
    split at h
    · rename_i b hb
      have hop : (op = .eql ∧ k (.val (.bool b)) .none) ∨ (op = .neq ∧ k (.val (.bool (!b))) .none) := by
        cases op <;> simp at h
        · exact .inl ⟨rfl, h⟩
        · exact .inr ⟨rfl, h⟩
      have run : ∀ (cell : Addr → Option Value) (imm : Nat → Prop) (φ : Phi) u1 u2, VRel cell imm φ vx u1 → VRel cell imm φ vy u2 → ∀ w, (Op.equal t u1 u2).run P w = .ok b w := by
        intro cell imm φ u1 u2 r1 r2 w
        exact ((eq_spec hT 20).1 t vx vy b u1 u2 hb r1 r2 _ w (by simp [Op.maxDepth]))
      have sh : (∃ b1 b2, vx = .val (.bool b1) ∧ vy = .val (.bool b2)) ∨ (∃ xs ys, vx = .agg xs ∧ vy = .agg ys ∧ ∃ ti, T t = some ti ∧ ti.plain = true) := by
        simp only [eqT] at hb
        split at hb
        · cases hb
        · rename_i ti ht
          split at hb
          · rename_i hu; exact absurd rfl (hn1 _ _ _ _ rfl)
          · exact .inl ⟨_, _, rfl, rfl⟩
          · rename_i hu; exact absurd rfl (hn2 _ _ rfl)
          · split at hb
            · rename_i hp; exact .inr ⟨_, _, rfl, rfl, ti, ht, hp⟩
            · cases hb
          · cases hb
      have go : ∀ r : Value, ((op = .eql ∧ r = .bool b) ∨ (op = .neq ∧ r = .bool (!b))) → k (.val r) .none → Good P c o s k := by
        intro r hr hk
        refine good_pure hk ((hx.and hy).mono fun ⟨hx, hy⟩ a w imm φ hev => ?_)
        rw [ho] at hev
        have r1 := hx (hev x (by simp [Op.operands]))
        have r2 := hy (hev y (by simp [Op.operands]))
        have re := run _ _ _ _ _ r1 r2 w
        refine ⟨r, ?_, .val _ _⟩
        rcases sh with ⟨b1, b2, rfl, rfl⟩ | ⟨xs, ys, rfl, rfl, ti, ht, hp⟩
        · have a1 : a.eval x = .bool b1 := r1.val_inv
          have a2 : a.eval y = .bool b2 := r2.val_inv
          rw [a1, a2] at re
          rcases hr with ⟨rfl, rfl⟩ | ⟨rfl, rfl⟩ <;> simp [execOp, ho, a1, a2, eqGuard, binOp, re]
        · have hgd := hT.plain t ti ht hp
          generalize hu : a.eval x = u1 at *
          generalize hv : a.eval y = u2 at *
          cases r1 with | agg _ _ us _ _ => cases r2 with | agg _ _ vs _ _ =>
          have e1 := run_eqGuard_agg (P := P) w op t x y us vs hgd.2
          rcases hr with ⟨rfl, rfl⟩ | ⟨rfl, rfl⟩ <;> simp [execOp, ho, hu, hv, e1, binOp, re]
      rcases hop with ⟨h1, h2⟩ | ⟨h1, h2⟩
      · exact go _ (.inl ⟨h1, rfl⟩) h2
      · exact go _ (.inr ⟨h1, rfl⟩) h2
    · exact h.elim

end Vm
end Go.Proofs.YtdbpcmpkpbamhaaGreatDoor

/- The abstract machine: more operations that neither write memory nor make any. -/
namespace Go.Proofs.YtdbpcmpkpbamhaaGreatDoor
set_option linter.unusedVariables false
set_option linter.unusedSimpArgs false
namespace Vm
open Go

theorem Addr.add_add (a : Addr) (m n : Nat) : (a.add m).add n = a.add (m + n) := by
  unfold Addr.add
  by_cases hm : m = 0 <;> by_cases hn : n = 0 <;> simp [hm, hn, Nat.add_assoc]
theorem Addr.add_block (a : Addr) (m : Nat) : (a.add m).block = a.block := by unfold Addr.add; split <;> rfl
theorem Addr.add_spot {a : Addr} (h : a.spot = none) (m : Nat) : (a.add m).spot = none := by unfold Addr.add; split <;> simp_all
theorem Addr.add_off {a : Addr} (h : a.spot = none) (m : Nat) : a.add m = ⟨a.block, a.off + m, none⟩ := by
  obtain ⟨b, o, s⟩ := a
  simp at h
  subst h
  unfold Addr.add; split <;> simp_all

/-! ### Unary operators, conversions, functions as values, parts of tuples -/
def unVC (c : Option Bool) (op : UnOp) (x : AV) (k : AV → Eff → Prop) : Prop :=
  un c x fun x => match op, x with
  | .not, .val (.bool b) => k (.val (.bool (!b))) .none
  | .not, .junk => imp c False ∧ k (.val (.bool false)) .none
  | .neg, .val (.int kd n) => arith kd (0 - n) fun o m => imp c o ∧ k (.val (.int kd m)) .none
  | .xor, .val (.int kd n) => k (.val (.int kd (bitsOf .xor kd (if kd.signed then -1 else kd.max) n))) .none
  | _, _ => False

theorem unVC_ok {P : Program} {c : Option Bool} {o : Oper} {s : St} {k : AV → Eff → Prop} {op : UnOp} {t : Nat} {x : Operand} (ho : o.op = .unOp op t x) (h : unVC c op (ev s x) k) : Good P c o s k := by
  obtain ⟨vx, h, hx⟩ := un_spec h
  have ex : ∀ (a : Act) (w : World) (imm : Nat → Prop) (φ : Phi), (∀ x ∈ o.op.operands, VRel w.cell? imm φ (ev s x) (a.eval x)) → VRel w.cell? imm φ (ev s x) (a.eval x) := fun a w imm φ hev => hev x (by simp [ho, Op.operands])
  split at h
  · refine good_pure h (hx.mono fun hx a w imm φ hev => ⟨_, ?_, .val _ _⟩)
    have e := (hx (ex a w imm φ hev)).val_inv
    simp [execOp, ho, e, Op.unary]
  · refine good_pure h.2 (h.1.mono fun f => f.elim)
  · obtain ⟨ob, m, ⟨h1, h2⟩, h3⟩ := arith_spec h
    refine good_pure h2 ((hx.and h1).mono fun ⟨hx, hob⟩ a w imm φ hev => ⟨_, ?_, .val _ _⟩)
    have e := (hx (ex a w imm φ hev)).val_inv
    simp only [execOp, ho, e, Op.unary, Op.intArith, h3 hob]
    rfl
  · refine good_pure h (hx.mono fun hx a w imm φ hev => ⟨_, ?_, .val _ _⟩)
    have e := (hx (ex a w imm φ hev)).val_inv
    simp only [execOp, ho, e, Op.unary, Op.intBits, bitsOf]
    rfl
  · exact h.elim

def convVC (T : Nat → Option TI) (c : Option Bool) (src dst : Nat) (x : AV) (k : AV → Eff → Prop) : Prop :=
  un c x fun x => match T src, T dst, x with
  | some _, some tj, .val (.int _ n) => match tj.u with
    | .int kd => arith kd n fun o m => imp c o ∧ k (.val (.int kd m)) .none
    | _ => False
  | some _, some tj, .val (.string b) => match tj.u with
    | .string => k (.val (.string b)) .none
    | _ => False
  | _, _, _ => False

theorem convVC_ok {P : Program} {T : Nat → Option TI} (hT : TOk P T) {c : Option Bool} {o : Oper} {s : St} {k : AV → Eff → Prop} {src dst : Nat} {x : Operand} (ho : o.op = .convert src dst x)
    (h : convVC T c src dst (ev s x) k) : Good P c o s k := by
  obtain ⟨vx, h, hx⟩ := un_spec h
  have ex : ∀ (a : Act) (w : World) (imm : Nat → Prop) (φ : Phi), (∀ x ∈ o.op.operands, VRel w.cell? imm φ (ev s x) (a.eval x)) → VRel w.cell? imm φ (ev s x) (a.eval x) := fun a w imm φ hev => hev x (by simp [ho, Op.operands])
  split at h
  · rename_i ti tj kd n h1 h2
    split at h
    · rename_i kd' hu
      obtain ⟨ob, m, ⟨g1, g2⟩, g3⟩ := arith_spec h
      refine good_pure g2 ((hx.and g1).mono fun ⟨hx, hob⟩ a w imm φ hev => ⟨_, ?_, .val _ _⟩)
      have e := (hx (ex a w imm φ hev)).val_inv
      have r1 := hT.run_underlying h1 w
      have r2 := hT.run_underlying h2 w
      rw [hu] at r2
      simp only [execOp, ho, e, convert, Sem.run_bind, r1, r2, Result.andThen_ok, Conv.intToInt, g3 hob]
      rfl
    · exact h.elim
  · rename_i ti tj b h1 h2
    split at h
    · rename_i hu
      refine good_pure h (hx.mono fun hx a w imm φ hev => ⟨_, ?_, .val _ _⟩)
      have e := (hx (ex a w imm φ hev)).val_inv
      have r1 := hT.run_underlying h1 w
      have r2 := hT.run_underlying h2 w
      rw [hu] at r2
      simp only [execOp, ho, e, convert, Sem.run_bind, r1, r2, Result.andThen_ok]
      rfl
    · exact h.elim
  · exact h.elim

def evL (s : St) (xs : Array Operand) : List AV := xs.toList.map (ev s)

theorem makeFunc_ok {P : Program} {c : Option Bool} {o : Oper} {s : St} {k : AV → Eff → Prop} {n : Nat} {f cp : Array Operand} (ho : o.op = .makeFunc (.func n) f cp) (h : k (.fn n (evL s f) (evL s cp)) .none) : Good P c o s k := by
  refine good_pure h (.of fun a w imm φ hev => ⟨.func (.func n) (f.map a.eval) (cp.map a.eval), by simp [execOp, ho, Instr.makeFunc], ?_⟩)
  rw [ho] at hev
  refine .fn _ _ _ _ _ _ (by simp [evL]) (by simp [evL]) (fun i c u h1 h2 => ?_) fun i c u h1 h2 => ?_
  · simp [evL] at h1 h2
    obtain ⟨x, hx, rfl⟩ := h1
    obtain ⟨y, hy, rfl⟩ := h2
    rw [hx] at hy; cases hy
    exact hev _ (by simp only [Op.operands, Array.mem_append]; exact .inl (Array.mem_of_getElem? hx))
  · simp [evL] at h1 h2
    obtain ⟨x, hx, rfl⟩ := h1
    obtain ⟨y, hy, rfl⟩ := h2
    rw [hx] at hy; cases hy
    exact hev _ (by simp only [Op.operands, Array.mem_append]; exact .inr (Array.mem_of_getElem? hx))

def extractVC (c : Option Bool) (x : AV) (i : Nat) (k : AV → Eff → Prop) : Prop :=
  un c x fun x => match x with
  | .tup vs => match vs[i]? with
    | some v => strict v fun v => k v .none
    | none => False
  | _ => False

theorem extract_ok {P : Program} {c : Option Bool} {o : Oper} {s : St} {k : AV → Eff → Prop} {x : Operand} {i : Nat} (ho : o.op = .extract x i) (h : extractVC c (ev s x) i k) : Good P c o s k := by
  obtain ⟨vx, h, hx⟩ := un_spec h
  split at h
  · rename_i vs _
    split at h
    · rename_i v hv
      rw [strict_eq] at h
      refine good_pure h (hx.mono fun hx a w imm φ hev => ?_)
      have r := hx (hev x (by simp [ho, Op.operands]))
      generalize hu : a.eval x = u at r
      cases r with
      | tup _ _ us hs hc =>
        have hlt : i < us.size := by have := (List.getElem?_eq_some_iff.1 hv).1; omega
        exact ⟨us[i], by simp [execOp, ho, hu, Instr.extract, hlt], hc i v us[i] hv (by simp [hlt])⟩
    · exact h.elim
  · exact h.elim

def nilCheckVC (c : Option Bool) (x : AV) (k : AV → Eff → Prop) : Prop :=
  un c x fun x => match x with
  | .fn f a b => k (.fn f a b) .none
  | .ptr b i off g => k (.ptr b i off g) .none
  | .ipt cs => k (.ipt cs) .none
  | _ => False

theorem nilCheck_ok {P : Program} {c : Option Bool} {o : Oper} {s : St} {k : AV → Eff → Prop} {x : Operand} (ho : o.op = .nilCheck x) (h : nilCheckVC c (ev s x) k) : Good P c o s k := by
  obtain ⟨vx, h, hx⟩ := un_spec h
  have fin : ∀ d, (vx = d) → k d .none → (∀ (cell : Addr → Option Value) imm φ u, VRel cell imm φ d u → (∃ f x y, u = .func (.func f) x y) ∨ ∃ a, u = .pointer (some a)) → Good P c o s k := by
    intro d e hk hsh
    subst e
    refine good_pure hk (hx.mono fun hx a w imm φ hev => ?_)
    have r := hx (hev x (by simp [ho, Op.operands]))
    refine ⟨a.eval x, ?_, r⟩
    rcases hsh _ _ _ _ r with ⟨f, p, q, e⟩ | ⟨q, e⟩ <;> simp [execOp, ho, e]
  split at h
  · exact fin _ rfl h fun cell imm φ u hu => by cases hu; exact .inl ⟨_, _, _, rfl⟩
  · exact fin _ rfl h fun cell imm φ u hu => by cases hu with | ptr _ _ _ _ _ _ _ _ _ hs _ => obtain ⟨a, rfl⟩ := hs; exact .inr ⟨_, rfl⟩
  · exact fin _ rfl h fun cell imm φ u hu => by cases hu; exact .inr ⟨_, rfl⟩
  · exact h.elim

/-! ### Addresses -/
def fieldAddrVC (T : Nat → Option TI) (c : Option Bool) (t : Nat) (x : AV) (f : Nat) (k : AV → Eff → Prop) : Prop :=
  match T t with
  | some ti => match ti.u with
    | .struct fs => match fs[f]? with
      | some fd => match T fd.type with
        | some tj => match Nat.beq tj.size 0 with
          | true => False
          | false => un c x fun x => match x with
            | .ptr b i off g => k (.ptr b i (off + fd.offset) g) .none
            | .ipt cs => k (.ipt (cs.drop fd.offset)) .none
            | _ => False
        | none => False
      | none => False
    | _ => False
  | none => False

theorem fieldAddr_ok {P : Program} {T : Nat → Option TI} (hT : TOk P T) {c : Option Bool} {o : Oper} {s : St} {k : AV → Eff → Prop} {t f : Nat} {x : Operand} (ho : o.op = .fieldAddr t x f)
    (h : fieldAddrVC T c t (ev s x) f k) : Good P c o s k := by
  unfold fieldAddrVC at h
  split at h
  case h_2 => exact h.elim
  rename_i ti ht
  split at h
  case h_2 => exact h.elim
  rename_i fs hu
  split at h
  case h_2 => exact h.elim
  rename_i fd hf
  split at h
  case h_2 => exact h.elim
  rename_i tj htj
  split at h
  case h_1 => exact h.elim
  rename_i hsz
  obtain ⟨vx, h, hx⟩ := un_spec h
  have hsz' : tj.size ≠ 0 := fun e => by rw [e] at hsz; exact absurd hsz (by decide)
  have run : ∀ (a : Act) (w : World) ad, a.eval x = .pointer (some ad) → (execOp a.eval o).run P w = .ok (.value (.pointer (some (ad.add fd.offset)))) w := by
    intro a w ad e
    have r1 := hT.run_underlying ht w
    rw [hu] at r1
    simp [execOp, ho, e, Instr.fieldAt, r1, hf, Instr.sureAddr, fieldPlace, hT.run_sizeOf htj, hsz']
  split at h
  · refine good_pure h (hx.mono fun hx a w imm φ hev => ?_)
    have r := hx (hev x (by simp [ho, Op.operands]))
    generalize hu : a.eval x = u at r
    cases r with
    | ptr _ b i off g _ rb hb hg hs hv =>
      obtain ⟨ad, rfl⟩ := hs
      refine ⟨_, run a w ad hu, .ptr _ _ _ _ _ _ rb hb hg ⟨_, rfl⟩ fun e => ?_⟩
      have := hv e
      cases this
      rw [Addr.add_add, Nat.add_assoc]
  · refine good_pure h (hx.mono fun hx a w imm φ hev => ?_)
    have r := hx (hev x (by simp [ho, Op.operands]))
    generalize hu : a.eval x = u at r
    cases r with
    | ipt _ cs ad us ha hd hv =>
      refine ⟨_, run a w ad hu, .ipt _ _ _ (fun j => us (fd.offset + j)) (Addr.add_spot ha _) (fun j c hj => ?_) fun j c hj => ?_⟩
      · rw [List.getElem?_drop] at hj
        have := hd _ _ hj
        rw [Addr.add_block, Addr.add_add]
        exact this
      · rw [List.getElem?_drop] at hj
        exact hv _ _ hj
  · exact h.elim

theorem flat_len {k : Nat} : ∀ (xs : List AV), (∀ x ∈ xs, (cellsOf x).length = k) → (flat xs).length = xs.length * k
  | [], _ => by simp [flat]
  | x :: xs, h => by
    simp only [flat, List.length_append, List.length_cons]
    rw [h x (by simp), flat_len xs fun y hy => h y (by simp [hy]), Nat.succ_mul]
    omega

theorem flat_get {k : Nat} : ∀ (xs : List AV), (∀ x ∈ xs, (cellsOf x).length = k) → ∀ (i : Nat) (x : AV) (j : Nat) (c : AV), xs[i]? = some x → (cellsOf x)[j]? = some c → (flat xs)[i * k + j]? = some c
  | [], _, i, x, j, c, h1, _ => by simp at h1
  | y :: xs, h, i, x, j, c, h1, h2 => by
    have hy := h y (by simp)
    simp only [flat]
    cases i with
    | zero =>
      simp at h1
      subst h1
      rw [Nat.zero_mul, Nat.zero_add, List.getElem?_append_left (List.getElem?_eq_some_iff.1 h2).1]
      exact h2
    | succ i =>
      simp at h1
      rw [List.getElem?_append_right (by rw [hy, Nat.succ_mul]; omega), hy, show (i + 1) * k + j - k = i * k + j by rw [Nat.succ_mul]; omega]
      exact flat_get xs (fun z hz => h z (by simp [hz])) i x j c h1 h2

def indexAddrVC (T : Nat → Option TI) (c : Option Bool) (t : Nat) (x ix : AV) (k : AV → Eff → Prop) : Prop :=
  match T t with
  | some ti => match ti.u with
    | .slice e => match T e with
      | some te => un c x fun x => un c ix fun ix => match x, ix with
        | .sl _ _ q xs, .val (.int _ i) => ∃ x, (imp c (0 ≤ i ∧ xs[i.toNat]? = some x ∧ q = te.size)) ∧ k (.ipt (cellsOf x)) .none
        | .ref b off len _ g n, .val (.int _ i) => (imp c (0 ≤ i ∧ i < len ∧ n = te.size)) ∧ k (.ptr b (off + i.toNat) 0 g) .none
        | _, _ => False
      | none => False
    | _ => False
  | none => False

theorem indexAddr_ok {P : Program} {T : Nat → Option TI} (hT : TOk P T) {c : Option Bool} {o : Oper} {s : St} {k : AV → Eff → Prop} {t : Nat} {x ix : Operand} (ho : o.op = .indexAddr t x ix)
    (h : indexAddrVC T c t (ev s x) (ev s ix) k) : Good P c o s k := by
  unfold indexAddrVC at h
  split at h
  case h_2 => exact h.elim
  rename_i ti ht
  split at h
  case h_2 => exact h.elim
  rename_i e hu
  split at h
  case h_2 => exact h.elim
  rename_i te hte
  obtain ⟨vx, h, hx⟩ := un_spec h
  obtain ⟨vi, h, hi⟩ := un_spec h
  have run : ∀ (a : Act) (w : World) ad len cap kd (i : Int), a.eval x = .slice (some ad) len cap → a.eval ix = .int kd i → 0 ≤ i → i < len → (execOp a.eval o).run P w = .ok (.value (.pointer (some (ad.add (i.toNat * te.size))))) w := by
    intro a w ad len cap kd i e1 e2 h0 h1
    have r1 := hT.run_underlying ht w
    rw [hu] at r1
    simp [execOp, ho, e1, e2, Instr.indexAt, asIntOf, r1, h0, h1, hT.run_sizeOf hte]
  split at h
  · rename_i n0 cp q xs kd i _
    obtain ⟨x', ho', hk⟩ := h
    refine good_pure hk (((hx.and hi).and ho').mono fun ⟨⟨hx, hi⟩, h0, h1, h2⟩ a w imm φ hev => ?_)
    have r1 := hx (hev x (by simp [ho, Op.operands]))
    have r2 := (hi (hev ix (by simp [ho, Op.operands]))).val_inv
    generalize hu : a.eval x = u at r1
    have hlt := (List.getElem?_eq_some_iff.1 h1).1
    cases r1 with
    | nil => simp at h1
    | sl _ _ _ _ ad cap _ us hn hcc hcap ha hk1 hd hv =>
      subst h2
      refine ⟨_, run a w ad _ cap kd i hu r2 h0 (by omega), .ipt _ _ _ (fun j => us (i.toNat * te.size + j)) (Addr.add_spot ha _) (fun j c hj => ?_) fun j c hj => ?_⟩
      · have := hd _ _ (flat_get xs hk1 _ _ _ _ h1 hj)
        rw [Addr.add_block, Addr.add_add]
        exact this
      · exact hv _ _ (flat_get xs hk1 _ _ _ _ h1 hj)
  · rename_i b off len lim g n kd i _
    obtain ⟨ho', hk⟩ := h
    refine good_pure hk (((hx.and hi).and ho').mono fun ⟨⟨hx, hi⟩, h0, h1, h2⟩ a w imm φ hev => ?_)
    have r1 := hx (hev x (by simp [ho, Op.operands]))
    have r2 := (hi (hev ix (by simp [ho, Op.operands]))).val_inv
    generalize hu : a.eval x = u at r1
    cases r1 with
    | ref _ _ _ _ _ _ _ _ rb hb hg hs hv =>
      obtain ⟨ad, cp, rfl, _⟩ := hs
      refine ⟨_, run a w _ _ _ kd i hu r2 h0 h1, .ptr _ _ _ _ _ _ rb hb hg ⟨_, rfl⟩ fun hge => ?_⟩
      obtain ⟨hk1, ad', c', e1, hle, hn, _, _, had, _⟩ := hv hge
      cases e1
      rw [(had (by omega)).1, Addr.add_add, hk1, h2, Nat.add_mul, Nat.add_zero]
  · exact h.elim

/-! ### Fields and elements of values, slices, len -/
def fieldVC (T : Nat → Option TI) (c : Option Bool) (t : Nat) (x : AV) (f : Nat) (k : AV → Eff → Prop) : Prop :=
  match T t with
  | some ti => match ti.u with
    | .struct fs => match fs[f]? with
      | some fd => match T fd.type with
        | some tj => un c x fun x => match x with
          | .agg cs => match partOf tj cs fd.offset with
            | some v => strict v fun v => k v .none
            | none => False
          | _ => False
        | none => False
      | none => False
    | _ => False
  | none => False

theorem field_ok {P : Program} {T : Nat → Option TI} (hT : TOk P T) {c : Option Bool} {o : Oper} {s : St} {k : AV → Eff → Prop} {t f : Nat} {x : Operand} (ho : o.op = .field t x f)
    (h : fieldVC T c t (ev s x) f k) : Good P c o s k := by
  unfold fieldVC at h
  split at h
  case h_2 => exact h.elim
  rename_i ti ht
  split at h
  case h_2 => exact h.elim
  rename_i fs hu
  split at h
  case h_2 => exact h.elim
  rename_i fd hf
  split at h
  case h_2 => exact h.elim
  rename_i tj htj
  obtain ⟨vx, h, hx⟩ := un_spec h
  split at h
  case h_2 => exact h.elim
  rename_i cs _
  split at h
  case h_2 => exact h.elim
  rename_i v hv
  rw [strict_eq] at h
  refine good_pure h (hx.mono fun hx a w imm φ hev => ?_)
  have r := hx (hev x (by simp [ho, Op.operands]))
  generalize hu' : a.eval x = u at r
  cases r with
  | agg _ _ us hs hc =>
    obtain ⟨y, hy, hr⟩ := part_rel hT hs hc htj hv w
    have r1 := hT.run_underlying ht w
    rw [hu] at r1
    exact ⟨y, by simp [execOp, ho, hu', Instr.field, r1, hf, asAgg, hy], hr⟩

def byteAt (s : ByteArray) (i : Nat) : Int := ((s.data.toList.getD i 0).toNat : Int)

def indexVC (T : Nat → Option TI) (c : Option Bool) (t : Nat) (x ix : AV) (k : AV → Eff → Prop) : Prop :=
  match T t with
  | some ti => match ti.u with
    | .string => un c x fun x => un c ix fun ix => match x, ix with
      | .val (.string s), .val (.int _ i) => imp c (0 ≤ i ∧ i < s.size) ∧ k (.val (.int .u8 (byteAt s i.toNat))) .none
      | _, _ => False
    | _ => False
  | none => False

theorem index_ok {P : Program} {T : Nat → Option TI} (hT : TOk P T) {c : Option Bool} {o : Oper} {s : St} {k : AV → Eff → Prop} {t : Nat} {x ix : Operand} (ho : o.op = .index t x ix)
    (h : indexVC T c t (ev s x) (ev s ix) k) : Good P c o s k := by
  unfold indexVC at h
  split at h
  case h_2 => exact h.elim
  rename_i ti ht
  split at h
  case h_2 => exact h.elim
  rename_i hu
  obtain ⟨vx, h, hx⟩ := un_spec h
  obtain ⟨vi, h, hi⟩ := un_spec h
  split at h
  case h_2 => exact h.elim
  rename_i b kd i _
  obtain ⟨ho', hk⟩ := h
  refine good_pure hk (((hx.and hi).and ho').mono fun ⟨⟨hx, hi⟩, h0, h1⟩ a w imm φ hev => ⟨_, ?_, .val _ _⟩)
  have r1 := (hx (hev x (by simp [ho, Op.operands]))).val_inv
  have r2 := (hi (hev ix (by simp [ho, Op.operands]))).val_inv
  have r3 := hT.run_underlying ht w
  rw [hu] at r3
  have hlt : i.toNat < b.size := by omega
  have hb : b[i.toNat]? = some b[i.toNat] := by simp [hlt]
  simp only [execOp, ho, r1, r2, Instr.index, asIntOf, Sem.run_bind, Sem.run_pure, Result.andThen_ok, r3, if_pos h0, hb]
  have : byteAt b i.toNat = ((b[i.toNat]'hlt).toNat : Int) := by
    unfold byteAt
    rw [List.getD_eq_getElem?_getD, List.getElem?_eq_getElem (by simpa using hlt)]
    rfl
  rw [this]

def boundOf (c : Option Bool) (s : St) (x : Option Operand) (d : Nat) (K : Int → Prop) : Prop :=
  match x with
  | none => K d
  | some x => un c (ev s x) fun v => match v with
    | .val (.int _ i) => K i
    | _ => False

theorem boundOf_spec {c : Option Bool} {s : St} {x : Option Operand} {d : Nat} {K : Int → Prop} (h : boundOf c s x d K) : ∃ i, K i ∧ (x = none → i = d) ∧ imp c (∀ y, x = some y → ∀ {cell : Addr → Option Value} {imm : Nat → Prop} {φ : Phi} {u : Value}, VRel cell imm φ (ev s y) u → ∃ kd, u = .int kd i) := by
  unfold boundOf at h
  split at h
  · exact ⟨_, h, fun _ => rfl, .of fun y hy => by cases hy⟩
  · rename_i y
    obtain ⟨v, h, hv⟩ := un_spec h
    split at h
    · refine ⟨_, h, (fun e => by simp at e), hv.mono fun hv y' e => ?_⟩
      simp at e
      subst e
      intro cell imm φ u hu
      exact ⟨_, (hv hu).val_inv⟩
    · exact h.elim

def sliceVC (T : Nat → Option TI) (c : Option Bool) (s : St) (t : Nat) (x : AV) (lo hi mx : Option Operand) (k : AV → Eff → Prop) : Prop :=
  match mx with
  | some _ => False
  | none => match T t with
    | some ti => un c x fun x => match ti.u, x with
      | .string, .val (.string b) => boundOf c s lo 0 fun l => boundOf c s hi b.size fun h =>
          imp c (0 ≤ l ∧ l ≤ h ∧ h ≤ b.size) ∧ k (.val (.string (b.extract l.toNat h.toNat))) .none
      | .slice e, .sl n cp q xs => match T e with
        | some te => boundOf c s lo 0 fun l => boundOf c s hi xs.length fun h =>
          imp c (0 ≤ l ∧ l ≤ h ∧ h ≤ xs.length ∧ q = te.size) ∧ k (.sl n (cp.map (· - l.toNat)) q ((xs.take h.toNat).drop l.toNat)) .none
        | none => False
      | .slice e, .ref b off len lim g n => match T e with
        | some te => boundOf c s lo 0 fun l => boundOf c s hi len fun h =>
          imp c (0 ≤ l ∧ l ≤ h ∧ h ≤ len ∧ n = te.size) ∧ k (.ref b (off + l.toNat) (h.toNat - l.toNat) (lim.map (· - l.toNat)) g n) .none
        | none => False
      | _, _ => False
    | none => False

theorem run_sliceBounds {P : Program} {a : Act} {w : World} {lo hi : Option Operand} {len cap l h : Nat} (isS : Bool) (hlc : len ≤ cap)
    (el : lo = none → l = 0) (el' : ∀ y, lo = some y → ∃ kd, a.eval y = .int kd (l : Int)) (eh : hi = none → h = len) (eh' : ∀ y, hi = some y → ∃ kd, a.eval y = .int kd (h : Int)) (h1 : l ≤ h) (h2 : h ≤ len) :
    (Instr.sliceBounds isS len cap (lo.map a.eval) (hi.map a.eval) none).run P w = .ok (l, h, cap) w := by
  cases lo with
  | none =>
    cases hi with
    | none => simp [Instr.sliceBounds, el rfl, eh rfl]
    | some y =>
      obtain ⟨kd, e⟩ := eh' y rfl
      simp [Instr.sliceBounds, e, Instr.sliceBound, asIntOf, el rfl, show h ≤ cap by omega]
  | some x =>
    obtain ⟨kd, e⟩ := el' x rfl
    cases hi with
    | none =>
      have := eh rfl
      subst this
      simp [Instr.sliceBounds, e, Instr.sliceBound, asIntOf, h1]
    | some y =>
      obtain ⟨kd', e'⟩ := eh' y rfl
      simp [Instr.sliceBounds, e, e', Instr.sliceBound, asIntOf, h1, show h ≤ cap by omega]

theorem flat_append (xs ys : List AV) : flat (xs ++ ys) = flat xs ++ flat ys := by
  induction xs with
  | nil => rfl
  | cons x xs ih => simp [flat, ih]

theorem flat_drop {k : Nat} : ∀ (xs : List AV) (n : Nat), (∀ x ∈ xs, (cellsOf x).length = k) → n ≤ xs.length → flat (xs.drop n) = (flat xs).drop (n * k)
  | xs, 0, _, _ => by simp
  | [], n + 1, _, h => by simp at h
  | x :: xs, n + 1, hk, h => by
    simp only [List.drop_succ_cons, flat]
    rw [flat_drop xs n (fun y hy => hk y (by simp [hy])) (by simpa using h), List.drop_append, Nat.succ_mul]
    have := hk x (by simp)
    rw [List.drop_eq_nil_of_le (as := cellsOf x) (by omega), List.nil_append, this]
    congr 1
    omega

theorem flat_take {k : Nat} (xs : List AV) (n : Nat) (hk : ∀ x ∈ xs, (cellsOf x).length = k) (h : n ≤ xs.length) : flat (xs.take n) = (flat xs).take (n * k) := by
  have e : flat xs = flat (xs.take n) ++ flat (xs.drop n) := by rw [← flat_append, List.take_append_drop]
  have l : (flat (xs.take n)).length = n * k := by
    rw [flat_len _ fun x hx => hk x (List.mem_of_mem_take hx), List.length_take, Nat.min_eq_left h]
  rw [e, ← l, List.take_left']
  rfl

theorem slice_ok {P : Program} {T : Nat → Option TI} (hT : TOk P T) {c : Option Bool} {o : Oper} {s : St} {k : AV → Eff → Prop} {t : Nat} {x : Operand} {lo hi mx : Option Operand} (ho : o.op = .slice t x lo hi mx)
    (h : sliceVC T c s t (ev s x) lo hi mx k) : Good P c o s k := by
  unfold sliceVC at h
  split at h
  case h_1 => exact h.elim
  split at h
  case h_2 => exact h.elim
  rename_i ti ht
  obtain ⟨vx, h, hx⟩ := un_spec h
  have ops : ∀ (a : Act) (w : World) (imm : Nat → Prop) (φ : Phi), (∀ x ∈ o.op.operands, VRel w.cell? imm φ (ev s x) (a.eval x)) → VRel w.cell? imm φ (ev s x) (a.eval x) ∧
      (∀ y, lo = some y → VRel w.cell? imm φ (ev s y) (a.eval y)) ∧ (∀ y, hi = some y → VRel w.cell? imm φ (ev s y) (a.eval y)) := by
    intro a w imm φ hev
    rw [ho] at hev
    exact ⟨hev x (by simp [Op.operands]), fun y e => hev y (by simp [Op.operands, e]), fun y e => hev y (by simp [Op.operands, e])⟩
  split at h
  · rename_i b hu
    obtain ⟨l, h, el, hl⟩ := boundOf_spec h
    obtain ⟨m, h, em, hm⟩ := boundOf_spec h
    obtain ⟨hob, hk⟩ := h
    refine good_pure hk ((((hx.and hl).and hm).and hob).mono fun ⟨⟨⟨hx, hl⟩, hm⟩, h0, h1, h2⟩ a w imm φ hev => ⟨_, ?_, .val _ _⟩)
    obtain ⟨o1, o2, o3⟩ := ops a w imm φ hev
    have e := (hx o1).val_inv
    obtain ⟨l, rfl⟩ := Int.eq_ofNat_of_zero_le h0
    obtain ⟨m, rfl⟩ := Int.eq_ofNat_of_zero_le (Int.le_trans h0 h1)
    have r1 := hT.run_underlying ht w
    rw [hu] at r1
    have rb := run_sliceBounds (P := P) (a := a) (w := w) (lo := lo) (hi := hi) (len := b.size) (cap := b.size) (l := l) (h := m) false (Nat.le_refl _) (fun e => by have := el e; omega) (fun y e => hl y e (o2 y e))
      (fun e => by have := em e; omega) (fun y e => hm y e (o3 y e)) (by omega) (by omega)
    simp only [execOp, ho, e, Instr.sliceAt, Sem.run_bind, r1, Result.andThen_ok, Instr.slice]
    simp [rb]
  · rename_i e n cp q xs hu
    split at h
    case h_2 => exact h.elim
    rename_i te hte
    obtain ⟨l, h, el, hl⟩ := boundOf_spec h
    obtain ⟨m, h, em, hm⟩ := boundOf_spec h
    obtain ⟨hob, hk⟩ := h
    refine good_pure hk ((((hx.and hl).and hm).and hob).mono fun ⟨⟨⟨hx, hl⟩, hm⟩, h0, h1, h2, h3⟩ a w imm φ hev => ?_)
    obtain ⟨o1, o2, o3⟩ := ops a w imm φ hev
    have rx := hx o1
    obtain ⟨l, rfl⟩ := Int.eq_ofNat_of_zero_le h0
    obtain ⟨m, rfl⟩ := Int.eq_ofNat_of_zero_le (Int.le_trans h0 h1)
    have r1 := hT.run_underlying ht w
    rw [hu] at r1
    have r2 := hT.run_sizeOf hte w
    have rb : ∀ cap, xs.length ≤ cap → (Instr.sliceBounds true xs.length cap (lo.map a.eval) (hi.map a.eval) none).run P w = .ok (l, m, cap) w := fun cap hc =>
      run_sliceBounds true hc (fun e => by have := el e; omega) (fun y e => hl y e (o2 y e)) (fun e => by have := em e; omega) (fun y e => hm y e (o3 y e)) (by omega) (by omega)
    generalize hu' : a.eval x = u at rx
    simp only [Int.toNat_natCast]
    cases rx with
    | nil _ _ _ _ hn hc =>
      have rb0 := rb 0 (by simp)
      simp only [List.length_nil] at rb0 h2
      have hl0 : l = 0 := by omega
      have hm0 : m = 0 := by omega
      subst hl0; subst hm0
      refine ⟨.slice none 0 0, ?_, ?_⟩
      · simp only [execOp, ho, hu', Instr.sliceAt, Sem.run_bind, r1, Result.andThen_ok, Instr.slice]
        simp [rb0, r2]
      · simp only [List.take_nil, List.drop_nil]
        refine .nil _ _ _ _ hn ?_
        rcases hc with rfl | rfl <;> simp
    | sl _ _ _ _ ad cap _ us hn hcc hcap ha hk1 hd hv =>
      subst h3
      refine ⟨.slice (some (if cap = l then ad else ad.add (l * te.size))) (m - l) (cap - l), ?_, ?_⟩
      · simp only [execOp, ho, hu', Instr.sliceAt, Sem.run_bind, r1, Result.andThen_ok, Instr.slice]
        simp only [Option.map_none, rb cap hcap, Result.andThen_ok, r2, Sem.run_pure]
        by_cases hcl : cap = l <;> simp [hcl]
      · have hlen : ((xs.take m).drop l).length = m - l := by simp; omega
        rw [← hlen]
        have hc' : cp.map (· - l) = none ∨ cp.map (· - l) = some (cap - l) := by rcases hcc with rfl | rfl <;> simp
        have hkt : ∀ x ∈ (xs.take m).drop l, (cellsOf x).length = te.size := fun x hx => hk1 x (List.mem_of_mem_take (List.mem_of_mem_drop hx))
        by_cases hcl : cap = l
        · have hnil : (xs.take m).drop l = [] := List.drop_eq_nil_of_le (by simp; omega)
          rw [if_pos hcl]
          exact .sl _ _ _ _ _ _ _ us hn hc' (by omega) ha hkt (fun j c hj => by rw [hnil] at hj; simp [flat] at hj) fun j c hj => by rw [hnil] at hj; simp [flat] at hj
        · rw [if_neg hcl]
          have key : ∀ (j : Nat) (c : AV), (flat ((xs.take m).drop l))[j]? = some c → (flat xs)[l * te.size + j]? = some c := by
            intro j c hj
            rw [flat_drop _ _ (fun x hx => hk1 x (List.mem_of_mem_take hx)) (by simp; omega), flat_take _ _ hk1 (by omega), List.getElem?_drop, List.getElem?_take] at hj
            split at hj
            · exact hj
            · cases hj
          refine .sl _ _ _ _ _ _ _ (fun j => us (l * te.size + j)) hn hc' (by omega) (Addr.add_spot ha _) hkt (fun j c hj => ?_) fun j c hj => hv _ _ (key j c hj)
          have := hd _ _ (key j c hj)
          rw [Addr.add_block, Addr.add_add]
          exact this
  · rename_i e b off len lim g n hu
    split at h
    case h_2 => exact h.elim
    rename_i te hte
    obtain ⟨l, h, el, hl⟩ := boundOf_spec h
    obtain ⟨m, h, em, hm⟩ := boundOf_spec h
    obtain ⟨hob, hk⟩ := h
    refine good_pure hk ((((hx.and hl).and hm).and hob).mono fun ⟨⟨⟨hx, hl⟩, hm⟩, h0, h1, h2, h3⟩ a w imm φ hev => ?_)
    obtain ⟨o1, o2, o3⟩ := ops a w imm φ hev
    have rx := hx o1
    obtain ⟨l, rfl⟩ := Int.eq_ofNat_of_zero_le h0
    obtain ⟨m, rfl⟩ := Int.eq_ofNat_of_zero_le (Int.le_trans h0 h1)
    have r1 := hT.run_underlying ht w
    rw [hu] at r1
    have r2 := hT.run_sizeOf hte w
    generalize hu' : a.eval x = u at rx
    simp only [Int.toNat_natCast]
    cases rx with
    | ref _ _ _ _ _ _ _ _ rb hb hg hs hv =>
      obtain ⟨ad, cap, rfl, hcap⟩ := hs
      have rb := run_sliceBounds (P := P) (a := a) (w := w) (lo := lo) (hi := hi) (len := len) (cap := cap) (l := l) (h := m) true hcap (fun e => by have := el e; omega) (fun y e => hl y e (o2 y e))
        (fun e => by have := em e; omega) (fun y e => hm y e (o3 y e)) (by omega) (by omega)
      refine ⟨.slice (some (if cap = l then ad else ad.add (l * te.size))) (m - l) (cap - l), ?_, ?_⟩
      · simp only [execOp, ho, hu', Instr.sliceAt, Sem.run_bind, r1, Result.andThen_ok, Instr.slice]
        simp only [Option.map_none, rb, Result.andThen_ok, r2, Sem.run_pure]
        by_cases hcl : cap = l <;> simp [hcl]
      · refine .ref _ _ _ _ _ _ _ _ _ hb hg ⟨_, _, rfl, by omega⟩ fun hge => ?_
        obtain ⟨hk1, a', c', e1, hle, hn, hl1, hl2, had, hsp0⟩ := hv hge
        cases e1
        refine ⟨hk1, _, _, rfl, by omega, by omega, fun e => ?_, fun q e => ?_, fun hpos => ?_, by split
                                                                                                   · exact hsp0
                                                                                                   · unfold Addr.add; split <;> simp_all⟩
        · cases lim with
          | none => have := hl1 rfl; omega
          | some z => simp at e
        · cases lim with
          | none => simp at e
          | some z => simp at e; have := hl2 z rfl; omega
        · rw [if_neg (by omega), (had (by omega)).1, Addr.add_add, hk1, h3, Nat.add_mul]
          exact ⟨rfl, by have := (had (by omega)).2; omega⟩
  · exact h.elim

end Vm
end Go.Proofs.YtdbpcmpkpbamhaaGreatDoor

/- The abstract machine: len, min, max; calls of functions that only compute. -/
namespace Go.Proofs.YtdbpcmpkpbamhaaGreatDoor
set_option linter.unusedVariables false
set_option linter.unusedSimpArgs false
namespace Vm
open Go

/-- A call that only computes: no memory that was there is written, what comes back is read from memory that nobody writes any more. -/
def Callable (P : Program) (f : Nat) : Prop := ∃ fn, P.funcs[f]? = some fn ∧ (fn.name == "runtime.NumGoroutine") = false ∧ fn.body.isNone = false

def PureC (P : Program) (f : Nat) (args : List AV) (res : AV) : Prop :=
  Callable P f ∧ res.data = true ∧
  ∀ (w : World) (imm : Nat → Prop) (vals : Array Value), (∀ r, imm r → r < w.heap.size) → Glob w.cell? imm → vals.size = args.length →
    (∀ (i : Nat) (x : AV) (v : Value), args[i]? = some x → vals[i]? = some v → VRel w.cell? imm Phi.none x v) →
    Calls P f vals w fun e w' => ∃ v imm', e = .returned v ∧ Trans w imm Phi.none w' imm' Phi.none (fun _ => False) ∧ (∀ r, imm' r → r < w'.heap.size) ∧ VRel w'.cell? imm' Phi.none res v

theorem run_callFunc {P : Program} {f : Nat} (h : Callable P f) (args : Array Value) (w : World) : (callFunc f args).run P w = .ok (.enter f args) w := by
  obtain ⟨fn, h1, h2, h3⟩ := h
  simp only [callFunc, Sem.run_bind, run_program, Result.andThen_ok, h1, h2, h3, Bool.false_eq_true, if_false, Sem.run_pure]

theorem vrel_none {cell : Addr → Option Value} {imm : Nat → Prop} {x : AV} {v : Value} (h : VRel cell imm Phi.none x v) (φ : Phi) : VRel cell imm φ x v :=
  h.mono (fun _ _ _ h => h) (fun _ h => h) fun b rb hb => by simp [Phi.none] at hb

theorem Trans.of_pure {w w' : World} {imm imm' : Nat → Prop} (t : Trans w imm Phi.none w' imm' Phi.none (fun _ => False)) (φ : Phi) : Trans w imm φ w' imm' φ (fun _ => False) :=
  ⟨t.os, t.tape, t.output, t.drawn, t.size, fun r hr _ => t.keep r hr fun b rb hb _ => by simp [Phi.none] at hb, t.immKeep, t.immMono, fun r hr => by
    rcases t.immNew r hr with h | h | ⟨b, rb, hb, _⟩
    · exact .inl h
    · exact .inr (.inl h)
    · simp [Phi.none] at hb, fun b rb hb => ⟨rb, hb, Nat.le_refl _, fun _ => rfl⟩, fun b rb hb => .inl ⟨rb, hb, .inl rfl⟩⟩

section
variable (P : Program)
def pureCall (c : Option Bool) (f : Nat) (args : List AV) (k : AV → Eff → Prop) : Prop :=
  match args.all AV.data with
  | true => ∃ res, imp c (PureC P f args res) ∧ strict res fun res => k res .none
  | false => False

def valueCall (c : Option Bool) (f : AV) (args : List AV) (k : AV → Eff → Prop) : Prop :=
  un c f fun f => match f with
  | .fn n fs cs => unL c args fun args => pureCall P c n (fs ++ args ++ cs) k
  | _ => False
end

theorem valueCall_ok {P : Program} {c : Option Bool} {o : Oper} {s : St} {k : AV → Eff → Prop} {f : Operand} {args : Array Operand} {tys : Array TypeId} (ho : o.op = .call { callee := .value f, args := args, argTypes := tys })
    (h : valueCall P c (ev s f) (evL s args) k) : Good P c o s k := by
  obtain ⟨vf, h, hf⟩ := un_spec h
  split at h
  case h_2 => exact h.elim
  rename_i n fs cs
  obtain ⟨ys, h, hl, hys⟩ := unL_spec _ h
  unfold pureCall at h
  split at h
  case h_2 => exact h.elim
  rename_i hd
  obtain ⟨res, hp, hk⟩ := h
  rw [strict_eq] at hk
  refine ⟨res, .none, ((hf.and hys).and hp).mono fun ⟨⟨hf, hys⟩, hcall, hres, hp⟩ a w imm φ H hev hH hn hacc => ?_, trivial, hk⟩
  rw [ho] at hev
  have r1 := hf (hev f (by simp [Op.operands, Call.operands]))
  have r2 : ∀ (i : Nat) (y : AV) (u : Value), ys[i]? = some y → (args.map a.eval)[i]? = some u → VRel w.cell? imm φ y u := by
    intro i y u h1 h2
    simp at h2
    obtain ⟨x, hx, rfl⟩ := h2
    refine hys i (ev s x) y _ (by simp [evL, hx]) h1 (hev x ?_)
    simp only [Op.operands, Call.operands, Array.mem_append]
    exact .inr (Array.mem_of_getElem? hx)
  generalize hu : a.eval f = u at r1
  cases r1 with
  | fn _ _ _ _ us vs h1 h2 hfs hcs =>
  have hrun : (execOp a.eval o).run P w = .ok (.enter n ((us ++ args.map a.eval) ++ vs)) w := by
    simp only [execOp, ho, resolve, hu, Deferred.ofValue, Sem.run_bind, Sem.run_pure, Result.andThen_ok, invoke]
    exact run_callFunc hcall _ w
  intro next Q hnext
  unfold Oper.wp
  rw [hrun]
  have hc := hp w imm ((us ++ args.map a.eval) ++ vs) hH.immLt hH.glob (by simp [h1, h2, hl, evL]) fun i x v hx hv => by
    have hdx : x.data = true := by simpa using (List.all_eq_true.1 hd) x (List.mem_of_getElem? hx)
    refine VRel.data (φ := φ) ?_ hdx
    rw [List.append_assoc] at hx
    rw [Array.append_assoc] at hv
    by_cases hi : i < fs.length
    · rw [List.getElem?_append_left hi] at hx
      rw [Array.getElem?_append_left (by omega)] at hv
      exact hfs i x v hx hv
    · rw [List.getElem?_append_right (by omega)] at hx
      rw [Array.getElem?_append_right (by omega)] at hv
      by_cases hi2 : i - fs.length < ys.length
      · rw [List.getElem?_append_left hi2] at hx
        rw [Array.getElem?_append_left (by simp [evL] at hl; simp; omega)] at hv
        exact r2 _ x v hx (by rw [← h1]; exact hv)
      · rw [List.getElem?_append_right (by omega)] at hx
        rw [Array.getElem?_append_right (by simp [evL] at hl; simp; omega)] at hv
        refine hcs _ x v hx ?_
        have e : i - us.size - (Array.map a.eval args).size = i - fs.length - ys.length := by simp [evL] at hl; simp; omega
        rw [← e]
        exact hv
  refine hc.mono fun e w' ⟨v, imm', he, ht, him, hv⟩ => ?_
  subst he
  exact hnext v w' ⟨imm', φ, vrel_none hv φ, ht.of_pure φ, hH.keep (ht.of_pure φ) him, fun b h1 h2 => absurd h1 h2, fun h => by simp [Eff.isNew] at h⟩

/-! ### len, min, max -/
def lenVC (T : Nat → Option TI) (c : Option Bool) (t : Nat) (x : AV) (k : AV → Eff → Prop) : Prop :=
  match T t with
  | some ti => un c x fun x => match ti.u, x with
    | .string, .val (.string b) => k (.val (.int .i64 b.size)) .none
    | .slice _, .sl _ _ _ xs => k (.val (.int .i64 xs.length)) .none
    | .slice _, .ref _ _ len _ _ _ => k (.val (.int .i64 len)) .none
    | _, _ => False
  | none => False

theorem len_ok {P : Program} {T : Nat → Option TI} (hT : TOk P T) {c : Option Bool} {o : Oper} {s : St} {k : AV → Eff → Prop} {x : Operand} {t : Nat} (ho : o.op = .call { callee := .builtin .len, args := #[x], argTypes := #[t] })
    (h : lenVC T c t (ev s x) k) : Good P c o s k := by
  unfold lenVC at h
  split at h
  case h_2 => exact h.elim
  rename_i ti ht
  obtain ⟨vx, h, hx⟩ := un_spec h
  have hop : x ∈ o.op.operands := by simp [ho, Op.operands, Call.operands]
  have run : ∀ (a : Act) (w : World) n, (Builtin.len_ #[t] o.type #[a.eval x]).run P w = .ok (goInt n) w → (execOp a.eval o).run P w = .ok (.value (.int .i64 n)) w := by
    intro a w n e
    simp only [execOp, ho, resolve, Sem.run_bind, Sem.run_pure, Result.andThen_ok, invoke, builtin]
    simp only [List.map_toArray, List.map_cons, List.map_nil, e, Result.andThen_ok]
    rfl
  split at h
  · rename_i b hu
    refine good_pure h (hx.mono fun hx a w imm φ hev => ⟨_, run a w _ ?_, .val _ _⟩)
    have e := (hx (hev x hop)).val_inv
    have r1 := hT.run_underlying ht w
    rw [hu] at r1
    simp [Builtin.len_, r1, e]
  · rename_i e1 n cp q xs hu
    refine good_pure h (hx.mono fun hx a w imm φ hev => ⟨_, run a w _ ?_, .val _ _⟩)
    have r := hx (hev x hop)
    have r1 := hT.run_underlying ht w
    rw [hu] at r1
    generalize hu' : a.eval x = u at r
    cases r <;> simp [Builtin.len_, r1]
  · rename_i e1 b off len lim g q hu
    refine good_pure h (hx.mono fun hx a w imm φ hev => ⟨_, run a w _ ?_, .val _ _⟩)
    have r := hx (hev x hop)
    have r1 := hT.run_underlying ht w
    rw [hu] at r1
    generalize hu' : a.eval x = u at r
    cases r with
    | ref _ _ _ _ _ _ _ _ rb hb hg hs hv =>
      obtain ⟨ad, cap, rfl, hcap⟩ := hs
      simp [Builtin.len_, r1]
  · exact h.elim

def minmax (c : Option Bool) (mx : Bool) (x y : AV) (k : AV → Eff → Prop) : Prop :=
  un c x fun x => un c y fun y => match x, y with
  | .val (.int kd a), .val (.int kd' b) => if kd = kd' then k (.val (.int kd (match mx with | true => max a b | false => min a b))) .none else False
  | _, _ => False

theorem minmax_ok {P : Program} {c : Option Bool} {o : Oper} {s : St} {k : AV → Eff → Prop} {x y : Operand} {mx : Bool} {tys : Array TypeId} (ho : o.op = .call { callee := .builtin (match mx with | true => .max | false => .min), args := #[x, y], argTypes := tys })
    (h : minmax c mx (ev s x) (ev s y) k) : Good P c o s k := by
  obtain ⟨vx, h, hx⟩ := un_spec h
  obtain ⟨vy, h, hy⟩ := un_spec h
  split at h
  case h_2 => exact h.elim
  rename_i kd a0 kd' b0 _ _
  split at h
  case isFalse => exact h.elim
  rename_i hk
  subst hk
  refine good_pure h ((hx.and hy).mono fun ⟨hx, hy⟩ a w imm φ hev => ⟨_, ?_, .val _ _⟩)
  have e1 := (hx (hev x (by simp [ho, Op.operands, Call.operands]))).val_inv
  have e2 := (hy (hev y (by simp [ho, Op.operands, Call.operands]))).val_inv
  cases mx
  · simp only [execOp, ho, resolve, Sem.run_bind, Sem.run_pure, Result.andThen_ok, invoke, builtin]
    simp [e1, e2, Builtin.min_, Builtin.min2, Int.min_def]
    split <;> split <;> first | rfl | omega
  · simp only [execOp, ho, resolve, Sem.run_bind, Sem.run_pure, Result.andThen_ok, invoke, builtin]
    simp [e1, e2, Builtin.max_, Builtin.max2, Int.max_def]
    split <;> split <;> first | rfl | omega

end Vm
end Go.Proofs.YtdbpcmpkpbamhaaGreatDoor
