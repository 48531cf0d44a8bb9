/- The abstract machine: from regions to functions. -/
import Derived.Test.YtdbpcmpkpbamhaaGreatDoorMf
namespace Go.Proofs.YtdbpcmpkpbamhaaGreatDoor
set_option linter.unusedVariables false
set_option linter.unusedSimpArgs false
namespace Vm
open Go

theorem region_ok {P : Program} {T : Nat → Option TI} (hT : TOk P T) (hm : P.follows .mixedOrders = true) {hc : List Nat} {ops : Array Oper} {id : Nat} {draw : Bool} {n : Nat} {s : St} {K : St → Prop}
    (h : opsVC P T hc ops draw ops.toList 0 0 s [] K) (hn : ops.toList.all (dstOk n) = true) {Q : Exit → Act → World → Prop} {a : Act} {w : World} {imm : Nat → Prop} {φ : Phi} (hsz : a.tmps.size = n)
    (hr : Rel s a w imm φ) (hq : ∀ s' a' w' imm' φ', K s' → a'.tmps.size = n → a'.defers = a.defers → Trans w imm φ w' imm' φ' all → Rel s' a' w' imm' φ' → Q .normal a' w') : (Code.region id ops draw).wp P Q a w := by
  have hn' : ∀ o ∈ ops.toList, dstOk n o = true := List.all_eq_true.1 hn
  cases draw with
  | false =>
    refine wp_region ?_
    rw [List.range_eq_range']
    have := region_text hT (Q := Q) ops.toList 0 0 s [] (fun j => by simp) h hn' a w imm φ hsz hr hq
    simpa using this
  | true =>
    refine wp_region_any hm ?_
    have t0 : Trans w imm φ { w with drawn := w.drawn + 1 } imm φ all := ⟨rfl, rfl, rfl, Nat.le_succ _, Nat.le_refl _, fun _ _ _ => rfl, fun _ _ => rfl, fun _ h => h, fun _ h => .inl h, fun b rb h => ⟨rb, h, Nat.le_refl _, fun _ => rfl⟩, fun b rb h => .inl ⟨rb, h, .inl rfl⟩⟩
    have hfalse : ∀ i : Nat, (Array.replicate ops.size false).getD i false = false := fun i => by
      simp only [Array.getD_eq_getD_getElem?, Array.getElem?_replicate]
      split <;> rfl
    refine region_any hT hn' ops.size 0 s (by omega) (Nat.zero_le _) (by simpa using h) ops.size _ a _ imm φ (by simp) (by
        refine Nat.le_trans (List.length_filter_le _ _) (by simp)) (fun i j hj _ => by cases (hfalse j).symm.trans hj) (fun i => by rw [hfalse]; simp) hsz ⟨hr.slots, ?_⟩ fun s' a' w' imm' φ' g1 g2 g3 g4 g5 => hq s' a' w' imm' φ' g1 g2 g3 (t0.comp g4 (fun _ _ => trivial) fun _ _ _ => trivial) g5
    exact hr.heap.keep (t := ⟨rfl, rfl, rfl, Nat.le_succ _, Nat.le_refl _, fun _ _ _ => rfl, fun _ _ => rfl, fun _ h => h, fun _ h => .inl h, fun b rb h => ⟨rb, h, Nat.le_refl _, fun _ => rfl⟩, fun b rb h => .inl ⟨rb, h, .inl rfl⟩⟩) hr.heap.immLt

/-! ### Places in a body -/
def sub (c : Code) : List Nat → Code
  | [] => c
  | i :: q => match sub c q with
    | .seq a b => match i with
      | 0 => a
      | _ => b
    | .cond _ t e => match i with
      | 0 => t
      | _ => e
    | .block _ b => b
    | .loop b => b
    | c => c

def konts (c : Code) : List Nat → List Item
  | [] => []
  | i :: q => match sub c q with
    | .seq _ b => match i with
      | 0 => .code b :: konts c q
      | _ => konts c q
    | .block id _ => .inBlock id :: konts c q
    | .loop b => .inLoop b :: konts c q
    | _ => konts c q

/-- Where it goes on behind the code at a place. -/
def nxt (c : Code) : List Nat → Option (List Nat)
  | [] => none
  | i :: q => match sub c q with
    | .seq _ _ => match i with
      | 0 => some (1 :: q)
      | _ => nxt c q
    | .loop _ => some (0 :: q)
    | _ => nxt c q

def blkAt (c : Code) (id : Nat) : List Nat → Option (List Nat)
  | [] => none
  | _ :: q => match sub c q with
    | .block id' _ => match Nat.beq id' id with
      | true => some q
      | false => blkAt c id q
    | _ => blkAt c id q

def todoAt (c : Code) (p : List Nat) : List Item := .code (sub c p) :: konts c p
def todoNxt (c : Code) (p : Option (List Nat)) : List Item := match p with
  | some p => todoAt c p
  | none => []

theorem steps_nxt {P : Program} {c : Code} {b : Frame} {a : Act} {cs : List Frame} {w : World} : ∀ p, Steps P (lone (b.at a (konts c p)) cs w) (lone (b.at a (todoNxt c (nxt c p))) cs w)
  | [] => Steps.refl _ _
  | i :: q => by
    have ih := steps_nxt (P := P) (c := c) (b := b) (a := a) (cs := cs) (w := w) q
    cases hsub : sub c q with
    | seq x y =>
      cases i with
      | zero => simp only [konts, nxt, hsub, todoNxt, todoAt, sub]; exact Steps.refl _ _
      | succ i => simp only [konts, nxt, hsub]; exact ih
    | block id x => simp only [konts, nxt, hsub]; exact Steps.head step_inBlock ih
    | loop x => simp only [konts, nxt, hsub, todoNxt, todoAt, sub]; exact Steps.one step_inLoop
    | _ => simp only [konts, nxt, hsub]; exact ih

theorem exitTo_blkAt {c : Code} {id : Nat} : ∀ {p q}, blkAt c id p = some q → exitTo id (konts c p) = some (konts c q)
  | [], q, h => by simp [blkAt] at h
  | i :: r, q, h => by
    simp only [blkAt] at h
    cases hsub : sub c r with
    | block id' x =>
      simp only [hsub] at h
      simp only [konts, hsub, exitTo]
      cases hb : Nat.beq id' id with
      | true =>
        rw [hb] at h
        simp only [Option.some.injEq] at h
        have := Nat.eq_of_beq_eq_true hb
        subst this; subst h
        simp
      | false =>
        rw [hb] at h
        have hne : (id' == id) = false := by
          cases hq : id' == id with
          | true => simp at hq; subst hq; simp at hb
          | false => rfl
        rw [hne]
        exact exitTo_blkAt h
    | seq x y =>
      simp only [hsub] at h
      cases i with
      | zero => simp only [konts, hsub, exitTo]; exact exitTo_blkAt h
      | succ i => simp only [konts, hsub]; exact exitTo_blkAt h
    | loop x => simp only [hsub] at h; simp only [konts, hsub, exitTo]; exact exitTo_blkAt h
    | _ => simp only [hsub] at h; simp only [konts, hsub]; exact exitTo_blkAt h

/-! ### Running a frame -/
def Runs (P : Program) (fr : Frame) (w : World) (R : Ending → World → Prop) : Prop :=
  ∀ cs, ∃ e w' fr', R e w' ∧ Comes P (lone fr cs w) (lone fr' cs w') e ∧ fr'.fn = fr.fn ∧ fr'.leaving P w' e

theorem Runs.steps {P : Program} {fr fr1 : Frame} {w w1 : World} {R : Ending → World → Prop} (h : ∀ cs, Steps P (lone fr cs w) (lone fr1 cs w1)) (hf : fr1.fn = fr.fn) (hr : Runs P fr1 w1 R) : Runs P fr w R := fun cs =>
  let ⟨e, w', fr', h1, h2, h3, h4⟩ := hr cs
  ⟨e, w', fr', h1, Comes.of_steps (h cs) h2, h3.trans hf, h4⟩

theorem Runs.mono {P : Program} {fr : Frame} {w : World} {R R' : Ending → World → Prop} (h : Runs P fr w R) (hr : ∀ e w', R e w' → R' e w') : Runs P fr w R' := fun cs =>
  let ⟨e, w', fr', h1, h2⟩ := h cs
  ⟨e, w', fr', hr _ _ h1, h2⟩

end Vm
end Go.Proofs.YtdbpcmpkpbamhaaGreatDoor

/- The abstract machine: what a function comes to, and the rules for its code. -/
namespace Go.Proofs.YtdbpcmpkpbamhaaGreatDoor
set_option linter.unusedVariables false
set_option linter.unusedSimpArgs false
namespace Vm
open Go

/-- What a function has come to. -/
def Post (w0 : World) (imm0 : Nat → Prop) (φ0 : Phi) (Q : AV → List Blk → Prop) (e : Ending) (w' : World) : Prop :=
  ∃ v imm' φ' d H', e = .returned v ∧ Q d H' ∧ Trans w0 imm0 φ0 w' imm' φ' all ∧ VRel w'.cell? imm' φ' d v ∧ Heap w' imm' φ' fun b => H'[b]?

/-- A function: its number, its text, its body; `n0`: so many blocks of the abstract heap are its caller's; `hc`: the functions that it calls with its own memory. -/
structure FnI where
  f : Nat
  fn : Func
  body : Code
  n0 : Nat
  hc : List Nat

/-- At a list of things to do, in an abstract state: the function comes to its end, and Q holds of what it comes to. -/
def VCt (P : Program) (F : FnI) (todo : List Item) (s : St) (Q : AV → List Blk → Prop) : Prop :=
  ∀ (b : Frame) (a : Act) (w : World) (imm : Nat → Prop) (φ : Phi) (w0 : World) (imm0 : Nat → Prop) (φ0 : Phi), b.fn = F.f → b.kind = .normal → a.tmps.size = F.fn.ntmps → a.defers = [] → (∀ i, φ0 i ≠ none → i < F.n0) →
    Trans w0 imm0 φ0 w imm φ all → Rel s a w imm φ → Runs P (b.at a todo) w (Post w0 imm0 φ0 Q)

def VC (P : Program) (F : FnI) (p : List Nat) (s : St) (Q : AV → List Blk → Prop) : Prop := VCt P F (todoAt F.body p) s Q

theorem VCt.steps {P : Program} {F : FnI} {todo todo' : List Item} {s : St} {Q : AV → List Blk → Prop} (h : VCt P F todo' s Q) (hs : ∀ (b : Frame) (a : Act) (cs : List Frame) (w : World), Steps P (lone (b.at a todo) cs w) (lone (b.at a todo') cs w)) : VCt P F todo s Q :=
  fun b a w imm φ w0 imm0 φ0 h1 h2 h3 h4 h5 h6 h7 => (h b a w imm φ w0 imm0 φ0 h1 h2 h3 h4 h5 h6 h7).steps (fun cs => hs b a cs w) rfl

theorem VCt.konts {P : Program} {F : FnI} {p : List Nat} {s : St} {Q : AV → List Blk → Prop} (h : VCt P F (todoNxt F.body (nxt F.body p)) s Q) : VCt P F (konts F.body p) s Q :=
  h.steps fun b a cs w => steps_nxt p

theorem VC.mono {P : Program} {F : FnI} {todo : List Item} {s : St} {Q Q' : AV → List Blk → Prop} (h : VCt P F todo s Q) (hq : ∀ d H, Q d H → Q' d H) : VCt P F todo s Q' :=
  fun b a w imm φ w0 imm0 φ0 h1 h2 h3 h4 h5 h6 h7 => (h b a w imm φ w0 imm0 φ0 h1 h2 h3 h4 h5 h6 h7).mono fun e w' ⟨v, imm', φ', d, H', g1, g2, g3⟩ => ⟨v, imm', φ', d, H', g1, hq _ _ g2, g3⟩

theorem VC.region {P : Program} {T : Nat → Option TI} (hT : TOk P T) (hm : P.follows .mixedOrders = true) {F : FnI} {p : List Nat} {s : St} {Q : AV → List Blk → Prop} {id : Nat} {ops : Array Oper} {draw : Bool} (hsub : sub F.body p = .region id ops draw)
    (hn : ops.toList.all (dstOk F.fn.ntmps) = true) {K : St → Prop} (h : opsVC P T F.hc ops draw ops.toList 0 0 s [] K) (hK : ∀ s', K s' → VCt P F (konts F.body p) s' Q) : VC P F p s Q := by
  intro b a w imm φ w0 imm0 φ0 h1 h2 h3 h4 h5 ht hr cs
  have := region_ok hT hm (P := P) (id := id) (draw := draw) h hn (Q := fun e a' w' => e = .normal ∧ Runs P (b.at a' (Vm.konts F.body p)) w' (Post w0 imm0 φ0 Q)) h3 hr fun s' a' w' imm' φ' hk g1 g2 g3 g4 =>
    ⟨rfl, hK s' hk b a' w' imm' φ' w0 imm0 φ0 h1 h2 g1 (by rw [g2, h4]) h5 (ht.comp g3 (fun _ _ => trivial) fun _ _ _ => trivial) g4⟩
  obtain ⟨e, a', w', ⟨rfl, hq⟩, harr⟩ := this b (Vm.konts F.body p) cs
  obtain ⟨e', w'', fr', r1, r2, r3, r4⟩ := hq cs
  refine ⟨e', w'', fr', r1, Comes.of_steps ?_ r2, r3, r4⟩
  unfold todoAt
  rw [hsub]
  exact harr

/-! ### What comes back -/
def resL (T : Nat → Option TI) (s : St) : List ResultVar → (List AV → Prop) → Prop
  | [], K => K []
  | .tmp t :: r, K => un none (slotGet s.slots t) fun x => resL T s r fun xs => K (x :: xs)
  | .cell a t :: r, K => match T t, slotGet s.slots a with
    | some ti, .ptr b i off g => match s.heap[b]? with
      | some (.box cs _) => match Nat.beq g 0, Nat.beq i 0, ofCells ti (cs.drop off) with
        | true, true, some d => resL T s r fun xs => K (d :: xs)
        | _, _, _ => False
      | _ => False
    | _, _ => False

def retVC (T : Nat → Option TI) (fn : Func) (s : St) (Q : AV → List Blk → Prop) : Prop :=
  resL T s fn.results.toList fun xs => match xs with
    | [x] => Q x s.heap
    | xs => Q (.tup xs) s.heap

def resF (tmps : Array Value) : ResultVar → Sem Value := fun
    | .tmp t => pure (tmps.getD t undef)
    | .cell a t => do loadVar t (← asAddr (tmps.getD a undef))

theorem resL_run {P : Program} {T : Nat → Option TI} (hT : TOk P T) {s : St} {a : Act} {w : World} {imm : Nat → Prop} {φ : Phi} (hr : Rel s a w imm φ) : ∀ (rs : List ResultVar) {K : List AV → Prop}, resL T s rs K →
    ∃ (xs : List AV) (us : List Value), K xs ∧ us.length = xs.length ∧ (rs.mapM (resF a.tmps)).run P w = .ok us w ∧ ∀ (i : Nat) (x : AV) (u : Value), xs[i]? = some x → us[i]? = some u → VRel w.cell? imm φ x u
  | [], K, h => ⟨[], [], h, rfl, by simp, fun i x u h => by simp at h⟩
  | .tmp t :: rs, K, h => by
    simp only [resL] at h
    obtain ⟨v, h, hv⟩ := un_spec h
    obtain ⟨xs, us, h1, h2, h3, h4⟩ := resL_run hT hr rs h
    refine ⟨v :: xs, a.tmps.getD t undef :: us, h1, by simp [h2], ?_, fun i x u hx hu => ?_⟩
    · simp only [List.mapM_cons, resF, Sem.run_bind, Sem.run_pure, Result.andThen_ok, h3]
    · cases i with
      | zero => simp at hx hu; subst hx; subst hu; exact hv (by simpa [Array.getD_eq_getD_getElem?] using hr.slots t)
      | succ i => simp at hx hu; exact h4 i x u hx hu
  | .cell c t :: rs, K, h => by
    simp only [resL] at h
    split at h
    case h_2 => exact h.elim
    rename_i ti b i off g ht hs
    split at h
    case h_2 => exact h.elim
    rename_i cs ro hsb
    split at h
    case h_2 => exact h.elim
    rename_i d hg0 hi0 hd
    obtain ⟨xs, us, h1, h2, h3, h4⟩ := resL_run hT hr rs h
    have hg0 : g = 0 := by simpa using hg0
    have hi0 : i = 0 := by simpa using hi0
    subst hg0; subst hi0
    have r := hr.slots c
    rw [hs] at r
    generalize hu : a.tmps.getD c undef = u at r
    cases r with
    | ptr _ _ _ _ _ _ rb hb hg hs' hv =>
      obtain ⟨y, hy, hbr⟩ := hr.heap.blk b rb hb
      rw [hsb] at hy
      cases hy
      obtain ⟨e1, e2, _, _, hsp, arr, ty, ha, hl, hc⟩ := hbr
      have e := hv e1
      subst e
      obtain ⟨v, r1, r2⟩ := loadVar_run hT ht (φ := φ) (imm := imm) (a := rb.base.add (0 * rb.k + off)) (w := w) (fun j c hj => by
        rw [List.getElem?_drop] at hj
        obtain ⟨u, h3, h4⟩ := hc _ _ hj
        exact ⟨u, by rw [Nat.zero_mul, Nat.zero_add, Addr.add_add]; exact cell_of_row hsp ha h3, h4⟩) hd
      refine ⟨d :: xs, v :: us, h1, by simp [h2], ?_, fun i x u hx hu => ?_⟩
      · simp only [List.mapM_cons, resF, hu, asAddr, Sem.run_bind, Sem.run_pure, Result.andThen_ok, r1, h3]
      · cases i with
        | zero => simp at hx hu; subst hx; subst hu; exact r2
        | succ i => simp at hx hu; exact h4 i x u hx hu

theorem retVC_ok {P : Program} {T : Nat → Option TI} (hT : TOk P T) {F : FnI} (hf : P.funcs[F.f]? = some F.fn) {s : St} {Q : AV → List Blk → Prop} (h : retVC T F.fn s Q) {todo todo' : List Item}
    (hs : ∀ (b : Frame) (a : Act) (cs : List Frame) (w : World), Steps P (lone (b.at a todo) cs w) (lone { b.at a todo' with mode := .returning } cs w)) : VCt P F todo s Q := by
  intro b a w imm φ w0 imm0 φ0 h1 h2 h3 h4 h5 ht hr cs
  obtain ⟨xs, us, hk, hl, hrun, hv⟩ := resL_run hT hr _ h
  have e0 : results F.fn a.tmps = (do let vs ← F.fn.results.mapM (resF a.tmps); pure (if h : vs.size = 1 then vs[0] else .tuple vs)) := by
    unfold results resF; rfl
  have e1 : (F.fn.results.mapM (resF a.tmps)).run P w = .ok us.toArray w := by
    rw [Array.mapM_eq_mapM_toList]
    rw [map_eq_pure_bind]
    simp only [Sem.run_bind, hrun, Result.andThen_ok, Sem.run_pure]
  have key : ∀ (v : Value) (d : AV), (results F.fn a.tmps).run P w = .ok v w → Q d s.heap → VRel w.cell? imm φ d v → ∃ e w' fr', Post w0 imm0 φ0 Q e w' ∧ Comes P (lone (b.at a todo) cs w) (lone fr' cs w') e ∧ fr'.fn = (b.at a todo).fn ∧ fr'.leaving P w' e := by
    intro v d g1 g2 g3
    refine ⟨.returned v, w, { b.at a todo' with mode := .returning }, ⟨v, imm, φ, d, s.heap, rfl, g2, ht, g3, hr.heap⟩, hs b a cs w, rfl, rfl, h4, h2, F.fn, ?_, g1⟩
    show P.funcs[b.fn]? = _
    rw [h1]; exact hf
  split at hk
  · rename_i x
    obtain ⟨u, rfl⟩ : ∃ u, us = [u] := by
      match us, hl with
      | [u], _ => exact ⟨u, rfl⟩
    refine key u x ?_ hk (hv 0 x u rfl rfl)
    rw [e0]
    simp [Sem.run_bind, e1]
  · rename_i hne
    refine key (.tuple us.toArray) (.tup xs) ?_ hk (.tup _ _ _ (by simpa using hl) fun i c u h1 h2 => hv i c u h1 (by simpa using h2))
    rw [e0]
    have : ¬ us.toArray.size = 1 := by
      intro h
      simp only [List.size_toArray] at h
      rw [hl] at h
      obtain ⟨x, hx⟩ := List.length_eq_one_iff.1 h
      exact hne x hx
    simp only [Sem.run_bind, e1, Result.andThen_ok, Sem.run_pure]
    rw [dif_neg this]

/-! ### The walk through a body -/
def eqP : List Nat → List Nat → Bool
  | [], [] => true
  | a :: x, b :: y => match Nat.beq a b with
    | true => eqP x y
    | false => false
  | _, _ => false
def inL (p : List Nat) : List (List Nat) → Bool
  | [] => false
  | q :: r => match eqP p q with
    | true => true
    | false => inL p r

def condVC (x : AV) (k : Bool → Prop) : Prop := un none x fun x => match x with
  | .val (.bool b) => k b
  | _ => False

def inO (o : Option (List Nat)) (l : List (List Nat)) : Bool := match o with
  | some p => inL p l
  | none => false

def vc (P : Program) (T : Nat → Option TI) (F : FnI) (Q : AV → List Blk → Prop) (stops : List (List Nat)) : Nat → Option (List Nat) → St → Prop
  | _, none, s => retVC T F.fn s Q
  | 0, some p, s => VC P F p s Q
  | n + 1, some p, s => match sub F.body p with
      | .skip => match inO (nxt F.body p) stops with
        | true => VCt P F (todoNxt F.body (nxt F.body p)) s Q
        | false => vc P T F Q stops n (nxt F.body p) s
      | .seq _ _ => vc P T F Q stops n (some (0 :: p)) s
      | .block _ _ => vc P T F Q stops n (some (0 :: p)) s
      | .loop _ => VC P F (0 :: p) s Q
      | .cond c _ _ => condVC (ev s c) fun b => match b with
        | true => vc P T F Q stops n (some (0 :: p)) s
        | false => vc P T F Q stops n (some (1 :: p)) s
      | .exit id => match blkAt F.body id p with
        | some q => match inO (nxt F.body q) stops with
          | true => VCt P F (todoNxt F.body (nxt F.body q)) s Q
          | false => vc P T F Q stops n (nxt F.body q) s
        | none => False
      | .region id ops draw => match inO (nxt F.body p) stops with
        | true => opsVC P T F.hc ops draw ops.toList 0 0 s [] fun s' => VCt P F (todoNxt F.body (nxt F.body p)) s' Q
        | false => opsVC P T F.hc ops draw ops.toList 0 0 s [] fun s' => vc P T F Q stops n (nxt F.body p) s'
      | .ret => retVC T F.fn s Q
      | _ => False

/-- Every operation of the body has a place for its result. -/
def codeOk (n : Nat) : Code → Bool
  | .region _ ops _ => ops.toList.all (dstOk n)
  | .seq a b => codeOk n a && codeOk n b
  | .cond _ a b => codeOk n a && codeOk n b
  | .block _ a => codeOk n a
  | .loop a => codeOk n a
  | _ => true

theorem codeOk_sub {n : Nat} {c : Code} (h : codeOk n c = true) : ∀ p, codeOk n (sub c p) = true
  | [] => h
  | i :: q => by
    have ih := codeOk_sub h q
    simp only [sub]
    split
    · rename_i hs
      rw [hs] at ih
      simp only [codeOk, Bool.and_eq_true] at ih
      split
      · exact ih.1
      · exact ih.2
    · rename_i hs
      rw [hs] at ih
      simp only [codeOk, Bool.and_eq_true] at ih
      split
      · exact ih.1
      · exact ih.2
    · rename_i hs
      rw [hs] at ih
      exact ih
    · rename_i hs
      rw [hs] at ih
      exact ih
    · exact ih

structure Setting (P : Program) (T : Nat → Option TI) (F : FnI) : Prop where
  types : TOk P T
  mixed : P.follows .mixedOrders = true
  func : P.funcs[F.f]? = some F.fn
  body : F.fn.body = some F.body
  ok : codeOk F.fn.ntmps F.body = true
  name : (F.fn.name == "runtime.NumGoroutine") = false

theorem condVC_spec {x : AV} {k : Bool → Prop} (h : condVC x k) : ∃ b, k b ∧ ∀ {cell : Addr → Option Value} {imm : Nat → Prop} {φ : Phi} {u : Value}, VRel cell imm φ x u → u = .bool b := by
  obtain ⟨v, h, hv⟩ := un_spec h
  split at h
  · rename_i b
    exact ⟨b, h, fun hu => (hv hu).val_inv⟩
  · exact h.elim

theorem vc_sound {P : Program} {T : Nat → Option TI} {F : FnI} (S : Setting P T F) {Q : AV → List Blk → Prop} (stops : List (List Nat)) : ∀ (n : Nat) (p : Option (List Nat)) (s : St), vc P T F Q stops n p s → VCt P F (todoNxt F.body p) s Q
  | n, none, s, h => by
    have h : retVC T F.fn s Q := by cases n <;> exact h
    exact retVC_ok S.types S.func h fun b a cs w => Steps.one step_end
  | 0, some p, s, h => h
  | n + 1, some p, s, h => by
    simp only [vc] at h
    have ih := vc_sound S (Q := Q) stops n
    show VCt P F (todoAt F.body p) s Q
    split at h
    · rename_i hs
      have : VCt P F (todoNxt F.body (nxt F.body p)) s Q := by
        split at h
        · exact h
        · exact ih _ _ h
      refine VCt.steps (VCt.konts this) fun b a cs w => ?_
      unfold todoAt; rw [hs]
      exact Steps.one step_skip
    · rename_i x y hs
      refine VCt.steps (ih _ _ h) fun b a cs w => ?_
      simp only [todoNxt, todoAt, sub, konts, hs]
      exact Steps.one step_seq
    · rename_i hs
      refine VCt.steps (ih _ _ h) fun b a cs w => ?_
      simp only [todoNxt, todoAt, sub, konts, hs]
      exact Steps.one step_block
    · rename_i hs
      refine VCt.steps h fun b a cs w => ?_
      simp only [todoNxt, todoAt, sub, konts, hs]
      exact Steps.one step_loop
    · rename_i c x y hs
      obtain ⟨t, h, hc⟩ := condVC_spec h
      intro b a w imm φ w0 imm0 φ0 h1 h2 h3 h4 h5 ht hr
      have he : a.eval c = .bool t := hc (hr.evs c)
      cases t with
      | true =>
        refine Runs.steps (fr1 := b.at a (todoNxt F.body (some (0 :: p)))) (fun cs => ?_) rfl (ih _ _ h b a w imm φ w0 imm0 φ0 h1 h2 h3 h4 h5 ht hr)
        simp only [todoNxt, todoAt, sub, konts, hs]
        exact Steps.one (by simpa using step_cond (P := P) (b := b) (x := x) (y := y) (k := konts F.body p) (cs := cs) (w := w) he)
      | false =>
        refine Runs.steps (fr1 := b.at a (todoNxt F.body (some (1 :: p)))) (fun cs => ?_) rfl (ih _ _ h b a w imm φ w0 imm0 φ0 h1 h2 h3 h4 h5 ht hr)
        simp only [todoNxt, todoAt, sub, konts, hs]
        exact Steps.one (by simpa using step_cond (P := P) (b := b) (x := x) (y := y) (k := konts F.body p) (cs := cs) (w := w) he)
    · rename_i id hs
      split at h
      · rename_i q hq
        have : VCt P F (todoNxt F.body (nxt F.body q)) s Q := by
          split at h
          · exact h
          · exact ih _ _ h
        refine VCt.steps (VCt.konts this) fun b a cs w => ?_
        unfold todoAt; rw [hs]
        exact Steps.one (step_exit (exitTo_blkAt hq))
      · exact h.elim
    · rename_i id ops draw hs
      have ho := codeOk_sub S.ok p
      rw [hs] at ho
      split at h
      · exact VC.region S.types S.mixed hs ho h fun s' h => VCt.konts h
      · exact VC.region S.types S.mixed hs ho h fun s' h => VCt.konts (ih _ _ h)
    · rename_i hs
      refine retVC_ok S.types S.func h (todo' := .code .ret :: konts F.body p) fun b a cs w => ?_
      unfold todoAt; rw [hs]
      exact Steps.one step_ret
    · exact h.elim

end Vm
end Go.Proofs.YtdbpcmpkpbamhaaGreatDoor

/- The abstract machine: contracts out of walks, and forgetting. -/
namespace Go.Proofs.YtdbpcmpkpbamhaaGreatDoor
set_option linter.unusedVariables false
set_option linter.unusedSimpArgs false
namespace Vm
open Go

/-! ### Own memory that nobody writes any more -/
theorem frz1_all {w : World} {imm : Nat → Prop} {φ : Phi} {H : List Blk} (hH : Heap w imm φ fun b => H[b]?) {x : AV} {v : Value} (h : VRel w.cell? imm φ x v) (hd : (frz1 H x).dcell = true) : VRel w.cell? (immAll imm φ) Phi.none (frz1 H x) v :=
  frz1_rel (fun r hr => .inl hr) hH (fun b _ => rfl) h (fun b _ rb hb => .inr ⟨b, rb, hb, rfl⟩) hd

theorem frzA_rel {w : World} {imm : Nat → Prop} {φ : Phi} {H : List Blk} (hH : Heap w imm φ fun b => H[b]?) {x : AV} {v : Value} (h : VRel w.cell? imm φ x v) (hd : (frzA H x).data1 = true) : VRel w.cell? (immAll imm φ) Phi.none (frzA H x) v := by
  cases x with
  | agg cs =>
    simp only [frzA, AV.data1] at hd ⊢
    cases h with
    | agg _ _ us hs hc =>
      refine .agg _ _ _ (by simp [hs]) fun i c u h1 h2 => ?_
      simp at h1
      obtain ⟨y, hy, rfl⟩ := h1
      refine frz1_all hH (hc i y u hy h2) ?_
      exact (List.all_eq_true.1 hd) _ (List.mem_map.2 ⟨y, List.mem_of_getElem? hy, rfl⟩)
  | val v => cases h; exact .val _ _
  | ref b off len lim g k =>
    have e : frzA H (.ref b off len lim g k) = frz1 H (.ref b off len lim g k) := rfl
    rw [e] at hd ⊢
    refine frz1_all hH h ?_
    revert hd
    unfold frz1
    simp only
    split
    · split
      · exact fun h => h
      · exact fun h => h
    · exact fun h => h
  | ptr b i off g =>
    have e : frzA H (.ptr b i off g) = frz1 H (.ptr b i off g) := rfl
    rw [e] at hd ⊢
    refine frz1_all hH h ?_
    revert hd
    unfold frz1
    simp only
    split
    · split
      · exact fun h => h
      · exact fun h => h
    · exact fun h => h
  | _ => exact frz1_all hH h hd

theorem frz_rel {w : World} {imm : Nat → Prop} {φ : Phi} {H : List Blk} (hH : Heap w imm φ fun b => H[b]?) {x : AV} {v : Value} (h : VRel w.cell? imm φ x v) (hd : (frz H x).data = true) : VRel w.cell? (immAll imm φ) Phi.none (frz H x) v := by
  cases x with
  | tup vs =>
    simp only [frz, AV.data] at hd ⊢
    cases h with
    | tup _ _ us hs hc =>
      refine .tup _ _ _ (by simp [hs]) fun i c u h1 h2 => ?_
      simp at h1
      obtain ⟨y, hy, rfl⟩ := h1
      refine frzA_rel hH (hc i y u hy h2) ?_
      exact (List.all_eq_true.1 hd) _ (List.mem_map.2 ⟨y, List.mem_of_getElem? hy, rfl⟩)
  | ref b off len lim g k =>
    refine frzA_rel hH h ?_
    revert hd
    show (frz1 H (.ref b off len lim g k)).data = true → (frz1 H (.ref b off len lim g k)).data1 = true
    unfold frz1
    simp only
    split
    · split
      · exact fun h => h
      · exact fun h => h
    · exact fun h => h
  | ptr b i off g =>
    refine frzA_rel hH h ?_
    revert hd
    show (frz1 H (.ptr b i off g)).data = true → (frz1 H (.ptr b i off g)).data1 = true
    unfold frz1
    simp only
    split
    · split
      · exact fun h => h
      · exact fun h => h
    · exact fun h => h
  | _ => exact frzA_rel hH h hd

/-! ### A contract out of a walk -/
def enum (n : Nat) : List AV → List (Nat × AV)
  | [] => []
  | x :: xs => (n, x) :: enum (n + 1) xs

theorem enum_get : ∀ (xs : List AV) (n t : Nat), slotGet (enum n xs) t = if n ≤ t ∧ t < n + xs.length then xs.getD (t - n) .junk else .junk
  | [], n, t => by simp [enum, slotGet]
  | x :: xs, n, t => by
    rw [enum, slotGet_put, enum_get xs (n + 1) t]
    by_cases h : n = t
    · subst h; simp
    · rw [if_neg h]
      by_cases h2 : n + 1 ≤ t ∧ t < n + 1 + xs.length
      · rw [if_pos h2, if_pos (by simp; omega)]
        have e : t - n = (t - (n + 1)) + 1 := by omega
        rw [e, List.getD_cons_succ]
      · rw [if_neg h2, if_neg (by simp; omega)]

theorem callable_of {P : Program} {T : Nat → Option TI} {F : FnI} (S : Setting P T F) : Callable P F.f := ⟨F.fn, S.func, S.name, by rw [S.body]; rfl⟩

/-- What the function comes to is 'res'. -/
def Gives (res : AV) (d : AV) (H : List Blk) : Prop := frz H d = res

theorem pureC_of_vc {P : Program} {T : Nat → Option TI} {F : FnI} (S : Setting P T F) (h0 : F.n0 = 0) {args : List AV} {res : AV} (hn : args.length ≤ F.fn.ntmps) (hres : res.data = true)
    (h : VC P F [] ⟨enum 0 args, []⟩ (Gives res)) : PureC P F.f args res := by
  refine ⟨callable_of S, hres, fun w imm vals him hgl hsz hv cs => ?_⟩
  let b : Frame := Frame.enter P F.f vals .normal
  let a : Act := { tmps := vals ++ Array.replicate (F.fn.ntmps - vals.size) undef, defers := [] }
  have hb : b = b.at a (todoAt F.body []) := by
    simp only [b, a, Frame.enter, Frame.at, S.func, Option.map_some, Option.getD_some, Option.bind_some, S.body, todoAt, sub, konts]
  have hrel : Rel ⟨enum 0 args, []⟩ a w imm Phi.none := by
    refine ⟨fun t => ?_, ⟨fun b rb h => by simp [Phi.none] at h, fun b rb h => by simp [Phi.none] at h, fun b b' rb rb' h => by simp [Phi.none] at h, him, hgl⟩⟩
    rw [enum_get]
    split
    · rename_i ht
      have ht : t < args.length := by omega
      have h2 : t < vals.size := by omega
      simp only [Nat.sub_zero]
      rw [show args.getD t .junk = args[t] by simp [List.getD_eq_getElem?_getD, ht]]
      have e : a.tmps.getD t undef = vals[t] := by
        simp only [a, Array.getD_eq_getD_getElem?, Array.getElem?_append_left h2]
        simp [h2]
      rw [e]
      exact hv t _ _ (by simp [ht]) (by simp [h2])
    · exact .junk _ _
  have hsize : a.tmps.size = F.fn.ntmps := by simp only [a, Array.size_append, Array.size_replicate]; omega
  obtain ⟨e, w', fr', hp, hc, hf, hl⟩ := h b a w imm Phi.none w imm Phi.none rfl rfl hsize rfl (fun i hi => by simp [Phi.none] at hi) (Trans.refl _ _ _ _) hrel cs
  rw [← hb] at hc hf
  refine ⟨e, w', fr', ?_, hc, hf, hl⟩
  obtain ⟨v, imm', φ', d, H', he, hg, ht, hv', hH⟩ := hp
  have hg : frz H' d = res := hg
  subst hg
  refine ⟨v, immAll imm' φ', he, ⟨ht.os, ht.tape, ht.output, ht.drawn, ht.size, fun r hr _ => ht.keep r hr fun b rb hb _ => by simp [Phi.none] at hb, ht.immKeep, fun r hr => .inl (ht.immMono r hr), fun r hr => ?_, fun b rb hb => by simp [Phi.none] at hb, fun b rb hb => by simp [Phi.none] at hb⟩, fun r hr => ?_, frz_rel hH hv' hres⟩
  · rcases hr with hr | ⟨b, rb, hb, he⟩
    · rcases ht.immNew r hr with h | h | ⟨b, rb, hb, _⟩
      · exact .inl h
      · exact .inr (.inl h)
      · simp [Phi.none] at hb
    · rcases ht.own b rb hb with ⟨rb0, h, _⟩ | ⟨_, h⟩
      · simp [Phi.none] at h
      · exact .inr (.inl (by omega))
  · rcases hr with hr | ⟨b, rb, hb, he⟩
    · exact hH.immLt r hr
    · have := hH.lt b rb hb; omega

/-! ### Forgetting -/
def ok0 (m : Nat) (x : AV) : Bool :=
  match x with
  | .ref b _ _ _ _ _ => Nat.blt b m
  | .ptr b _ _ _ => Nat.blt b m
  | .mp b => Nat.blt b m
  | x => x.simple
def okC (m : Nat) (x : AV) : Bool :=
  match x with
  | .ref b _ _ _ _ _ => Nat.blt b m
  | .ptr b _ _ _ => Nat.blt b m
  | .mp b => Nat.blt b m
  | .fn _ f c => f.all (ok0 m) && c.all (ok0 m)
  | x => x.simple
def okV (m : Nat) (x : AV) : Bool :=
  match x with
  | .agg cs => cs.all (okC m)
  | x => okC m x
def keepV (m : Nat) (x : AV) : AV :=
  match okV m x with
  | true => x
  | false => .junk
def keepB (m : Nat) (x : Blk) : Blk :=
  match x with
  | .box cs ro => match cs.all (okC m) with
    | true => .box cs ro
    | false => .dead
  | .iter (some b) x y z => match Nat.blt b m with
    | true => .iter (some b) x y z
    | false => .dead
  | x => x
/-- The first m blocks, and the slots that are listed. -/
def reSt (m : Nat) (L : List Nat) (s : St) : St := ⟨L.map fun t => (t, keepV m (slotGet s.slots t)), (s.heap.take m).map (keepB m)⟩

def cutPhi (m : Nat) (φ : Phi) : Phi := fun b => match Nat.blt b m with
  | true => φ b
  | false => none

theorem ok0_rel {cell : Addr → Option Value} {imm : Nat → Prop} {φ : Phi} {m : Nat} {x : AV} {v : Value} (h : VRel cell imm φ x v) (hd : ok0 m x = true) : VRel cell imm (cutPhi m φ) x v := by
  cases h with
  | ref _ b off len lim g k v rb hb hg hs hv => exact .ref _ _ _ _ _ _ _ _ rb (by simp only [ok0] at hd; simp only [cutPhi, hd, hb]) hg hs hv
  | ptr _ b i off g v rb hb hg hs hv => exact .ptr _ _ _ _ _ _ rb (by simp only [ok0] at hd; simp only [cutPhi, hd, hb]) hg hs hv
  | mp _ b v rb hb hs hv => exact .mp _ _ _ rb (by simp only [ok0] at hd; simp only [cutPhi, hd, hb]) hs hv
  | val => exact .val _ _
  | nil _ _ _ _ hn hc => exact .nil _ _ _ _ hn hc
  | sl _ _ _ _ a cap k us hn hcc hcap ha hk h1 h2 => exact .sl _ _ _ _ _ _ _ us hn hcc hcap ha hk h1 h2
  | ipt _ _ a us ha h1 h2 => exact .ipt _ _ _ us ha h1 h2
  | _ => simp [ok0, AV.simple] at hd

theorem okC_rel {cell : Addr → Option Value} {imm : Nat → Prop} {φ : Phi} {m : Nat} {x : AV} {v : Value} (h : VRel cell imm φ x v) (hd : okC m x = true) : VRel cell imm (cutPhi m φ) x v := by
  cases x with
  | fn f fs cs =>
    simp only [okC, Bool.and_eq_true] at hd
    cases h with
    | fn _ _ _ _ us vs h1 h2 hf hc =>
      exact .fn _ _ _ _ _ _ h1 h2 (fun i c u a b => ok0_rel (hf i c u a b) ((List.all_eq_true.1 hd.1) c (List.mem_of_getElem? a))) fun i c u a b => ok0_rel (hc i c u a b) ((List.all_eq_true.1 hd.2) c (List.mem_of_getElem? a))
  | _ => exact ok0_rel h hd

theorem okV_rel {cell : Addr → Option Value} {imm : Nat → Prop} {φ : Phi} {m : Nat} {x : AV} {v : Value} (h : VRel cell imm φ x v) (hd : okV m x = true) : VRel cell imm (cutPhi m φ) x v := by
  cases x with
  | agg cs =>
    simp only [okV] at hd
    cases h with
    | agg _ _ us hs hc => exact .agg _ _ _ hs fun i c u a b => okC_rel (hc i c u a b) ((List.all_eq_true.1 hd) c (List.mem_of_getElem? a))
  | _ => exact okC_rel h hd

theorem keepV_rel {cell : Addr → Option Value} {imm : Nat → Prop} {φ : Phi} {m : Nat} {x : AV} {v : Value} (h : VRel cell imm φ x v) : VRel cell imm (cutPhi m φ) (keepV m x) v := by
  unfold keepV
  split
  · rename_i hd; exact okV_rel h hd
  · exact .junk _ _

theorem slotGet_list (f : Nat → AV) : ∀ (L : List Nat) (t : Nat), slotGet (L.map fun t => (t, f t)) t = if t ∈ L then f t else .junk
  | [], t => by simp [slotGet]
  | x :: L, t => by
    rw [List.map_cons, slotGet_put, slotGet_list f L t]
    by_cases h : x = t
    · subst h; simp
    · rw [if_neg h]
      by_cases h2 : t ∈ L
      · rw [if_pos h2, if_pos (by simp [h2])]
      · rw [if_neg h2, if_neg (by simp [h2]; exact fun e => h e.symm)]

theorem VC.forget {P : Program} {F : FnI} {todo : List Item} {s : St} {Q : AV → List Blk → Prop} (m : Nat) (L : List Nat) (hm : F.n0 ≤ m) (h : VCt P F todo (reSt m L s) Q) : VCt P F todo s Q := by
  intro b a w imm φ w0 imm0 φ0 h1 h2 h3 h4 h5 ht hr
  refine h b a w imm (cutPhi m φ) w0 imm0 φ0 h1 h2 h3 h4 h5 ?_ ⟨fun t => ?_, ⟨fun b rb hb => ?_, fun b rb hb => ?_, fun b b' rb rb' hb hb' => ?_, hr.heap.immLt, hr.heap.glob⟩⟩
  · refine ⟨ht.os, ht.tape, ht.output, ht.drawn, ht.size, ht.keep, ht.immKeep, ht.immMono, ht.immNew, fun b rb hb => ?_, fun b rb' hb => ?_⟩
    · have hlt := h5 b (by simp [hb])
      obtain ⟨rb', h, hh⟩ := ht.phi b rb hb
      refine ⟨rb', ?_, hh⟩
      have : Nat.blt b m = true := by simp; omega
      simp only [cutPhi, this, h]
    · simp only [cutPhi] at hb
      split at hb
      · exact ht.own b rb' hb
      · cases hb
  · simp only [reSt]
    rw [slotGet_list]
    split
    · exact keepV_rel (hr.slots t)
    · exact .junk _ _
  · simp only [cutPhi] at hb
    split at hb
    · rename_i hlt
      rw [Nat.blt_eq] at hlt
      obtain ⟨x, hx, hbr⟩ := hr.heap.blk b rb hb
      refine ⟨keepB m x, by simp [reSt, List.getElem?_take, hlt, hx], ?_⟩
      cases x with
      | row elems k g => exact hbr
      | map es c => exact hbr
      | iter mo x y z =>
        cases mo with
        | none => exact hbr
        | some mb =>
          simp only [keepB]
          split
          · rename_i hmb
            obtain ⟨g1, g2, g3, g4, mo, g5, r, rm, q1, q2, q3⟩ := hbr
            exact ⟨g1, g2, g3, g4, mo, g5, r, rm, q1, by simp only [cutPhi, hmb, q2], q3⟩
          · trivial
      | dead => exact hbr
      | box cs ro =>
        simp only [keepB]
        split
        · rename_i hall
          obtain ⟨g1, g2, g3, g4, g5, arr, ty, g6, g7, g8⟩ := hbr
          exact ⟨g1, g2, g3, g4, g5, arr, ty, g6, g7, fun j c hj => let ⟨u, h1, h2⟩ := g8 j c hj; ⟨u, h1, okC_rel h2 ((List.all_eq_true.1 hall) c (List.mem_of_getElem? hj))⟩⟩
        · trivial
    · cases hb
  · simp only [cutPhi] at hb
    split at hb
    · exact hr.heap.lt b rb hb
    · cases hb
  · simp only [cutPhi] at hb hb'
    split at hb
    · split at hb'
      · exact hr.heap.inj b b' rb rb' hb hb'
      · cases hb'
    · cases hb

/-! ### A contract of a function that writes its caller's memory, out of a walk -/
/-- By another name, or as memory that nobody writes any more. -/
def rfO (ks : List Nat) (H : List Blk) (x : AV) : Option AV :=
  match renO (idxIn ks 0) x with
  | some y => some y
  | none => match (frz1 H x).dcell with
    | true => some (frz1 H x)
    | false => none

def pickF (ks : List Nat) (H : List Blk) : List Nat → Option (List Blk)
  | [] => some []
  | b :: bs => match H[b]? with
    | some x => match renB (idxIn ks 0) (rfO ks H) x with
      | some y => match pickF ks H bs with
        | some ys => some (y :: ys)
        | none => none
      | none => none
    | none => none

theorem pickF_get {ks : List Nat} {H : List Blk} : ∀ {bs : List Nat} {ys : List Blk}, pickF ks H bs = some ys → ys.length = bs.length ∧ ∀ (i b : Nat), bs[i]? = some b → ∃ x y, H[b]? = some x ∧ ys[i]? = some y ∧ renB (idxIn ks 0) (rfO ks H) x = some y
  | [], ys, h => by simp only [pickF, Option.some.injEq] at h; subst h; exact ⟨rfl, fun i b h => by simp at h⟩
  | b :: bs, ys, h => by
    simp only [pickF] at h
    split at h
    case h_2 => cases h
    rename_i x hx
    split at h
    case h_2 => cases h
    rename_i y hy
    split at h
    case h_2 => cases h
    rename_i ys' hys
    cases h
    obtain ⟨h1, h2⟩ := pickF_get hys
    refine ⟨by simp [h1], fun i b' hi => ?_⟩
    cases i with
    | zero => simp at hi; subst hi; exact ⟨x, y, hx, rfl, hy⟩
    | succ i => simpa using h2 i b' (by simpa using hi)

/-- The first m, in their order. -/
def startB : Nat → Nat → List Nat → Bool
  | 0, _, _ => true
  | m + 1, i, b :: bs => match Nat.beq b i with
    | true => startB m (i + 1) bs
    | false => false
  | _ + 1, _, [] => false

theorem startB_get : ∀ {m i : Nat} {ks : List Nat}, startB m i ks = true → ∀ j, j < m → ks[j]? = some (i + j)
  | 0, _, _, _, j, hj => by omega
  | m + 1, i, [], h, _, _ => by simp [startB] at h
  | m + 1, i, b :: bs, h, j, hj => by
    simp only [startB] at h
    split at h
    · rename_i e
      have e := Nat.eq_of_beq_eq_true e
      cases j with
      | zero => simp [e]
      | succ j =>
        have := startB_get h j (by omega)
        simp only [List.getElem?_cons_succ, this]
        congr 1; omega
    · cases h

/-- At the end of a function: of its blocks those of ks are kept, the first m of which are its caller's; what else is pointed to is written no more. -/
def Fin (m : Nat) (Q : AV → List Blk → Prop) (d : AV) (H : List Blk) : Prop :=
  ∃ ks, okBs ks H.length = true ∧ startB m 0 ks = true ∧ match renT (rfO ks H) d, pickF ks H ks with
    | some d', some H' => Q d' H'
    | _, _ => False

def immBut (ks : List Nat) (imm : Nat → Prop) (φ : Phi) : Nat → Prop := fun r => imm r ∨ ∃ b rb, φ b = some rb ∧ b ∉ ks ∧ rb.base.block = r

theorem rfO_ok {w : World} {imm : Nat → Prop} {φ φ' : Phi} {ks : List Nat} {H : List Blk} (hH : Heap w imm φ fun b => H[b]?) (hnd : ks.Nodup) (hφ : ∀ b b', idxIn ks 0 b = some b' → φ' b' = φ b) : RenOk w.cell? imm (immBut ks imm φ) φ φ' (rfO ks H) := by
  intro x y v h hv
  unfold rfO at h
  split at h
  · rename_i z hz
    cases h
    exact renO_ok (fun q hq => .inl hq) hφ x y v hz hv
  · rename_i hz
    split at h
    · rename_i hd
      cases h
      have hdead : ∀ b ∈ blkOf x, ∀ rb, φ b = some rb → immBut ks imm φ rb.base.block := fun b hb rb hrb => by
        refine .inr ⟨b, rb, hrb, fun hk => ?_, rfl⟩
        obtain ⟨i, hi⟩ := List.mem_iff_getElem?.1 hk
        have := idxIn_of (i := 0) hnd hi
        cases x with
        | ref b' => simp [blkOf] at hb; subst hb; simp [renO, this] at hz
        | ptr b' => simp [blkOf] at hb; subst hb; simp [renO, this] at hz
        | mp b' => simp [blkOf] at hb; subst hb; simp [renO, this] at hz
        | gd g x' => cases hv with | gd _ _ _ _ ht hf => simp [frz1, AV.dcell] at hd
        | _ => simp [blkOf] at hb
      refine ⟨vrel_none (frz1_rel (fun r hr => .inl hr) hH (fun b _ => rfl) hv hdead hd) φ', ?_⟩
      rw [dcell_isCell hd]
      cases x with
      | ref => rfl
      | ptr => rfl
      | mp => rfl
      | fn => rfl
      | _ => revert hd; simp_all [frz1, AV.dcell, renO]
    · cases h

theorem rfO_dcell {ks : List Nat} {H : List Blk} {x y : AV} (h : rfO ks H x = some y) (hd : x.dcell = true) : y.dcell = true := by
  unfold rfO at h
  split at h
  · cases h; rename_i hz; exact renO_dcell hz hd
  · split at h
    · rename_i hd'; cases h; exact hd'
    · cases h
theorem rfO_simple {ks : List Nat} {H : List Blk} {x y : AV} (h : rfO ks H x = some y) (hd : x.simple = true) : y.simple = true := by
  cases x with
  | val | sl | ipt => simp [rfO, renO] at h; subst h; exact hd
  | _ => simp [AV.simple] at hd

theorem heapC_of_vc {P : Program} {T : Nat → Option TI} {F : FnI} (S : Setting P T F) {args : List AV} {H : List Blk} {Q : AV → List Blk → Prop} (h0 : F.n0 = H.length) (hn : args.length ≤ F.fn.ntmps)
    (h : VC P F [] ⟨enum 0 args, H⟩ (Fin H.length Q)) : HeapC P F.f args H Q := by
  refine ⟨callable_of S, fun w imm φ vals hH hsz hv cs => ?_⟩
  let b : Frame := Frame.enter P F.f vals .normal
  let a : Act := { tmps := vals ++ Array.replicate (F.fn.ntmps - vals.size) undef, defers := [] }
  have hb : b = b.at a (todoAt F.body []) := by
    simp only [b, a, Frame.enter, Frame.at, S.func, Option.map_some, Option.getD_some, Option.bind_some, S.body, todoAt, sub, konts]
  have hold : ∀ i, φ i ≠ none → i < H.length := fun i hi => by
    cases hp : φ i with
    | none => exact absurd hp hi
    | some rb => obtain ⟨x, hx, _⟩ := hH.blk i rb hp; exact (List.getElem?_eq_some_iff.1 hx).1
  have hrel : Rel ⟨enum 0 args, H⟩ a w imm φ := by
    refine ⟨fun t => ?_, hH⟩
    rw [enum_get]
    split
    · rename_i ht
      have ht : t < args.length := by omega
      have h2 : t < vals.size := by omega
      simp only [Nat.sub_zero]
      rw [show args.getD t .junk = args[t] by simp [List.getD_eq_getElem?_getD, ht]]
      have e : a.tmps.getD t undef = vals[t] := by
        simp only [a, Array.getD_eq_getD_getElem?, Array.getElem?_append_left h2]
        simp [h2]
      rw [e]
      exact hv t _ _ (by simp [ht]) (by simp [h2])
    · exact .junk _ _
  have hsize : a.tmps.size = F.fn.ntmps := by simp only [a, Array.size_append, Array.size_replicate]; omega
  obtain ⟨e, w', fr', hp, hc, hf, hl⟩ := h b a w imm φ w imm φ rfl rfl hsize rfl (fun i hi => by rw [h0]; exact hold i hi) (Trans.refl _ _ _ _) hrel cs
  rw [← hb] at hc hf
  refine ⟨e, w', fr', ?_, hc, hf, hl⟩
  obtain ⟨v, imm', φ', d, H', he, ⟨ks, hok, hst, hg⟩, ht, hv', hH'⟩ := hp
  obtain ⟨hnd, hlt⟩ := okBs_spec hok
  have hst := startB_get hst
  split at hg
  case h_2 => exact hg.elim
  rename_i d' Hk hd' hHk
  obtain ⟨ψ, hψ⟩ : ∃ ψ : Phi, ∀ i, ψ i = (ks[i]?).bind φ' := ⟨_, fun _ => rfl⟩
  have hin : ∀ b i, idxIn ks 0 b = some i → ψ i = φ' b := fun b i hi => by
    have := (idxIn_get hi).2
    rw [Nat.sub_zero] at this
    rw [hψ, this]; rfl
  have hcin : ∀ i rb, ψ i = some rb → ∃ b, ks[i]? = some b ∧ φ' b = some rb := fun i rb hi => by
    rw [hψ] at hi
    cases hb : ks[i]? with
    | none => rw [hb] at hi; cases hi
    | some b => rw [hb] at hi; exact ⟨b, rfl, hi⟩
  have hlow : ∀ i, i < H.length → ψ i = φ' i := fun i hi => by rw [hψ, hst i hi]; simp
  have hren := rfO_ok hH' hnd hin
  obtain ⟨hpl, hpg⟩ := pickF_get hHk
  have hfresh : ∀ b rb, φ' b = some rb → H.length ≤ b → φ b = none ∧ w.heap.size ≤ rb.base.block := fun b rb hb hge => by
    rcases ht.own b rb hb with ⟨rb0, h, _⟩ | h
    · have := hold b (by simp [h]); omega
    · exact h
  have hgt : ∀ b, b ∉ ks → H.length ≤ b := fun b hb => by
    rcases Nat.lt_or_ge b H.length with h | h
    · have := hst b h
      exact absurd (List.mem_of_getElem? this) (by simpa using hb)
    · exact h
  refine ⟨v, he, immBut ks imm' φ', ψ, d', Hk, hg, renT_ok hren hd' hv', ?_, ?_⟩
  · refine ⟨ht.os, ht.tape, ht.output, ht.drawn, ht.size, ht.keep, ht.immKeep, fun r hr => .inl (ht.immMono r hr), fun r hr => ?_, fun i rb hi => ?_, fun i rb hi => ?_⟩
    · rcases hr with hr | ⟨b, rb, hb, hnk, hr⟩
      · exact ht.immNew r hr
      · have := (hfresh b rb hb (hgt b hnk)).2
        exact .inr (.inl (by omega))
    · rw [hlow i (hold i (by simp [hi]))]
      exact ht.phi i rb hi
    · by_cases hil : i < H.length
      · rw [hlow i hil] at hi
        exact ht.own i rb hi
      · obtain ⟨b, hb1, hb2⟩ := hcin i rb hi
        have hbge : H.length ≤ b := by
          rcases Nat.lt_or_ge b H.length with h | h
          · have := idxIn_of (i := 0) hnd (hst b h)
            have h2 := idxIn_of (i := 0) hnd hb1
            rw [show 0 + b = b by omega] at this
            rw [h2] at this
            simp at this; omega
          · exact h
        refine .inr ⟨?_, (hfresh b rb hb2 hbge).2⟩
        cases hp : φ i with
        | none => rfl
        | some rb0 => have := hold i (by simp [hp]); omega
  · refine ⟨fun i rb hi => ?_, fun i rb hi => ?_, fun i j rb rb' hi hj he => ?_, fun r hr => ?_, hH'.glob.mono fun r hr => .inl hr⟩
    · obtain ⟨b, hb1, hb2⟩ := hcin i rb hi
      obtain ⟨x, y, g1, g2, g3⟩ := hpg i b hb1
      obtain ⟨x', hx', hbr⟩ := hH'.blk b rb hb2
      rw [g1] at hx'; cases hx'
      refine ⟨y, g2, renB_ok (fun q hq => .inl hq) hin hren (fun _ _ => rfO_dcell) (fun _ _ => rfO_simple) g3 hbr fun hni => ?_⟩
      rintro (h | ⟨b2, rb2, h1, h2, h3⟩)
      · exact hni h
      · have := hH'.inj b2 b rb2 rb h1 hb2 h3
        subst this
        exact h2 (List.mem_of_getElem? hb1)
    · obtain ⟨b, hb1, hb2⟩ := hcin i rb hi
      exact hH'.lt b rb hb2
    · obtain ⟨b, hb1, hb2⟩ := hcin i rb hi
      obtain ⟨c, hc1, hc2⟩ := hcin j rb' hj
      have := hH'.inj b c rb rb' hb2 hc2 he
      subst this
      have e1 := idxIn_of (i := 0) hnd hb1
      have e2 := idxIn_of (i := 0) hnd hc1
      rw [e1] at e2
      simpa using e2
    · rcases hr with hr | ⟨b, rb, hb, _, hr⟩
      · exact hH'.immLt r hr
      · have := hH'.lt b rb hb; omega

end Vm
end Go.Proofs.YtdbpcmpkpbamhaaGreatDoor

/- The abstract machine: memory of one's own that is written no more, in the middle of a walk. -/
namespace Go.Proofs.YtdbpcmpkpbamhaaGreatDoor
set_option linter.unusedVariables false
set_option linter.unusedSimpArgs false
namespace Vm
open Go

def fzD (H : List Blk) (x : AV) : Option AV :=
  match (frz1 H x).dcell with
  | true => some (frz1 H x)
  | false => none

def fzO (fz : List Nat) (H : List Blk) (x : AV) : Option AV :=
  match x with
  | .ref b off len lim g k => match elemN b fz with
    | true => fzD H (.ref b off len lim g k)
    | false => some (.ref b off len lim g k)
  | .ptr b i off g => match elemN b fz with
    | true => fzD H (.ptr b i off g)
    | false => some (.ptr b i off g)
  | .mp b => match elemN b fz with
    | true => none
    | false => some (.mp b)
  | .val v => some (.val v)
  | .sl n c k xs => some (.sl n c k xs)
  | .ipt cs => some (.ipt cs)
  | .junk => some .junk
  | _ => none

def fzS (fz : List Nat) (H : List Blk) (x : AV) : AV :=
  match renT (fzO fz H) x with
  | some y => y
  | none => .junk

def fzB (fz : List Nat) (H : List Blk) (x : Blk) : Blk :=
  match renB some (fzO fz H) x with
  | some y => y
  | none => .dead

def fzH (fz : List Nat) (H : List Blk) : List Blk → Nat → List Blk
  | [], _ => []
  | x :: xs, i => (match elemN i fz with
    | true => .dead
    | false => fzB fz H x) :: fzH fz H xs (i + 1)

theorem elemN_iff {n : Nat} : ∀ {l : List Nat}, elemN n l = true ↔ n ∈ l
  | [] => by simp [elemN]
  | m :: r => by
    simp only [elemN]
    split
    · rename_i e
      have := Nat.eq_of_beq_eq_true e
      subst this
      simp
    · rename_i e
      have hne : n ≠ m := fun h => by subst h; simp at e
      rw [elemN_iff]; simp [hne]

theorem fzH_get (fz : List Nat) (H : List Blk) : ∀ (xs : List Blk) (i j : Nat), (fzH fz H xs i)[j]? = (xs[j]?).map fun x => match elemN (i + j) fz with | true => .dead | false => fzB fz H x
  | [], i, j => by simp [fzH]
  | x :: xs, i, j => by
    cases j with
    | zero => simp [fzH]
    | succ j => simp only [fzH, List.getElem?_cons_succ, fzH_get fz H xs (i + 1) j]; rw [show i + 1 + j = i + (j + 1) by omega]

def immFz (fz : List Nat) (imm : Nat → Prop) (φ : Phi) : Nat → Prop := fun r => imm r ∨ ∃ b rb, φ b = some rb ∧ b ∈ fz ∧ rb.base.block = r

theorem fzO_ok {w : World} {imm : Nat → Prop} {φ : Phi} {fz : List Nat} {H : List Blk} (hH : Heap w imm φ fun b => H[b]?) : RenOk w.cell? imm (immFz fz imm φ) φ φ (fzO fz H) := by
  intro x y v h hv
  have same : VRel w.cell? (immFz fz imm φ) φ x v := vrel_imm hv fun r hr => .inl hr
  have fr : ∀ b, (∀ b' ∈ blkOf x, b' = b) → elemN b fz = true → x.isCell = true → fzD H x = some y → VRel w.cell? (immFz fz imm φ) φ y v ∧ y.isCell = x.isCell := by
    intro b hb hbe hcell hd
    unfold fzD at hd
    split at hd
    · rename_i hdc
      cases hd
      refine ⟨vrel_none (frz1_rel (fun r hr => .inl hr) hH (fun b _ => rfl) hv (fun b' hb' rb hrb => .inr ⟨b', rb, hrb, ?_, rfl⟩) hdc) φ, by rw [hcell, dcell_isCell hdc]⟩
      rw [hb b' hb']; exact elemN_iff.1 hbe
    · cases hd
  cases x with
  | ref b off len lim g k =>
    simp only [fzO] at h
    split at h
    · rename_i hb; exact fr b (by simp [blkOf]) hb rfl h
    · cases h; exact ⟨same, rfl⟩
  | ptr b i off g =>
    simp only [fzO] at h
    split at h
    · rename_i hb; exact fr b (by simp [blkOf]) hb rfl h
    · cases h; exact ⟨same, rfl⟩
  | mp b =>
    simp only [fzO] at h
    split at h
    · cases h
    · cases h; exact ⟨same, rfl⟩
  | val => cases h; exact ⟨same, rfl⟩
  | sl => cases h; exact ⟨same, rfl⟩
  | ipt => cases h; exact ⟨same, rfl⟩
  | junk => cases h; exact ⟨same, rfl⟩
  | _ => cases h

theorem fzO_dcell {fz : List Nat} {H : List Blk} {x y : AV} (h : fzO fz H x = some y) (hd : x.dcell = true) : y.dcell = true := by
  cases x with
  | val | sl | ipt => cases h; exact hd
  | fn => cases h
  | _ => simp [AV.dcell] at hd
theorem fzO_simple {fz : List Nat} {H : List Blk} {x y : AV} (h : fzO fz H x = some y) (hd : x.simple = true) : y.simple = true := by
  cases x with
  | val | sl | ipt => cases h; exact hd
  | _ => simp [AV.simple] at hd

def fzAll (fz : List Nat) (n : Nat) : Bool := match fz with
  | [] => true
  | b :: r => match Nat.ble n b with
    | true => fzAll r n
    | false => false

theorem fzAll_spec {n : Nat} : ∀ {fz : List Nat}, fzAll fz n = true → ∀ b ∈ fz, n ≤ b
  | [], _, b, hb => by cases hb
  | c :: r, h, b, hb => by
    simp only [fzAll] at h
    split at h
    · rename_i e
      rcases List.mem_cons.1 hb with rfl | hb
      · simpa using e
      · exact fzAll_spec h b hb
    · cases h

/-- The blocks of fz are written no more; of the slots those of L are kept. -/
theorem VC.freeze {P : Program} {F : FnI} {todo : List Item} {s : St} {Q : AV → List Blk → Prop} (fz L : List Nat) (hn : fzAll fz F.n0 = true)
    (h : VCt P F todo ⟨L.map fun t => (t, fzS fz s.heap (slotGet s.slots t)), fzH fz s.heap s.heap 0⟩ Q) : VCt P F todo s Q := by
  intro b a w imm φ w0 imm0 φ0 h1 h2 h3 h4 h5 ht hr
  have hfz := fzAll_spec hn
  have hren := fzO_ok (fz := fz) hr.heap
  have hown : ∀ b rb, φ b = some rb → b ∈ fz → w0.heap.size ≤ rb.base.block := fun b rb hb hm => by
    have hge := hfz b hm
    rcases ht.own b rb hb with ⟨rb0, h, _⟩ | ⟨_, h⟩
    · have := h5 b (by simp [h]); omega
    · exact h
  refine h b a w (immFz fz imm φ) φ w0 imm0 φ0 h1 h2 h3 h4 h5 ?_ ⟨fun t => ?_, ⟨fun b rb hb => ?_, hr.heap.lt, hr.heap.inj, fun r hr' => ?_, hr.heap.glob.mono fun r hr => .inl hr⟩⟩
  · refine ⟨ht.os, ht.tape, ht.output, ht.drawn, ht.size, ht.keep, ht.immKeep, fun r hr => .inl (ht.immMono r hr), fun r hr => ?_, ht.phi, ht.own⟩
    rcases hr with hr | ⟨b, rb, hb, hm, rfl⟩
    · exact ht.immNew r hr
    · exact .inr (.inl (hown b rb hb hm))
  · rw [slotGet_list]
    split
    · unfold fzS
      split
      · rename_i y hy; exact renT_ok hren hy (hr.slots t)
      · exact .junk _ _
    · exact .junk _ _
  · obtain ⟨x, hx, hbr⟩ := hr.heap.blk b rb hb
    have hx : s.heap[b]? = some x := hx
    refine ⟨_, by rw [fzH_get, hx]; rfl, ?_⟩
    rw [show 0 + b = b by omega]
    split
    · trivial
    · rename_i hnb
      show BRel w (immFz fz imm φ) φ (fzB fz s.heap x) rb
      unfold fzB
      split
      · rename_i y hy
        refine renB_ok (fun q hq => .inl hq) (fun b b' h => by cases h; rfl) hren (fun _ _ => fzO_dcell) (fun _ _ => fzO_simple) hy hbr fun hni => ?_
        rintro (h | ⟨b2, rb2, g1, g2, g3⟩)
        · exact hni h
        · have := hr.heap.inj b2 b rb2 rb g1 hb g3
          subst this
          rw [elemN_iff.2 g2] at hnb; cases hnb
      · trivial
  · rcases hr' with hr' | ⟨b, rb, hb, _, rfl⟩
    · exact hr.heap.immLt r hr'
    · exact hr.heap.lt b rb hb

/-! ### Some blocks, by new names; the others are written no more -/
def gcS (ks : List Nat) (H : List Blk) (x : AV) : AV :=
  match renT (rfO ks H) x with
  | some y => y
  | none => .junk
def gcB (ks : List Nat) (H : List Blk) (x : Option Blk) : Blk :=
  match x with
  | some x => match renB (idxIn ks 0) (rfO ks H) x with
    | some y => y
    | none => .dead
  | none => .dead

theorem VC.gc {P : Program} {F : FnI} {todo : List Item} {s : St} {Q : AV → List Blk → Prop} (ks L : List Nat) (hok : okBs ks s.heap.length = true) (hst : startB F.n0 0 ks = true)
    (h : VCt P F todo ⟨L.map fun t => (t, gcS ks s.heap (slotGet s.slots t)), ks.map fun b => gcB ks s.heap s.heap[b]?⟩ Q) : VCt P F todo s Q := by
  intro b a w imm φ w0 imm0 φ0 h1 h2 h3 h4 h5 ht hr
  obtain ⟨hnd, hlt⟩ := okBs_spec hok
  have hst := startB_get hst
  obtain ⟨ψ, hψ⟩ : ∃ ψ : Phi, ∀ i, ψ i = (ks[i]?).bind φ := ⟨_, fun _ => rfl⟩
  have hin : ∀ b i, idxIn ks 0 b = some i → ψ i = φ b := fun b i hi => by
    have := (idxIn_get hi).2
    rw [Nat.sub_zero] at this
    rw [hψ, this]; rfl
  have hcin : ∀ i rb, ψ i = some rb → ∃ b, ks[i]? = some b ∧ φ b = some rb := fun i rb hi => by
    rw [hψ] at hi
    cases hb : ks[i]? with
    | none => rw [hb] at hi; cases hi
    | some b => rw [hb] at hi; exact ⟨b, rfl, hi⟩
  have hlow : ∀ i, i < F.n0 → ψ i = φ i := fun i hi => by rw [hψ, hst i hi]; simp
  have hren := rfO_ok hr.heap hnd hin
  have hfresh : ∀ b rb, φ b = some rb → F.n0 ≤ b → φ0 b = none ∧ w0.heap.size ≤ rb.base.block := fun b rb hb hge => by
    rcases ht.own b rb hb with ⟨rb0, h, _⟩ | h
    · have := h5 b (by simp [h]); omega
    · exact h
  have hgt : ∀ b, b ∉ ks → F.n0 ≤ b := fun b hb => by
    rcases Nat.lt_or_ge b F.n0 with h | h
    · have := hst b h
      exact absurd (List.mem_of_getElem? this) (by simpa using hb)
    · exact h
  refine h b a w (immBut ks imm φ) ψ w0 imm0 φ0 h1 h2 h3 h4 h5 ?_ ⟨fun t => ?_, ⟨fun i rb hi => ?_, fun i rb hi => ?_, fun i j rb rb' hi hj he => ?_, fun r hr' => ?_, hr.heap.glob.mono fun r hr => .inl hr⟩⟩
  · refine ⟨ht.os, ht.tape, ht.output, ht.drawn, ht.size, ht.keep, ht.immKeep, fun r hr => .inl (ht.immMono r hr), fun r hr => ?_, fun i rb hi => ?_, fun i rb hi => ?_⟩
    · rcases hr with hr | ⟨b, rb, hb, hnk, hr⟩
      · exact ht.immNew r hr
      · have := (hfresh b rb hb (hgt b hnk)).2
        exact .inr (.inl (by omega))
    · rw [hlow i (h5 i (by simp [hi]))]
      exact ht.phi i rb hi
    · by_cases hil : i < F.n0
      · rw [hlow i hil] at hi
        exact ht.own i rb hi
      · obtain ⟨b, hb1, hb2⟩ := hcin i rb hi
        have hbge : F.n0 ≤ b := by
          rcases Nat.lt_or_ge b F.n0 with h | h
          · have := idxIn_of (i := 0) hnd (hst b h)
            have h2 := idxIn_of (i := 0) hnd hb1
            rw [show 0 + b = b by omega] at this
            rw [h2] at this
            simp at this; omega
          · exact h
        refine .inr ⟨?_, (hfresh b rb hb2 hbge).2⟩
        cases hp : φ0 i with
        | none => rfl
        | some rb0 => have := h5 i (by simp [hp]); omega
  · rw [slotGet_list]
    split
    · unfold gcS
      split
      · rename_i y hy; exact renT_ok hren hy (hr.slots t)
      · exact .junk _ _
    · exact .junk _ _
  · obtain ⟨b, hb1, hb2⟩ := hcin i rb hi
    obtain ⟨x, hx, hbr⟩ := hr.heap.blk b rb hb2
    have hx : s.heap[b]? = some x := hx
    refine ⟨gcB ks s.heap (some x), by rw [List.getElem?_map, hb1, Option.map_some, hx], ?_⟩
    unfold gcB
    simp only
    split
    · rename_i y hy
      refine renB_ok (fun q hq => .inl hq) hin hren (fun _ _ => rfO_dcell) (fun _ _ => rfO_simple) hy hbr fun hni => ?_
      rintro (h | ⟨b2, rb2, h1, h2, h3⟩)
      · exact hni h
      · have := hr.heap.inj b2 b rb2 rb h1 hb2 h3
        subst this
        exact h2 (List.mem_of_getElem? hb1)
    · trivial
  · obtain ⟨b, hb1, hb2⟩ := hcin i rb hi
    exact hr.heap.lt b rb hb2
  · obtain ⟨b, hb1, hb2⟩ := hcin i rb hi
    obtain ⟨c, hc1, hc2⟩ := hcin j rb' hj
    have := hr.heap.inj b c rb rb' hb2 hc2 he
    subst this
    have e1 := idxIn_of (i := 0) hnd hb1
    have e2 := idxIn_of (i := 0) hnd hc1
    rw [e1] at e2
    simpa using e2
  · rcases hr' with hr' | ⟨b, rb, hb, _, rfl⟩
    · exact hr.heap.immLt r hr'
    · exact hr.heap.lt b rb hb

end Vm
end Go.Proofs.YtdbpcmpkpbamhaaGreatDoor
