/- The abstract machine: abstract values, blocks, and what they say of a world of the model. No statement of the seat is proved here. -/
import Derived.Calls
import Derived.Orders
import Derived.Laws.Cells
import Derived.Laws.CopyRow
import Derived.Laws.StructEq
namespace Go.Proofs.YtdbpcmpkpbamhaaGreatDoor
set_option linter.unusedVariables false
set_option linter.unusedSimpArgs false
namespace Vm
open Go

/-- An abstract value. `sl`: a slice of memory that nobody writes any more; `ref`, `ptr`: into a block of the abstract heap. -/
inductive AV where
  | val (v : Value)
  | agg (cs : List AV)
  | tup (vs : List AV)
  | sl (nil : Option Bool) (cap : Option Nat) (k : Nat) (xs : List AV)
  | ipt (cs : List AV)
  | ref (b off len : Nat) (lim : Option Nat) (g k : Nat)
  | ptr (b i off : Nat) (g : Nat)
  | mp (b : Nat)
  | fn (f : Nat) (first captured : List AV)
  | gd (b : Bool) (x : AV)
  | junk
  deriving Inhabited

inductive Blk where
  | row (elems : List AV) (k gen : Nat)
  | box (cs : List AV) (ro : Bool)
  | map (es : List (AV × AV × Nat)) (clock : Nat)
  | iter (m : Option Nat) (since : Nat) (seen : List Nat) (last : Nat)
  | dead
  deriving Inhabited

structure St where
  slots : List (Nat × AV)
  heap : List Blk

/-- The package-level variables that are read, with what they hold. -/
def gl : List (Nat × List AV) := [(0, [.val (.string ⟨#[45]⟩), .val (.int .i64 0)])]

def cellsOf : AV → List AV
  | .agg cs => cs
  | x => [x]

def flat : List AV → List AV
  | [] => []
  | x :: xs => cellsOf x ++ flat xs

/-- One cell's value. -/
def AV.isCell : AV → Bool
  | .val v => v.oneCell'
  | .sl _ _ _ _ | .ref _ _ _ _ _ _ | .ptr _ _ _ _ | .ipt _ | .fn _ _ _ | .mp _ => true
  | _ => false

def AV.simple : AV → Bool
  | .val _ | .sl _ _ _ _ | .ipt _ => true
  | _ => false

/-- One cell's value without references into the abstract heap. -/
def AV.dcell : AV → Bool
  | .val v => v.oneCell'
  | .sl _ _ _ _ | .ipt _ => true
  | .fn _ f c => f.all AV.simple && c.all AV.simple
  | _ => false

/-- A value without references into the abstract heap. -/
def AV.data1 : AV → Bool
  | .agg cs => cs.all AV.dcell
  | .val _ => true
  | x => x.dcell

def AV.data : AV → Bool
  | .tup vs => vs.all AV.data1
  | x => x.data1

structure RB where
  base : Addr
  k : Nat
  n : Nat
  gen : Nat
  room : Nat

abbrev Phi := Nat → Option RB
def Phi.none : Phi := fun _ => Option.none

def SliceAt (rb : RB) (off len : Nat) (lim : Option Nat) (v : Value) : Prop :=
  ∃ a c, v = .slice (some a) len c ∧ len ≤ c ∧ off + len ≤ rb.n ∧ (lim = Option.none → rb.n ≤ c + off) ∧ (∀ m, lim = some m → c = m) ∧ (0 < c → a = rb.base.add (off * rb.k) ∧ off + c ≤ rb.room) ∧ a.spot = none

def IsSlice (v : Value) (len : Nat) : Prop := ∃ a c, v = .slice (some a) len c ∧ len ≤ c
def IsPtr (v : Value) : Prop := ∃ a, v = .pointer (some a)
def IsMap (v : Value) : Prop := ∃ r, v = .map (some r)

inductive VRel (cell : Addr → Option Value) (imm : Nat → Prop) : Phi → AV → Value → Prop
  | junk (φ : Phi) (v : Value) : VRel cell imm φ .junk v
  | val (φ : Phi) (v : Value) : VRel cell imm φ (.val v) v
  | agg (φ : Phi) (cs : List AV) (us : Array Value) (h : us.size = cs.length) (hc : ∀ (i : Nat) (c : AV) (u : Value), cs[i]? = some c → us[i]? = some u → VRel cell imm φ c u) : VRel cell imm φ (.agg cs) (.agg us)
  | tup (φ : Phi) (cs : List AV) (us : Array Value) (h : us.size = cs.length) (hc : ∀ (i : Nat) (c : AV) (u : Value), cs[i]? = some c → us[i]? = some u → VRel cell imm φ c u) : VRel cell imm φ (.tup cs) (.tuple us)
  | nil (φ : Phi) (n : Option Bool) (c : Option Nat) (k : Nat) (hn : n ≠ some false) (hc : c = none ∨ c = some 0) : VRel cell imm φ (.sl n c k []) (.slice none 0 0)
  | sl (φ : Phi) (n : Option Bool) (c : Option Nat) (xs : List AV) (a : Addr) (cap k : Nat) (us : Nat → Value) (hn : n ≠ some true) (hc : c = none ∨ c = some cap) (hcap : xs.length ≤ cap) (ha : a.spot = none)
      (hk : ∀ x ∈ xs, (cellsOf x).length = k)
      (hd : ∀ (j : Nat) (c : AV), (flat xs)[j]? = some c → imm a.block ∧ c.dcell = true ∧ cell (a.add j) = some (us j))
      (hv : ∀ (j : Nat) (c : AV), (flat xs)[j]? = some c → VRel cell imm (fun _ => none) c (us j)) : VRel cell imm φ (.sl n c k xs) (.slice (some a) xs.length cap)
  | ipt (φ : Phi) (cs : List AV) (a : Addr) (us : Nat → Value) (ha : a.spot = none)
      (hd : ∀ (j : Nat) (c : AV), cs[j]? = some c → imm a.block ∧ c.dcell = true ∧ cell (a.add j) = some (us j))
      (hv : ∀ (j : Nat) (c : AV), cs[j]? = some c → VRel cell imm (fun _ => none) c (us j)) : VRel cell imm φ (.ipt cs) (.pointer (some a))
  | ref (φ : Phi) (b off len : Nat) (lim : Option Nat) (g k : Nat) (v : Value) (rb : RB) (hb : φ b = some rb) (hg : g ≤ rb.gen) (hs : IsSlice v len) (hv : rb.gen = g → rb.k = k ∧ SliceAt rb off len lim v) : VRel cell imm φ (.ref b off len lim g k) v
  | ptr (φ : Phi) (b i off g : Nat) (v : Value) (rb : RB) (hb : φ b = some rb) (hg : g ≤ rb.gen) (hs : IsPtr v) (hv : rb.gen = g → v = .pointer (some (rb.base.add (i * rb.k + off)))) : VRel cell imm φ (.ptr b i off g) v
  | mp (φ : Phi) (b : Nat) (v : Value) (rb : RB) (hb : φ b = some rb) (hs : IsMap v) (hv : rb.gen = 0 → v = .map (some rb.base.block)) : VRel cell imm φ (.mp b) v
  | fn (φ : Phi) (f : Nat) (fs cs : List AV) (us vs : Array Value) (h1 : us.size = fs.length) (h2 : vs.size = cs.length)
      (hf : ∀ (i : Nat) (c : AV) (u : Value), fs[i]? = some c → us[i]? = some u → VRel cell imm φ c u) (hc : ∀ (i : Nat) (c : AV) (u : Value), cs[i]? = some c → vs[i]? = some u → VRel cell imm φ c u) : VRel cell imm φ (.fn f fs cs) (.func (.func f) us vs)
  | gd (φ : Phi) (b : Bool) (x : AV) (v : Value) (ht : b = true → VRel cell imm φ x v) (hf : b = false → v = undef) : VRel cell imm φ (.gd b x) v

theorem VRel.mono {cell cell' : Addr → Option Value} {imm imm' : Nat → Prop} (hc : ∀ a u, imm a.block → cell a = some u → cell' a = some u) (hi : ∀ r, imm r → imm' r)
    {φ : Phi} {x : AV} {v : Value} (h : VRel cell imm φ x v) : ∀ {φ' : Phi}, (∀ b rb, φ b = some rb → ∃ rb', φ' b = some rb' ∧ rb.gen ≤ rb'.gen ∧ (rb'.gen = rb.gen → rb' = rb)) → VRel cell' imm' φ' x v := by
  induction h with
  | junk φ v => intro φ' _; exact .junk _ _
  | val φ v => intro φ' _; exact .val _ _
  | agg φ cs us h _ ih => intro φ' hφ; exact .agg _ _ _ h fun i c u h1 h2 => ih i c u h1 h2 hφ
  | tup φ cs us h _ ih => intro φ' hφ; exact .tup _ _ _ h fun i c u h1 h2 => ih i c u h1 h2 hφ
  | nil φ n c k hn hc => intro φ' _; exact .nil _ _ _ _ hn hc
  | sl φ n c xs a cap k us hn hcc hcap ha hk hd hv ih =>
    intro φ' _
    exact .sl _ _ _ _ _ _ _ us hn hcc hcap ha hk (fun j c hj => ⟨hi _ (hd j c hj).1, (hd j c hj).2.1, hc _ _ (by have := (hd j c hj).1; unfold Addr.add; split <;> exact this) (hd j c hj).2.2⟩)
      fun j c hj => ih j c hj (fun b rb hb => by simp at hb)
  | ipt φ cs a us ha hd hv ih =>
    intro φ' _
    exact .ipt _ _ _ us ha (fun j c hj => ⟨hi _ (hd j c hj).1, (hd j c hj).2.1, hc _ _ (by have := (hd j c hj).1; unfold Addr.add; split <;> exact this) (hd j c hj).2.2⟩)
      fun j c hj => ih j c hj (fun b rb hb => by simp at hb)
  | ref φ b off len lim g k v rb hb hg hs hv =>
    intro φ' hφ
    obtain ⟨rb', h1, h2, h3⟩ := hφ b rb hb
    exact .ref _ _ _ _ _ _ _ _ rb' h1 (Nat.le_trans hg h2) hs fun he => by
      have : rb.gen = g := by omega
      rw [h3 (by omega)]; exact hv this
  | ptr φ b i off g v rb hb hg hs hv =>
    intro φ' hφ
    obtain ⟨rb', h1, h2, h3⟩ := hφ b rb hb
    exact .ptr _ _ _ _ _ _ rb' h1 (Nat.le_trans hg h2) hs fun he => by
      have : rb.gen = g := by omega
      rw [h3 (by omega)]; exact hv this
  | mp φ b v rb hb hs hv =>
    intro φ' hφ
    obtain ⟨rb', h1, h2, h3⟩ := hφ b rb hb
    exact .mp _ _ _ rb' h1 hs fun he => by rw [h3 (by omega)]; exact hv (by omega)
  | fn φ f fs cs us vs h1 h2 _ _ ih1 ih2 => intro φ' hφ; exact .fn _ _ _ _ _ _ h1 h2 (fun i c u a b => ih1 i c u a b hφ) fun i c u a b => ih2 i c u a b hφ
  | gd φ b x v _ hf ih => intro φ' hφ; exact .gd _ _ _ _ (fun hb => ih hb hφ) hf

theorem VRel.simple {cell : Addr → Option Value} {imm : Nat → Prop} {φ φ' : Phi} {x : AV} {v : Value} (h : VRel cell imm φ x v) (hd : x.simple = true) : VRel cell imm φ' x v := by
  cases h <;> simp [AV.simple] at hd
  case val => exact .val _ _
  case nil hn hc => exact .nil _ _ _ _ hn hc
  case sl a cap us hn hcc hcap ha hk h1 h2 => exact .sl _ _ _ _ _ _ _ us hn hcc hcap ha hk h1 h2
  case ipt a us ha h1 h2 => exact .ipt _ _ _ us ha h1 h2

theorem VRel.dcell {cell : Addr → Option Value} {imm : Nat → Prop} {φ φ' : Phi} {x : AV} {v : Value} (h : VRel cell imm φ x v) (hd : x.dcell = true) : VRel cell imm φ' x v := by
  cases h <;> simp [AV.dcell] at hd
  case val => exact .val _ _
  case nil hn hc => exact .nil _ _ _ _ hn hc
  case sl a cap us hn hcc hcap ha hk h1 h2 => exact .sl _ _ _ _ _ _ _ us hn hcc hcap ha hk h1 h2
  case ipt a us ha h1 h2 => exact .ipt _ _ _ us ha h1 h2
  case fn fs cs us vs h1 h2 hf hc =>
    exact .fn _ _ _ _ _ _ h1 h2 (fun i c u a b => (hf i c u a b).simple (hd.1 c (List.mem_of_getElem? a))) fun i c u a b => (hc i c u a b).simple (hd.2 c (List.mem_of_getElem? a))

theorem VRel.data1 {cell : Addr → Option Value} {imm : Nat → Prop} {φ φ' : Phi} {x : AV} {v : Value} (h : VRel cell imm φ x v) (hd : x.data1 = true) : VRel cell imm φ' x v := by
  cases x with
  | agg cs =>
    simp [AV.data1] at hd
    cases h with
    | agg _ _ us hs hc => exact .agg _ _ _ hs fun i c u a b => (hc i c u a b).dcell (hd c (List.mem_of_getElem? a))
  | val v => cases h; exact .val _ _
  | _ => exact h.dcell hd

theorem VRel.data {cell : Addr → Option Value} {imm : Nat → Prop} {φ φ' : Phi} {x : AV} {v : Value} (h : VRel cell imm φ x v) (hd : x.data = true) : VRel cell imm φ' x v := by
  cases x with
  | tup vs =>
    simp [AV.data] at hd
    cases h with
    | tup _ _ us hs hc => exact .tup _ _ _ hs fun i c u a b => (hc i c u a b).data1 (hd c (List.mem_of_getElem? a))
  | _ => exact h.data1 hd

theorem VRel.oneCell {cell : Addr → Option Value} {imm : Nat → Prop} {φ : Phi} {x : AV} {v : Value} (h : VRel cell imm φ x v) (hd : x.isCell = true) : v.oneCell' = true := by
  cases h <;> simp [AV.isCell] at hd
  case val => exact hd
  case nil => rfl
  case sl => rfl
  case ipt => rfl
  case fn => rfl
  case mp hb hs hv => obtain ⟨a, rfl⟩ := hs; rfl
  case ref hb hg hs hv => obtain ⟨a, c, rfl, _⟩ := hs; rfl
  case ptr hb hg hs hv => obtain ⟨a, rfl⟩ := hs; rfl

theorem dcell_isCell {x : AV} (h : x.dcell = true) : x.isCell = true := by cases x <;> simp_all [AV.dcell, AV.isCell]

/-! ### The heap -/
def RowAt (w : World) (imm : Nat → Prop) (φ : Phi) (base : Addr) (m : Nat) (cs : List AV) : Prop :=
  base.spot = none ∧ ∃ arr ty, w.heap[base.block]? = some (.cells arr ty (0, 0)) ∧ base.off + m ≤ arr.size ∧
    ∀ (j : Nat) (c : AV), cs[j]? = some c → ∃ u, arr[base.off + j]? = some u ∧ VRel w.cell? imm φ c u

def MapAt (w : World) (imm : Nat → Prop) (r : Nat) (es : List (AV × AV × Nat)) (clock : Nat) : Prop :=
  ∃ arr, w.heap[r]? = some (.map arr clock) ∧ arr.size = es.length ∧
    ∀ (i : Nat) (e : AV × AV × Nat) (m : MapEntry), es[i]? = some e → arr[i]? = some m → VRel w.cell? imm Phi.none e.1 m.key ∧ VRel w.cell? imm Phi.none e.2.1 m.val ∧ m.born = e.2.2

def IterOf (φ : Phi) (m : Option Nat) (mo : Option Nat) : Prop :=
  match m with
  | none => mo = none
  | some b => ∃ r rb, mo = some r ∧ φ b = some rb ∧ (rb.gen = 0 → r = rb.base.block)

def BRel (w : World) (imm : Nat → Prop) (φ : Phi) : Blk → RB → Prop
  | .row elems k g, rb => rb.gen = g ∧ rb.k = k ∧ rb.n = elems.length ∧ rb.n ≤ rb.room ∧ ¬ imm rb.base.block ∧ (∀ x ∈ elems, (cellsOf x).length = k) ∧ (∀ c ∈ flat elems, c.dcell = true) ∧ RowAt w imm Phi.none rb.base (rb.room * k) (flat elems)
  | .box cs ro, rb => rb.gen = 0 ∧ rb.k = cs.length ∧ (if ro then imm rb.base.block ∧ (∀ c ∈ cs, c.dcell = true) else ¬ imm rb.base.block) ∧ (∀ c ∈ cs, c.isCell = true) ∧ RowAt w imm φ rb.base cs.length cs
  | .map es clock, rb => rb.gen = 0 ∧ ¬ imm rb.base.block ∧ MapAt w imm rb.base.block es clock
  | .iter m since seen last, rb => rb.gen = 0 ∧ ¬ imm rb.base.block ∧ rb.base.off = 0 ∧ rb.base.spot = none ∧ ∃ mo, w.heap[rb.base.block]? = some (.mapIter mo since seen.toArray last) ∧ IterOf φ m mo
  | .dead, _ => True

/-- The listed package-level variables hold what is listed, and nobody writes them. -/
def Glob (cell : Addr → Option Value) (imm : Nat → Prop) : Prop := ∀ p ∈ gl, VRel cell imm Phi.none (.ipt p.2) (.pointer (some ⟨p.1, 0, none⟩))

structure Heap (w : World) (imm : Nat → Prop) (φ : Phi) (H : Nat → Option Blk) : Prop where
  blk : ∀ b rb, φ b = some rb → ∃ x, H b = some x ∧ BRel w imm φ x rb
  lt : ∀ b rb, φ b = some rb → rb.base.block < w.heap.size
  inj : ∀ b b' rb rb', φ b = some rb → φ b' = some rb' → rb.base.block = rb'.base.block → b = b'
  immLt : ∀ r, imm r → r < w.heap.size
  glob : Glob w.cell? imm

/-- What one step, a call, or a stretch of code does to the world; `wr`: the blocks that it may write. -/
structure Trans (w : World) (imm : Nat → Prop) (φ : Phi) (w' : World) (imm' : Nat → Prop) (φ' : Phi) (wr : Nat → Prop) : Prop where
  os : w'.os = w.os
  tape : w'.tape = w.tape
  output : w'.output = w.output
  drawn : w.drawn ≤ w'.drawn
  size : w.heap.size ≤ w'.heap.size
  keep : ∀ r, r < w.heap.size → (∀ b rb, φ b = some rb → wr b → rb.base.block ≠ r) → w'.heap[r]? = w.heap[r]?
  immKeep : ∀ r, imm r → w'.heap[r]? = w.heap[r]?
  immMono : ∀ r, imm r → imm' r
  immNew : ∀ r, imm' r → imm r ∨ w.heap.size ≤ r ∨ ∃ b rb, φ b = some rb ∧ rb.base.block = r ∧ wr b
  phi : ∀ b rb, φ b = some rb → ∃ rb', φ' b = some rb' ∧ rb.gen ≤ rb'.gen ∧ (rb'.gen = rb.gen → rb' = rb)
  own : ∀ b rb', φ' b = some rb' → (∃ rb, φ b = some rb ∧ (rb'.base.block = rb.base.block ∨ w.heap.size ≤ rb'.base.block)) ∨ (φ b = none ∧ w.heap.size ≤ rb'.base.block)

theorem cell_of_heap {w w' : World} {a : Addr} (h : w'.heap[a.block]? = w.heap[a.block]?) : w'.cell? a = w.cell? a := by simp [World.cell?, h]

theorem Trans.vrel {w w' : World} {imm imm' : Nat → Prop} {φ φ' : Phi} {wr : Nat → Prop} (t : Trans w imm φ w' imm' φ' wr) {x : AV} {v : Value} (h : VRel w.cell? imm φ x v) : VRel w'.cell? imm' φ' x v :=
  h.mono (fun a u hi hc => by rw [cell_of_heap (t.immKeep _ hi)]; exact hc) t.immMono t.phi

theorem Glob.trans {w w' : World} {imm imm' : Nat → Prop} {φ φ' : Phi} {wr : Nat → Prop} (g : Glob w.cell? imm) (t : Trans w imm φ w' imm' φ' wr) : Glob w'.cell? imm' := fun p hp =>
  (g p hp).mono (fun a u hi hc => by rw [cell_of_heap (t.immKeep _ hi)]; exact hc) t.immMono fun b rb hb => by simp [Phi.none] at hb

theorem Glob.mono {cell : Addr → Option Value} {imm imm' : Nat → Prop} (g : Glob cell imm) (h : ∀ r, imm r → imm' r) : Glob cell imm' := fun p hp =>
  (g p hp).mono (fun _ _ _ h => h) h fun b rb hb => by simp [Phi.none] at hb

theorem Trans.refl (w : World) (imm : Nat → Prop) (φ : Phi) (wr : Nat → Prop) : Trans w imm φ w imm φ wr :=
  ⟨rfl, rfl, rfl, Nat.le_refl _, Nat.le_refl _, fun _ _ _ => rfl, fun _ _ => rfl, fun _ h => h, fun _ h => .inl h, fun b rb h => ⟨rb, h, Nat.le_refl _, fun _ => rfl⟩, fun b rb h => .inl ⟨rb, h, .inl rfl⟩⟩

end Vm
end Go.Proofs.YtdbpcmpkpbamhaaGreatDoor

/- The abstract machine: steps of the world, and what it is for one operation to do what its abstract twin says. -/
namespace Go.Proofs.YtdbpcmpkpbamhaaGreatDoor
set_option linter.unusedVariables false
set_option linter.unusedSimpArgs false
namespace Vm
open Go

theorem Trans.comp {w w1 w2 : World} {imm imm1 imm2 : Nat → Prop} {φ φ1 φ2 : Phi} {wr1 wr2 wr : Nat → Prop} (s : Trans w imm φ w1 imm1 φ1 wr1) (t : Trans w1 imm1 φ1 w2 imm2 φ2 wr2)
    (h1 : ∀ b, wr1 b → wr b) (h2 : ∀ b, φ b ≠ none → wr2 b → wr b) : Trans w imm φ w2 imm2 φ2 wr := by
  have key : ∀ r, r < w.heap.size → (∀ b rb, φ b = some rb → wr b → rb.base.block ≠ r) → ∀ b rb1, φ1 b = some rb1 → wr2 b → rb1.base.block ≠ r := by
    intro r hr hne b rb1 hb hw
    rcases s.own b rb1 hb with ⟨rb, hp, e | e⟩ | ⟨_, e⟩
    · rw [e]; exact hne b rb hp (h2 b (by simp [hp]) hw)
    · omega
    · omega
  refine ⟨t.os.trans s.os, t.tape.trans s.tape, t.output.trans s.output, Nat.le_trans s.drawn t.drawn, Nat.le_trans s.size t.size, ?_, ?_, fun r h => t.immMono r (s.immMono r h), ?_, ?_, ?_⟩
  · intro r hr hne
    rw [t.keep r (Nat.lt_of_lt_of_le hr s.size) (key r hr hne), s.keep r hr fun b rb hb hw => hne b rb hb (h1 b hw)]
  · intro r hi
    rw [t.immKeep r (s.immMono r hi), s.immKeep r hi]
  · intro r hi
    rcases t.immNew r hi with hi | hi | ⟨b, rb1, hb, he, hw⟩
    · rcases s.immNew r hi with hi | hi | ⟨b, rb, hb, he, hw⟩
      · exact .inl hi
      · exact .inr (.inl hi)
      · exact .inr (.inr ⟨b, rb, hb, he, h1 b hw⟩)
    · exact .inr (.inl (Nat.le_trans s.size hi))
    · rcases s.own b rb1 hb with ⟨rb, hp, e | e⟩ | ⟨_, e⟩
      · exact .inr (.inr ⟨b, rb, hp, by rw [← e]; exact he, h2 b (by simp [hp]) hw⟩)
      · exact .inr (.inl (by omega))
      · exact .inr (.inl (by omega))
  · intro b rb hb
    obtain ⟨rb1, hb1, hg1, he1⟩ := s.phi b rb hb
    obtain ⟨rb2, hb2, hg2, he2⟩ := t.phi b rb1 hb1
    exact ⟨rb2, hb2, Nat.le_trans hg1 hg2, fun e => by rw [he2 (by omega), he1 (by omega)]⟩
  · intro b rb2 hb2
    have hsz := s.size
    rcases t.own b rb2 hb2 with ⟨rb1, hb1, e⟩ | ⟨hn, e⟩
    · rcases s.own b rb1 hb1 with ⟨rb, hb, e1⟩ | ⟨hn, e1⟩
      · refine .inl ⟨rb, hb, ?_⟩
        omega
      · exact .inr ⟨hn, by omega⟩
    · refine .inr ⟨?_, by omega⟩
      cases hp : φ b with
      | none => rfl
      | some rb => obtain ⟨rb1, hb1, _⟩ := s.phi b rb hp; rw [hn] at hb1; cases hb1

theorem RowAt.vrel {w w' : World} {imm imm' : Nat → Prop} {φ φ' : Phi} {base : Addr} {m : Nat} {cs : List AV} (h : RowAt w imm φ base m cs) (hk : w'.heap[base.block]? = w.heap[base.block]?)
    (hv : ∀ c u, VRel w.cell? imm φ c u → VRel w'.cell? imm' φ' c u) : RowAt w' imm' φ' base m cs := by
  obtain ⟨hs, arr, ty, ha, hl, hc⟩ := h
  exact ⟨hs, arr, ty, by rw [hk]; exact ha, hl, fun j c hj => let ⟨u, h1, h2⟩ := hc j c hj; ⟨u, h1, hv _ _ h2⟩⟩

theorem MapAt.vrel {w w' : World} {imm imm' : Nat → Prop} {r : Nat} {es : List (AV × AV × Nat)} {clock : Nat} (h : MapAt w imm r es clock) (hk : w'.heap[r]? = w.heap[r]?)
    (hv : ∀ c u, VRel w.cell? imm Phi.none c u → VRel w'.cell? imm' Phi.none c u) : MapAt w' imm' r es clock := by
  obtain ⟨arr, ha, hl, hc⟩ := h
  exact ⟨arr, by rw [hk]; exact ha, hl, fun i e m h1 h2 => let ⟨a, b, c⟩ := hc i e m h1 h2; ⟨hv _ _ a, hv _ _ b, c⟩⟩

theorem IterOf.mono {φ φ' : Phi} {m mo : Option Nat} (h : IterOf φ m mo) (hφ : ∀ b rb, φ b = some rb → ∃ rb', φ' b = some rb' ∧ rb.gen ≤ rb'.gen ∧ (rb'.gen = rb.gen → rb' = rb)) : IterOf φ' m mo := by
  cases m with
  | none => exact h
  | some b =>
    obtain ⟨r, rb, h1, h2, h3⟩ := h
    obtain ⟨rb', g1, g2, g3⟩ := hφ b rb h2
    exact ⟨r, rb', h1, g1, fun he => by rw [g3 (by omega)]; exact h3 (by omega)⟩

theorem none_phi : ∀ b rb, (Phi.none b = some rb) → ∃ rb', Phi.none b = some rb' ∧ rb.gen ≤ rb'.gen ∧ (rb'.gen = rb.gen → rb' = rb) := fun b rb h => by simp [Phi.none] at h

/-- A block that is not written keeps what it says. -/
theorem BRel.trans {w w' : World} {imm imm' : Nat → Prop} {φ φ' : Phi} {wr : Nat → Prop} (t : Trans w imm φ w' imm' φ' wr) {x : Blk} {rb : RB} (h : BRel w imm φ x rb) (hlt : rb.base.block < w.heap.size)
    (hne : ∀ b rb', φ b = some rb' → wr b → rb'.base.block ≠ rb.base.block) : BRel w' imm' φ' x rb := by
  have hk := t.keep rb.base.block hlt hne
  have hni : ¬ imm rb.base.block → ¬ imm' rb.base.block := by
    intro hn hi
    rcases t.immNew _ hi with hi | hi | ⟨b, rb', hb, he, hw⟩
    · exact hn hi
    · omega
    · exact hne b rb' hb hw he
  cases x with
  | row elems k g =>
    obtain ⟨h1, h2, h3, h3', h4, h5, h6, h7⟩ := h
    refine ⟨h1, h2, h3, h3', hni h4, h5, h6, h7.vrel hk fun c u hv => ?_⟩
    exact hv.mono (fun a u hi hc => by rw [cell_of_heap (t.immKeep _ hi)]; exact hc) t.immMono none_phi
  | box cs ro =>
    obtain ⟨h1, h2, h4, h5, h6⟩ := h
    refine ⟨h1, h2, ?_, h5, h6.vrel hk fun c u hv => t.vrel hv⟩
    cases ro
    · exact hni h4
    · exact ⟨t.immMono _ h4.1, h4.2⟩
  | map es clock =>
    obtain ⟨h1, h2, h3⟩ := h
    exact ⟨h1, hni h2, h3.vrel hk fun c u hv => hv.mono (fun a u hi hc => by rw [cell_of_heap (t.immKeep _ hi)]; exact hc) t.immMono none_phi⟩
  | iter m since seen last =>
    obtain ⟨h1, h2, h3, h4, mo, h5, h6⟩ := h
    exact ⟨h1, hni h2, h3, h4, mo, by rw [hk]; exact h5, h6.mono t.phi⟩
  | dead => trivial

def upd (H : Nat → Option Blk) (b : Nat) (x : Blk) : Nat → Option Blk := fun b' => if b' = b then some x else H b'
def phiSet (φ : Phi) (b : Nat) (rb : RB) : Phi := fun b' => if b' = b then some rb else φ b'

/-- One block is new, or is written anew. -/
theorem Heap.upd {w w' : World} {imm imm' : Nat → Prop} {φ : Phi} {H : Nat → Option Blk} (h : Heap w imm φ H) {b : Nat} {rb : RB} {x : Blk} (t : Trans w imm φ w' imm' (phiSet φ b rb) (· = b))
    (hx : BRel w' imm' (phiSet φ b rb) x rb) (hlt : rb.base.block < w'.heap.size) (hblk : (∃ r0, φ b = some r0 ∧ rb.base.block = r0.base.block) ∨ w.heap.size ≤ rb.base.block)
    (himm : ∀ r, imm' r → r < w'.heap.size) : Heap w' imm' (phiSet φ b rb) (upd H b x) := by
  have hsz := t.size
  have other : ∀ b' rb', b' ≠ b → φ b' = some rb' → rb'.base.block ≠ rb.base.block := by
    intro b' rb' hne hb' he
    rcases hblk with ⟨r0, h0, e0⟩ | hge
    · exact hne (h.inj b' b rb' r0 hb' h0 (by omega))
    · have := h.lt b' rb' hb'; omega
  refine ⟨?_, ?_, ?_, himm, h.glob.trans t⟩
  · intro b' rb' hb'
    by_cases e : b' = b
    · subst e
      simp [phiSet] at hb'
      subst hb'
      exact ⟨x, by simp [Vm.upd], hx⟩
    · simp [phiSet, e] at hb'
      obtain ⟨y, hy, hr⟩ := h.blk b' rb' hb'
      refine ⟨y, by simp [Vm.upd, e, hy], BRel.trans t hr (h.lt _ _ hb') fun b2 rb2 hb2 hw => ?_⟩
      subst hw
      intro he
      exact e (h.inj b' b2 rb' rb2 hb' hb2 he.symm)
  · intro b' rb' hb'
    by_cases e : b' = b
    · subst e; simp [phiSet] at hb'; subst hb'; exact hlt
    · simp [phiSet, e] at hb'
      exact Nat.lt_of_lt_of_le (h.lt _ _ hb') hsz
  · intro b1 b2 r1 r2 h1 h2 he
    by_cases e1 : b1 = b <;> by_cases e2 : b2 = b
    · rw [e1, e2]
    · subst e1; simp [phiSet] at h1; simp [phiSet, e2] at h2; subst h1
      exact absurd he.symm (other b2 r2 e2 h2)
    · subst e2; simp [phiSet] at h2; simp [phiSet, e1] at h1; subst h2
      exact absurd he (other b1 r1 e1 h1)
    · simp [phiSet, e1] at h1; simp [phiSet, e2] at h2
      exact h.inj b1 b2 r1 r2 h1 h2 he

/-- No block is written; the heap may have grown, more memory may be immutable. -/
theorem Heap.keep {w w' : World} {imm imm' : Nat → Prop} {φ : Phi} {H : Nat → Option Blk} (h : Heap w imm φ H) (t : Trans w imm φ w' imm' φ (fun _ => False)) (himm : ∀ r, imm' r → r < w'.heap.size) : Heap w' imm' φ H :=
  ⟨fun b rb hb => let ⟨x, hx, hr⟩ := h.blk b rb hb; ⟨x, hx, BRel.trans t hr (h.lt _ _ hb) fun _ _ _ hw => hw.elim⟩, fun b rb hb => Nat.lt_of_lt_of_le (h.lt _ _ hb) t.size, h.inj, himm, h.glob.trans t⟩

def all : Nat → Prop := fun _ => True

/-! ### One operation -/
inductive Eff where
  | none
  | alloc (x : Blk)
  | set (b : Nat) (x : Blk)

def Eff.wr : Eff → Nat → Prop
  | .set b _, b' => b' = b
  | _, _ => False
def Eff.app (e : Eff) (id : Nat) (H : Nat → Option Blk) : Nat → Option Blk :=
  match e with
  | .none => H
  | .alloc x => upd H id x
  | .set b x => upd H b x
def Eff.appL (e : Eff) (H : List Blk) : List Blk :=
  match e with
  | .none => H
  | .alloc x => H ++ [x]
  | .set b x => H.set b x
def Eff.isNew : Eff → Bool
  | .alloc _ => true
  | _ => false

def ofConst1 (v : Value) : AV := match v with
  | .slice none 0 0 => .sl (some true) (some 0) 0 []
  | v => .val v
def ofConst (v : Value) : AV := match v with
  | .agg cs => .agg (cs.toList.map ofConst1)
  | v => ofConst1 v

def slotGet : List (Nat × AV) → Nat → AV
  | [], _ => .junk
  | (k, v) :: r, t => match Nat.beq k t with | true => v | false => slotGet r t

def glGet : List (Nat × List AV) → Nat → AV
  | [], _ => .junk
  | (k, cs) :: r, g => match Nat.beq k g with
    | true => .ipt cs
    | false => glGet r g

theorem glGet_rel {cell : Addr → Option Value} {imm : Nat → Prop} (φ : Phi) (g : Nat) : ∀ (l : List (Nat × List AV)), (∀ p ∈ l, VRel cell imm Phi.none (.ipt p.2) (.pointer (some ⟨p.1, 0, none⟩))) → VRel cell imm φ (glGet l g) (.pointer (some ⟨g, 0, none⟩))
  | [], _ => .junk _ _
  | (k, cs) :: r, h => by
    simp only [glGet]
    split
    · rename_i e
      have := Nat.eq_of_beq_eq_true e
      subst this
      exact (h (k, cs) (by simp)).simple rfl
    · exact glGet_rel φ g r fun p hp => h p (by simp [hp])

def ev (s : St) : Operand → AV
  | .tmp t => slotGet s.slots t
  | .const v => ofConst v
  | .global g => glGet gl g
  | .func f => .fn f [] []

theorem ofConst1_rel {cell : Addr → Option Value} {imm : Nat → Prop} {φ : Phi} (v : Value) : VRel cell imm φ (ofConst1 v) v := by
  unfold ofConst1
  split
  · exact .nil _ _ _ _ (by simp) (by simp)
  · exact .val _ _

theorem ofConst_rel {cell : Addr → Option Value} {imm : Nat → Prop} {φ : Phi} (v : Value) : VRel cell imm φ (ofConst v) v := by
  unfold ofConst
  split
  · rename_i cs
    refine .agg _ _ _ (by simp) fun i c u hc hu => ?_
    simp at hc
    obtain ⟨x, hx, rfl⟩ := hc
    rw [hu] at hx
    cases hx
    exact ofConst1_rel _
  · exact ofConst1_rel _

/-- The operation comes to a value in a world of which R holds. -/
def Does (P : Program) (o : Oper) (a : Act) (w : World) (R : Value → World → Prop) : Prop :=
  ∀ (next : Act → World → Prop) (Q : Exit → Act → World → Prop), (∀ v w', R v w' → next (a.put o.dst v) w') → o.wp P a w next Q

theorem Does.of_run {P : Program} {o : Oper} {a : Act} {w w' : World} {R : Value → World → Prop} {v : Value} (h : (execOp a.eval o).run P w = .ok (.value v) w') (hr : R v w') : Does P o a w R := by
  intro next Q hn
  unfold Oper.wp
  rw [h]
  exact hn _ _ hr

theorem Does.of_skip {P : Program} {o : Oper} {a : Act} {w w' : World} {R : Value → World → Prop} (h : (execOp a.eval o).run P w = .ok .skip w') (hr : R undef w') : Does P o a w R := by
  intro next Q hn
  unfold Oper.wp
  rw [h]
  exact hn _ _ hr

/-- What the abstract heap and a result say behind an operation. -/
def After (w : World) (imm : Nat → Prop) (φ : Phi) (H : Nat → Option Blk) (id : Nat) (d : AV) (e : Eff) (v : Value) (w' : World) : Prop :=
  ∃ imm' φ', VRel w'.cell? imm' φ' d v ∧ Trans w imm φ w' imm' φ' e.wr ∧ Heap w' imm' φ' (e.app id H) ∧ (∀ b, φ b = none → φ' b ≠ none → e.isNew = true ∧ b = id) ∧ (e.isNew = true → φ' id ≠ none)

/-- The operation does what its abstract twin says: value d, effect e on the abstract heap; 'acc': the blocks that it looks at. -/
def OpOk (P : Program) (o : Oper) (s : St) (acc : List Nat) (d : AV) (e : Eff) : Prop :=
  ∀ (a : Act) (w : World) (imm : Nat → Prop) (φ : Phi) (H : Nat → Option Blk), (∀ x ∈ o.op.operands, VRel w.cell? imm φ (ev s x) (a.eval x)) → Heap w imm φ H → (e.isNew = true → φ s.heap.length = none) →
    (∀ b ∈ acc, H b = s.heap[b]?) → Does P o a w (After w imm φ H s.heap.length d e)

theorem After.pure {w : World} {imm : Nat → Prop} {φ : Phi} {H : Nat → Option Blk} {id : Nat} {d : AV} {v : Value} (hH : Heap w imm φ H) (hv : VRel w.cell? imm φ d v) : After w imm φ H id d .none v w :=
  ⟨imm, φ, hv, Trans.refl _ _ _ _, hH, fun b h1 h2 => absurd h1 h2, fun h => by simp [Eff.isNew] at h⟩

/-! ### Types -/
structure TI where
  u : TypeDesc
  size : Nat
  bytes : Nat
  zero : Option Value
  isAgg : Bool
  plain : Bool

structure TOk (P : Program) (T : Nat → Option TI) : Prop where
  under : ∀ t ti, T t = some ti → P.underlying t = some ti.u
  info : ∀ t ti, T t = some ti → ∃ i, P.info? t = some i ∧ i.size = ti.size ∧ i.bytes = ti.bytes ∧ i.zero = ti.zero
  plain : ∀ t ti, T t = some ti → ti.plain = true → P.stoodInHeld t = false ∧ P.eqGuardType P.depth t = false
  agg : ∀ t ti, T t = some ti → ti.isAgg = (match ti.u with | .struct _ | .array _ _ => true | _ => false)

section
variable {P : Program} {T : Nat → Option TI} (hT : TOk P T)
include hT
theorem TOk.run_underlying {t : Nat} {ti : TI} (h : T t = some ti) (w : World) : (underlying t).run P w = .ok ti.u w := by
  simp [underlying, hT.under t ti h]
theorem TOk.run_typeInfo {t : Nat} {ti : TI} (h : T t = some ti) (w : World) : ∃ i, (typeInfo t).run P w = .ok i w ∧ i.size = ti.size ∧ i.bytes = ti.bytes ∧ i.zero = ti.zero := by
  obtain ⟨i, hi, h1, h2, h3⟩ := hT.info t ti h
  exact ⟨i, by simp [typeInfo, hi], h1, h2, h3⟩
theorem TOk.run_sizeOf {t : Nat} {ti : TI} (h : T t = some ti) (w : World) : (sizeOf t).run P w = .ok ti.size w := by
  obtain ⟨i, hi, h1, _⟩ := hT.run_typeInfo h w
  simp [sizeOf, hi, h1]
theorem TOk.run_zeroValue {t : Nat} {ti : TI} {z : Value} (h : T t = some ti) (hz : ti.zero = some z) (w : World) : (zeroValue t).run P w = .ok z w := by
  obtain ⟨i, hi, _, _, h3⟩ := hT.run_typeInfo h w
  simp [zeroValue, hi, h3, hz]
theorem TOk.run_isAgg {t : Nat} {ti : TI} (h : T t = some ti) (w : World) : (isAgg t).run P w = .ok ti.isAgg w := by
  have := hT.agg t ti h
  simp only [isAgg, Sem.run_bind, hT.run_underlying h, Result.andThen_ok]
  rw [this]
  split <;> simp_all
end

end Vm
end Go.Proofs.YtdbpcmpkpbamhaaGreatDoor

/- The abstract machine: the operations that neither write memory nor make any. -/
namespace Go.Proofs.YtdbpcmpkpbamhaaGreatDoor
set_option linter.unusedVariables false
set_option linter.unusedSimpArgs false
namespace Vm
open Go

def imp (c : Option Bool) (p : Prop) : Prop :=
  match c with
  | none => p
  | some b => b = true → p

theorem imp.mono {c : Option Bool} {p q : Prop} (h : imp c p) (f : p → q) : imp c q := by
  cases c
  · exact f h
  · exact fun hb => f (h hb)
theorem imp.of {c : Option Bool} {p : Prop} (h : p) : imp c p := by
  cases c
  · exact h
  · exact fun _ => h
theorem imp.and {c : Option Bool} {p q : Prop} (h : imp c p) (k : imp c q) : imp c (p ∧ q) := by
  cases c
  · exact ⟨h, k⟩
  · exact fun hb => ⟨h hb, k hb⟩

/-- Makes the head of a value seen before going on. -/
def strict (x : AV) (k : AV → Prop) : Prop :=
  match x with
  | .val v => k (.val v)
  | .agg cs => k (.agg cs)
  | .tup vs => k (.tup vs)
  | .sl n c q xs => k (.sl n c q xs)
  | .ipt cs => k (.ipt cs)
  | .ref b off len lim g n => k (.ref b off len lim g n)
  | .ptr b i off g => k (.ptr b i off g)
  | .mp b => k (.mp b)
  | .fn f a b => k (.fn f a b)
  | .gd b x => k (.gd b x)
  | .junk => k .junk
theorem strict_eq (x : AV) (k : AV → Prop) : strict x k = k x := by cases x <;> rfl

/-! What is known is worked out at once (nothing else is said by these). -/
def forceN : Nat → (Nat → Prop) → Prop
  | 0, k => k 0
  | n + 1, k => forceN n fun m => k (m + 1)
theorem forceN_eq : ∀ (n : Nat) (k : Nat → Prop), forceN n k = k n
  | 0, k => rfl
  | n + 1, k => by rw [forceN, forceN_eq n]
def forceL : List AV → (List AV → Prop) → Prop
  | [], k => k []
  | x :: xs, k => strict x fun x => forceL xs fun xs => k (x :: xs)
theorem forceL_eq : ∀ (xs : List AV) (k : List AV → Prop), forceL xs k = k xs
  | [], k => rfl
  | x :: xs, k => by rw [forceL, strict_eq, forceL_eq xs]
def force1 (x : AV) (k : AV → Prop) : Prop :=
  match x with
  | .agg cs => forceL cs fun cs => k (.agg cs)
  | x => strict x k
theorem force1_eq (x : AV) (k : AV → Prop) : force1 x k = k x := by
  cases x <;> simp only [force1, strict_eq, forceL_eq]
def forceLD : List AV → (List AV → Prop) → Prop
  | [], k => k []
  | x :: xs, k => force1 x fun x => forceLD xs fun xs => k (x :: xs)
theorem forceLD_eq : ∀ (xs : List AV) (k : List AV → Prop), forceLD xs k = k xs
  | [], k => rfl
  | x :: xs, k => by rw [forceLD, force1_eq, forceLD_eq xs]
def forceD (x : AV) (k : AV → Prop) : Prop :=
  match x with
  | .agg cs => forceL cs fun cs => k (.agg cs)
  | .tup vs => forceLD vs fun vs => k (.tup vs)
  | .ref b off len lim g n => forceN b fun b => k (.ref b off len lim g n)
  | .ptr b i off g => forceN b fun b => forceN off fun off => k (.ptr b i off g)
  | .mp b => forceN b fun b => k (.mp b)
  | .fn f a c => forceL a fun a => forceL c fun c => k (.fn f a c)
  | .ipt cs => forceL cs fun cs => k (.ipt cs)
  | .gd b x => match x with
    | .agg cs => forceL cs fun cs => k (.gd b (.agg cs))
    | .ptr b' i off g => forceN b' fun b' => forceN off fun off => k (.gd b (.ptr b' i off g))
    | x => strict x fun x => k (.gd b x)
  | x => strict x k
theorem forceD_eq (x : AV) (k : AV → Prop) : forceD x k = k x := by
  cases x with
  | gd b x => cases x <;> simp only [forceD, strict_eq, forceL_eq, forceN_eq]
  | _ => simp only [forceD, strict_eq, forceL_eq, forceLD_eq, forceN_eq]
def forceB (x : Blk) (k : Blk → Prop) : Prop :=
  match x with
  | .box cs ro => forceL cs fun cs => k (.box cs ro)
  | .row e n g => k (.row e n g)
  | .map es c => k (.map es c)
  | .iter m a b c => k (.iter m a b c)
  | .dead => k .dead
theorem forceB_eq (x : Blk) (k : Blk → Prop) : forceB x k = k x := by
  cases x <;> simp only [forceB, forceL_eq]
def forceH : List Blk → (List Blk → Prop) → Prop
  | [], k => k []
  | x :: xs, k => forceB x fun x => forceH xs fun xs => k (x :: xs)
theorem forceH_eq : ∀ (xs : List Blk) (k : List Blk → Prop), forceH xs k = k xs
  | [], k => rfl
  | x :: xs, k => by rw [forceH, forceB_eq, forceH_eq xs]

/-! ### Arithmetic -/
def i64ok (n : Int) : Prop := -9223372036854775808 ≤ n ∧ n ≤ 9223372036854775807
theorem wrap_i64 {n : Int} (h : i64ok n) : IntKind.i64.wrap n = n := by
  unfold i64ok at h
  have e : IntKind.i64.wrap n = if n % 18446744073709551616 ≥ 9223372036854775808 then n % 18446744073709551616 - 18446744073709551616 else n % 18446744073709551616 := by
    simp [IntKind.wrap, IntKind.bits, IntKind.signed]
  rw [e]
  split <;> omega

/-- An int's sum, difference, product: no wrap-round (an obligation); of the other kinds with it. -/
def arith (k : IntKind) (n : Int) (K : Prop → Int → Prop) : Prop :=
  match k with
  | .i64 => K (i64ok n) n
  | k => K True (k.wrap n)
theorem arith_spec {k : IntKind} {n : Int} {K : Prop → Int → Prop} (h : arith k n K) : ∃ o m, K o m ∧ (o → k.wrap n = m) := by
  cases k <;> first
    | exact ⟨_, _, h, fun ho => wrap_i64 ho⟩
    | exact ⟨_, _, h, fun _ => rfl⟩

def bitsOf (op : BinOp) (k : IntKind) (x y : Int) : Int :=
  let a := BitVec.ofInt k.bits x
  let b := BitVec.ofInt k.bits y
  match op with
  | .and => k.wrap (a &&& b).toNat
  | .or => k.wrap (a ||| b).toNat
  | .xor => k.wrap (a ^^^ b).toNat
  | _ => k.wrap (a &&& ~~~b).toNat

def intBin (op : BinOp) (k : IntKind) (a b : Int) (K : Prop → Value → Prop) : Prop :=
  match op with
  | .add => arith k (a + b) fun o n => K o (.int k n)
  | .sub => arith k (a - b) fun o n => K o (.int k n)
  | .mul => arith k (a * b) fun o n => K o (.int k n)
  | .quo => K (b ≠ 0) (.int k (k.wrap (a.tdiv b)))
  | .rem => K (b ≠ 0) (.int k (a.tmod b))
  | .and => K True (.int k (bitsOf .and k a b))
  | .or => K True (.int k (bitsOf .or k a b))
  | .xor => K True (.int k (bitsOf .xor k a b))
  | .andNot => K True (.int k (bitsOf .andNot k a b))
  | .eql => K True (.bool (a == b))
  | .neq => K True (.bool (a != b))
  | .lss => K True (.bool (decide (a < b)))
  | .leq => K True (.bool (decide (a ≤ b)))
  | .gtr => K True (.bool (decide (a > b)))
  | .geq => K True (.bool (decide (a ≥ b)))
  | _ => False

theorem intBin_spec {P : Program} {op : BinOp} {t k a b} {K : Prop → Value → Prop} (h : intBin op k a b K) : ∃ o v, K o v ∧ (o → ∀ w, (binOp op t (.int k a) (.int k b)).run P w = .ok v w) := by
  cases op <;> simp only [intBin] at h
  case add => obtain ⟨o, m, h1, h2⟩ := arith_spec h; exact ⟨_, _, h1, fun ho w => by simp [binOp, Op.intArith, h2 ho]⟩
  case sub => obtain ⟨o, m, h1, h2⟩ := arith_spec h; exact ⟨_, _, h1, fun ho w => by simp [binOp, Op.intArith, h2 ho]⟩
  case mul => obtain ⟨o, m, h1, h2⟩ := arith_spec h; exact ⟨_, _, h1, fun ho w => by simp [binOp, Op.intArith, h2 ho]⟩
  case quo => exact ⟨_, _, h, fun ho w => by simp [binOp, Op.intDiv, ho]⟩
  case rem => exact ⟨_, _, h, fun ho w => by simp [binOp, Op.intDiv, ho]⟩
  case and => exact ⟨_, _, h, fun ho w => by simp [binOp, Op.intBits, bitsOf]⟩
  case or => exact ⟨_, _, h, fun ho w => by simp [binOp, Op.intBits, bitsOf]⟩
  case xor => exact ⟨_, _, h, fun ho w => by simp [binOp, Op.intBits, bitsOf]⟩
  case andNot => exact ⟨_, _, h, fun ho w => by simp [binOp, Op.intBits, bitsOf]⟩
  case eql => exact ⟨_, _, h, fun ho w => by simp [binOp, Op.intCmp]⟩
  case neq => exact ⟨_, _, h, fun ho w => by simp [binOp, Op.intCmp]⟩
  case lss => exact ⟨_, _, h, fun ho w => by simp [binOp, Op.intCmp]⟩
  case leq => exact ⟨_, _, h, fun ho w => by simp [binOp, Op.intCmp]⟩
  case gtr => exact ⟨_, _, h, fun ho w => by simp [binOp, Op.intCmp]⟩
  case geq => exact ⟨_, _, h, fun ho w => by simp [binOp, Op.intCmp]⟩

def shiftBin (op : BinOp) (k : IntKind) (a b : Int) (K : Prop → Value → Prop) : Prop :=
  match op with
  | .shl => K (0 ≤ b) (.int k (k.wrap (a * 2 ^ (min b.toNat k.bits))))
  | .shr => K (0 ≤ b) (.int k (a.fdiv (2 ^ (min b.toNat k.bits))))
  | _ => False

theorem shiftBin_spec {P : Program} {op : BinOp} {t k k' a b} {K : Prop → Value → Prop} (h : shiftBin op k a b K) : ∃ o v, K o v ∧ (o → ∀ w, (binOp op t (.int k a) (.int k' b)).run P w = .ok v w) := by
  cases op <;> simp only [shiftBin] at h
  case shl => exact ⟨_, _, h, fun ho w => by simp [binOp, Op.shift, Int.not_lt.2 ho]⟩
  case shr => exact ⟨_, _, h, fun ho w => by simp [binOp, Op.shift, Int.not_lt.2 ho]⟩

def strBin (op : BinOp) (a b : ByteArray) (K : Prop → Value → Prop) : Prop :=
  match op with
  | .add => K (a.size + b.size ≤ 9223372036854775807) (.string (a ++ b))
  | .eql => K True (.bool (a == b))
  | .neq => K True (.bool (!(a == b)))
  | .lss => K True (.bool (Op.bytesLess a.toList b.toList))
  | .leq => K True (.bool (Op.bytesLess a.toList b.toList || a == b))
  | .gtr => K True (.bool (!(Op.bytesLess a.toList b.toList || a == b)))
  | .geq => K True (.bool (!Op.bytesLess a.toList b.toList))
  | _ => False

theorem strBin_spec {P : Program} {op : BinOp} {t a b} {K : Prop → Value → Prop} (h : strBin op a b K) : ∃ o v, K o v ∧ (o → ∀ w, (binOp op t (.string a) (.string b)).run P w = .ok v w) := by
  cases op <;> simp only [strBin] at h
  case add =>
    refine ⟨_, _, h, fun ho w => ?_⟩
    have : ¬ ((a.size + b.size : Nat) : Int) > IntKind.i64.max := by
      have e : IntKind.i64.max = 9223372036854775807 := by decide
      rw [e]; omega
    simp only [binOp, Op.stringOp, if_neg this]
    rfl
  case eql => exact ⟨_, _, h, fun ho w => by simp [binOp, Op.stringOp, beq_toListBytes]⟩
  case neq => exact ⟨_, _, h, fun ho w => by simp [binOp, Op.stringOp, beq_toListBytes]⟩
  case lss => exact ⟨_, _, h, fun ho w => by simp [binOp, Op.stringOp, beq_toListBytes]⟩
  case leq => exact ⟨_, _, h, fun ho w => by simp [binOp, Op.stringOp, beq_toListBytes]⟩
  case gtr => exact ⟨_, _, h, fun ho w => by simp [binOp, Op.stringOp, beq_toListBytes]⟩
  case geq => exact ⟨_, _, h, fun ho w => by simp [binOp, Op.stringOp, beq_toListBytes]⟩

/-! ### Equality of structs -/
section
variable (T : Nat → Option TI)
def partOf (ti : TI) (xs : List AV) (off : Nat) : Option AV :=
  match ti.isAgg with
  | true => some (.agg ((xs.drop off).take ti.size))
  | false => xs[off]?

mutual
def eqT : Nat → Nat → AV → AV → Option Bool
  | 0, _, _, _ => none
  | d + 1, t, x, y =>
    match T t with
    | none => none
    | some ti =>
      match ti.u, x, y with
      | .int _, .val (.int k a), .val (.int k' b) => if k = k' then some (a == b) else none
      | .bool, .val (.bool a), .val (.bool b) => some (a == b)
      | .string, .val (.string a), .val (.string b) => some (a == b)
      | .struct fs, .agg xs, .agg ys => match ti.plain with
        | true => eqFs d fs.toList xs ys
        | false => none
      | _, _, _ => none
def eqFs : Nat → List Field → List AV → List AV → Option Bool
  | 0, _, _, _ => none
  | _ + 1, [], _, _ => some true
  | d + 1, f :: fs, xs, ys =>
    match T f.type with
    | none => none
    | some ti =>
      if f.name = "_" then none else
      match partOf ti xs f.offset, partOf ti ys f.offset with
      | some px, some py => match eqT d f.type px py, eqFs d fs xs ys with
        | some b, some r => some (b && r)
        | _, _ => none
      | _, _ => none
end
end

end Vm
end Go.Proofs.YtdbpcmpkpbamhaaGreatDoor

/- The abstract machine: what one operation does, as a condition that is reckoned out; the operations that neither write memory nor make any. -/
namespace Go.Proofs.YtdbpcmpkpbamhaaGreatDoor
set_option linter.unusedVariables false
set_option linter.unusedSimpArgs false
namespace Vm
open Go

section
variable {P : Program} {T : Nat → Option TI} (hT : TOk P T)
include hT

theorem part_rel {cell : Addr → Option Value} {imm : Nat → Prop} {φ : Phi} {xs : List AV} {us : Array Value} (hs : us.size = xs.length)
    (hc : ∀ (i : Nat) (c : AV) (u : Value), xs[i]? = some c → us[i]? = some u → VRel cell imm φ c u) {t : Nat} {ti : TI} (ht : T t = some ti) {off : Nat} {px : AV} (hp : partOf ti xs off = some px) (w : World) :
    ∃ u, (part t us off).run P w = .ok u w ∧ VRel cell imm φ px u := by
  unfold partOf at hp
  simp only [part, Sem.run_bind, hT.run_isAgg ht, Result.andThen_ok]
  cases ha : ti.isAgg with
  | true =>
    rw [ha] at hp
    simp at hp
    subst hp
    refine ⟨_, by simp only [if_true, Sem.run_bind, hT.run_sizeOf ht, Result.andThen_ok]; rfl, .agg _ _ _ (by simp [hs]; omega) fun i c u h1 h2 => ?_⟩
    rw [List.getElem?_take] at h1
    split at h1
    · rw [List.getElem?_drop] at h1
      rw [Array.getElem?_extract] at h2
      split at h2
      · exact hc _ _ _ h1 h2
      · cases h2
    · cases h1
  | false =>
    rw [ha] at hp
    simp only at hp
    have hlt : off < xs.length := (List.getElem?_eq_some_iff.1 hp).1
    have hu : us[off]? = some us[off] := Array.getElem?_eq_getElem (by omega)
    refine ⟨us[off]'(by omega), by simp only [Bool.false_eq_true, if_false, hu]; rfl, hc _ _ _ hp hu⟩

theorem fieldsOf_eq {t : Nat} {ti : TI} {fs : Array Field} (ht : T t = some ti) (hu : ti.u = .struct fs) : P.underlying t = some (.struct (P.fieldsOf t)) ∧ P.fieldsOf t = fs := by
  have := hT.under t ti ht
  rw [hu] at this
  have e : P.fieldsOf t = fs := by simp [Program.fieldsOf, this]
  exact ⟨by rw [e]; exact this, e⟩

theorem eq_spec {cell : Addr → Option Value} {imm : Nat → Prop} {φ : Phi} (d : Nat) :
    (∀ t x y b u v, eqT T d t x y = some b → VRel cell imm φ x u → VRel cell imm φ y v → ∀ D w, d ≤ D → (Op.equalIn D t u v).run P w = .ok b w) ∧
    (∀ fs xs ys b (us vs : Array Value), eqFs T d fs xs ys = some b → us.size = xs.length → (∀ (i : Nat) (c : AV) (u : Value), xs[i]? = some c → us[i]? = some u → VRel cell imm φ c u) →
      vs.size = ys.length → (∀ (i : Nat) (c : AV) (u : Value), ys[i]? = some c → vs[i]? = some u → VRel cell imm φ c u) → ∀ D w, d ≤ D → (Op.eqFields D us vs fs).run P w = .ok b w) := by
  induction d with
  | zero => exact ⟨fun t x y b u v h => by simp [eqT] at h, fun fs xs ys b us vs h => by simp [eqFs] at h⟩
  | succ d ih =>
    obtain ⟨ihT, ihF⟩ := ih
    constructor
    · intro t x y b u v h hx hy D w hD
      obtain ⟨D, rfl⟩ : ∃ n, D = n + 1 := ⟨D - 1, by omega⟩
      simp only [eqT] at h
      split at h
      · cases h
      · rename_i ti ht
        split at h
        · rename_i k1 k a k' b' hu
          split at h
          · rename_i hk
            subst hk
            cases h
            cases hx; cases hy
            exact run_equalIn_int w D t k k1 a b' (by rw [hT.under t ti ht, hu])
          · cases h
        · rename_i a b' hu
          cases h; cases hx; cases hy
          exact run_equalIn_bool' w D t a b' (by rw [hT.under t ti ht, hu])
        · rename_i a b' hu
          cases h; cases hx; cases hy
          rw [run_equalIn_string w D t a b' (by rw [hT.under t ti ht, hu]), beq_toListBytes]
        · rename_i fs xs ys hu
          split at h
          · rename_i hpl
            cases hx with | agg _ _ us hs hc => cases hy with | agg _ _ vs hs' hc' =>
            obtain ⟨hun, hf⟩ := fieldsOf_eq hT ht hu
            rw [run_equalIn_agg w D t us vs hun (hT.plain t ti ht hpl).1, hf]
            exact ihF _ _ _ _ _ _ h hs hc hs' hc' D w (by omega)
          · cases h
        · cases h
    · intro fs xs ys b us vs h hs hc hs' hc' D w hD
      cases fs with
      | nil => simp only [eqFs] at h; cases h; simp [Op.eqFields]
      | cons f fs =>
        simp only [eqFs] at h
        split at h
        · cases h
        · rename_i ti ht
          split at h
          · cases h
          · rename_i hne
            split at h
            · rename_i px py hpx hpy
              split at h
              · rename_i b1 r h1 h2
                cases h
                obtain ⟨u, hu1, hu2⟩ := part_rel hT hs hc ht hpx w
                obtain ⟨v, hv1, hv2⟩ := part_rel hT hs' hc' ht hpy w
                have e1 := ihT _ _ _ _ _ _ h1 hu2 hv2 D w (by omega)
                have e2 := ihF _ _ _ _ _ _ h2 hs hc hs' hc' D w (by omega)
                simp only [Op.eqFields, if_pos (show f.name ≠ "_" from hne), Sem.run_bind, hu1, hv1, e1, Result.andThen_ok]
                cases b1
                · simp
                · simpa using e2
              · cases h
            · cases h
end

end Vm
end Go.Proofs.YtdbpcmpkpbamhaaGreatDoor
