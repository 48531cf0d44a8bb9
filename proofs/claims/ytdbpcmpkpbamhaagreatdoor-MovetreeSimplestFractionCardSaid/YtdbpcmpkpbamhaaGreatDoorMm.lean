/- Walks: comparisons of Ids and nodes. -/
import Derived.Test.YtdbpcmpkpbamhaaGreatDoorMl
namespace Go.Proofs.YtdbpcmpkpbamhaaGreatDoor
set_option linter.unusedVariables false
set_option linter.unusedSimpArgs false
set_option maxRecDepth 100000
namespace Vm
open Go

structure Id where
  au : List UInt8
  n : Int
  deriving DecidableEq
structure Node where
  id : Id
  par : Id
  neg : Bool
  num : List UInt8
  den : List UInt8
  kind : List UInt8
  deriving DecidableEq
abbrev idA (x : Id) : AV := .agg [str x.au, i64 x.n]
abbrev nodeA (x : Node) : AV := .agg [str x.id.au, i64 x.id.n, str x.par.au, i64 x.par.n, .val (.bool x.neg), str x.num, str x.den, str x.kind]

def lessS (a b : List UInt8) : Bool := Op.bytesLess a b
def cmpS (a b : List UInt8) : Int := if lessS a b then -1 else if a == b then 0 else 1
def cmpI (a b : Int) : Int := if a < b then -1 else if a > b then 1 else 0
def orI (a b : Int) : Int := if a = 0 then b else a
def lessId (a b : Id) : Int := orI (cmpS a.au b.au) (cmpI a.n b.n)
def Node.cmpPlace (a b : Node) : Int := (numI a.neg a.num * denN b.den - numI b.neg b.num * denN a.den).sign
def sibCmp (a b : Node) : Int := orI (a.cmpPlace b) (lessId a.id b.id)

theorem bs_toList (l : List UInt8) : (bs l).toList = l := by rw [ByteArray.toList_eq]

theorem s190 : Setting Tryz.prog tys (fi 190 Tryz.f190) := setting (by kernel_rfl) (by kernel_rfl)
theorem s191 : Setting Tryz.prog tys (fi 191 Tryz.f191) := setting (by kernel_rfl) (by kernel_rfl)
theorem s131 : Setting Tryz.prog tys (fi 131 Tryz.f131) := setting (by kernel_rfl) (by kernel_rfl)
theorem s132 : Setting Tryz.prog tys (fi 132 Tryz.f132) := setting (by kernel_rfl) (by kernel_rfl)
theorem s130 : Setting Tryz.prog tys (fi 130 Tryz.f130) := setting (by kernel_rfl) (by kernel_rfl)
theorem s64 : Setting Tryz.prog tys (fi 64 Tryz.f64) := setting (by kernel_rfl) (by kernel_rfl)
theorem s63 : Setting Tryz.prog tys (fi 63 Tryz.f63) := setting (by kernel_rfl) (by kernel_rfl)
theorem s134 : Setting Tryz.prog tys (fi 134 Tryz.f134) := setting (by kernel_rfl) (by kernel_rfl)
theorem c190 (a : List UInt8) : PureC Tryz.prog 190 [str a] (.val (.bool false)) := by
  refine pureC_of_vc s190 rfl (Nat.le_of_ble_eq_true rfl) rfl ?_
  refine vc_at s190 [] 100 ?_
  repeat' first
    | apply And.intro
    | exact (fun h => Bool.noConfusion h)
    | (refine chkI ?_; kernel_rfl)
    | (refine chkBI ?_; kernel_rfl)
    | exact (fun _ => True.intro)
    | exact True.intro
    | exact (fun h => h)
    | exact rfl
    | decide
    | exact (fun _ => by decide)
    | exact (show (_ : Int) ≠ _ by decide)
    | fail
  rw [bs_eq]
  show AV.val (.bool (!(a == a))) = _
  simp

theorem c191 (a : Int) : PureC Tryz.prog 191 [i64 a] (.val (.bool false)) := by
  refine pureC_of_vc s191 rfl (Nat.le_of_ble_eq_true rfl) rfl ?_
  refine vc_at s191 [] 100 ?_
  repeat' first
    | apply And.intro
    | exact (fun h => Bool.noConfusion h)
    | (refine chkI ?_; kernel_rfl)
    | (refine chkBI ?_; kernel_rfl)
    | exact (fun _ => True.intro)
    | exact True.intro
    | exact (fun h => h)
    | exact rfl
    | decide
    | exact (fun _ => by decide)
    | exact (show (_ : Int) ≠ _ by decide)
    | fail
  show AV.val (.bool (!(a == a))) = _
  simp

theorem c131 (a b : List UInt8) : PureC Tryz.prog 131 [str a, str b] (i64 (cmpS a b)) := by
  refine pureC_of_vc s131 rfl (Nat.le_of_ble_eq_true rfl) rfl ?_
  refine vc_at s131 [] 100 ?_
  repeat' first
    | apply And.intro
    | exact (fun h => Bool.noConfusion h)
    | (refine chkI ?_; kernel_rfl)
    | (refine chkBI ?_; kernel_rfl)
    | exact (fun _ => True.intro)
    | exact True.intro
    | exact (fun h => h)
    | exact rfl
    | decide
    | exact (fun _ => by decide)
    | exact (show (_ : Int) ≠ _ by decide)
    | fail
  refine Exists.intro _ (And.intro (c190 a) ?_)
  repeat' first
    | apply And.intro
    | exact (fun h => Bool.noConfusion h)
    | (refine chkI ?_; kernel_rfl)
    | (refine chkBI ?_; kernel_rfl)
    | exact (fun _ => True.intro)
    | exact True.intro
    | exact (fun h => h)
    | exact rfl
    | decide
    | exact (fun _ => by decide)
    | exact (show (_ : Int) ≠ _ by decide)
    | fail
  refine Exists.intro _ (And.intro (c190 b) ?_)
  repeat' first
    | apply And.intro
    | exact (fun h => Bool.noConfusion h)
    | (refine chkI ?_; kernel_rfl)
    | (refine chkBI ?_; kernel_rfl)
    | exact (fun _ => True.intro)
    | exact True.intro
    | exact (fun h => h)
    | exact rfl
    | decide
    | exact (fun _ => by decide)
    | exact (show (_ : Int) ≠ _ by decide)
    | fail
  rw [bs_toList, bs_toList]
  unfold cmpS
  conv => whnf
  split
  · rename_i h
    rw [show lessS a b = true from h]
    repeat' first
      | apply And.intro
      | exact (fun h => Bool.noConfusion h)
      | (refine chkI ?_; kernel_rfl)
      | (refine chkBI ?_; kernel_rfl)
      | exact (fun _ => True.intro)
      | exact True.intro
      | exact (fun h => h)
      | exact rfl
      | decide
      | exact (fun _ => by decide)
      | exact (show (_ : Int) ≠ _ by decide)
      | fail
  · rename_i h
    rw [show lessS a b = false from h]
    repeat' first
      | apply And.intro
      | exact (fun h => Bool.noConfusion h)
      | (refine chkI ?_; kernel_rfl)
      | (refine chkBI ?_; kernel_rfl)
      | exact (fun _ => True.intro)
      | exact True.intro
      | exact (fun h => h)
      | exact rfl
      | decide
      | exact (fun _ => by decide)
      | exact (show (_ : Int) ≠ _ by decide)
      | fail
    rw [bs_toList, bs_toList, bs_eq]
    rw [show Op.bytesLess a b = false from h]
    by_cases he : a = b
    · subst he
      rw [show (a == a) = true by simp]
      repeat' first
        | apply And.intro
        | exact (fun h => Bool.noConfusion h)
        | (refine chkI ?_; kernel_rfl)
        | (refine chkBI ?_; kernel_rfl)
        | exact (fun _ => True.intro)
        | exact True.intro
        | exact (fun h => h)
        | exact rfl
        | decide
        | exact (fun _ => by decide)
        | exact (show (_ : Int) ≠ _ by decide)
        | fail
    · rw [show (a == b) = false by simpa using he]
      repeat' first
        | apply And.intro
        | exact (fun h => Bool.noConfusion h)
        | (refine chkI ?_; kernel_rfl)
        | (refine chkBI ?_; kernel_rfl)
        | exact (fun _ => True.intro)
        | exact True.intro
        | exact (fun h => h)
        | exact rfl
        | decide
        | exact (fun _ => by decide)
        | exact (show (_ : Int) ≠ _ by decide)
        | fail

theorem c132 (a b : Int) : PureC Tryz.prog 132 [i64 a, i64 b] (i64 (cmpI a b)) := by
  refine pureC_of_vc s132 rfl (Nat.le_of_ble_eq_true rfl) rfl ?_
  refine vc_at s132 [] 100 ?_
  repeat' first
    | apply And.intro
    | exact (fun h => Bool.noConfusion h)
    | (refine chkI ?_; kernel_rfl)
    | (refine chkBI ?_; kernel_rfl)
    | exact (fun _ => True.intro)
    | exact True.intro
    | exact (fun h => h)
    | exact rfl
    | decide
    | exact (fun _ => by decide)
    | exact (show (_ : Int) ≠ _ by decide)
    | fail
  refine Exists.intro _ (And.intro (c191 a) ?_)
  repeat' first
    | apply And.intro
    | exact (fun h => Bool.noConfusion h)
    | (refine chkI ?_; kernel_rfl)
    | (refine chkBI ?_; kernel_rfl)
    | exact (fun _ => True.intro)
    | exact True.intro
    | exact (fun h => h)
    | exact rfl
    | decide
    | exact (fun _ => by decide)
    | exact (show (_ : Int) ≠ _ by decide)
    | fail
  refine Exists.intro _ (And.intro (c191 b) ?_)
  repeat' first
    | apply And.intro
    | exact (fun h => Bool.noConfusion h)
    | (refine chkI ?_; kernel_rfl)
    | (refine chkBI ?_; kernel_rfl)
    | exact (fun _ => True.intro)
    | exact True.intro
    | exact (fun h => h)
    | exact rfl
    | decide
    | exact (fun _ => by decide)
    | exact (show (_ : Int) ≠ _ by decide)
    | fail
  unfold cmpI
  by_cases h1 : a < b
  · rw [if_pos h1, show decide (a < b) = true by simpa using h1]
    repeat' first
      | apply And.intro
      | exact (fun h => Bool.noConfusion h)
      | (refine chkI ?_; kernel_rfl)
      | (refine chkBI ?_; kernel_rfl)
      | exact (fun _ => True.intro)
      | exact True.intro
      | exact (fun h => h)
      | exact rfl
      | decide
      | exact (fun _ => by decide)
      | exact (show (_ : Int) ≠ _ by decide)
      | fail
  · rw [if_neg h1, show decide (a < b) = false by simpa using h1]
    repeat' first
      | apply And.intro
      | exact (fun h => Bool.noConfusion h)
      | (refine chkI ?_; kernel_rfl)
      | (refine chkBI ?_; kernel_rfl)
      | exact (fun _ => True.intro)
      | exact True.intro
      | exact (fun h => h)
      | exact rfl
      | decide
      | exact (fun _ => by decide)
      | exact (show (_ : Int) ≠ _ by decide)
      | fail
    by_cases h2 : a > b
    · rw [if_pos h2, show decide (b < a) = true by simpa using h2]
      repeat' first
        | apply And.intro
        | exact (fun h => Bool.noConfusion h)
        | (refine chkI ?_; kernel_rfl)
        | (refine chkBI ?_; kernel_rfl)
        | exact (fun _ => True.intro)
        | exact True.intro
        | exact (fun h => h)
        | exact rfl
        | decide
        | exact (fun _ => by decide)
        | exact (show (_ : Int) ≠ _ by decide)
        | fail
    · rw [if_neg h2, show decide (b < a) = false by simpa using h2]
      repeat' first
        | apply And.intro
        | exact (fun h => Bool.noConfusion h)
        | (refine chkI ?_; kernel_rfl)
        | (refine chkBI ?_; kernel_rfl)
        | exact (fun _ => True.intro)
        | exact True.intro
        | exact (fun h => h)
        | exact rfl
        | decide
        | exact (fun _ => by decide)
        | exact (show (_ : Int) ≠ _ by decide)
        | fail

theorem c130 (n : Option Bool) (c : Option Nat) (a b : Int) : PureC Tryz.prog 130 [.sl n c 1 [i64 a, i64 b]] (i64 (orI a b)) := by
  refine pureC_of_vc s130 rfl (Nat.le_of_ble_eq_true rfl) rfl ?_
  refine vc_at s130 [] 100 ?_
  repeat' first
    | apply And.intro
    | exact (fun h => Bool.noConfusion h)
    | (refine chkI ?_; kernel_rfl)
    | (refine chkBI ?_; kernel_rfl)
    | exact (fun _ => True.intro)
    | exact True.intro
    | exact (fun h => h)
    | exact rfl
    | decide
    | exact (fun _ => by decide)
    | exact (show (_ : Int) ≠ _ by decide)
    | fail
  refine vc_at s130 [] 100 ?_
  repeat' first
    | apply And.intro
    | exact (fun h => Bool.noConfusion h)
    | (refine chkI ?_; kernel_rfl)
    | (refine chkBI ?_; kernel_rfl)
    | exact (fun _ => True.intro)
    | exact True.intro
    | exact (fun h => h)
    | exact rfl
    | decide
    | exact (fun _ => by decide)
    | exact (show (_ : Int) ≠ _ by decide)
    | fail
  apply Exists.intro (i64 a)
  apply And.intro
  · exact ⟨Int.le_refl _, rfl, rfl⟩
  repeat' first
    | apply And.intro
    | exact (fun h => Bool.noConfusion h)
    | (refine chkI ?_; kernel_rfl)
    | (refine chkBI ?_; kernel_rfl)
    | exact (fun _ => True.intro)
    | exact True.intro
    | exact (fun h => h)
    | exact rfl
    | decide
    | exact (fun _ => by decide)
    | exact (show (_ : Int) ≠ _ by decide)
    | fail
  unfold orI
  by_cases h : a = 0
  · subst h
    rw [if_pos rfl]
    repeat' first
      | apply And.intro
      | exact (fun h => Bool.noConfusion h)
      | (refine chkI ?_; kernel_rfl)
      | (refine chkBI ?_; kernel_rfl)
      | exact (fun _ => True.intro)
      | exact True.intro
      | exact (fun h => h)
      | exact rfl
      | decide
      | exact (fun _ => by decide)
      | exact (show (_ : Int) ≠ _ by decide)
      | fail
    apply Exists.intro (i64 b)
    apply And.intro
    · exact ⟨by decide, rfl, rfl⟩
    repeat' first
      | apply And.intro
      | exact (fun h => Bool.noConfusion h)
      | (refine chkI ?_; kernel_rfl)
      | (refine chkBI ?_; kernel_rfl)
      | exact (fun _ => True.intro)
      | exact True.intro
      | exact (fun h => h)
      | exact rfl
      | decide
      | exact (fun _ => by decide)
      | exact (show (_ : Int) ≠ _ by decide)
      | fail
    by_cases h : b = 0
    · subst h
      repeat' first
        | apply And.intro
        | exact (fun h => Bool.noConfusion h)
        | (refine chkI ?_; kernel_rfl)
        | (refine chkBI ?_; kernel_rfl)
        | exact (fun _ => True.intro)
        | exact True.intro
        | exact (fun h => h)
        | exact rfl
        | decide
        | exact (fun _ => by decide)
        | exact (show (_ : Int) ≠ _ by decide)
        | fail
    · rw [show (b != 0) = true by simpa using h]
      repeat' first
        | apply And.intro
        | exact (fun h => Bool.noConfusion h)
        | (refine chkI ?_; kernel_rfl)
        | (refine chkBI ?_; kernel_rfl)
        | exact (fun _ => True.intro)
        | exact True.intro
        | exact (fun h => h)
        | exact rfl
        | decide
        | exact (fun _ => by decide)
        | exact (show (_ : Int) ≠ _ by decide)
        | fail
  · rw [if_neg h, show (a != 0) = true by simpa using h]
    repeat' first
      | apply And.intro
      | exact (fun h => Bool.noConfusion h)
      | (refine chkI ?_; kernel_rfl)
      | (refine chkBI ?_; kernel_rfl)
      | exact (fun _ => True.intro)
      | exact True.intro
      | exact (fun h => h)
      | exact rfl
      | decide
      | exact (fun _ => by decide)
      | exact (show (_ : Int) ≠ _ by decide)
      | fail

/-- movetree.less -/
theorem c64 (x y : Id) : PureC Tryz.prog 64 [idA x, idA y] (i64 (lessId x y)) := by
  refine pureC_of_vc s64 rfl (Nat.le_of_ble_eq_true rfl) rfl ?_
  refine vc_at s64 [] 100 ?_
  repeat' first
    | apply And.intro
    | exact (fun h => Bool.noConfusion h)
    | (refine chkI ?_; kernel_rfl)
    | (refine chkBI ?_; kernel_rfl)
    | exact (fun _ => True.intro)
    | exact True.intro
    | exact (fun h => h)
    | exact rfl
    | decide
    | exact (fun _ => by decide)
    | exact (show (_ : Int) ≠ _ by decide)
    | fail
  refine Exists.intro _ (And.intro (c131 x.au y.au) ?_)
  repeat' first
    | apply And.intro
    | exact (fun h => Bool.noConfusion h)
    | (refine chkI ?_; kernel_rfl)
    | (refine chkBI ?_; kernel_rfl)
    | exact (fun _ => True.intro)
    | exact True.intro
    | exact (fun h => h)
    | exact rfl
    | decide
    | exact (fun _ => by decide)
    | exact (show (_ : Int) ≠ _ by decide)
    | fail
  refine Exists.intro _ (And.intro (c132 x.n y.n) ?_)
  repeat' first
    | apply And.intro
    | exact (fun h => Bool.noConfusion h)
    | (refine chkI ?_; kernel_rfl)
    | (refine chkBI ?_; kernel_rfl)
    | exact (fun _ => True.intro)
    | exact True.intro
    | exact (fun h => h)
    | exact rfl
    | decide
    | exact (fun _ => by decide)
    | exact (show (_ : Int) ≠ _ by decide)
    | fail
  refine Exists.intro _ (And.intro (c130 _ _ _ _) ?_)
  repeat' first
    | apply And.intro
    | exact (fun h => Bool.noConfusion h)
    | (refine chkI ?_; kernel_rfl)
    | (refine chkBI ?_; kernel_rfl)
    | exact (fun _ => True.intro)
    | exact True.intro
    | exact (fun h => h)
    | exact rfl
    | decide
    | exact (fun _ => by decide)
    | exact (show (_ : Int) ≠ _ by decide)
    | fail

/-- The comparison that Apply sorts by. -/
theorem c63 (x y : Node) : PureC Tryz.prog 63 [nodeA x, nodeA y] (i64 (lessId x.id y.id)) := by
  refine pureC_of_vc s63 rfl (Nat.le_of_ble_eq_true rfl) rfl ?_
  refine vc_at s63 [] 100 ?_
  repeat' first
    | apply And.intro
    | exact (fun h => Bool.noConfusion h)
    | (refine chkI ?_; kernel_rfl)
    | (refine chkBI ?_; kernel_rfl)
    | exact (fun _ => True.intro)
    | exact True.intro
    | exact (fun h => h)
    | exact rfl
    | decide
    | exact (fun _ => by decide)
    | exact (show (_ : Int) ≠ _ by decide)
    | fail
  refine Exists.intro _ (And.intro (c64 x.id y.id) ?_)
  repeat' first
    | apply And.intro
    | exact (fun h => Bool.noConfusion h)
    | (refine chkI ?_; kernel_rfl)
    | (refine chkBI ?_; kernel_rfl)
    | exact (fun _ => True.intro)
    | exact True.intro
    | exact (fun h => h)
    | exact rfl
    | decide
    | exact (fun _ => by decide)
    | exact (show (_ : Int) ≠ _ by decide)
    | fail

def Node.short (x : Node) : Prop := x.num.length < 2 ^ 26 ∧ x.den.length < 2 ^ 26

/-- The comparison that siblings sorts by. -/
theorem c134 (x y : Node) (hx : x.short) (hy : y.short) : PureC Tryz.prog 134 [nodeA x, nodeA y] (i64 (sibCmp x y)) := by
  refine pureC_of_vc s134 rfl (Nat.le_of_ble_eq_true rfl) rfl ?_
  refine vc_at s134 [] 100 ?_
  repeat' first
    | apply And.intro
    | exact (fun h => Bool.noConfusion h)
    | (refine chkI ?_; kernel_rfl)
    | (refine chkBI ?_; kernel_rfl)
    | exact (fun _ => True.intro)
    | exact True.intro
    | exact (fun h => h)
    | exact rfl
    | decide
    | exact (fun _ => by decide)
    | exact (show (_ : Int) ≠ _ by decide)
    | fail
  refine Exists.intro _ (And.intro (c30 (rv_any x.neg x.num x.den hx.1 hx.2) (rv_any y.neg y.num y.den hy.1 hy.2)) ?_)
  repeat' first
    | apply And.intro
    | exact (fun h => Bool.noConfusion h)
    | (refine chkI ?_; kernel_rfl)
    | (refine chkBI ?_; kernel_rfl)
    | exact (fun _ => True.intro)
    | exact True.intro
    | exact (fun h => h)
    | exact rfl
    | decide
    | exact (fun _ => by decide)
    | exact (show (_ : Int) ≠ _ by decide)
    | fail
  refine Exists.intro _ (And.intro (c64 x.id y.id) ?_)
  repeat' first
    | apply And.intro
    | exact (fun h => Bool.noConfusion h)
    | (refine chkI ?_; kernel_rfl)
    | (refine chkBI ?_; kernel_rfl)
    | exact (fun _ => True.intro)
    | exact True.intro
    | exact (fun h => h)
    | exact rfl
    | decide
    | exact (fun _ => by decide)
    | exact (show (_ : Int) ≠ _ by decide)
    | fail
  refine Exists.intro _ (And.intro (c130 _ _ _ _) ?_)
  repeat' first
    | apply And.intro
    | exact (fun h => Bool.noConfusion h)
    | (refine chkI ?_; kernel_rfl)
    | (refine chkBI ?_; kernel_rfl)
    | exact (fun _ => True.intro)
    | exact True.intro
    | exact (fun h => h)
    | exact rfl
    | decide
    | exact (fun _ => by decide)
    | exact (show (_ : Int) ≠ _ by decide)
    | fail

end Vm
end Go.Proofs.YtdbpcmpkpbamhaaGreatDoor

/- Walks: insertion sort of nodes. -/
namespace Go.Proofs.YtdbpcmpkpbamhaaGreatDoor
set_option linter.unusedVariables false
set_option linter.unusedSimpArgs false
set_option maxRecDepth 100000
namespace Vm
open Go

/-- The inner loop of an insertion sort: what stands at j goes down to its place, not below a. -/
def bubble {α : Type} (c : α → α → Int) (a : Nat) : Nat → List α → List α
  | 0, L => L
  | j + 1, L => if a < j + 1 then match L[j + 1]?, L[j]? with
      | some x, some y => if c x y < 0 then bubble c a j ((L.set (j + 1) y).set j x) else L
      | _, _ => L
    else L
def isortF {α : Type} (c : α → α → Int) (a : Nat) : Nat → Nat → List α → List α
  | 0, _, L => L
  | k + 1, i, L => isortF c a k (i + 1) (bubble c a i L)
/-- Insertion sort of what stands from a to b. -/
def isort {α : Type} (c : α → α → Int) (a b : Nat) (L : List α) : List α := isortF c a (b - (a + 1)) (a + 1) L

theorem bubble_len {α : Type} (c : α → α → Int) (a : Nat) : ∀ (j : Nat) (L : List α), (bubble c a j L).length = L.length
  | 0, L => rfl
  | j + 1, L => by
    simp only [bubble]
    split
    · split
      · split
        · rw [bubble_len c a j]; simp
        · rfl
      · rfl
    · rfl

theorem isortF_len {α : Type} (c : α → α → Int) (a : Nat) : ∀ (k i : Nat) (L : List α), (isortF c a k i L).length = L.length
  | 0, _, L => rfl
  | k + 1, i, L => by rw [isortF, isortF_len c a k, bubble_len]
theorem isort_len {α : Type} (c : α → α → Int) (a b : Nat) (L : List α) : (isort c a b L).length = L.length := isortF_len c a _ _ L

theorem swap_mem {α : Type} {S : α → Prop} {L : List α} (hL : ∀ x ∈ L, S x) {i j : Nat} {x y : α} (hx : S x) (hy : S y) : ∀ z ∈ (L.set i y).set j x, S z := by
  intro z hz
  rcases List.mem_or_eq_of_mem_set hz with h | h
  · rcases List.mem_or_eq_of_mem_set h with h | h
    · exact hL z h
    · rw [h]; exact hy
  · rw [h]; exact hx

theorem bubble_mem {α : Type} {S : α → Prop} (c : α → α → Int) (a : Nat) : ∀ (j : Nat) (L : List α), (∀ x ∈ L, S x) → ∀ x ∈ bubble c a j L, S x
  | 0, L, h => h
  | j + 1, L, h => by
    simp only [bubble]
    split
    · split
      · rename_i x y hx hy
        split
        · exact bubble_mem c a j _ (swap_mem h (h x (List.mem_of_getElem? hx)) (h y (List.mem_of_getElem? hy)))
        · exact h
      · exact h
    · exact h

noncomputable abbrev f180 : FnI := fiH 180 Tryz.f180 1 []
theorem h180 : Setting Tryz.prog tys f180 := settingH (by kernel_rfl) (by kernel_rfl)

abbrev st180 (len : Nat) (lim : Option Nat) (g a b f i j : Nat) (L : List Node) : St := ⟨[(0, .ref 0 0 len lim g 8), (1, i64 a), (2, i64 b), (3, .fn f [] []), (8, i64 i), (9, i64 j)], [.row (L.map nodeA) 8 g]⟩
abbrev st180' (len : Nat) (lim : Option Nat) (g a b f i : Nat) (L : List Node) : St := ⟨[(0, .ref 0 0 len lim g 8), (1, i64 a), (2, i64 b), (3, .fn f [] []), (8, i64 i)], [.row (L.map nodeA) 8 g]⟩

theorem inner180 {S : Node → Prop} {f : Nat} {c : Node → Node → Int} (hcmp : ∀ x y, S x → S y → PureC Tryz.prog f [nodeA x, nodeA y] (i64 (c x y))) {len g a b i : Nat} {lim : Option Nat} {Q : AV → List Blk → Prop}
    (hb : b ≤ len) (hi : i < b) (hlen : len < 2 ^ 60) : ∀ (j : Nat) (L : List Node), j ≤ i → L.length = len → (∀ x ∈ L, S x) →
    VC Tryz.prog f180 [0, 0, 1] (st180' len lim g a b f (i + 1) (bubble c a j L)) Q → VC Tryz.prog f180 [0, 0, 1, 0, 0, 1, 0, 0, 1] (st180 len lim g a b f i j L) Q
  | j, L, hj, hl, hS, hk => by
    obtain ⟨x, hx⟩ : ∃ x, L[j]? = some x := ⟨L[j]'(by omega), List.getElem?_eq_getElem _⟩
    obtain ⟨y, hy⟩ : ∃ y, L[j - 1]? = some y := ⟨L[j - 1]'(by omega), List.getElem?_eq_getElem _⟩
    have Sx := hS x (List.mem_of_getElem? hx)
    have Sy := hS y (List.mem_of_getElem? hy)
    have e1 : (0 + ((j : Nat) : Int).toNat) = j := by omega
    have e2 : (0 + (((j : Nat) : Int) - 1).toNat) = j - 1 := by omega
    refine vc_at h180 [[0, 0, 1, 0, 0, 1, 0, 0, 1], [0, 0, 1]] 100 ?_
    repeat' first
      | apply And.intro
      | exact (fun h => Bool.noConfusion h)
      | (refine chkI ?_; kernel_rfl)
      | (refine chkBI ?_; kernel_rfl)
      | exact (fun _ => True.intro)
      | exact True.intro
      | exact (fun h => h)
      | exact rfl
      | decide
      | exact (fun _ => by decide)
      | exact (show (_ : Int) ≠ _ by decide)
      | fail
    · exact fun _ => ⟨by omega, by omega, rfl⟩
    apply Exists.intro (nodeA x)
    apply And.intro
    · exact fun _ => ⟨rfl, by rw [e1, List.getElem?_map, hx]; rfl⟩
    repeat' first
      | apply And.intro
      | exact (fun h => Bool.noConfusion h)
      | (refine chkI ?_; kernel_rfl)
      | (refine chkBI ?_; kernel_rfl)
      | exact (fun _ => True.intro)
      | exact True.intro
      | exact (fun h => h)
      | exact rfl
      | decide
      | exact (fun _ => by decide)
      | exact (show (_ : Int) ≠ _ by decide)
      | fail
    · exact fun _ => by simp only [i64ok]; omega
    · exact fun h => ⟨by simp at h; omega, by omega, rfl⟩
    apply Exists.intro (nodeA y)
    apply And.intro
    · exact fun _ => ⟨rfl, by rw [e2, List.getElem?_map, hy]; rfl⟩
    repeat' first
      | apply And.intro
      | exact (fun h => Bool.noConfusion h)
      | (refine chkI ?_; kernel_rfl)
      | (refine chkBI ?_; kernel_rfl)
      | exact (fun _ => True.intro)
      | exact True.intro
      | exact (fun h => h)
      | exact rfl
      | decide
      | exact (fun _ => by decide)
      | exact (show (_ : Int) ≠ _ by decide)
      | fail
    refine Exists.intro _ (And.intro (fun _ => hcmp x y Sx Sy) ?_)
    repeat' first
      | apply And.intro
      | exact (fun h => Bool.noConfusion h)
      | (refine chkI ?_; kernel_rfl)
      | (refine chkBI ?_; kernel_rfl)
      | exact (fun _ => True.intro)
      | exact True.intro
      | exact (fun h => h)
      | exact rfl
      | decide
      | exact (fun _ => by decide)
      | exact (show (_ : Int) ≠ _ by decide)
      | fail
    by_cases hc : a < j ∧ c x y < 0
    · rw [show (decide ((j : Int) > a) && decide (c x y < 0)) = true by simp; exact hc]
      repeat' first
        | apply And.intro
        | exact (fun h => Bool.noConfusion h)
        | (refine chkI ?_; kernel_rfl)
        | (refine chkBI ?_; kernel_rfl)
        | exact (fun _ => True.intro)
        | exact True.intro
        | exact (fun h => h)
        | exact rfl
        | decide
        | exact (fun _ => by decide)
        | exact (show (_ : Int) ≠ _ by decide)
        | fail
      all_goals first
        | omega
        | (simp only [imp, i64ok, sz, List.length_map, List.length_cons, List.length_nil] <;> omega)
        | skip
      apply Exists.intro (nodeA y)
      apply And.intro
      · exact ⟨rfl, by rw [e2, List.getElem?_map, hy]; rfl⟩
      repeat' first
        | apply And.intro
        | exact (fun h => Bool.noConfusion h)
        | (refine chkI ?_; kernel_rfl)
        | (refine chkBI ?_; kernel_rfl)
        | exact (fun _ => True.intro)
        | exact True.intro
        | exact (fun h => h)
        | exact rfl
        | decide
        | exact (fun _ => by decide)
        | exact (show (_ : Int) ≠ _ by decide)
        | fail
      all_goals first
        | omega
        | (simp only [imp, i64ok, sz, List.length_map, List.length_cons, List.length_nil] <;> omega)
        | skip
      apply Exists.intro (nodeA x)
      apply And.intro
      · exact ⟨rfl, by rw [e1, List.getElem?_map, hx]; rfl⟩
      repeat' first
        | apply And.intro
        | exact (fun h => Bool.noConfusion h)
        | (refine chkI ?_; kernel_rfl)
        | (refine chkBI ?_; kernel_rfl)
        | exact (fun _ => True.intro)
        | exact True.intro
        | exact (fun h => h)
        | exact rfl
        | decide
        | exact (fun _ => by decide)
        | exact (show (_ : Int) ≠ _ by decide)
        | fail
      all_goals first
        | omega
        | (simp only [imp, i64ok, sz, List.length_map, List.length_cons, List.length_nil] <;> omega)
        | skip
      apply Exists.intro (nodeA x)
      apply And.intro
      · exact ⟨rfl, by rw [e1, List.getElem?_map, hx]; rfl, Nat.le_refl _⟩
      repeat' first
        | apply And.intro
        | exact (fun h => Bool.noConfusion h)
        | (refine chkI ?_; kernel_rfl)
        | (refine chkBI ?_; kernel_rfl)
        | exact (fun _ => True.intro)
        | exact True.intro
        | exact (fun h => h)
        | exact rfl
        | decide
        | exact (fun _ => by decide)
        | exact (show (_ : Int) ≠ _ by decide)
        | fail
      all_goals first
        | omega
        | (simp only [imp, i64ok, sz, List.length_map, List.length_cons, List.length_nil] <;> omega)
        | skip
      apply Exists.intro (nodeA y)
      apply And.intro
      · exact ⟨rfl, by rw [e2, e1, List.getElem?_set_ne (by omega), List.getElem?_map, hy]; rfl, Nat.le_refl _⟩
      repeat' first
        | apply And.intro
        | exact (fun h => Bool.noConfusion h)
        | (refine chkI ?_; kernel_rfl)
        | (refine chkBI ?_; kernel_rfl)
        | exact (fun _ => True.intro)
        | exact True.intro
        | exact (fun h => h)
        | exact rfl
        | decide
        | exact (fun _ => by decide)
        | exact (show (_ : Int) ≠ _ by decide)
        | fail
      all_goals first
        | omega
        | (simp only [imp, i64ok, sz, List.length_map, List.length_cons, List.length_nil] <;> omega)
        | skip
      obtain ⟨j, rfl⟩ : ∃ k, j = k + 1 := ⟨j - 1, by omega⟩
      have eb : bubble c a (j + 1) L = bubble c a j ((L.set (j + 1) y).set j x) := by
        have hy : L[j]? = some y := hy
        simp only [bubble, hx, hy]
        rw [if_pos hc.1, if_pos hc.2]
      rw [eb] at hk
      have eL : ((L.map nodeA).set (0 + (((j + 1 : Nat) : Int)).toNat) (nodeA y)).set (0 + (((j + 1 : Nat) : Int) - 1).toNat) (nodeA x) = ((L.set (j + 1) y).set j x).map nodeA := by
        rw [e1, e2, List.map_set, List.map_set]; rfl
      have ej : ((j + 1 : Nat) : Int) - 1 = (j : Int) := by omega
      refine VC.forget 1 [0, 1, 2, 3, 8, 9] (Nat.le_refl _) ?_
      have key := inner180 hcmp (g := g) (a := a) (lim := lim) (Q := Q) hb hi hlen j ((L.set (j + 1) y).set j x) (by omega) (by simp [hl]) (swap_mem hS Sx Sy) hk
      unfold st180 at key
      rw [← eL, ← ej] at key
      exact key
    · rw [show (decide ((j : Int) > a) && decide (c x y < 0)) = false by simp; intro h; omega]
      have eb : bubble c a j L = L := by
        cases j with
        | zero => rfl
        | succ j =>
          have hy : L[j]? = some y := hy
          simp only [bubble, hx, hy]
          by_cases h1 : a < j + 1
          · rw [if_pos h1, if_neg (fun h => hc ⟨h1, h⟩)]
          · rw [if_neg h1]
      rw [eb] at hk
      repeat' first
        | apply And.intro
        | exact (fun h => Bool.noConfusion h)
        | (refine chkI ?_; kernel_rfl)
        | (refine chkBI ?_; kernel_rfl)
        | exact (fun _ => True.intro)
        | exact True.intro
        | exact (fun h => h)
        | exact rfl
        | decide
        | exact (fun _ => by decide)
        | exact (show (_ : Int) ≠ _ by decide)
        | fail
      all_goals first
        | omega
        | (simp only [imp, i64ok, sz, List.length_map, List.length_cons, List.length_nil] <;> omega)
        | skip
      exact VC.forget 1 [0, 1, 2, 3, 8] (Nat.le_refl _) hk
termination_by j => j

theorem outer180 {S : Node → Prop} {f : Nat} {c : Node → Node → Int} (hcmp : ∀ x y, S x → S y → PureC Tryz.prog f [nodeA x, nodeA y] (i64 (c x y))) {len g a b : Nat} {lim : Option Nat} {Q : AV → List Blk → Prop}
    (hb : b ≤ len) (hlen : len < 2 ^ 60) : ∀ (k i : Nat) (L : List Node), k = b - i → L.length = len → (∀ x ∈ L, S x) →
    Q (.tup []) [.row ((isortF c a k i L).map nodeA) 8 g] → VC Tryz.prog f180 [0, 0, 1] (st180' len lim g a b f i L) Q
  | 0, i, L, hk, hl, hS, hQ => by
    refine vc_at h180 [[0, 0, 1, 0, 0, 1, 0, 0, 1], [0, 0, 1]] 100 ?_
    repeat' first
      | apply And.intro
      | exact (fun h => Bool.noConfusion h)
      | (refine chkI ?_; kernel_rfl)
      | (refine chkBI ?_; kernel_rfl)
      | exact (fun _ => True.intro)
      | exact True.intro
      | exact (fun h => h)
      | exact rfl
      | decide
      | exact (fun _ => by decide)
      | exact (show (_ : Int) ≠ _ by decide)
      | fail
    rw [show decide ((i : Int) < b) = false by simp; omega]
    repeat' first
      | apply And.intro
      | exact (fun h => Bool.noConfusion h)
      | (refine chkI ?_; kernel_rfl)
      | (refine chkBI ?_; kernel_rfl)
      | exact (fun _ => True.intro)
      | exact True.intro
      | exact (fun h => h)
      | exact rfl
      | decide
      | exact (fun _ => by decide)
      | exact (show (_ : Int) ≠ _ by decide)
      | fail
    exact hQ
  | k + 1, i, L, hk, hl, hS, hQ => by
    refine vc_at h180 [[0, 0, 1, 0, 0, 1, 0, 0, 1], [0, 0, 1]] 100 ?_
    repeat' first
      | apply And.intro
      | exact (fun h => Bool.noConfusion h)
      | (refine chkI ?_; kernel_rfl)
      | (refine chkBI ?_; kernel_rfl)
      | exact (fun _ => True.intro)
      | exact True.intro
      | exact (fun h => h)
      | exact rfl
      | decide
      | exact (fun _ => by decide)
      | exact (show (_ : Int) ≠ _ by decide)
      | fail
    rw [show decide ((i : Int) < b) = true by simp; omega]
    repeat' first
      | apply And.intro
      | exact (fun h => Bool.noConfusion h)
      | (refine chkI ?_; kernel_rfl)
      | (refine chkBI ?_; kernel_rfl)
      | exact (fun _ => True.intro)
      | exact True.intro
      | exact (fun h => h)
      | exact rfl
      | decide
      | exact (fun _ => by decide)
      | exact (show (_ : Int) ≠ _ by decide)
      | fail
    refine VC.forget 1 [0, 1, 2, 3, 8, 9] (Nat.le_refl _) ?_
    exact inner180 hcmp hb (by omega) hlen i L (Nat.le_refl _) hl hS (outer180 hcmp hb hlen k (i + 1) _ (by omega) (by rw [bubble_len, hl]) (bubble_mem c a i L hS) hQ)

/-- slices.insertionSortCmpFunc at nodes -/
theorem hc180 {S : Node → Prop} {f : Nat} {c : Node → Node → Int} (hcmp : ∀ x y, S x → S y → PureC Tryz.prog f [nodeA x, nodeA y] (i64 (c x y))) (L : List Node) (lim : Option Nat) (g a b : Nat) (hb : b ≤ L.length) (hlen : L.length < 2 ^ 60) (ha : a < 2 ^ 60) (hS : ∀ x ∈ L, S x) :
    HeapC Tryz.prog 180 [.ref 0 0 L.length lim g 8, i64 a, i64 b, .fn f [] []] [.row (L.map nodeA) 8 g] (fun d H => d = .tup [] ∧ H = [.row ((isort c a b L).map nodeA) 8 g]) := by
  refine heapC_of_vc h180 rfl (Nat.le_of_ble_eq_true rfl) ?_
  refine vc_at h180 [[0, 0, 1]] 100 ?_
  repeat' first
    | apply And.intro
    | exact (fun h => Bool.noConfusion h)
    | (refine chkI ?_; kernel_rfl)
    | (refine chkBI ?_; kernel_rfl)
    | exact (fun _ => True.intro)
    | exact True.intro
    | exact (fun h => h)
    | exact rfl
    | decide
    | exact (fun _ => by decide)
    | exact (show (_ : Int) ≠ _ by decide)
    | fail
  all_goals first
    | omega
    | (simp only [imp, i64ok, sz, List.length_map, List.length_cons, List.length_nil] <;> omega)
    | skip
  refine VC.forget 1 [0, 1, 2, 3, 8] (Nat.le_refl _) ?_
  refine outer180 hcmp hb hlen (b - (a + 1)) (a + 1) L rfl rfl hS ?_
  exact ⟨[0], rfl, rfl, rfl, rfl⟩

end Vm
end Go.Proofs.YtdbpcmpkpbamhaaGreatDoor

/- Walks: stable sort of fewer than 20 nodes; siblings, children. -/
namespace Go.Proofs.YtdbpcmpkpbamhaaGreatDoor
set_option linter.unusedVariables false
set_option linter.unusedSimpArgs false
set_option maxRecDepth 100000
namespace Vm
open Go

noncomputable abbrev f192 : FnI := fiH 192 Tryz.f192 1 [180]
theorem h192 : Setting Tryz.prog tys f192 := settingH (by kernel_rfl) (by kernel_rfl)
/-- slices.stableCmpFunc at fewer than 20 nodes -/
theorem hc192 {S : Node → Prop} {f : Nat} {c : Node → Node → Int} (hcmp : ∀ x y, S x → S y → PureC Tryz.prog f [nodeA x, nodeA y] (i64 (c x y))) (L : List Node) (lim : Option Nat) (g : Nat) (hlen : L.length < 20) (hS : ∀ x ∈ L, S x) :
    HeapC Tryz.prog 192 [.ref 0 0 L.length lim g 8, i64 L.length, .fn f [] []] [.row (L.map nodeA) 8 g] (fun d H => d = .tup [] ∧ H = [.row ((isort c 0 L.length L).map nodeA) 8 g]) := by
  refine heapC_of_vc h192 rfl (Nat.le_of_ble_eq_true rfl) ?_
  refine vc_at h192 [] 100 ?_
  repeat' first
    | apply And.intro
    | exact (fun h => Bool.noConfusion h)
    | (refine chkI ?_; kernel_rfl)
    | (refine chkBI ?_; kernel_rfl)
    | exact (fun _ => True.intro)
    | exact True.intro
    | exact (fun h => h)
    | exact rfl
    | decide
    | exact (fun _ => by decide)
    | exact (show (_ : Int) ≠ _ by decide)
    | fail
  refine vc_at h192 [] 100 ?_
  repeat' first
    | apply And.intro
    | exact (fun h => Bool.noConfusion h)
    | (refine chkI ?_; kernel_rfl)
    | (refine chkBI ?_; kernel_rfl)
    | exact (fun _ => True.intro)
    | exact True.intro
    | exact (fun h => h)
    | exact rfl
    | decide
    | exact (fun _ => by decide)
    | exact (show (_ : Int) ≠ _ by decide)
    | fail
  rw [show decide ((20 : Int) ≤ L.length) = false by simp; omega]
  repeat' first
    | apply And.intro
    | exact (fun h => Bool.noConfusion h)
    | (refine chkI ?_; kernel_rfl)
    | (refine chkBI ?_; kernel_rfl)
    | exact (fun _ => True.intro)
    | exact True.intro
    | exact (fun h => h)
    | exact rfl
    | decide
    | exact (fun _ => by decide)
    | exact (show (_ : Int) ≠ _ by decide)
    | fail
  refine Exists.intro [0] (Exists.intro _ (And.intro rfl (And.intro (hc180 hcmp L lim g 0 L.length (Nat.le_refl _) (by omega) (by decide) hS) ?_)))
  intro d H hq
  obtain ⟨rfl, rfl⟩ := hq
  repeat' first
    | apply And.intro
    | exact (fun h => Bool.noConfusion h)
    | (refine chkI ?_; kernel_rfl)
    | (refine chkBI ?_; kernel_rfl)
    | exact (fun _ => True.intro)
    | exact True.intro
    | exact (fun h => h)
    | exact rfl
    | decide
    | exact (fun _ => by decide)
    | exact (show (_ : Int) ≠ _ by decide)
    | fail
  refine vc_at h192 [] 100 ?_
  repeat' first
    | apply And.intro
    | exact (fun h => Bool.noConfusion h)
    | (refine chkI ?_; kernel_rfl)
    | (refine chkBI ?_; kernel_rfl)
    | exact (fun _ => True.intro)
    | exact True.intro
    | exact (fun h => h)
    | exact rfl
    | decide
    | exact (fun _ => by decide)
    | exact (show (_ : Int) ≠ _ by decide)
    | fail
  rw [show decide ((20 : Int) < L.length) = false by simp; omega]
  repeat' first
    | apply And.intro
    | exact (fun h => Bool.noConfusion h)
    | (refine chkI ?_; kernel_rfl)
    | (refine chkBI ?_; kernel_rfl)
    | exact (fun _ => True.intro)
    | exact True.intro
    | exact (fun h => h)
    | exact rfl
    | decide
    | exact (fun _ => by decide)
    | exact (show (_ : Int) ≠ _ by decide)
    | fail
  exact ⟨[0], rfl, rfl, rfl, rfl⟩

noncomputable abbrev f133 : FnI := fiH 133 Tryz.f133 1 [192]
theorem h133 : Setting Tryz.prog tys f133 := settingH (by kernel_rfl) (by kernel_rfl)
/-- slices.SortStableFunc at fewer than 20 nodes -/
theorem hc133 {S : Node → Prop} {f : Nat} {c : Node → Node → Int} (hcmp : ∀ x y, S x → S y → PureC Tryz.prog f [nodeA x, nodeA y] (i64 (c x y))) (L : List Node) (lim : Option Nat) (g : Nat) (hlen : L.length < 20) (hS : ∀ x ∈ L, S x) :
    HeapC Tryz.prog 133 [.ref 0 0 L.length lim g 8, .fn f [] []] [.row (L.map nodeA) 8 g] (fun d H => d = .tup [] ∧ H = [.row ((isort c 0 L.length L).map nodeA) 8 g]) := by
  refine heapC_of_vc h133 rfl (Nat.le_of_ble_eq_true rfl) ?_
  refine vc_at h133 [] 100 ?_
  repeat' first
    | apply And.intro
    | exact (fun h => Bool.noConfusion h)
    | (refine chkI ?_; kernel_rfl)
    | (refine chkBI ?_; kernel_rfl)
    | exact (fun _ => True.intro)
    | exact True.intro
    | exact (fun h => h)
    | exact rfl
    | decide
    | exact (fun _ => by decide)
    | exact (show (_ : Int) ≠ _ by decide)
    | fail
  refine Exists.intro [0] (Exists.intro _ (And.intro rfl (And.intro (hc192 hcmp L lim g hlen hS) ?_)))
  intro d H hq
  obtain ⟨rfl, rfl⟩ := hq
  repeat' first
    | apply And.intro
    | exact (fun h => Bool.noConfusion h)
    | (refine chkI ?_; kernel_rfl)
    | (refine chkBI ?_; kernel_rfl)
    | exact (fun _ => True.intro)
    | exact True.intro
    | exact (fun h => h)
    | exact rfl
    | decide
    | exact (fun _ => by decide)
    | exact (show (_ : Int) ≠ _ by decide)
    | fail
  exact ⟨[0], rfl, rfl, rfl, rfl⟩

end Vm
end Go.Proofs.YtdbpcmpkpbamhaaGreatDoor

/- Walks: siblings, children. -/
namespace Go.Proofs.YtdbpcmpkpbamhaaGreatDoor
set_option linter.unusedVariables false
set_option linter.unusedSimpArgs false
set_option maxRecDepth 100000
namespace Vm
open Go

abbrev nilA : AV := .sl (some true) (some 0) 0 []
/-- A slice that a function has made: nil if it is empty. -/
abbrev outA (k : Nat) (xs : List AV) : AV := match xs with
  | [] => nilA
  | x :: xs => .sl (some false) none k (x :: xs)
/-- A slice under way: nil, or a row of one's own. -/
abbrev accA (b g k : Nat) (xs : List AV) : AV := match xs with
  | [] => nilA
  | x :: xs => .ref b 0 (xs.length + 1) none g k

noncomputable abbrev f180n : FnI := fiH 180 Tryz.f180 0 []
theorem hc180n (f : Nat) : HeapC Tryz.prog 180 [nilA, i64 0, i64 0, .fn f [] []] [] (fun d H => d = .tup [] ∧ H = []) := by
  refine heapC_of_vc (F := f180n) (settingH (by kernel_rfl) (by kernel_rfl)) rfl (Nat.le_of_ble_eq_true rfl) ?_
  have h : Setting Tryz.prog tys f180n := settingH (by kernel_rfl) (by kernel_rfl)
  refine vc_at h [] 100 ?_
  repeat' first
    | apply And.intro
    | exact (fun h => Bool.noConfusion h)
    | (refine chkI ?_; kernel_rfl)
    | (refine chkBI ?_; kernel_rfl)
    | exact (fun _ => True.intro)
    | exact True.intro
    | exact (fun h => h)
    | exact rfl
    | decide
    | exact (fun _ => by decide)
    | exact (show (_ : Int) ≠ _ by decide)
    | fail
  refine vc_at h [] 100 ?_
  repeat' first
    | apply And.intro
    | exact (fun h => Bool.noConfusion h)
    | (refine chkI ?_; kernel_rfl)
    | (refine chkBI ?_; kernel_rfl)
    | exact (fun _ => True.intro)
    | exact True.intro
    | exact (fun h => h)
    | exact rfl
    | decide
    | exact (fun _ => by decide)
    | exact (show (_ : Int) ≠ _ by decide)
    | fail
  exact ⟨[], rfl, rfl, rfl, rfl⟩

noncomputable abbrev f192n : FnI := fiH 192 Tryz.f192 0 [180]
theorem hc192n (f : Nat) : HeapC Tryz.prog 192 [nilA, i64 0, .fn f [] []] [] (fun d H => d = .tup [] ∧ H = []) := by
  have h : Setting Tryz.prog tys f192n := settingH (by kernel_rfl) (by kernel_rfl)
  refine heapC_of_vc h rfl (Nat.le_of_ble_eq_true rfl) ?_
  refine vc_at h [] 100 ?_
  repeat' first
    | apply And.intro
    | exact (fun h => Bool.noConfusion h)
    | (refine chkI ?_; kernel_rfl)
    | (refine chkBI ?_; kernel_rfl)
    | exact (fun _ => True.intro)
    | exact True.intro
    | exact (fun h => h)
    | exact rfl
    | decide
    | exact (fun _ => by decide)
    | exact (show (_ : Int) ≠ _ by decide)
    | fail
  refine vc_at h [] 100 ?_
  repeat' first
    | apply And.intro
    | exact (fun h => Bool.noConfusion h)
    | (refine chkI ?_; kernel_rfl)
    | (refine chkBI ?_; kernel_rfl)
    | exact (fun _ => True.intro)
    | exact True.intro
    | exact (fun h => h)
    | exact rfl
    | decide
    | exact (fun _ => by decide)
    | exact (show (_ : Int) ≠ _ by decide)
    | fail
  refine Exists.intro [] (Exists.intro _ (And.intro rfl (And.intro (hc180n f) ?_)))
  intro d H hq
  obtain ⟨rfl, rfl⟩ := hq
  repeat' first
    | apply And.intro
    | exact (fun h => Bool.noConfusion h)
    | (refine chkI ?_; kernel_rfl)
    | (refine chkBI ?_; kernel_rfl)
    | exact (fun _ => True.intro)
    | exact True.intro
    | exact (fun h => h)
    | exact rfl
    | decide
    | exact (fun _ => by decide)
    | exact (show (_ : Int) ≠ _ by decide)
    | fail
  refine vc_at h [] 100 ?_
  repeat' first
    | apply And.intro
    | exact (fun h => Bool.noConfusion h)
    | (refine chkI ?_; kernel_rfl)
    | (refine chkBI ?_; kernel_rfl)
    | exact (fun _ => True.intro)
    | exact True.intro
    | exact (fun h => h)
    | exact rfl
    | decide
    | exact (fun _ => by decide)
    | exact (show (_ : Int) ≠ _ by decide)
    | fail
  exact ⟨[], rfl, rfl, rfl, rfl⟩

noncomputable abbrev f133n : FnI := fiH 133 Tryz.f133 0 [192]
theorem hc133n (f : Nat) : HeapC Tryz.prog 133 [nilA, .fn f [] []] [] (fun d H => d = .tup [] ∧ H = []) := by
  have h : Setting Tryz.prog tys f133n := settingH (by kernel_rfl) (by kernel_rfl)
  refine heapC_of_vc h rfl (Nat.le_of_ble_eq_true rfl) ?_
  refine vc_at h [] 100 ?_
  repeat' first
    | apply And.intro
    | exact (fun h => Bool.noConfusion h)
    | (refine chkI ?_; kernel_rfl)
    | (refine chkBI ?_; kernel_rfl)
    | exact (fun _ => True.intro)
    | exact True.intro
    | exact (fun h => h)
    | exact rfl
    | decide
    | exact (fun _ => by decide)
    | exact (show (_ : Int) ≠ _ by decide)
    | fail
  refine Exists.intro [] (Exists.intro _ (And.intro rfl (And.intro (hc192n f) ?_)))
  intro d H hq
  obtain ⟨rfl, rfl⟩ := hq
  repeat' first
    | apply And.intro
    | exact (fun h => Bool.noConfusion h)
    | (refine chkI ?_; kernel_rfl)
    | (refine chkBI ?_; kernel_rfl)
    | exact (fun _ => True.intro)
    | exact True.intro
    | exact (fun h => h)
    | exact rfl
    | decide
    | exact (fun _ => by decide)
    | exact (show (_ : Int) ≠ _ by decide)
    | fail
  exact ⟨[], rfl, rfl, rfl, rfl⟩

theorem frz_ref {H : List Blk} {b off len k k' g : Nat} {lim : Option Nat} {elems : List AV} (h : H[b]? = some (.row elems k' g)) : frz H (.ref b off len lim g k) = .sl (some false) none k ((elems.drop off).take len) := by
  simp only [frz, frzA, frz1, h]
  rw [show Nat.beq g g = true by simp]

noncomputable abbrev f67 : FnI := fiH 67 Tryz.f67 0 [133]
theorem h67 : Setting Tryz.prog tys f67 := settingH (by kernel_rfl) (by kernel_rfl)
/-- The nodes below p, sorted. -/
def sibs (p : Id) (L : List Node) : List Node := let F := L.filter (fun x => x.par == p); isort sibCmp 0 F.length F

abbrev st67 (sl : AV) (p : Id) (n i : Nat) (out : List Node) (g : Nat) : St := match out with
  | [] => ⟨[(3, .ptr 0 0 0 0), (5, nilA), (8, sl), (9, i64 n), (10, i64 i)], [.box [str p.au, i64 p.n] false]⟩
  | x :: xs => ⟨[(3, .ptr 0 0 0 0), (5, .ref 1 0 (xs.length + 1) none g 8), (8, sl), (9, i64 n), (10, i64 i)], [.box [str p.au, i64 p.n] false, .row (nodeA x :: xs.map nodeA) 8 g]⟩

theorem id_beq (a b : Id) : (bs a.au == bs b.au && (a.n == b.n && true)) = (a == b) := by
  rw [bs_eq]
  obtain ⟨x, n⟩ := a
  obtain ⟨y, m⟩ := b
  rw [Bool.eq_iff_iff]
  simp

theorem loop67 (nl : Option Bool) (cp : Option Nat) (p : Id) (L : List Node) (hL : L.length < 2 ^ 39) {Q : AV → List Blk → Prop} (g0 : Nat) : ∀ (k i : Nat) (out : List Node) (g : Nat), k = L.length - i → i ≤ L.length → out.length ≤ i →
    (∀ g', VC Tryz.prog f67 [1, 1, 1] (match out ++ (L.drop i).filter (fun x => x.par == p) with
      | [] => ⟨[(5, nilA)], []⟩
      | x :: xs => ⟨[(5, .ref 0 0 (xs.length + 1) none g' 8)], [.row (nodeA x :: xs.map nodeA) 8 g']⟩) Q) →
    VC Tryz.prog f67 [0, 0, 1, 0, 1, 1] (st67 (.sl nl cp 8 (L.map nodeA)) p L.length i out g) Q
  | 0, i, out, g, hk, hi, ho, hQ => by
    have hd : L.drop i = [] := List.drop_eq_nil_of_le (by omega)
    rw [hd] at hQ
    have hQ := hQ g
    cases out with
    | nil =>
      refine vc_at h67 [[0, 0, 1, 0, 1, 1], [1, 1, 1]] 100 ?_
      repeat' first
        | apply And.intro
        | exact (fun h => Bool.noConfusion h)
        | (refine chkI ?_; kernel_rfl)
        | (refine chkBI ?_; kernel_rfl)
        | exact (fun _ => True.intro)
        | exact True.intro
        | exact (fun h => h)
        | exact rfl
        | decide
        | exact (fun _ => by decide)
        | exact (show (_ : Int) ≠ _ by decide)
        | fail
      rw [show decide ((i : Int) < L.length) = false by simp; omega]
      repeat' first
        | apply And.intro
        | exact (fun h => Bool.noConfusion h)
        | (refine chkI ?_; kernel_rfl)
        | (refine chkBI ?_; kernel_rfl)
        | exact (fun _ => True.intro)
        | exact True.intro
        | exact (fun h => h)
        | exact rfl
        | decide
        | exact (fun _ => by decide)
        | exact (show (_ : Int) ≠ _ by decide)
        | fail
      exact VC.gc [] [5] rfl rfl hQ
    | cons x xs =>
      refine vc_at h67 [[0, 0, 1, 0, 1, 1], [1, 1, 1]] 100 ?_
      repeat' first
        | apply And.intro
        | exact (fun h => Bool.noConfusion h)
        | (refine chkI ?_; kernel_rfl)
        | (refine chkBI ?_; kernel_rfl)
        | exact (fun _ => True.intro)
        | exact True.intro
        | exact (fun h => h)
        | exact rfl
        | decide
        | exact (fun _ => by decide)
        | exact (show (_ : Int) ≠ _ by decide)
        | fail
      rw [show decide ((i : Int) < L.length) = false by simp; omega]
      repeat' first
        | apply And.intro
        | exact (fun h => Bool.noConfusion h)
        | (refine chkI ?_; kernel_rfl)
        | (refine chkBI ?_; kernel_rfl)
        | exact (fun _ => True.intro)
        | exact True.intro
        | exact (fun h => h)
        | exact rfl
        | decide
        | exact (fun _ => by decide)
        | exact (show (_ : Int) ≠ _ by decide)
        | fail
      refine VC.gc [1] [5] rfl rfl ?_
      simp only [List.filter_nil, List.append_nil] at hQ
      exact hQ
  | k + 1, i, out, g, hk, hi, ho, hQ => by
    have hlt : i < L.length := by omega
    obtain ⟨x, hx⟩ : ∃ x, L[i]? = some x := ⟨L[i], List.getElem?_eq_getElem hlt⟩
    have hdr : L.drop i = x :: L.drop (i + 1) := by rw [List.drop_eq_getElem_cons hlt]; rw [List.getElem?_eq_getElem hlt] at hx; cases hx; rfl
    rw [hdr, List.filter_cons] at hQ
    cases out with
    | nil =>
      refine vc_at h67 [[0, 0, 1, 0, 1, 1], [1, 1, 1]] 100 ?_
      repeat' first
        | apply And.intro
        | exact (fun h => Bool.noConfusion h)
        | (refine chkI ?_; kernel_rfl)
        | (refine chkBI ?_; kernel_rfl)
        | exact (fun _ => True.intro)
        | exact True.intro
        | exact (fun h => h)
        | exact rfl
        | decide
        | exact (fun _ => by decide)
        | exact (show (_ : Int) ≠ _ by decide)
        | fail
      rw [show decide ((i : Int) < L.length) = true by simp; omega]
      repeat' first
        | apply And.intro
        | exact (fun h => Bool.noConfusion h)
        | (refine chkI ?_; kernel_rfl)
        | (refine chkBI ?_; kernel_rfl)
        | exact (fun _ => True.intro)
        | exact True.intro
        | exact (fun h => h)
        | exact rfl
        | decide
        | exact (fun _ => by decide)
        | exact (show (_ : Int) ≠ _ by decide)
        | fail
      apply Exists.intro (nodeA x)
      apply And.intro
      · exact ⟨by omega, by rw [show ((i : Nat) : Int).toNat = i by omega, List.getElem?_map, hx]; rfl, rfl⟩
      repeat' first
        | apply And.intro
        | exact (fun h => Bool.noConfusion h)
        | (refine chkI ?_; kernel_rfl)
        | (refine chkBI ?_; kernel_rfl)
        | exact (fun _ => True.intro)
        | exact True.intro
        | exact (fun h => h)
        | exact rfl
        | decide
        | exact (fun _ => by decide)
        | exact (show (_ : Int) ≠ _ by decide)
        | fail
      rw [id_beq]
      by_cases hc : (x.par == p) = true
      · rw [if_pos hc] at hQ
        rw [show ((⟨x.par.au, x.par.n⟩ : Id) == ⟨p.au, p.n⟩) = true from hc]
        repeat' first
          | apply And.intro
          | exact (fun h => Bool.noConfusion h)
          | (refine chkI ?_; kernel_rfl)
          | (refine chkBI ?_; kernel_rfl)
          | exact (fun _ => True.intro)
          | exact True.intro
          | exact (fun h => h)
          | exact rfl
          | decide
          | exact (fun _ => by decide)
          | exact (show (_ : Int) ≠ _ by decide)
          | fail
        refine Or.inl ?_
        repeat' first
          | apply And.intro
          | exact (fun h => Bool.noConfusion h)
          | (refine chkI ?_; kernel_rfl)
          | (refine chkBI ?_; kernel_rfl)
          | exact (fun _ => True.intro)
          | exact True.intro
          | exact (fun h => h)
          | exact rfl
          | decide
          | exact (fun _ => by decide)
          | exact (show (_ : Int) ≠ _ by decide)
          | fail
        all_goals first
          | omega
          | (simp only [imp, i64ok, sz, List.length_map, List.length_cons, List.length_nil] <;> omega)
          | (dsimp only [List.length_cons, List.length_nil]; omega)
          | skip
        refine VC.gc [0, 2] [3, 5, 8, 9, 10] rfl rfl ?_
        refine loop67 nl cp p L hL g0 k (i + 1) [x] 0 (by omega) (by omega) (by simp) hQ
      · rw [if_neg hc] at hQ
        rw [show ((⟨x.par.au, x.par.n⟩ : Id) == ⟨p.au, p.n⟩) = false from Bool.eq_false_iff.2 hc]
        repeat' first
          | apply And.intro
          | exact (fun h => Bool.noConfusion h)
          | (refine chkI ?_; kernel_rfl)
          | (refine chkBI ?_; kernel_rfl)
          | exact (fun _ => True.intro)
          | exact True.intro
          | exact (fun h => h)
          | exact rfl
          | decide
          | exact (fun _ => by decide)
          | exact (show (_ : Int) ≠ _ by decide)
          | fail
        all_goals first
          | omega
          | (simp only [imp, i64ok, sz, List.length_map, List.length_cons, List.length_nil] <;> omega)
          | (dsimp only [List.length_cons, List.length_nil]; omega)
          | skip
        refine VC.gc [0] [3, 5, 8, 9, 10] rfl rfl ?_
        exact loop67 nl cp p L hL g0 k (i + 1) [] 0 (by omega) (by omega) (by simp) hQ
    | cons y ys =>
      have ho' : ys.length + 1 ≤ i := by simpa using ho
      refine vc_at h67 [[0, 0, 1, 0, 1, 1], [1, 1, 1]] 100 ?_
      repeat' first
        | apply And.intro
        | exact (fun h => Bool.noConfusion h)
        | (refine chkI ?_; kernel_rfl)
        | (refine chkBI ?_; kernel_rfl)
        | exact (fun _ => True.intro)
        | exact True.intro
        | exact (fun h => h)
        | exact rfl
        | decide
        | exact (fun _ => by decide)
        | exact (show (_ : Int) ≠ _ by decide)
        | fail
      rw [show decide ((i : Int) < L.length) = true by simp; omega]
      repeat' first
        | apply And.intro
        | exact (fun h => Bool.noConfusion h)
        | (refine chkI ?_; kernel_rfl)
        | (refine chkBI ?_; kernel_rfl)
        | exact (fun _ => True.intro)
        | exact True.intro
        | exact (fun h => h)
        | exact rfl
        | decide
        | exact (fun _ => by decide)
        | exact (show (_ : Int) ≠ _ by decide)
        | fail
      apply Exists.intro (nodeA x)
      apply And.intro
      · exact ⟨by omega, by rw [show ((i : Nat) : Int).toNat = i by omega, List.getElem?_map, hx]; rfl, rfl⟩
      repeat' first
        | apply And.intro
        | exact (fun h => Bool.noConfusion h)
        | (refine chkI ?_; kernel_rfl)
        | (refine chkBI ?_; kernel_rfl)
        | exact (fun _ => True.intro)
        | exact True.intro
        | exact (fun h => h)
        | exact rfl
        | decide
        | exact (fun _ => by decide)
        | exact (show (_ : Int) ≠ _ by decide)
        | fail
      rw [id_beq]
      by_cases hc : (x.par == p) = true
      · rw [if_pos hc] at hQ
        rw [show ((⟨x.par.au, x.par.n⟩ : Id) == ⟨p.au, p.n⟩) = true from hc]
        repeat' first
          | apply And.intro
          | exact (fun h => Bool.noConfusion h)
          | (refine chkI ?_; kernel_rfl)
          | (refine chkBI ?_; kernel_rfl)
          | exact (fun _ => True.intro)
          | exact True.intro
          | exact (fun h => h)
          | exact rfl
          | decide
          | exact (fun _ => by decide)
          | exact (show (_ : Int) ≠ _ by decide)
          | fail
        all_goals first
          | omega
          | (simp only [imp, i64ok, sz, List.length_map, List.length_cons, List.length_nil] <;> omega)
          | (dsimp only [List.length_cons, List.length_nil]; omega)
          | skip
        refine VC.gc [0, 1] [3, 5, 8, 9, 10] rfl rfl ?_
        have key := loop67 nl cp p L hL g0 k (i + 1) (y :: ys ++ [x]) (g + 1) (by omega) (by omega) (by simp; omega) (by simpa using hQ)
        have e2 : (nodeA y :: (ys ++ [x]).map nodeA) = ((nodeA y :: ys.map nodeA).drop 0).take (ys.length + 1) ++ [nodeA x] := by
          rw [List.map_append, List.drop_zero, List.take_of_length_le (by simp)]; rfl
        have e3 : (ys ++ [x]).length + 1 = ys.length + 1 + [nodeA x].length := by simp
        unfold st67 at key
        simp only [List.cons_append] at key
        rw [e2, e3] at key
        exact key
      · rw [if_neg hc] at hQ
        rw [show ((⟨x.par.au, x.par.n⟩ : Id) == ⟨p.au, p.n⟩) = false from Bool.eq_false_iff.2 hc]
        repeat' first
          | apply And.intro
          | exact (fun h => Bool.noConfusion h)
          | (refine chkI ?_; kernel_rfl)
          | (refine chkBI ?_; kernel_rfl)
          | exact (fun _ => True.intro)
          | exact True.intro
          | exact (fun h => h)
          | exact rfl
          | decide
          | exact (fun _ => by decide)
          | exact (show (_ : Int) ≠ _ by decide)
          | fail
        all_goals first
          | omega
          | (simp only [imp, i64ok, sz, List.length_map, List.length_cons, List.length_nil] <;> omega)
          | (dsimp only [List.length_cons, List.length_nil]; omega)
          | skip
        refine VC.gc [0, 1] [3, 5, 8, 9, 10] rfl rfl ?_
        exact loop67 nl cp p L hL g0 k (i + 1) (y :: ys) g (by omega) (by omega) (by omega) hQ

theorem isort_mem {α : Type} {S : α → Prop} (c : α → α → Int) (a b : Nat) (L : List α) (h : ∀ x ∈ L, S x) : ∀ x ∈ isort c a b L, S x := by
  have key : ∀ (k i : Nat) (L : List α), (∀ x ∈ L, S x) → ∀ x ∈ isortF c a k i L, S x := by
    intro k
    induction k with
    | zero => intro i L h; exact h
    | succ k ih => intro i L h; exact ih (i + 1) _ (bubble_mem c a i L h)
  exact key _ _ L h

theorem sibs_short {p : Id} {L : List Node} (h : ∀ x ∈ L, x.short) : ∀ x ∈ sibs p L, x.short :=
  isort_mem sibCmp _ _ _ fun x hx => h x (List.mem_filter.1 hx).1
theorem sibs_len (p : Id) (L : List Node) : (sibs p L).length = (L.filter (fun x => x.par == p)).length := isort_len _ _ _ _

/-- movetree.siblings, of fewer than 20 nodes -/
theorem c67 (nl : Option Bool) (cp : Option Nat) (p : Id) (L : List Node) (hL : L.length < 2 ^ 39) (hs : ∀ x ∈ L, x.short) (h20 : (L.filter (fun x => x.par == p)).length < 20) :
    PureC Tryz.prog 67 [.sl nl cp 8 (L.map nodeA), idA p] (outA 8 ((sibs p L).map nodeA)) := by
  have hcmp : ∀ x y : Node, x.short → y.short → PureC Tryz.prog 134 [nodeA x, nodeA y] (i64 (sibCmp x y)) := c134
  refine pureC_of_vc h67 rfl (Nat.le_of_ble_eq_true rfl) (by cases h : (sibs p L) <;> rfl) ?_
  refine vc_at h67 [] 100 ?_
  repeat' first
    | apply And.intro
    | exact (fun h => Bool.noConfusion h)
    | (refine chkI ?_; kernel_rfl)
    | (refine chkBI ?_; kernel_rfl)
    | exact (fun _ => True.intro)
    | exact True.intro
    | exact (fun h => h)
    | exact rfl
    | decide
    | exact (fun _ => by decide)
    | exact (show (_ : Int) ≠ _ by decide)
    | fail
  have e0 : (L.map nodeA).length = L.length := by simp
  rw [e0]
  refine VC.gc [0] [3, 5, 8, 9, 10] rfl rfl ?_
  refine loop67 nl cp p L hL 0 L.length 0 [] 0 rfl (Nat.zero_le _) (by simp) fun g' => ?_
  simp only [List.drop_zero, List.nil_append]
  unfold sibs
  have hF : ∀ x ∈ L.filter (fun x => x.par == p), x.short := fun x hx => hs x (List.mem_filter.1 hx).1
  generalize L.filter (fun x => x.par == p) = F at h20 hF
  cases F with
  | nil =>
    refine vc_at h67 [] 100 ?_
    repeat' first
      | apply And.intro
      | exact (fun h => Bool.noConfusion h)
      | (refine chkI ?_; kernel_rfl)
      | (refine chkBI ?_; kernel_rfl)
      | exact (fun _ => True.intro)
      | exact True.intro
      | exact (fun h => h)
      | exact rfl
      | decide
      | exact (fun _ => by decide)
      | exact (show (_ : Int) ≠ _ by decide)
      | fail
    refine Exists.intro [] (Exists.intro _ (And.intro rfl (And.intro (hc133n 134) ?_)))
    intro d H hq
    obtain ⟨rfl, rfl⟩ := hq
    repeat' first
      | apply And.intro
      | exact (fun h => Bool.noConfusion h)
      | (refine chkI ?_; kernel_rfl)
      | (refine chkBI ?_; kernel_rfl)
      | exact (fun _ => True.intro)
      | exact True.intro
      | exact (fun h => h)
      | exact rfl
      | decide
      | exact (fun _ => by decide)
      | exact (show (_ : Int) ≠ _ by decide)
      | fail
  | cons x xs =>
    refine vc_at h67 [] 100 ?_
    repeat' first
      | apply And.intro
      | exact (fun h => Bool.noConfusion h)
      | (refine chkI ?_; kernel_rfl)
      | (refine chkBI ?_; kernel_rfl)
      | exact (fun _ => True.intro)
      | exact True.intro
      | exact (fun h => h)
      | exact rfl
      | decide
      | exact (fun _ => by decide)
      | exact (show (_ : Int) ≠ _ by decide)
      | fail
    refine Exists.intro [0] (Exists.intro _ (And.intro rfl (And.intro (hc133 hcmp (x :: xs) none g' h20 hF) ?_)))
    intro d H hq
    obtain ⟨rfl, rfl⟩ := hq
    dsimp only
    have hlen := isort_len sibCmp 0 (x :: xs).length (x :: xs)
    generalize isort sibCmp 0 (x :: xs).length (x :: xs) = R at hlen
    cases R with
    | nil => simp at hlen
    | cons z zs =>
      repeat' first
        | apply And.intro
        | exact (fun h => Bool.noConfusion h)
        | (refine chkI ?_; kernel_rfl)
        | (refine chkBI ?_; kernel_rfl)
        | exact (fun _ => True.intro)
        | exact True.intro
        | exact (fun h => h)
        | exact rfl
        | decide
        | exact (fun _ => by decide)
        | exact (show (_ : Int) ≠ _ by decide)
        | fail
      show frz [.row (nodeA z :: zs.map nodeA) 8 g'] (.ref 0 0 (xs.length + 1) none g' 8) = AV.sl (some false) none 8 (nodeA z :: zs.map nodeA)
      rw [frz_ref rfl]
      rw [List.drop_zero, List.take_of_length_le (by simp at hlen; simp; omega)]

end Vm
end Go.Proofs.YtdbpcmpkpbamhaaGreatDoor
