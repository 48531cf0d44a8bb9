/- Walks: slices.SortFunc of at most 12 nodes. -/
import Derived.Test.YtdbpcmpkpbamhaaGreatDoorMn
namespace Go.Proofs.YtdbpcmpkpbamhaaGreatDoor
set_option linter.unusedVariables false
set_option linter.unusedSimpArgs false
set_option maxRecDepth 100000
namespace Vm
open Go

/-- math/bits.Len -/
def len8 (n : Nat) : Nat := if n = 0 then 0 else Nat.log2 n + 1

def lenTab : List UInt8 := [0, 1] ++ List.replicate 2 2 ++ List.replicate 4 3 ++ List.replicate 8 4 ++ List.replicate 16 5 ++ List.replicate 32 6 ++ List.replicate 64 7 ++ List.replicate 128 8
theorem lenTab_all : (List.range 256).all (fun m => byteAt (bs lenTab) m == (len8 m : Int)) = true := by kernel_rfl
theorem lenTab_at {n : Nat} (h : n < 256) : byteAt (bs lenTab) n = len8 n := by
  have := (List.all_eq_true.1 lenTab_all) n (by simpa using h)
  simpa using this
theorem byteAt_bd (s : ByteArray) (i : Nat) : 0 ≤ byteAt s i ∧ byteAt s i ≤ 255 := by
  unfold byteAt
  have := (s.data.toList.getD i 0).toNat_lt
  omega

theorem s189 : Setting Tryz.prog tys (fi 189 Tryz.f189) := setting (by kernel_rfl) (by kernel_rfl)
theorem s129 : Setting Tryz.prog tys (fi 129 Tryz.f129) := setting (by kernel_rfl) (by kernel_rfl)
theorem c189 (n : Nat) (h : n < 256) : PureC Tryz.prog 189 [.val (.int .u64 n)] (i64 (len8 n)) := by
  have hw : IntKind.u8.wrap (n : Int) = n := by rw [wrap_u8, Nat.mod_eq_of_lt h]
  refine pureC_of_vc s189 rfl (Nat.le_of_ble_eq_true rfl) rfl ?_
  refine vc_at s189 [] 100 ?_
  repeat' first
    | apply And.intro
    | exact (fun h => Bool.noConfusion h)
    | (refine chkI ?_; kernel_rfl)
    | (refine chkBI ?_; kernel_rfl)
    | exact (fun _ => True.intro)
    | exact True.intro
    | exact (fun h => h)
    | exact rfl
    | decide
    | exact (fun _ => by decide)
    | exact (show (_ : Int) ≠ _ by decide)
    | fail
  rw [show decide ((4294967296 : Int) ≤ n) = false by simp; omega]
  repeat' first
    | apply And.intro
    | exact (fun h => Bool.noConfusion h)
    | (refine chkI ?_; kernel_rfl)
    | (refine chkBI ?_; kernel_rfl)
    | exact (fun _ => True.intro)
    | exact True.intro
    | exact (fun h => h)
    | exact rfl
    | decide
    | exact (fun _ => by decide)
    | exact (show (_ : Int) ≠ _ by decide)
    | fail
  rw [show decide ((n : Int) ≥ 65536) = false by simp; omega]
  repeat' first
    | apply And.intro
    | exact (fun h => Bool.noConfusion h)
    | (refine chkI ?_; kernel_rfl)
    | (refine chkBI ?_; kernel_rfl)
    | exact (fun _ => True.intro)
    | exact True.intro
    | exact (fun h => h)
    | exact rfl
    | decide
    | exact (fun _ => by decide)
    | exact (show (_ : Int) ≠ _ by decide)
    | fail
  rw [show decide ((n : Int) ≥ 256) = false by simp; omega]
  repeat' first
    | apply And.intro
    | exact (fun h => Bool.noConfusion h)
    | (refine chkI ?_; kernel_rfl)
    | (refine chkBI ?_; kernel_rfl)
    | exact (fun _ => True.intro)
    | exact True.intro
    | exact (fun h => h)
    | exact rfl
    | decide
    | exact (fun _ => by decide)
    | exact (show (_ : Int) ≠ _ by decide)
    | fail
  · rw [hw]; omega
  · rw [hw]; show (n : Int) < ((256 : Nat) : Int); omega
  · exact Int.le_trans (by decide) (byteAt_bd _ _).1
  · exact Int.le_trans (byteAt_bd _ _).2 (by decide)
  · rw [Int.zero_add]; exact Int.le_trans (by decide) (byteAt_bd _ _).1
  · rw [Int.zero_add]; exact Int.le_trans (byteAt_bd _ _).2 (by decide)
  repeat' first
    | apply And.intro
    | exact (fun h => Bool.noConfusion h)
    | (refine chkI ?_; kernel_rfl)
    | (refine chkBI ?_; kernel_rfl)
    | exact (fun _ => True.intro)
    | exact True.intro
    | exact (fun h => h)
    | exact rfl
    | decide
    | exact (fun _ => by decide)
    | exact (show (_ : Int) ≠ _ by decide)
    | fail
  show AV.val (.int .i64 (0 + byteAt (bs lenTab) (IntKind.u8.wrap (n : Int)).toNat)) = _
  rw [hw, Int.toNat_natCast, lenTab_at h, Int.zero_add]

theorem c129 (n : Nat) (h : n < 256) : PureC Tryz.prog 129 [.val (.int .u64 n)] (i64 (len8 n)) := by
  refine pureC_of_vc s129 rfl (Nat.le_of_ble_eq_true rfl) rfl ?_
  refine vc_at s129 [] 100 ?_
  repeat' first
    | apply And.intro
    | exact (fun h => Bool.noConfusion h)
    | (refine chkI ?_; kernel_rfl)
    | (refine chkBI ?_; kernel_rfl)
    | exact (fun _ => True.intro)
    | exact True.intro
    | exact (fun h => h)
    | exact rfl
    | decide
    | exact (fun _ => by decide)
    | exact (show (_ : Int) ≠ _ by decide)
    | fail
  refine Exists.intro _ (And.intro (c189 n h) ?_)
  repeat' first
    | apply And.intro
    | exact (fun h => Bool.noConfusion h)
    | (refine chkI ?_; kernel_rfl)
    | (refine chkBI ?_; kernel_rfl)
    | exact (fun _ => True.intro)
    | exact True.intro
    | exact (fun h => h)
    | exact rfl
    | decide
    | exact (fun _ => by decide)
    | exact (show (_ : Int) ≠ _ by decide)
    | fail

noncomputable abbrev f128 : FnI := fiH 128 Tryz.f128 1 [180, 181, 182, 183, 184, 185, 186, 187]
theorem h128 : Setting Tryz.prog tys f128 := settingH (by kernel_rfl) (by kernel_rfl)
/-- slices.pdqsortCmpFunc of at most 12 nodes -/
theorem hc128s {S : Node → Prop} {f : Nat} {c : Node → Node → Int} (hcmp : ∀ x y, S x → S y → PureC Tryz.prog f [nodeA x, nodeA y] (i64 (c x y))) (L : List Node) (lim : Option Nat) (g k : Nat) (hlen : L.length ≤ 12) (hS : ∀ x ∈ L, S x) :
    HeapC Tryz.prog 128 [.ref 0 0 L.length lim g 8, i64 0, i64 L.length, i64 k, .fn f [] []] [.row (L.map nodeA) 8 g] (fun d H => d = .tup [] ∧ H = [.row ((isort c 0 L.length L).map nodeA) 8 g]) := by
  refine heapC_of_vc h128 rfl (Nat.le_of_ble_eq_true rfl) ?_
  refine vc_at h128 [] 100 ?_
  repeat' first
    | apply And.intro
    | exact (fun h => Bool.noConfusion h)
    | (refine chkI ?_; kernel_rfl)
    | (refine chkBI ?_; kernel_rfl)
    | exact (fun _ => True.intro)
    | exact True.intro
    | exact (fun h => h)
    | exact rfl
    | decide
    | exact (fun _ => by decide)
    | exact (show (_ : Int) ≠ _ by decide)
    | fail
  refine vc_at h128 [] 100 ?_
  repeat' first
    | apply And.intro
    | exact (fun h => Bool.noConfusion h)
    | (refine chkI ?_; kernel_rfl)
    | (refine chkBI ?_; kernel_rfl)
    | exact (fun _ => True.intro)
    | exact True.intro
    | exact (fun h => h)
    | exact rfl
    | decide
    | exact (fun _ => by decide)
    | exact (show (_ : Int) ≠ _ by decide)
    | fail
  all_goals first
    | omega
    | (simp only [imp, i64ok, sz, List.length_map, List.length_cons, List.length_nil] <;> omega)
    | (dsimp only [List.length_cons, List.length_nil]; omega)
    | skip
  rw [show decide ((L.length : Int) - 0 ≤ 12) = true by simp; omega]
  repeat' first
    | apply And.intro
    | exact (fun h => Bool.noConfusion h)
    | (refine chkI ?_; kernel_rfl)
    | (refine chkBI ?_; kernel_rfl)
    | exact (fun _ => True.intro)
    | exact True.intro
    | exact (fun h => h)
    | exact rfl
    | decide
    | exact (fun _ => by decide)
    | exact (show (_ : Int) ≠ _ by decide)
    | fail
  refine Exists.intro [0] (Exists.intro _ (And.intro rfl (And.intro (hc180 hcmp L lim g 0 L.length (Nat.le_refl _) (by omega) (by decide) hS) ?_)))
  intro d H hq
  obtain ⟨rfl, rfl⟩ := hq
  repeat' first
    | apply And.intro
    | exact (fun h => Bool.noConfusion h)
    | (refine chkI ?_; kernel_rfl)
    | (refine chkBI ?_; kernel_rfl)
    | exact (fun _ => True.intro)
    | exact True.intro
    | exact (fun h => h)
    | exact rfl
    | decide
    | exact (fun _ => by decide)
    | exact (show (_ : Int) ≠ _ by decide)
    | fail
  exact ⟨[0], rfl, rfl, rfl, rfl⟩

noncomputable abbrev f62 : FnI := fiH 62 Tryz.f62 1 [128]
theorem h62 : Setting Tryz.prog tys f62 := settingH (by kernel_rfl) (by kernel_rfl)
/-- slices.SortFunc of at most 12 nodes -/
theorem hc62s {S : Node → Prop} {f : Nat} {c : Node → Node → Int} (hcmp : ∀ x y, S x → S y → PureC Tryz.prog f [nodeA x, nodeA y] (i64 (c x y))) (L : List Node) (lim : Option Nat) (g : Nat) (hlen : L.length ≤ 12) (hS : ∀ x ∈ L, S x) :
    HeapC Tryz.prog 62 [.ref 0 0 L.length lim g 8, .fn f [] []] [.row (L.map nodeA) 8 g] (fun d H => d = .tup [] ∧ H = [.row ((isort c 0 L.length L).map nodeA) 8 g]) := by
  refine heapC_of_vc h62 rfl (Nat.le_of_ble_eq_true rfl) ?_
  refine vc_at h62 [] 100 ?_
  repeat' first
    | apply And.intro
    | exact (fun h => Bool.noConfusion h)
    | (refine chkI ?_; kernel_rfl)
    | (refine chkBI ?_; kernel_rfl)
    | exact (fun _ => True.intro)
    | exact True.intro
    | exact (fun h => h)
    | exact rfl
    | decide
    | exact (fun _ => by decide)
    | exact (show (_ : Int) ≠ _ by decide)
    | fail
  refine Exists.intro _ (And.intro (pc (c129 L.length (by omega)) ?_) ?_)
  · show [AV.val (.int .u64 (IntKind.u64.wrap (L.length : Int)))] = _
    rw [wrap_u64, Nat.mod_eq_of_lt (by omega)]
  repeat' first
    | apply And.intro
    | exact (fun h => Bool.noConfusion h)
    | (refine chkI ?_; kernel_rfl)
    | (refine chkBI ?_; kernel_rfl)
    | exact (fun _ => True.intro)
    | exact True.intro
    | exact (fun h => h)
    | exact rfl
    | decide
    | exact (fun _ => by decide)
    | exact (show (_ : Int) ≠ _ by decide)
    | fail
  refine Exists.intro [0] (Exists.intro _ (And.intro rfl (And.intro (hc128s hcmp L lim g (len8 L.length) hlen hS) ?_)))
  intro d H hq
  obtain ⟨rfl, rfl⟩ := hq
  repeat' first
    | apply And.intro
    | exact (fun h => Bool.noConfusion h)
    | (refine chkI ?_; kernel_rfl)
    | (refine chkBI ?_; kernel_rfl)
    | exact (fun _ => True.intro)
    | exact True.intro
    | exact (fun h => h)
    | exact rfl
    | decide
    | exact (fun _ => by decide)
    | exact (show (_ : Int) ≠ _ by decide)
    | fail
  exact ⟨[0], rfl, rfl, rfl, rfl⟩

end Vm
end Go.Proofs.YtdbpcmpkpbamhaaGreatDoor

/- Walks: whether a node lies below another. -/
namespace Go.Proofs.YtdbpcmpkpbamhaaGreatDoor
set_option linter.unusedVariables false
set_option linter.unusedSimpArgs false
set_option maxRecDepth 100000
namespace Vm
open Go

/-- The entries of a map of nodes by their Ids. -/
def spE : List Node → Nat → List (AV × AV × Nat)
  | [], _ => []
  | z :: r, i => (idA z.id, nodeA z, i) :: spE r (i + 1)
def findN (x : Id) (M : List Node) : Option Node := M.find? (fun z => z.id == x)

theorem spE_snoc (z : Node) : ∀ (l : List Node) (i : Nat), spE (l ++ [z]) i = spE l i ++ [(idA z.id, nodeA z, i + l.length)]
  | [], i => rfl
  | x :: l, i => by
    simp only [List.cons_append, spE, spE_snoc z l (i + 1), List.length_cons]
    rw [show i + 1 + l.length = i + (l.length + 1) by omega]

theorem spE_len : ∀ (l : List Node) (i : Nat), (spE l i).length = l.length
  | [], _ => rfl
  | x :: l, i => by simp only [spE, List.length_cons, spE_len l (i + 1)]

theorem findM_sp (x : Id) : ∀ (M : List Node) (i j : Nat), (findN x M = none → findM tys 25 (idA x) (spE M i) j = some none) ∧
    (∀ z, findN x M = some z → z.id = x ∧ ∃ k, M[k]? = some z ∧ findM tys 25 (idA x) (spE M i) j = some (some (j + k, idA z.id, nodeA z, i + k)))
  | [], i, j => ⟨fun _ => rfl, (fun z h => by simp [findN] at h)⟩
  | y :: M, i, j => by
    obtain ⟨h1, h2⟩ := findM_sp x M (i + 1) (j + 1)
    unfold findN at h1 h2 ⊢
    simp only [spE, findM, List.find?_cons]
    rw [eqT_id]
    by_cases h : x = y.id
    · subst h
      rw [show (y.id == y.id) = true by simp]
      exact ⟨(fun h => by cases h), fun z hz => by cases hz; exact ⟨rfl, 0, rfl, rfl⟩⟩
    · rw [show (x == y.id) = false by simpa using h, show (y.id == x) = false by simpa using Ne.symm h]
      refine ⟨h1, fun z hz => ?_⟩
      obtain ⟨g1, k, g2, g3⟩ := h2 z hz
      refine ⟨g1, k + 1, by simpa using g2, ?_⟩
      rw [show j + (k + 1) = j + 1 + k by omega, show i + (k + 1) = i + 1 + k by omega]
      exact g3

/-- Whether top lies above x, by way of parents not met yet. -/
def climbF (M : List Node) (top : Id) : Nat → List Id → Id → Bool
  | 0, _, x => x == top
  | n + 1, met, x => if x == top then true else match findN x M with
    | none => false
    | some z => if x ∈ met then false else climbF M top n (met ++ [x]) z.par

abbrev fnC : AV := .fn 127 [] [.ptr 2 0 0 0, .ptr 1 0 0 0, .ptr 4 0 0 0, .ptr 5 0 0 0]
abbrev argsC (x : Id) : List AV := [idA x, .ptr 2 0 0 0, .ptr 1 0 0 0, .ptr 4 0 0 0, .ptr 5 0 0 0]
abbrev hC (es : List (AV × AV × Nat)) (cl : Nat) (top : Id) (ms : List (AV × AV × Nat)) (mc : Nat) : List Blk :=
  [.map es cl, .box [.mp 0] false, .box [str top.au, i64 top.n] false, .map ms mc, .box [.mp 3] false, .box [fnC] false]

noncomputable abbrev f127 : FnI := fiH 127 Tryz.f127 6 [127]
theorem h127 : Setting Tryz.prog tys f127 := settingH (by kernel_rfl) (by kernel_rfl)

theorem climb_step (M : List Node) (top : Id) (cl : Nat) (es : List (AV × AV × Nat)) (hes : es = spE M 0) (met : List Id) (x : Id) (ms : List (AV × AV × Nat)) (hms : ms = metE met 0) (rr : Node → Bool)
    (hrec : ∀ z, findN x M = some z → x ∉ met → HeapC Tryz.prog 127 (argsC z.par) (hC es cl top (ms ++ [(idA x, .val (.bool true), met.length)]) (met.length + 1)) (fun d H => d = .val (.bool (rr z)) ∧ ∃ ms' mc', H = hC es cl top ms' mc')) :
    HeapC Tryz.prog 127 (argsC x) (hC es cl top ms met.length) (fun d H => d = .val (.bool (if x == top then true else match findN x M with
      | none => false
      | some z => if x ∈ met then false else rr z)) ∧ ∃ ms' mc', H = hC es cl top ms' mc') := by
  obtain ⟨hf1, hf2⟩ := findM_sp x M 0 0
  obtain ⟨hm1, hm2⟩ := findM_met x met 0 0
  rw [← hes] at hf1 hf2
  rw [← hms] at hm1 hm2
  refine heapC_of_vc h127 rfl (Nat.le_of_ble_eq_true rfl) ?_
  refine vc_at h127 [] 100 ?_
  repeat' first
    | apply And.intro
    | exact (fun h => Bool.noConfusion h)
    | (refine chkI ?_; kernel_rfl)
    | (refine chkBI ?_; kernel_rfl)
    | exact (fun _ => True.intro)
    | exact True.intro
    | exact (fun h => h)
    | exact rfl
    | decide
    | exact (fun _ => by decide)
    | exact (show (_ : Int) ≠ _ by decide)
    | fail
  rw [id_beq]
  cases hc : (x == top) with
  | true =>
    repeat' first
      | apply And.intro
      | exact (fun h => Bool.noConfusion h)
      | (refine chkI ?_; kernel_rfl)
      | (refine chkBI ?_; kernel_rfl)
      | exact (fun _ => True.intro)
      | exact True.intro
      | exact (fun h => h)
      | exact rfl
      | decide
      | exact (fun _ => by decide)
      | exact (show (_ : Int) ≠ _ by decide)
      | fail
    exact ⟨[0, 1, 2, 3, 4, 5], rfl, rfl, rfl, ms, met.length, rfl⟩
  | false =>
    repeat' first
      | apply And.intro
      | exact (fun h => Bool.noConfusion h)
      | (refine chkI ?_; kernel_rfl)
      | (refine chkBI ?_; kernel_rfl)
      | exact (fun _ => True.intro)
      | exact True.intro
      | exact (fun h => h)
      | exact rfl
      | decide
      | exact (fun _ => by decide)
      | exact (show (_ : Int) ≠ _ by decide)
      | fail
    conv => whnf
    cases hz : findN x M with
    | none =>
      rw [show findM tys 25 (AV.agg [AV.val (Value.string (bs x.au)), AV.val (Value.int IntKind.i64 x.n)]) es 0 = _ from hf1 hz]
      by_cases hm : x ∈ met
      · obtain ⟨kk, mm, hf3⟩ := hm1 hm
        repeat' first
          | apply And.intro
          | exact (fun h => Bool.noConfusion h)
          | (refine chkI ?_; kernel_rfl)
          | (refine chkBI ?_; kernel_rfl)
          | exact (fun _ => True.intro)
          | exact True.intro
          | exact (fun h => h)
          | exact rfl
          | decide
          | exact (fun _ => by decide)
          | exact (show (_ : Int) ≠ _ by decide)
          | fail
        conv => whnf
        rw [show findM tys 25 (AV.agg [AV.val (Value.string (bs x.au)), AV.val (Value.int IntKind.i64 x.n)]) ms 0 = _ from hf3]
        repeat' first
          | apply And.intro
          | exact (fun h => Bool.noConfusion h)
          | (refine chkI ?_; kernel_rfl)
          | (refine chkBI ?_; kernel_rfl)
          | exact (fun _ => True.intro)
          | exact True.intro
          | exact (fun h => h)
          | exact rfl
          | decide
          | exact (fun _ => by decide)
          | exact (show (_ : Int) ≠ _ by decide)
          | fail
        exact ⟨[0, 1, 2, 3, 4, 5], rfl, rfl, rfl, ms, met.length, rfl⟩
      · repeat' first
          | apply And.intro
          | exact (fun h => Bool.noConfusion h)
          | (refine chkI ?_; kernel_rfl)
          | (refine chkBI ?_; kernel_rfl)
          | exact (fun _ => True.intro)
          | exact True.intro
          | exact (fun h => h)
          | exact rfl
          | decide
          | exact (fun _ => by decide)
          | exact (show (_ : Int) ≠ _ by decide)
          | fail
        conv => whnf
        rw [show findM tys 25 (AV.agg [AV.val (Value.string (bs x.au)), AV.val (Value.int IntKind.i64 x.n)]) ms 0 = _ from hm2 hm]
        repeat' first
          | apply And.intro
          | exact (fun h => Bool.noConfusion h)
          | (refine chkI ?_; kernel_rfl)
          | (refine chkBI ?_; kernel_rfl)
          | exact (fun _ => True.intro)
          | exact True.intro
          | exact (fun h => h)
          | exact rfl
          | decide
          | exact (fun _ => by decide)
          | exact (show (_ : Int) ≠ _ by decide)
          | fail
        exact ⟨[0, 1, 2, 3, 4, 5], rfl, rfl, rfl, ms, met.length, rfl⟩
    | some z =>
      obtain ⟨hzx, kk, hk1, hk2⟩ := hf2 z hz
      rw [show findM tys 25 (AV.agg [AV.val (Value.string (bs x.au)), AV.val (Value.int IntKind.i64 x.n)]) es 0 = _ from hk2]
      by_cases hm : x ∈ met
      · obtain ⟨kk, mm, hf3⟩ := hm1 hm
        repeat' first
          | apply And.intro
          | exact (fun h => Bool.noConfusion h)
          | (refine chkI ?_; kernel_rfl)
          | (refine chkBI ?_; kernel_rfl)
          | exact (fun _ => True.intro)
          | exact True.intro
          | exact (fun h => h)
          | exact rfl
          | decide
          | exact (fun _ => by decide)
          | exact (show (_ : Int) ≠ _ by decide)
          | fail
        conv => whnf
        rw [show findM tys 25 (AV.agg [AV.val (Value.string (bs x.au)), AV.val (Value.int IntKind.i64 x.n)]) ms 0 = _ from hf3]
        repeat' first
          | apply And.intro
          | exact (fun h => Bool.noConfusion h)
          | (refine chkI ?_; kernel_rfl)
          | (refine chkBI ?_; kernel_rfl)
          | exact (fun _ => True.intro)
          | exact True.intro
          | exact (fun h => h)
          | exact rfl
          | decide
          | exact (fun _ => by decide)
          | exact (show (_ : Int) ≠ _ by decide)
          | fail
        exact ⟨[0, 1, 2, 3, 4, 5], rfl, rfl, by simp only [if_pos hm]; rfl, ms, met.length, rfl⟩
      · have hc := hrec z hz hm
        repeat' first
          | apply And.intro
          | exact (fun h => Bool.noConfusion h)
          | (refine chkI ?_; kernel_rfl)
          | (refine chkBI ?_; kernel_rfl)
          | exact (fun _ => True.intro)
          | exact True.intro
          | exact (fun h => h)
          | exact rfl
          | decide
          | exact (fun _ => by decide)
          | exact (show (_ : Int) ≠ _ by decide)
          | fail
        conv => whnf
        rw [show findM tys 25 (AV.agg [AV.val (Value.string (bs x.au)), AV.val (Value.int IntKind.i64 x.n)]) ms 0 = _ from hm2 hm]
        repeat' first
          | apply And.intro
          | exact (fun h => Bool.noConfusion h)
          | (refine chkI ?_; kernel_rfl)
          | (refine chkBI ?_; kernel_rfl)
          | exact (fun _ => True.intro)
          | exact True.intro
          | exact (fun h => h)
          | exact rfl
          | decide
          | exact (fun _ => by decide)
          | exact (show (_ : Int) ≠ _ by decide)
          | fail
        conv => whnf
        rw [show findM tys 25 (AV.agg [AV.val (Value.string (bs x.au)), AV.val (Value.int IntKind.i64 x.n)]) ms 0 = _ from hm2 hm]
        repeat' first
          | apply And.intro
          | exact (fun h => Bool.noConfusion h)
          | (refine chkI ?_; kernel_rfl)
          | (refine chkBI ?_; kernel_rfl)
          | exact (fun _ => True.intro)
          | exact True.intro
          | exact (fun h => h)
          | exact rfl
          | decide
          | exact (fun _ => by decide)
          | exact (show (_ : Int) ≠ _ by decide)
          | fail
        refine Exists.intro [0, 1, 2, 3, 4, 5] (Exists.intro _ (And.intro rfl (And.intro (hc) ?_)))
        intro d H hq
        obtain ⟨rfl, ms', mc', rfl⟩ := hq
        repeat' first
          | apply And.intro
          | exact (fun h => Bool.noConfusion h)
          | (refine chkI ?_; kernel_rfl)
          | (refine chkBI ?_; kernel_rfl)
          | exact (fun _ => True.intro)
          | exact True.intro
          | exact (fun h => h)
          | exact rfl
          | decide
          | exact (fun _ => by decide)
          | exact (show (_ : Int) ≠ _ by decide)
          | fail
        exact ⟨[0, 1, 2, 3, 4, 5], rfl, rfl, by simp only [if_neg hm]; rfl, ms', mc', rfl⟩

theorem climb_ok (M : List Node) (top : Id) (cl : Nat) (es : List (AV × AV × Nat)) (hes : es = spE M 0) : ∀ (n : Nat) (met : List Id) (x : Id) (ms : List (AV × AV × Nat)), ms = metE met 0 → unmet M met ≤ n →
    HeapC Tryz.prog 127 (argsC x) (hC es cl top ms met.length) (fun d H => d = .val (.bool (climbF M top n met x)) ∧ ∃ ms' mc', H = hC es cl top ms' mc') := by
  intro n
  have mem : ∀ {x z}, findN x M = some z → x ∈ M.map (·.id) := fun {x z} h => by
    obtain ⟨e, k, hk, _⟩ := (findM_sp x M 0 0).2 z h
    exact List.mem_map.2 ⟨z, List.mem_of_getElem? hk, e⟩
  induction n with
  | zero =>
    intro met x ms hms hn
    have := climb_step M top cl es hes met x ms hms (fun _ => false) (fun z hz hm => absurd (unmet_snoc (mem hz) hm) (by omega))
    have e : (if x == top then true else match findN x M with
      | none => false
      | some z => if x ∈ met then false else false) = climbF M top 0 met x := by
      simp only [climbF]
      cases x == top <;> simp
      split <;> rfl
    rw [e] at this
    exact this
  | succ n ih =>
    intro met x ms hms hn
    refine climb_step M top cl es hes met x ms hms (fun z => climbF M top n (met ++ [x]) z.par) fun z hz hm => ?_
    have hlt := unmet_snoc (mem hz) hm
    have := ih (met ++ [x]) z.par (ms ++ [(idA x, .val (.bool true), met.length)]) (by rw [metE_snoc, hms]; simp) (by omega)
    rw [show (met ++ [x]).length = met.length + 1 by simp] at this
    exact this

/-- Whether x is top or lies below it. -/
def underN (M : List Node) (x top : Id) : Bool := climbF M top M.length [] x

noncomputable abbrev f61 : FnI := fiH 61 Tryz.f61 1 [127]
theorem h61 : Setting Tryz.prog tys f61 := settingH (by kernel_rfl) (by kernel_rfl)
/-- movetree.under -/
theorem hc61 (M : List Node) (x top : Id) (cl : Nat) (es : List (AV × AV × Nat)) (hes : es = spE M 0) :
    HeapC Tryz.prog 61 [.mp 0, idA x, idA top] [.map es cl] (fun d H => d = .val (.bool (underN M x top)) ∧ H = [.map es cl]) := by
  have hc := climb_ok M top cl es hes M.length [] x [] rfl (List.length_filter_le _ _)
  refine heapC_of_vc h61 rfl (Nat.le_of_ble_eq_true rfl) ?_
  refine vc_at h61 [] 100 ?_
  repeat' first
    | apply And.intro
    | exact (fun h => Bool.noConfusion h)
    | (refine chkI ?_; kernel_rfl)
    | (refine chkBI ?_; kernel_rfl)
    | exact (fun _ => True.intro)
    | exact True.intro
    | exact (fun h => h)
    | exact rfl
    | decide
    | exact (fun _ => by decide)
    | exact (show (_ : Int) ≠ _ by decide)
    | fail
  refine Exists.intro [0, 1, 3, 4, 5, 6] (Exists.intro _ (And.intro rfl (And.intro (hc) ?_)))
  intro d H hq
  obtain ⟨rfl, ms', mc', rfl⟩ := hq
  repeat' first
    | apply And.intro
    | exact (fun h => Bool.noConfusion h)
    | (refine chkI ?_; kernel_rfl)
    | (refine chkBI ?_; kernel_rfl)
    | exact (fun _ => True.intro)
    | exact True.intro
    | exact (fun h => h)
    | exact rfl
    | decide
    | exact (fun _ => by decide)
    | exact (show (_ : Int) ≠ _ by decide)
    | fail
  exact ⟨[0], rfl, rfl, rfl, rfl⟩

end Vm
end Go.Proofs.YtdbpcmpkpbamhaaGreatDoor

/- Insertion sort and orders: plain Lean, no program in sight. -/
namespace Go.Proofs.YtdbpcmpkpbamhaaGreatDoor
set_option linter.unusedVariables false
namespace Vm
open Go

/-! ### Orders -/
theorem lessS_irrefl : ∀ a : List UInt8, lessS a a = false
  | [] => rfl
  | x :: a => by simp [lessS, Op.bytesLess]; exact lessS_irrefl a
theorem lessS_trans : ∀ {a b c : List UInt8}, lessS a b = true → lessS b c = true → lessS a c = true
  | _, [], _, h, _ => by simp [lessS, Op.bytesLess] at h
  | _, _, [], _, h => by simp [lessS, Op.bytesLess] at h
  | [], _ :: _, _ :: _, _, _ => rfl
  | x :: a, y :: b, z :: c, h1, h2 => by
    simp only [lessS, Op.bytesLess, Bool.or_eq_true, decide_eq_true_eq, Bool.and_eq_true, beq_iff_eq] at h1 h2 ⊢
    rcases h1 with h1 | ⟨h1, h1'⟩ <;> rcases h2 with h2 | ⟨h2, h2'⟩
    · exact .inl (by rw [UInt8.lt_iff_toNat_lt] at *; omega)
    · exact .inl (h2 ▸ h1)
    · exact .inl (h1 ▸ h2)
    · exact .inr ⟨h1.trans h2, lessS_trans h1' h2'⟩
theorem lessS_total : ∀ (a b : List UInt8), lessS a b = true ∨ a = b ∨ lessS b a = true
  | [], [] => .inr (.inl rfl)
  | [], _ :: _ => .inl rfl
  | _ :: _, [] => .inr (.inr rfl)
  | x :: a, y :: b => by
    simp only [lessS, Op.bytesLess, Bool.or_eq_true, decide_eq_true_eq, Bool.and_eq_true, beq_iff_eq]
    by_cases h : x = y
    · subst h
      rcases lessS_total a b with h | h | h
      · exact .inl (.inr ⟨rfl, h⟩)
      · exact .inr (.inl (by rw [h]))
      · exact .inr (.inr (.inr ⟨rfl, h⟩))
    · have : x < y ∨ y < x := by
        rw [UInt8.lt_iff_toNat_lt, UInt8.lt_iff_toNat_lt]
        have hne : x.toNat ≠ y.toNat := fun e => h (UInt8.toNat_inj.1 e)
        omega
      rcases this with h | h
      · exact .inl (.inl h)
      · exact .inr (.inr (.inl h))

theorem cmpS_lt (a b : List UInt8) : cmpS a b < 0 ↔ lessS a b = true := by
  unfold cmpS
  cases h : lessS a b with
  | true => simp
  | false => simp only [Bool.false_eq_true, if_false, iff_false]; split <;> omega
theorem cmpS_eq (a b : List UInt8) : cmpS a b = 0 ↔ a = b := by
  unfold cmpS
  by_cases h : a = b
  · subst h; simp [lessS_irrefl]
  · rw [show (a == b) = false by simpa using h]
    split <;> simp [h]
theorem cmpI_lt (a b : Int) : cmpI a b < 0 ↔ a < b := by unfold cmpI; split <;> (try split) <;> omega
theorem cmpI_eq (a b : Int) : cmpI a b = 0 ↔ a = b := by unfold cmpI; split <;> (try split) <;> omega
theorem orI_lt (a b : Int) : orI a b < 0 ↔ a < 0 ∨ a = 0 ∧ b < 0 := by unfold orI; split <;> omega
theorem orI_eq (a b : Int) : orI a b = 0 ↔ a = 0 ∧ b = 0 := by unfold orI; split <;> omega

def ltId (a b : Id) : Prop := lessId a b < 0
theorem ltId_iff (a b : Id) : ltId a b ↔ lessS a.au b.au = true ∨ a.au = b.au ∧ a.n < b.n := by
  unfold ltId lessId
  rw [orI_lt, cmpS_lt, cmpS_eq, cmpI_lt]
theorem lessId_eq (a b : Id) : lessId a b = 0 ↔ a = b := by
  unfold lessId
  rw [orI_eq, cmpS_eq, cmpI_eq]
  obtain ⟨x, n⟩ := a
  obtain ⟨y, m⟩ := b
  simp
theorem ltId_irrefl (a : Id) : ¬ ltId a a := by rw [ltId_iff, lessS_irrefl]; simp
theorem ltId_trans {a b c : Id} (h1 : ltId a b) (h2 : ltId b c) : ltId a c := by
  rw [ltId_iff] at *
  rcases h1 with h1 | ⟨h1, h1'⟩ <;> rcases h2 with h2 | ⟨h2, h2'⟩
  · exact .inl (lessS_trans h1 h2)
  · exact .inl (h2 ▸ h1)
  · exact .inl (h1 ▸ h2)
  · exact .inr ⟨h1.trans h2, by omega⟩
theorem ltId_total (a b : Id) : ltId a b ∨ a = b ∨ ltId b a := by
  rw [ltId_iff, ltId_iff]
  obtain ⟨x, n⟩ := a
  obtain ⟨y, m⟩ := b
  simp only [Id.mk.injEq]
  rcases lessS_total x y with h | h | h
  · exact .inl (.inl h)
  · subst h
    rcases Int.lt_trichotomy n m with h | h | h
    · exact .inl (.inr ⟨rfl, h⟩)
    · exact .inr (.inl ⟨rfl, h⟩)
    · exact .inr (.inr (.inr ⟨rfl, h⟩))
  · exact .inr (.inr (.inl h))

/-! ### Insertion sort -/
section
variable {α : Type} (c : α → α → Int)

/-- x comes before the last ones that it is less than; the list is given from its end. -/
def insB : List α → α → List α
  | [], x => [x]
  | y :: S, x => if c x y < 0 then y :: insB S x else x :: y :: S

theorem bubble_eq : ∀ (S R : List α) (x : α), bubble c 0 S.length (S.reverse ++ x :: R) = (insB c S x).reverse ++ R
  | [], R, x => rfl
  | y :: S, R, x => by
    have hx : ((y :: S).reverse ++ x :: R)[S.length + 1]? = some x := by
      rw [List.getElem?_append_right (by simp)]; simp
    have hy : ((y :: S).reverse ++ x :: R)[S.length]? = some y := by
      rw [List.getElem?_append_left (by simp)]; simp
    simp only [List.length_cons, bubble, hx, hy]
    rw [if_pos (by omega)]
    by_cases h : c x y < 0
    · rw [if_pos h]
      have e : (((y :: S).reverse ++ x :: R).set (S.length + 1) y).set S.length x = S.reverse ++ x :: y :: R := by
        rw [List.reverse_cons, List.append_assoc, List.set_append_right _ _ (by simp), List.set_append_right _ _ (by simp)]
        simp
      rw [e, bubble_eq S (y :: R) x, insB, if_pos h]
      simp
    · rw [if_neg h, insB, if_neg h]
      simp

theorem isortF_eq : ∀ (k : Nat) (S R : List α), k = R.length → isortF c 0 k S.length (S.reverse ++ R) = (R.foldl (insB c) S).reverse
  | 0, S, R, h => by
    have : R = [] := List.eq_nil_of_length_eq_zero h.symm
    subst this
    simp [isortF]
  | k + 1, S, R, h => by
    cases R with
    | nil => simp at h
    | cons x R =>
      simp only [isortF]
      rw [bubble_eq]
      have hl : ∀ (S : List α) x, (insB c S x).length = S.length + 1 := by
        intro S x
        induction S with
        | nil => rfl
        | cons y S ih => simp only [insB]; split <;> simp [ih]
      have := isortF_eq k (insB c S x) R (by simpa using h)
      rw [hl] at this
      exact this

theorem isort_eq (L : List α) : isort c 0 L.length L = (L.foldl (insB c) []).reverse := by
  unfold isort
  cases L with
  | nil => rfl
  | cons x L =>
    have := isortF_eq c L.length [x] L rfl
    simpa [insB] using this

theorem insB_perm : ∀ (S : List α) (x : α), (insB c S x).Perm (x :: S)
  | [], x => List.Perm.refl _
  | y :: S, x => by
    simp only [insB]
    split
    · exact ((insB_perm S x).cons y).trans (List.Perm.swap x y S)
    · exact List.Perm.refl _

theorem foldl_insB_perm : ∀ (L S : List α), (L.foldl (insB c) S).Perm (S ++ L)
  | [], S => by simp
  | x :: L, S => by
    refine (foldl_insB_perm L (insB c S x)).trans ?_
    refine ((insB_perm c S x).append_right L).trans ?_
    exact (List.perm_middle (a := x) (l₁ := S) (l₂ := L)).symm

theorem isort_perm (L : List α) : (isort c 0 L.length L).Perm L := by
  rw [isort_eq]
  exact (List.reverse_perm _).trans (by simpa using foldl_insB_perm c L [])

/-- Sorted from the end. -/
theorem insB_sorted (trans : ∀ x y z, ¬ c y x < 0 → ¬ c z y < 0 → ¬ c z x < 0) (asym : ∀ x y, c x y < 0 → ¬ c y x < 0) : ∀ (S : List α) (x : α), S.Pairwise (fun a b => ¬ c a b < 0) → (insB c S x).Pairwise (fun a b => ¬ c a b < 0)
  | [], x, _ => by simp [insB]
  | y :: S, x, h => by
    obtain ⟨h1, h2⟩ := List.pairwise_cons.1 h
    simp only [insB]
    split
    · rename_i hxy
      refine List.pairwise_cons.2 ⟨fun z hz => ?_, insB_sorted trans asym S x h2⟩
      rcases List.mem_cons.1 ((insB_perm c S x).mem_iff.1 hz) with rfl | hz
      · exact asym _ _ hxy
      · exact h1 z hz
    · rename_i hxy
      refine List.pairwise_cons.2 ⟨fun z hz => ?_, h⟩
      rcases List.mem_cons.1 hz with rfl | hz
      · exact hxy
      · exact trans _ _ _ (h1 z hz) hxy

theorem isort_sorted (trans : ∀ x y z, ¬ c y x < 0 → ¬ c z y < 0 → ¬ c z x < 0) (asym : ∀ x y, c x y < 0 → ¬ c y x < 0) (L : List α) : (isort c 0 L.length L).Pairwise (fun a b => ¬ c b a < 0) := by
  rw [isort_eq, List.pairwise_reverse]
  have : ∀ (L S : List α), S.Pairwise (fun a b => ¬ c a b < 0) → (L.foldl (insB c) S).Pairwise (fun a b => ¬ c a b < 0) := by
    intro L
    induction L with
    | nil => intro S h; exact h
    | cons x L ih => intro S h; exact ih _ (insB_sorted c trans asym S x h)
  exact this L [] List.Pairwise.nil
end

/-! ### Nodes by their Ids -/
def cmpK (x y : Node) : Int := lessId x.id y.id
theorem nodup_inj {α β : Type} {f : α → β} : ∀ {l : List α}, (l.map f).Nodup → ∀ a ∈ l, ∀ b ∈ l, f a = f b → a = b
  | [], _, a, ha, _, _, _ => by cases ha
  | x :: l, h, a, ha, b, hb, e => by
    simp only [List.map_cons, List.nodup_cons, List.mem_map, not_exists, not_and] at h
    rcases List.mem_cons.1 ha with ea | ha' <;> rcases List.mem_cons.1 hb with eb | hb'
    · rw [ea, eb]
    · subst ea; exact absurd e.symm (h.1 _ hb')
    · subst eb; exact absurd e (h.1 _ ha')
    · exact nodup_inj h.2 a ha' b hb' e

theorem cmpK_trans (x y z : Node) (h1 : ¬ cmpK y x < 0) (h2 : ¬ cmpK z y < 0) : ¬ cmpK z x < 0 := by
  intro h3
  rcases ltId_total x.id y.id with h | h | h
  · exact h2 (ltId_trans h3 h)
  · unfold cmpK at *; rw [h] at h3; exact h2 h3
  · exact h1 h
theorem cmpK_asym (x y : Node) (h : cmpK x y < 0) : ¬ cmpK y x < 0 := fun h2 => ltId_irrefl _ (ltId_trans (a := x.id) h h2)

/-- The nodes, sorted by their Ids. -/
def sortN (L : List Node) : List Node := isort cmpK 0 L.length L
theorem sortN_unique {A B : List Node} (hp : A.Perm B) (hn : (A.map (·.id)).Nodup) : sortN A = sortN B := by
  refine List.Perm.eq_of_pairwise (le := fun a b => ¬ cmpK b a < 0) (fun a b ha hb h1 h2 => ?_) (isort_sorted cmpK cmpK_trans cmpK_asym A) (isort_sorted cmpK cmpK_trans cmpK_asym B) ((isort_perm cmpK A).trans (hp.trans (isort_perm cmpK B).symm))
  have ha : a ∈ A := (isort_perm cmpK A).mem_iff.1 ha
  have hb : b ∈ A := hp.mem_iff.2 ((isort_perm cmpK B).mem_iff.1 hb)
  refine nodup_inj hn a ha b hb ?_
  rcases ltId_total a.id b.id with h | h | h
  · exact absurd h h2
  · exact h
  · exact absurd h h1
theorem sortN_perm (L : List Node) : (sortN L).Perm L := isort_perm cmpK L
theorem sortN_sorted {L : List Node} (hn : (L.map (·.id)).Nodup) : (sortN L).Pairwise (fun a b => ltId a.id b.id) := by
  have h1 := isort_sorted cmpK cmpK_trans cmpK_asym L
  have h2 : ((sortN L).map (·.id)).Nodup := ((sortN_perm L).map _).nodup_iff.2 hn
  have h3 : (sortN L).Pairwise (fun a b => a.id ≠ b.id) := by rw [List.nodup_iff_pairwise_ne, List.pairwise_map] at h2; exact h2
  refine (h1.and h3).imp fun {a b} h => ?_
  rcases ltId_total a.id b.id with h' | h' | h'
  · exact h'
  · exact absurd h' h.2
  · exact absurd h' h.1

end Vm
end Go.Proofs.YtdbpcmpkpbamhaaGreatDoor
