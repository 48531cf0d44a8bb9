/- Walks: the children of a node, the walk of the tree. -/
import Derived.Test.YtdbpcmpkpbamhaaGreatDoorMm
namespace Go.Proofs.YtdbpcmpkpbamhaaGreatDoor
set_option linter.unusedVariables false
set_option linter.unusedSimpArgs false
set_option maxRecDepth 100000
namespace Vm
open Go

theorem s23 : Setting Tryz.prog tys (fi 23 Tryz.f23) := setting (by kernel_rfl) (by kernel_rfl)
abbrev st23 (sl : AV) (n i : Nat) (out : List Id) (g : Nat) : St := match out with
  | [] => ⟨[(5, nilA), (10, sl), (11, i64 n), (12, i64 i)], []⟩
  | x :: xs => ⟨[(5, .ref 0 0 (xs.length + 1) none g 2), (10, sl), (11, i64 n), (12, i64 i)], [.row (idA x :: xs.map idA) 2 g]⟩

theorem loop23 (nl : Option Bool) (cp : Option Nat) (L : List Node) (hL : L.length < 2 ^ 39) : ∀ (k i : Nat) (out : List Id) (g : Nat), k = L.length - i → i ≤ L.length → out.length ≤ i →
    VC Tryz.prog (fi 23 Tryz.f23) [0, 0, 1, 0, 1, 1] (st23 (.sl nl cp 8 (L.map nodeA)) L.length i out g) (Gives (outA 2 ((out ++ (L.drop i).map (·.id)).map idA)))
  | 0, i, out, g, hk, hi, ho => by
    have hd : L.drop i = [] := List.drop_eq_nil_of_le (by omega)
    rw [hd]
    cases out with
    | nil =>
      refine vc_at s23 [[0, 0, 1, 0, 1, 1]] 100 ?_
      repeat' first
        | apply And.intro
        | exact (fun h => Bool.noConfusion h)
        | (refine chkI ?_; kernel_rfl)
        | (refine chkBI ?_; kernel_rfl)
        | exact (fun _ => True.intro)
        | exact True.intro
        | exact (fun h => h)
        | exact rfl
        | decide
        | exact (fun _ => by decide)
        | exact (show (_ : Int) ≠ _ by decide)
        | fail
      rw [show decide ((i : Int) < L.length) = false by simp; omega]
      repeat' first
        | apply And.intro
        | exact (fun h => Bool.noConfusion h)
        | (refine chkI ?_; kernel_rfl)
        | (refine chkBI ?_; kernel_rfl)
        | exact (fun _ => True.intro)
        | exact True.intro
        | exact (fun h => h)
        | exact rfl
        | decide
        | exact (fun _ => by decide)
        | exact (show (_ : Int) ≠ _ by decide)
        | fail
    | cons x xs =>
      refine vc_at s23 [[0, 0, 1, 0, 1, 1]] 100 ?_
      repeat' first
        | apply And.intro
        | exact (fun h => Bool.noConfusion h)
        | (refine chkI ?_; kernel_rfl)
        | (refine chkBI ?_; kernel_rfl)
        | exact (fun _ => True.intro)
        | exact True.intro
        | exact (fun h => h)
        | exact rfl
        | decide
        | exact (fun _ => by decide)
        | exact (show (_ : Int) ≠ _ by decide)
        | fail
      rw [show decide ((i : Int) < L.length) = false by simp; omega]
      repeat' first
        | apply And.intro
        | exact (fun h => Bool.noConfusion h)
        | (refine chkI ?_; kernel_rfl)
        | (refine chkBI ?_; kernel_rfl)
        | exact (fun _ => True.intro)
        | exact True.intro
        | exact (fun h => h)
        | exact rfl
        | decide
        | exact (fun _ => by decide)
        | exact (show (_ : Int) ≠ _ by decide)
        | fail
      show frz [.row (idA x :: xs.map idA) 2 g] (.ref 0 0 (xs.length + 1) none g 2) = _
      rw [frz_ref rfl, List.drop_zero, List.take_of_length_le (by simp)]
      simp
  | k + 1, i, out, g, hk, hi, ho => by
    have hlt : i < L.length := by omega
    obtain ⟨x, hx⟩ : ∃ x, L[i]? = some x := ⟨L[i], List.getElem?_eq_getElem hlt⟩
    have hdr : L.drop i = x :: L.drop (i + 1) := by rw [List.drop_eq_getElem_cons hlt]; rw [List.getElem?_eq_getElem hlt] at hx; cases hx; rfl
    have e0 : out ++ (L.drop i).map (·.id) = (out ++ [x.id]) ++ (L.drop (i + 1)).map (·.id) := by rw [hdr]; simp
    rw [e0]
    cases out with
    | nil =>
      refine vc_at s23 [[0, 0, 1, 0, 1, 1]] 100 ?_
      repeat' first
        | apply And.intro
        | exact (fun h => Bool.noConfusion h)
        | (refine chkI ?_; kernel_rfl)
        | (refine chkBI ?_; kernel_rfl)
        | exact (fun _ => True.intro)
        | exact True.intro
        | exact (fun h => h)
        | exact rfl
        | decide
        | exact (fun _ => by decide)
        | exact (show (_ : Int) ≠ _ by decide)
        | fail
      rw [show decide ((i : Int) < L.length) = true by simp; omega]
      repeat' first
        | apply And.intro
        | exact (fun h => Bool.noConfusion h)
        | (refine chkI ?_; kernel_rfl)
        | (refine chkBI ?_; kernel_rfl)
        | exact (fun _ => True.intro)
        | exact True.intro
        | exact (fun h => h)
        | exact rfl
        | decide
        | exact (fun _ => by decide)
        | exact (show (_ : Int) ≠ _ by decide)
        | fail
      apply Exists.intro (nodeA x)
      apply And.intro
      · exact ⟨by omega, by rw [show ((i : Nat) : Int).toNat = i by omega, List.getElem?_map, hx]; rfl, rfl⟩
      repeat' first
        | apply And.intro
        | exact (fun h => Bool.noConfusion h)
        | (refine chkI ?_; kernel_rfl)
        | (refine chkBI ?_; kernel_rfl)
        | exact (fun _ => True.intro)
        | exact True.intro
        | exact (fun h => h)
        | exact rfl
        | decide
        | exact (fun _ => by decide)
        | exact (show (_ : Int) ≠ _ by decide)
        | fail
      refine Or.inl ?_
      repeat' first
        | apply And.intro
        | exact (fun h => Bool.noConfusion h)
        | (refine chkI ?_; kernel_rfl)
        | (refine chkBI ?_; kernel_rfl)
        | exact (fun _ => True.intro)
        | exact True.intro
        | exact (fun h => h)
        | exact rfl
        | decide
        | exact (fun _ => by decide)
        | exact (show (_ : Int) ≠ _ by decide)
        | fail
      all_goals first
        | omega
        | (simp only [imp, i64ok, sz, List.length_map, List.length_cons, List.length_nil] <;> omega)
        | (dsimp only [List.length_cons, List.length_nil]; omega)
        | skip
      refine VC.gc [1] [5, 10, 11, 12] rfl rfl ?_
      exact loop23 nl cp L hL k (i + 1) [x.id] 0 (by omega) (by omega) (by simp)
    | cons y ys =>
      have ho' : ys.length + 1 ≤ i := by simpa using ho
      refine vc_at s23 [[0, 0, 1, 0, 1, 1]] 100 ?_
      repeat' first
        | apply And.intro
        | exact (fun h => Bool.noConfusion h)
        | (refine chkI ?_; kernel_rfl)
        | (refine chkBI ?_; kernel_rfl)
        | exact (fun _ => True.intro)
        | exact True.intro
        | exact (fun h => h)
        | exact rfl
        | decide
        | exact (fun _ => by decide)
        | exact (show (_ : Int) ≠ _ by decide)
        | fail
      rw [show decide ((i : Int) < L.length) = true by simp; omega]
      repeat' first
        | apply And.intro
        | exact (fun h => Bool.noConfusion h)
        | (refine chkI ?_; kernel_rfl)
        | (refine chkBI ?_; kernel_rfl)
        | exact (fun _ => True.intro)
        | exact True.intro
        | exact (fun h => h)
        | exact rfl
        | decide
        | exact (fun _ => by decide)
        | exact (show (_ : Int) ≠ _ by decide)
        | fail
      apply Exists.intro (nodeA x)
      apply And.intro
      · exact ⟨by omega, by rw [show ((i : Nat) : Int).toNat = i by omega, List.getElem?_map, hx]; rfl, rfl⟩
      repeat' first
        | apply And.intro
        | exact (fun h => Bool.noConfusion h)
        | (refine chkI ?_; kernel_rfl)
        | (refine chkBI ?_; kernel_rfl)
        | exact (fun _ => True.intro)
        | exact True.intro
        | exact (fun h => h)
        | exact rfl
        | decide
        | exact (fun _ => by decide)
        | exact (show (_ : Int) ≠ _ by decide)
        | fail
      all_goals first
        | omega
        | (simp only [imp, i64ok, sz, List.length_map, List.length_cons, List.length_nil] <;> omega)
        | (dsimp only [List.length_cons, List.length_nil]; omega)
        | skip
      refine VC.gc [0] [5, 10, 11, 12] rfl rfl ?_
      have key := loop23 nl cp L hL k (i + 1) (y :: ys ++ [x.id]) (g + 1) (by omega) (by omega) (by simp; omega)
      have e2 : (idA y :: (ys ++ [x.id]).map idA) = ((idA y :: ys.map idA).drop 0).take (ys.length + 1) ++ [idA x.id] := by
        rw [List.map_append, List.drop_zero, List.take_of_length_le (by simp)]; rfl
      have e3 : (ys ++ [x.id]).length + 1 = ys.length + 1 + [idA x.id].length := by simp
      unfold st23 at key
      simp only [List.cons_append] at key
      rw [e2, e3] at key
      exact key

/-- The Ids of the nodes below p, in order. -/
def kids (p : Id) (L : List Node) : List Id := (sibs p L).map (·.id)

/-- movetree.Children, of fewer than 20 nodes -/
theorem c23 (nl : Option Bool) (cp : Option Nat) (p : Id) (L : List Node) (hL : L.length < 2 ^ 39) (hs : ∀ x ∈ L, x.short) (h20 : (L.filter (fun x => x.par == p)).length < 20) :
    PureC Tryz.prog 23 [.sl nl cp 8 (L.map nodeA), idA p] (outA 2 ((kids p L).map idA)) := by
  refine pureC_of_vc s23 rfl (Nat.le_of_ble_eq_true rfl) (by cases h : (kids p L) <;> simp [AV.data, AV.data1, AV.dcell]) ?_
  refine vc_at s23 [] 100 ?_
  repeat' first
    | apply And.intro
    | exact (fun h => Bool.noConfusion h)
    | (refine chkI ?_; kernel_rfl)
    | (refine chkBI ?_; kernel_rfl)
    | exact (fun _ => True.intro)
    | exact True.intro
    | exact (fun h => h)
    | exact rfl
    | decide
    | exact (fun _ => by decide)
    | exact (show (_ : Int) ≠ _ by decide)
    | fail
  refine Exists.intro _ (And.intro (c67 nl cp p L hL hs h20) ?_)
  unfold kids
  have hl : (sibs p L).length < 20 := by rw [sibs_len]; exact h20
  generalize sibs p L = S at hl
  cases S with
  | nil =>
    repeat' first
      | apply And.intro
      | exact (fun h => Bool.noConfusion h)
      | (refine chkI ?_; kernel_rfl)
      | (refine chkBI ?_; kernel_rfl)
      | exact (fun _ => True.intro)
      | exact True.intro
      | exact (fun h => h)
      | exact rfl
      | decide
      | exact (fun _ => by decide)
      | exact (show (_ : Int) ≠ _ by decide)
      | fail
    refine vc_at s23 [] 100 ?_
    repeat' first
      | apply And.intro
      | exact (fun h => Bool.noConfusion h)
      | (refine chkI ?_; kernel_rfl)
      | (refine chkBI ?_; kernel_rfl)
      | exact (fun _ => True.intro)
      | exact True.intro
      | exact (fun h => h)
      | exact rfl
      | decide
      | exact (fun _ => by decide)
      | exact (show (_ : Int) ≠ _ by decide)
      | fail
  | cons x xs =>
    repeat' first
      | apply And.intro
      | exact (fun h => Bool.noConfusion h)
      | (refine chkI ?_; kernel_rfl)
      | (refine chkBI ?_; kernel_rfl)
      | exact (fun _ => True.intro)
      | exact True.intro
      | exact (fun h => h)
      | exact rfl
      | decide
      | exact (fun _ => by decide)
      | exact (show (_ : Int) ≠ _ by decide)
      | fail
    have key := loop23 (some false) none (x :: xs) (by simp at hl ⊢; omega) (xs.length + 1) 0 [] 0 (by simp) (Nat.zero_le _) (by simp)
    refine VC.gc [] [5, 10, 11, 12] rfl rfl ?_
    have e : (nodeA x :: xs.map nodeA).length = (x :: xs).length := by simp
    simp only [List.map_cons]
    rw [e]
    exact key

end Vm
end Go.Proofs.YtdbpcmpkpbamhaaGreatDoor

/- Walks: the walk of the tree. -/
namespace Go.Proofs.YtdbpcmpkpbamhaaGreatDoor
set_option linter.unusedVariables false
set_option linter.unusedSimpArgs false
set_option maxRecDepth 100000
namespace Vm
open Go

abbrev root : Id := ⟨[], 0⟩
def metE : List Id → Nat → List (AV × AV × Nat)
  | [], _ => []
  | y :: r, i => (idA y, .val (.bool true), i) :: metE r (i + 1)

theorem metE_snoc (y : Id) : ∀ (l : List Id) (i : Nat), metE (l ++ [y]) i = metE l i ++ [(idA y, .val (.bool true), i + l.length)]
  | [], i => rfl
  | x :: l, i => by
    simp only [List.cons_append, metE, metE_snoc y l (i + 1), List.length_cons]
    rw [show i + 1 + l.length = i + (l.length + 1) by omega]

theorem eqT_id (a b : Id) : eqT tys 16 25 (idA a) (idA b) = some (a == b) := by
  show some (bs a.au == bs b.au && (a.n == b.n && true)) = _
  rw [id_beq]

theorem findM_met (y : Id) : ∀ (l : List Id) (i j : Nat), (y ∈ l → ∃ k m, findM tys 25 (idA y) (metE l i) j = some (some (k, idA y, .val (.bool true), m))) ∧ (y ∉ l → findM tys 25 (idA y) (metE l i) j = some none)
  | [], i, j => ⟨(fun h => by cases h), fun _ => rfl⟩
  | x :: l, i, j => by
    obtain ⟨h1, h2⟩ := findM_met y l (i + 1) (j + 1)
    simp only [metE, findM]
    rw [eqT_id]
    by_cases h : y = x
    · subst h
      rw [show (y == y) = true by simp]
      exact ⟨fun _ => ⟨j, i, rfl⟩, fun hn => absurd (by simp) hn⟩
    · rw [show (y == x) = false by simpa using h]
      exact ⟨fun hm => h1 (by simpa [h] using hm), fun hm => h2 (by simp at hm; exact hm.2)⟩

/-- What visit does: the list of what has been met. -/
def visitL (f : Id → List Id → List Id) : List Id → List Id → List Id
  | [], out => out
  | y :: ys, out => if y ∈ root :: out then visitL f ys out else visitL f ys (f y (out ++ [y]))
def visitF (ch : Id → List Id) : Nat → Id → List Id → List Id
  | 0, _, out => out
  | n + 1, x, out => visitL (visitF ch n) (ch x) out

theorem visitL_ext {f : Id → List Id → List Id} (hf : ∀ y o, ∃ t, f y o = o ++ t) : ∀ (ys out : List Id), ∃ t, visitL f ys out = out ++ t
  | [], out => ⟨[], by simp [visitL]⟩
  | y :: ys, out => by
    simp only [visitL]
    split
    · exact visitL_ext hf ys out
    · obtain ⟨t, ht⟩ := hf y (out ++ [y])
      obtain ⟨t', ht'⟩ := visitL_ext hf ys (f y (out ++ [y]))
      exact ⟨[y] ++ t ++ t', by rw [ht', ht]; simp⟩
theorem visitF_ext (ch : Id → List Id) : ∀ (n : Nat) (x : Id) (out : List Id), ∃ t, visitF ch n x out = out ++ t
  | 0, x, out => ⟨[], by simp [visitF]⟩
  | n + 1, x, out => visitL_ext (visitF_ext ch n) _ _

abbrev fnW : AV := .fn 66 [] [.ptr 0 0 0 0, .ptr 3 0 0 0, .ptr 1 0 0 0, .ptr 4 0 0 0]
abbrev argsW (x : Id) : List AV := [idA x, .ptr 0 0 0 0, .ptr 3 0 0 0, .ptr 1 0 0 0, .ptr 4 0 0 0]
/-- The memory that visit works on. -/
abbrev hW (sl : AV) (es : List (AV × AV × Nat)) (out : List Id) (g : Nat) : List Blk := match out with
  | [] => [.box [sl] false, .box [nilA] false, .map es 1, .box [.mp 2] false, .box [fnW] false]
  | x :: xs => [.box [sl] false, .box [.ref 5 0 (xs.length + 1) none g 2] false, .map es (xs.length + 2), .box [.mp 2] false, .box [fnW] false, .row (idA x :: xs.map idA) 2 g]
abbrev stW (sl : AV) (es : List (AV × AV × Nat)) (out : List Id) (g : Nat) (C : List Id) (i : Nat) : St :=
  ⟨[(1, .ptr 0 0 0 0), (2, .ptr 3 0 0 0), (3, .ptr 1 0 0 0), (4, .ptr 4 0 0 0), (10, .sl (some false) none 2 (C.map idA)), (11, i64 C.length), (12, i64 i)], hW sl es out g⟩

/-- What a call of visit comes to. -/
def VisitOk (nl : Option Bool) (cp : Option Nat) (L : List Node) (f : Id → List Id → List Id) (y : Id) (out : List Id) : Prop :=
  ∀ (g : Nat) (es : List (AV × AV × Nat)), es = metE (root :: out) 0 → HeapC Tryz.prog 66 (argsW y) (hW (.sl nl cp 8 (L.map nodeA)) es out g) (fun d H => d = .tup [] ∧ ∃ g', H = hW (.sl nl cp 8 (L.map nodeA)) (metE (root :: f y out) 0) (f y out) g')

noncomputable abbrev f66 (n0 : Nat) : FnI := fiH 66 Tryz.f66 n0 [66]
theorem h66 (n0 : Nat) : Setting Tryz.prog tys (f66 n0) := settingH (by kernel_rfl) (by kernel_rfl)

/-- The loop of visit, where something has been met. -/
theorem loop66c {nl : Option Bool} {cp : Option Nat} {L : List Node} {n0 : Nat} (hst : startB n0 0 [0, 1, 2, 3, 4, 5] = true) {f : Id → List Id → List Id} (hf : ∀ y o, ∃ t, f y o = o ++ t) {C : List Id} (hC : C.length < 2 ^ 39) {P : List Id → Prop} (hPl : ∀ out, P out → out.length < 2 ^ 39)
    (hrec : ∀ y out, P out → y ∈ C → y ∉ root :: out → VisitOk nl cp L f y (out ++ [y]) ∧ P (f y (out ++ [y]))) {Q : AV → List Blk → Prop} : ∀ (k i : Nat) (x : Id) (xs : List Id) (g : Nat) (es : List (AV × AV × Nat)), k = C.length - i → i ≤ C.length →
      es = metE (root :: x :: xs) 0 → P (x :: xs) → (∀ g' es', es' = metE (root :: visitL f (C.drop i) (x :: xs)) 0 → Q (.tup []) (hW (.sl nl cp 8 (L.map nodeA)) es' (visitL f (C.drop i) (x :: xs)) g')) →
    VC Tryz.prog (f66 n0) [0, 0, 1, 1] (stW (.sl nl cp 8 (L.map nodeA)) es (x :: xs) g C i) Q
  | 0, i, x, xs, g, es, hk, hi, hes, hP, hQ => by
    have hd : C.drop i = [] := List.drop_eq_nil_of_le (by omega)
    rw [hd] at hQ
    refine vc_at (h66 n0) [[0, 0, 1, 1]] 100 ?_
    repeat' first
      | apply And.intro
      | exact (fun h => Bool.noConfusion h)
      | (refine chkI ?_; kernel_rfl)
      | (refine chkBI ?_; kernel_rfl)
      | exact (fun _ => True.intro)
      | exact True.intro
      | exact (fun h => h)
      | exact rfl
      | decide
      | exact (fun _ => by decide)
      | exact (show (_ : Int) ≠ _ by decide)
      | fail
    rw [show decide ((i : Int) < C.length) = false by simp; omega]
    repeat' first
      | apply And.intro
      | exact (fun h => Bool.noConfusion h)
      | (refine chkI ?_; kernel_rfl)
      | (refine chkBI ?_; kernel_rfl)
      | exact (fun _ => True.intro)
      | exact True.intro
      | exact (fun h => h)
      | exact rfl
      | decide
      | exact (fun _ => by decide)
      | exact (show (_ : Int) ≠ _ by decide)
      | fail
    exact hQ g es hes
  | k + 1, i, x, xs, g, es, hk, hi, hes, hP, hQ => by
    have hlt : i < C.length := by omega
    have hxs : xs.length + 1 < 2 ^ 39 := by simpa using hPl _ hP
    obtain ⟨y, hy⟩ : ∃ y, C[i]? = some y := ⟨C[i], List.getElem?_eq_getElem hlt⟩
    have hdr : C.drop i = y :: C.drop (i + 1) := by rw [List.drop_eq_getElem_cons hlt]; rw [List.getElem?_eq_getElem hlt] at hy; cases hy; rfl
    have hmem : y ∈ C := List.mem_of_getElem? hy
    obtain ⟨hf1, hf2⟩ := findM_met y (root :: x :: xs) 0 0
    rw [← hes] at hf1 hf2
    refine vc_at (h66 n0) [[0, 0, 1, 1]] 100 ?_
    repeat' first
      | apply And.intro
      | exact (fun h => Bool.noConfusion h)
      | (refine chkI ?_; kernel_rfl)
      | (refine chkBI ?_; kernel_rfl)
      | exact (fun _ => True.intro)
      | exact True.intro
      | exact (fun h => h)
      | exact rfl
      | decide
      | exact (fun _ => by decide)
      | exact (show (_ : Int) ≠ _ by decide)
      | fail
    rw [show decide ((i : Int) < C.length) = true by simp; omega]
    repeat' first
      | apply And.intro
      | exact (fun h => Bool.noConfusion h)
      | (refine chkI ?_; kernel_rfl)
      | (refine chkBI ?_; kernel_rfl)
      | exact (fun _ => True.intro)
      | exact True.intro
      | exact (fun h => h)
      | exact rfl
      | decide
      | exact (fun _ => by decide)
      | exact (show (_ : Int) ≠ _ by decide)
      | fail
    apply Exists.intro (idA y)
    apply And.intro
    · exact ⟨by omega, by rw [show ((i : Nat) : Int).toNat = i by omega, List.getElem?_map, hy]; rfl, rfl⟩
    repeat' first
      | apply And.intro
      | exact (fun h => Bool.noConfusion h)
      | (refine chkI ?_; kernel_rfl)
      | (refine chkBI ?_; kernel_rfl)
      | exact (fun _ => True.intro)
      | exact True.intro
      | exact (fun h => h)
      | exact rfl
      | decide
      | exact (fun _ => by decide)
      | exact (show (_ : Int) ≠ _ by decide)
      | fail
    conv => whnf
    rw [hdr] at hQ
    by_cases hm : y ∈ root :: x :: xs
    · obtain ⟨kk, mm, hf3⟩ := hf1 hm
      rw [show findM tys 25 (AV.agg [AV.val (Value.string (bs y.au)), AV.val (Value.int IntKind.i64 y.n)]) es 0 = _ from hf3]
      have e1 : visitL f (y :: C.drop (i + 1)) (x :: xs) = visitL f (C.drop (i + 1)) (x :: xs) := by simp only [visitL]; rw [if_pos hm]
      rw [e1] at hQ
      repeat' first
        | apply And.intro
        | exact (fun h => Bool.noConfusion h)
        | (refine chkI ?_; kernel_rfl)
        | (refine chkBI ?_; kernel_rfl)
        | exact (fun _ => True.intro)
        | exact True.intro
        | exact (fun h => h)
        | exact rfl
        | decide
        | exact (fun _ => by decide)
        | exact (show (_ : Int) ≠ _ by decide)
        | fail
      all_goals first
        | omega
        | (simp only [imp, i64ok, sz, List.length_map, List.length_cons, List.length_nil] <;> omega)
        | (dsimp only [List.length_cons, List.length_nil]; omega)
        | skip
      refine VC.gc [0, 1, 2, 3, 4, 5] [1, 2, 3, 4, 10, 11, 12] rfl hst ?_
      exact loop66c hst hf hC hPl hrec k (i + 1) x xs g es (by omega) (by omega) hes hP hQ
    · have hf3 := hf2 hm
      rw [show findM tys 25 (AV.agg [AV.val (Value.string (bs y.au)), AV.val (Value.int IntKind.i64 y.n)]) es 0 = _ from hf3]
      have e1 : visitL f (y :: C.drop (i + 1)) (x :: xs) = visitL f (C.drop (i + 1)) (f y (x :: xs ++ [y])) := by simp only [visitL]; rw [if_neg hm]
      rw [e1] at hQ
      repeat' first
        | apply And.intro
        | exact (fun h => Bool.noConfusion h)
        | (refine chkI ?_; kernel_rfl)
        | (refine chkBI ?_; kernel_rfl)
        | exact (fun _ => True.intro)
        | exact True.intro
        | exact (fun h => h)
        | exact rfl
        | decide
        | exact (fun _ => by decide)
        | exact (show (_ : Int) ≠ _ by decide)
        | fail
      conv => whnf
      rw [show findM tys 25 (AV.agg [AV.val (Value.string (bs y.au)), AV.val (Value.int IntKind.i64 y.n)]) es 0 = _ from hf3]
      repeat' first
        | apply And.intro
        | exact (fun h => Bool.noConfusion h)
        | (refine chkI ?_; kernel_rfl)
        | (refine chkBI ?_; kernel_rfl)
        | exact (fun _ => True.intro)
        | exact True.intro
        | exact (fun h => h)
        | exact rfl
        | decide
        | exact (fun _ => by decide)
        | exact (show (_ : Int) ≠ _ by decide)
        | fail
      all_goals first
        | omega
        | (simp only [imp, i64ok, sz, List.length_map, List.length_cons, List.length_nil] <;> omega)
        | (dsimp only [List.length_cons, List.length_nil]; omega)
        | skip
      obtain ⟨hv, hP2⟩ := hrec y (x :: xs) hP hmem hm
      have hc := hv (g + 1) (es ++ [(idA y, .val (.bool true), xs.length + 2)]) (by
        rw [hes, show root :: (x :: xs ++ [y]) = (root :: x :: xs) ++ [y] by simp, metE_snoc]; simp)
      have e2 : (idA x :: (xs ++ [y]).map idA) = ((idA x :: xs.map idA).drop 0).take (xs.length + 1) ++ [idA y] := by
        rw [List.map_append, List.drop_zero, List.take_of_length_le (by simp)]; rfl
      have e4 : ∀ sl ES, hW sl ES (x :: xs ++ [y]) (g + 1) = [.box [sl] false, .box [.ref 5 0 (xs.length + 1 + [idA y].length) none (g + 1) 2] false, .map ES (xs.length + 2 + 1), .box [.mp 2] false, .box [fnW] false, .row (((idA x :: xs.map idA).drop 0).take (xs.length + 1) ++ [idA y]) 2 (g + 1)] := fun sl ES => by
        rw [← e2]
        show [_, Blk.box [.ref 5 0 ((xs ++ [y]).length + 1) none (g + 1) 2] false, Blk.map ES ((xs ++ [y]).length + 2), _, _, _] = _
        simp
      rw [e4] at hc
      obtain ⟨t, ht⟩ := hf y (x :: xs ++ [y])
      have ht : f y (x :: xs ++ [y]) = x :: (xs ++ [y] ++ t) := by rw [ht]; simp
      rw [ht] at hc hP2 hQ
      generalize xs ++ [y] ++ t = zs at hc hP2 hQ
      refine Exists.intro [0, 1, 2, 3, 4, 5] (Exists.intro _ (And.intro rfl (And.intro (hc) ?_)))
      intro d H hq
      obtain ⟨rfl, g2, rfl⟩ := hq
      obtain ⟨es2, hes2⟩ : ∃ e, e = metE (root :: x :: zs) 0 := ⟨_, rfl⟩
      rw [← hes2]
      repeat' first
        | apply And.intro
        | exact (fun h => Bool.noConfusion h)
        | (refine chkI ?_; kernel_rfl)
        | (refine chkBI ?_; kernel_rfl)
        | exact (fun _ => True.intro)
        | exact True.intro
        | exact (fun h => h)
        | exact rfl
        | decide
        | exact (fun _ => by decide)
        | exact (show (_ : Int) ≠ _ by decide)
        | fail
      all_goals first
        | omega
        | (simp only [imp, i64ok, sz, List.length_map, List.length_cons, List.length_nil] <;> omega)
        | (dsimp only [List.length_cons, List.length_nil]; omega)
        | skip
      refine VC.gc [0, 1, 2, 3, 4, 5] [1, 2, 3, 4, 10, 11, 12] rfl hst ?_
      exact loop66c hst hf hC hPl hrec k (i + 1) x zs g2 es2 (by omega) (by omega) hes2 hP2 hQ

/-- The loop of visit, where nothing has been met but the root. -/
theorem loop66n {nl : Option Bool} {cp : Option Nat} {L : List Node} {f : Id → List Id → List Id} (hf : ∀ y o, ∃ t, f y o = o ++ t) {C : List Id} (hC : C.length < 2 ^ 39) {P : List Id → Prop} (hPl : ∀ out, P out → out.length < 2 ^ 39)
    (hrec : ∀ y out, P out → y ∈ C → y ∉ root :: out → VisitOk nl cp L f y (out ++ [y]) ∧ P (f y (out ++ [y]))) {Q : AV → List Blk → Prop} : ∀ (k i : Nat) (es : List (AV × AV × Nat)), k = C.length - i → i ≤ C.length →
      es = metE [root] 0 → P [] → (∀ g' es', es' = metE (root :: visitL f (C.drop i) []) 0 → Q (.tup []) (hW (.sl nl cp 8 (L.map nodeA)) es' (visitL f (C.drop i) []) g')) →
    VC Tryz.prog (f66 5) [0, 0, 1, 1] (stW (.sl nl cp 8 (L.map nodeA)) es [] 0 C i) Q
  | 0, i, es, hk, hi, hes, hP, hQ => by
    have hd : C.drop i = [] := List.drop_eq_nil_of_le (by omega)
    rw [hd] at hQ
    refine vc_at (h66 5) [[0, 0, 1, 1]] 100 ?_
    repeat' first
      | apply And.intro
      | exact (fun h => Bool.noConfusion h)
      | (refine chkI ?_; kernel_rfl)
      | (refine chkBI ?_; kernel_rfl)
      | exact (fun _ => True.intro)
      | exact True.intro
      | exact (fun h => h)
      | exact rfl
      | decide
      | exact (fun _ => by decide)
      | exact (show (_ : Int) ≠ _ by decide)
      | fail
    rw [show decide ((i : Int) < C.length) = false by simp; omega]
    repeat' first
      | apply And.intro
      | exact (fun h => Bool.noConfusion h)
      | (refine chkI ?_; kernel_rfl)
      | (refine chkBI ?_; kernel_rfl)
      | exact (fun _ => True.intro)
      | exact True.intro
      | exact (fun h => h)
      | exact rfl
      | decide
      | exact (fun _ => by decide)
      | exact (show (_ : Int) ≠ _ by decide)
      | fail
    exact hQ 0 es hes
  | k + 1, i, es, hk, hi, hes, hP, hQ => by
    have hlt : i < C.length := by omega
    obtain ⟨y, hy⟩ : ∃ y, C[i]? = some y := ⟨C[i], List.getElem?_eq_getElem hlt⟩
    have hdr : C.drop i = y :: C.drop (i + 1) := by rw [List.drop_eq_getElem_cons hlt]; rw [List.getElem?_eq_getElem hlt] at hy; cases hy; rfl
    have hmem : y ∈ C := List.mem_of_getElem? hy
    obtain ⟨hf1, hf2⟩ := findM_met y [root] 0 0
    rw [← hes] at hf1 hf2
    refine vc_at (h66 5) [[0, 0, 1, 1]] 100 ?_
    repeat' first
      | apply And.intro
      | exact (fun h => Bool.noConfusion h)
      | (refine chkI ?_; kernel_rfl)
      | (refine chkBI ?_; kernel_rfl)
      | exact (fun _ => True.intro)
      | exact True.intro
      | exact (fun h => h)
      | exact rfl
      | decide
      | exact (fun _ => by decide)
      | exact (show (_ : Int) ≠ _ by decide)
      | fail
    rw [show decide ((i : Int) < C.length) = true by simp; omega]
    repeat' first
      | apply And.intro
      | exact (fun h => Bool.noConfusion h)
      | (refine chkI ?_; kernel_rfl)
      | (refine chkBI ?_; kernel_rfl)
      | exact (fun _ => True.intro)
      | exact True.intro
      | exact (fun h => h)
      | exact rfl
      | decide
      | exact (fun _ => by decide)
      | exact (show (_ : Int) ≠ _ by decide)
      | fail
    apply Exists.intro (idA y)
    apply And.intro
    · exact ⟨by omega, by rw [show ((i : Nat) : Int).toNat = i by omega, List.getElem?_map, hy]; rfl, rfl⟩
    repeat' first
      | apply And.intro
      | exact (fun h => Bool.noConfusion h)
      | (refine chkI ?_; kernel_rfl)
      | (refine chkBI ?_; kernel_rfl)
      | exact (fun _ => True.intro)
      | exact True.intro
      | exact (fun h => h)
      | exact rfl
      | decide
      | exact (fun _ => by decide)
      | exact (show (_ : Int) ≠ _ by decide)
      | fail
    conv => whnf
    rw [hdr] at hQ
    by_cases hm : y ∈ [root]
    · obtain ⟨kk, mm, hf3⟩ := hf1 hm
      rw [show findM tys 25 (AV.agg [AV.val (Value.string (bs y.au)), AV.val (Value.int IntKind.i64 y.n)]) es 0 = _ from hf3]
      have e1 : visitL f (y :: C.drop (i + 1)) [] = visitL f (C.drop (i + 1)) [] := by simp only [visitL]; rw [if_pos hm]
      rw [e1] at hQ
      repeat' first
        | apply And.intro
        | exact (fun h => Bool.noConfusion h)
        | (refine chkI ?_; kernel_rfl)
        | (refine chkBI ?_; kernel_rfl)
        | exact (fun _ => True.intro)
        | exact True.intro
        | exact (fun h => h)
        | exact rfl
        | decide
        | exact (fun _ => by decide)
        | exact (show (_ : Int) ≠ _ by decide)
        | fail
      all_goals first
        | omega
        | (simp only [imp, i64ok, sz, List.length_map, List.length_cons, List.length_nil] <;> omega)
        | (dsimp only [List.length_cons, List.length_nil]; omega)
        | skip
      refine VC.gc [0, 1, 2, 3, 4] [1, 2, 3, 4, 10, 11, 12] rfl rfl ?_
      exact loop66n hf hC hPl hrec k (i + 1) es (by omega) (by omega) hes hP hQ
    · have hf3 := hf2 hm
      rw [show findM tys 25 (AV.agg [AV.val (Value.string (bs y.au)), AV.val (Value.int IntKind.i64 y.n)]) es 0 = _ from hf3]
      have e1 : visitL f (y :: C.drop (i + 1)) [] = visitL f (C.drop (i + 1)) (f y [y]) := by simp only [visitL]; rw [if_neg hm]; rfl
      rw [e1] at hQ
      repeat' first
        | apply And.intro
        | exact (fun h => Bool.noConfusion h)
        | (refine chkI ?_; kernel_rfl)
        | (refine chkBI ?_; kernel_rfl)
        | exact (fun _ => True.intro)
        | exact True.intro
        | exact (fun h => h)
        | exact rfl
        | decide
        | exact (fun _ => by decide)
        | exact (show (_ : Int) ≠ _ by decide)
        | fail
      conv => whnf
      rw [show findM tys 25 (AV.agg [AV.val (Value.string (bs y.au)), AV.val (Value.int IntKind.i64 y.n)]) es 0 = _ from hf3]
      repeat' first
        | apply And.intro
        | exact (fun h => Bool.noConfusion h)
        | (refine chkI ?_; kernel_rfl)
        | (refine chkBI ?_; kernel_rfl)
        | exact (fun _ => True.intro)
        | exact True.intro
        | exact (fun h => h)
        | exact rfl
        | decide
        | exact (fun _ => by decide)
        | exact (show (_ : Int) ≠ _ by decide)
        | fail
      refine Or.inl ?_
      repeat' first
        | apply And.intro
        | exact (fun h => Bool.noConfusion h)
        | (refine chkI ?_; kernel_rfl)
        | (refine chkBI ?_; kernel_rfl)
        | exact (fun _ => True.intro)
        | exact True.intro
        | exact (fun h => h)
        | exact rfl
        | decide
        | exact (fun _ => by decide)
        | exact (show (_ : Int) ≠ _ by decide)
        | fail
      all_goals first
        | omega
        | (simp only [imp, i64ok, sz, List.length_map, List.length_cons, List.length_nil] <;> omega)
        | (dsimp only [List.length_cons, List.length_nil]; omega)
        | skip
      obtain ⟨hv, hP2⟩ := hrec y [] hP hmem hm
      have hc := hv 0 (es ++ [(idA y, .val (.bool true), 1)]) (by
        rw [hes, show root :: ([] ++ [y]) = [root] ++ [y] by simp, metE_snoc]; simp)
      obtain ⟨t, ht⟩ := hf y [y]
      have ht : f y ([] ++ [y]) = y :: t := by rw [List.nil_append, ht]; rfl
      rw [ht] at hc hP2
      rw [show f y [y] = y :: t from ht] at hQ
      refine Exists.intro [0, 1, 2, 3, 4, 6] (Exists.intro _ (And.intro rfl (And.intro (hc) ?_)))
      intro d H hq
      obtain ⟨rfl, g2, rfl⟩ := hq
      obtain ⟨es2, hes2⟩ : ∃ e, e = metE (root :: y :: t) 0 := ⟨_, rfl⟩
      rw [← hes2]
      repeat' first
        | apply And.intro
        | exact (fun h => Bool.noConfusion h)
        | (refine chkI ?_; kernel_rfl)
        | (refine chkBI ?_; kernel_rfl)
        | exact (fun _ => True.intro)
        | exact True.intro
        | exact (fun h => h)
        | exact rfl
        | decide
        | exact (fun _ => by decide)
        | exact (show (_ : Int) ≠ _ by decide)
        | fail
      all_goals first
        | omega
        | (simp only [imp, i64ok, sz, List.length_map, List.length_cons, List.length_nil] <;> omega)
        | (dsimp only [List.length_cons, List.length_nil]; omega)
        | skip
      refine VC.gc [0, 1, 2, 3, 4, 6] [1, 2, 3, 4, 10, 11, 12] rfl rfl ?_
      exact loop66c (n0 := 5) rfl hf hC hPl hrec k (i + 1) y t g2 es2 (by omega) (by omega) hes2 hP2 hQ

/-- So many nodes are not among what has been met. -/
def unmet (L : List Node) (out : List Id) : Nat := (L.filter (fun z => !(out.contains z.id))).length
theorem unmet_snoc {L : List Node} {out : List Id} {y : Id} (hy : y ∈ L.map (·.id)) (hn : y ∉ out) : unmet L (out ++ [y]) < unmet L out := by
  obtain ⟨z, hz, rfl⟩ := List.mem_map.1 hy
  unfold unmet
  have e : L.filter (fun x => !((out ++ [z.id]).contains x.id)) = (L.filter (fun x => !(out.contains x.id))).filter (fun x => !(x.id == z.id)) := by
    rw [List.filter_filter]
    congr 1
    funext x
    simp only [List.contains_append, Bool.not_or, List.contains_cons, List.contains_nil, Bool.or_false]
    rw [Bool.and_comm]
  rw [e]
  refine List.length_filter_lt_length_iff_exists.2 ⟨z, ?_, by simp⟩
  simp only [List.mem_filter]
  exact ⟨hz, by simpa using hn⟩
theorem unmet_append (L : List Node) (out t : List Id) : unmet L (out ++ t) ≤ unmet L out := by
  unfold unmet
  have e : L.filter (fun x => !((out ++ t).contains x.id)) = (L.filter (fun x => !(out.contains x.id))).filter (fun x => !(t.contains x.id)) := by
    rw [List.filter_filter]
    congr 1
    funext x
    simp only [List.contains_append, Bool.not_or]
    rw [Bool.and_comm]
  rw [e]
  exact List.length_filter_le _ _

theorem kids_mem {p y : Id} {L : List Node} (h : y ∈ kids p L) : y ∈ L.map (·.id) := by
  obtain ⟨z, hz, rfl⟩ := List.mem_map.1 h
  have hz : z ∈ isort sibCmp 0 (L.filter (fun x => x.par == p)).length (L.filter (fun x => x.par == p)) := hz
  have := isort_mem (S := fun x => x ∈ L) sibCmp 0 (L.filter (fun x => x.par == p)).length (L.filter (fun x => x.par == p)) (fun x hx => (List.mem_filter.1 hx).1) z hz
  exact List.mem_map.2 ⟨z, this, rfl⟩

theorem visitL_id {f : Id → List Id → List Id} {out : List Id} : ∀ (C : List Id), (∀ y ∈ C, y ∈ root :: out) → visitL f C out = out
  | [], _ => rfl
  | y :: C, h => by
    simp only [visitL]
    rw [if_pos (h y (by simp))]
    exact visitL_id C fun z hz => h z (by simp [hz])

def Inv (L : List Node) (o : List Id) : Prop := o.Nodup ∧ ∀ z ∈ o, z ∈ L.map (·.id)
theorem inv_len {α : Type} [DecidableEq α] : ∀ {o l : List α}, o.Nodup → (∀ z ∈ o, z ∈ l) → o.length ≤ l.length
  | [], l, _, _ => Nat.zero_le _
  | x :: o, l, hn, hs => by
    have hx : x ∈ l := hs x (by simp)
    have hn' := List.nodup_cons.1 hn
    have := inv_len (o := o) (l := l.erase x) hn'.2 fun z hz => (List.mem_erase_of_ne (fun (e : z = x) => hn'.1 (by rw [← e]; exact hz))).2 (hs z (by simp [hz]))
    rw [List.length_erase_of_mem hx] at this
    have := List.length_pos_of_mem hx
    simp; omega
theorem inv_snoc {L : List Node} {o : List Id} {y : Id} (h : Inv L o) (hy : y ∈ L.map (·.id)) (hn : y ∉ o) : Inv L (o ++ [y]) := by
  refine ⟨List.nodup_append.2 ⟨h.1, by simp, fun a ha b hb => ?_⟩, fun z hz => ?_⟩
  · simp at hb; subst hb; exact fun e => hn (e ▸ ha)
  · rcases List.mem_append.1 hz with hz | hz
    · exact h.2 z hz
    · simp at hz; subst hz; exact hy
theorem visitL_inv {L : List Node} {f : Id → List Id → List Id} (hf : ∀ y o, Inv L o → Inv L (f y o)) : ∀ (C o : List Id), (∀ y ∈ C, y ∈ L.map (·.id)) → Inv L o → Inv L (visitL f C o)
  | [], o, _, h => h
  | y :: C, o, hC, h => by
    simp only [visitL]
    split
    · exact visitL_inv hf C o (fun z hz => hC z (by simp [hz])) h
    · rename_i hn
      exact visitL_inv hf C _ (fun z hz => hC z (by simp [hz])) (hf y _ (inv_snoc h (hC y (by simp)) fun e => hn (by simp [e])))
theorem visitF_inv {L : List Node} : ∀ (n : Nat) (x : Id) (o : List Id), Inv L o → Inv L (visitF (kids · L) n x o)
  | 0, x, o, h => h
  | n + 1, x, o, h => visitL_inv (visitF_inv n) _ _ (fun y hy => kids_mem hy) h

theorem visit_step {nl : Option Bool} {cp : Option Nat} {L : List Node} (hL : L.length < 2 ^ 36) (hs : ∀ x ∈ L, x.short) (h20 : ∀ p, (L.filter (fun x => x.par == p)).length < 20) {f : Id → List Id → List Id} (hf : ∀ y o, ∃ t, f y o = o ++ t) (x : Id) (out : List Id) {P : List Id → Prop}
    (hPl : ∀ out, P out → out.length < 2 ^ 39) (hP : P out) (hrec : ∀ y out, P out → y ∈ kids x L → y ∉ root :: out → VisitOk nl cp L f y (out ++ [y]) ∧ P (f y (out ++ [y]))) : VisitOk nl cp L (fun x out => visitL f (kids x L) out) x out := by
  intro g es hes
  have hklen : (kids x L).length < 20 := by unfold kids; rw [List.length_map, sibs_len]; exact h20 x
  have hch := c23 nl cp x L (by omega) hs (h20 x)
  cases out with
  | nil =>
    refine heapC_of_vc (h66 5) rfl (Nat.le_of_ble_eq_true rfl) ?_
    refine vc_at (h66 5) [] 100 ?_
    repeat' first
      | apply And.intro
      | exact (fun h => Bool.noConfusion h)
      | (refine chkI ?_; kernel_rfl)
      | (refine chkBI ?_; kernel_rfl)
      | exact (fun _ => True.intro)
      | exact True.intro
      | exact (fun h => h)
      | exact rfl
      | decide
      | exact (fun _ => by decide)
      | exact (show (_ : Int) ≠ _ by decide)
      | fail
    refine Exists.intro _ (And.intro (hch) ?_)
    generalize hC : kids x L = C at hrec hklen
    cases C with
    | nil =>
      repeat' first
        | apply And.intro
        | exact (fun h => Bool.noConfusion h)
        | (refine chkI ?_; kernel_rfl)
        | (refine chkBI ?_; kernel_rfl)
        | exact (fun _ => True.intro)
        | exact True.intro
        | exact (fun h => h)
        | exact rfl
        | decide
        | exact (fun _ => by decide)
        | exact (show (_ : Int) ≠ _ by decide)
        | fail
      refine vc_at (h66 5) [] 100 ?_
      repeat' first
        | apply And.intro
        | exact (fun h => Bool.noConfusion h)
        | (refine chkI ?_; kernel_rfl)
        | (refine chkBI ?_; kernel_rfl)
        | exact (fun _ => True.intro)
        | exact True.intro
        | exact (fun h => h)
        | exact rfl
        | decide
        | exact (fun _ => by decide)
        | exact (show (_ : Int) ≠ _ by decide)
        | fail
      exact ⟨[0, 1, 2, 3, 4], rfl, rfl, rfl, g, by dsimp only; rw [hC]; simp only [visitL]; rw [← hes]⟩
    | cons y ys =>
      repeat' first
        | apply And.intro
        | exact (fun h => Bool.noConfusion h)
        | (refine chkI ?_; kernel_rfl)
        | (refine chkBI ?_; kernel_rfl)
        | exact (fun _ => True.intro)
        | exact True.intro
        | exact (fun h => h)
        | exact rfl
        | decide
        | exact (fun _ => by decide)
        | exact (show (_ : Int) ≠ _ by decide)
        | fail
      refine VC.gc [0, 1, 2, 3, 4] [1, 2, 3, 4, 10, 11, 12] rfl rfl ?_
      have e0 : (idA y :: ys.map idA).length = (y :: ys).length := by simp
      have key := loop66n (nl := nl) (cp := cp) (L := L) (Q := Fin 5 (fun d H => d = .tup [] ∧ ∃ g', H = hW (.sl nl cp 8 (L.map nodeA)) (metE (root :: visitL f (kids x L) []) 0) (visitL f (kids x L) []) g')) hf (by omega) hPl hrec (y :: ys).length 0 es rfl (Nat.zero_le _) hes hP (fun g' es' he' => by
        rw [hC]
        simp only [List.drop_zero] at he' ⊢
        rw [← he']
        cases hv : visitL f (y :: ys) [] with
        | nil => exact ⟨[0, 1, 2, 3, 4], rfl, rfl, rfl, g', rfl⟩
        | cons z zs => exact ⟨[0, 1, 2, 3, 4, 5], rfl, rfl, rfl, g', rfl⟩)
      simp only [List.map_cons]
      rw [e0]
      exact key
  | cons o os =>
    refine heapC_of_vc (h66 6) rfl (Nat.le_of_ble_eq_true rfl) ?_
    refine vc_at (h66 6) [] 100 ?_
    repeat' first
      | apply And.intro
      | exact (fun h => Bool.noConfusion h)
      | (refine chkI ?_; kernel_rfl)
      | (refine chkBI ?_; kernel_rfl)
      | exact (fun _ => True.intro)
      | exact True.intro
      | exact (fun h => h)
      | exact rfl
      | decide
      | exact (fun _ => by decide)
      | exact (show (_ : Int) ≠ _ by decide)
      | fail
    refine Exists.intro _ (And.intro (hch) ?_)
    generalize hC : kids x L = C at hrec hklen
    cases C with
    | nil =>
      repeat' first
        | apply And.intro
        | exact (fun h => Bool.noConfusion h)
        | (refine chkI ?_; kernel_rfl)
        | (refine chkBI ?_; kernel_rfl)
        | exact (fun _ => True.intro)
        | exact True.intro
        | exact (fun h => h)
        | exact rfl
        | decide
        | exact (fun _ => by decide)
        | exact (show (_ : Int) ≠ _ by decide)
        | fail
      refine vc_at (h66 6) [] 100 ?_
      repeat' first
        | apply And.intro
        | exact (fun h => Bool.noConfusion h)
        | (refine chkI ?_; kernel_rfl)
        | (refine chkBI ?_; kernel_rfl)
        | exact (fun _ => True.intro)
        | exact True.intro
        | exact (fun h => h)
        | exact rfl
        | decide
        | exact (fun _ => by decide)
        | exact (show (_ : Int) ≠ _ by decide)
        | fail
      exact ⟨[0, 1, 2, 3, 4, 5], rfl, rfl, rfl, g, by dsimp only; rw [hC]; simp only [visitL]; rw [← hes]⟩
    | cons y ys =>
      repeat' first
        | apply And.intro
        | exact (fun h => Bool.noConfusion h)
        | (refine chkI ?_; kernel_rfl)
        | (refine chkBI ?_; kernel_rfl)
        | exact (fun _ => True.intro)
        | exact True.intro
        | exact (fun h => h)
        | exact rfl
        | decide
        | exact (fun _ => by decide)
        | exact (show (_ : Int) ≠ _ by decide)
        | fail
      refine VC.gc [0, 1, 2, 3, 4, 5] [1, 2, 3, 4, 10, 11, 12] rfl rfl ?_
      have e0 : (idA y :: ys.map idA).length = (y :: ys).length := by simp
      have key := loop66c (nl := nl) (cp := cp) (L := L) (n0 := 6) (Q := Fin 6 (fun d H => d = .tup [] ∧ ∃ g', H = hW (.sl nl cp 8 (L.map nodeA)) (metE (root :: visitL f (kids x L) (o :: os)) 0) (visitL f (kids x L) (o :: os)) g')) rfl hf (by omega) hPl hrec (y :: ys).length 0 o os g es rfl (Nat.zero_le _) hes hP (fun g' es' he' => by
        rw [hC]
        simp only [List.drop_zero] at he' ⊢
        rw [← he']
        obtain ⟨t, ht⟩ := visitL_ext hf (y :: ys) (o :: os)
        rw [ht]
        exact ⟨[0, 1, 2, 3, 4, 5], rfl, rfl, rfl, g', rfl⟩)
      simp only [List.map_cons]
      rw [e0]
      exact key

theorem visit_ok {nl : Option Bool} {cp : Option Nat} {L : List Node} (hL : L.length < 2 ^ 36) (hs : ∀ x ∈ L, x.short) (h20 : ∀ p, (L.filter (fun x => x.par == p)).length < 20) : ∀ (n : Nat) (x : Id) (out : List Id), unmet L out ≤ n → Inv L out →
    VisitOk nl cp L (visitF (kids · L) n) x out := by
  have lenI : ∀ o, Inv L o → o.length < 2 ^ 39 := fun o h => by
    have := inv_len h.1 h.2
    rw [List.length_map] at this
    omega
  intro n
  induction n with
  | zero =>
    intro x out hn hinv
    have hall : ∀ y ∈ kids x L, y ∈ root :: out := fun y hy => by
      rcases Decidable.em (y ∈ out) with h | h
      · simp [h]
      · have := unmet_snoc (kids_mem hy) h; omega
    have := visit_step (nl := nl) (cp := cp) hL hs h20 (f := visitF (kids · L) 0) (visitF_ext _ 0) x out (P := fun o => o = out) (fun o e => by rw [e]; exact lenI _ hinv) rfl (fun y o e hy hno => by subst e; exact absurd (hall y hy) hno)
    intro g es hes
    have h := this g es hes
    have e : visitL (visitF (kids · L) 0) (kids x L) out = visitF (kids · L) 0 x out := visitL_id _ hall
    simp only [e] at h
    exact h
  | succ n ih =>
    intro x out hn hinv
    refine visit_step (nl := nl) (cp := cp) hL hs h20 (f := visitF (kids · L) n) (visitF_ext _ n) x out (P := fun o => unmet L o ≤ n + 1 ∧ Inv L o) (fun o h => lenI o h.2) ⟨hn, hinv⟩ fun y o ⟨h1, h2⟩ hy hn => ?_
    have hyo : y ∉ o := fun h => hn (by simp [h])
    have hlt := unmet_snoc (kids_mem hy) hyo
    have hin := inv_snoc h2 (kids_mem hy) hyo
    refine ⟨ih y (o ++ [y]) (by omega) hin, ?_, visitF_inv n y _ hin⟩
    obtain ⟨t, ht⟩ := visitF_ext (kids · L) n y (o ++ [y])
    rw [ht]
    have := unmet_append L (o ++ [y]) t
    omega

/-- The nodes of a tree in preorder. -/
def walk (L : List Node) : List Id := visitF (kids · L) L.length root []

noncomputable abbrev f21 : FnI := fiH 21 Tryz.f21 0 [66]
theorem h21 : Setting Tryz.prog tys f21 := settingH (by kernel_rfl) (by kernel_rfl)
/-- movetree.Walk, of fewer than 20 nodes below each -/
theorem c21 (nl : Option Bool) (cp : Option Nat) (L : List Node) (hL : L.length < 2 ^ 36) (hs : ∀ x ∈ L, x.short) (h20 : ∀ p, (L.filter (fun x => x.par == p)).length < 20) :
    PureC Tryz.prog 21 [.sl nl cp 8 (L.map nodeA)] (outA 2 ((walk L).map idA)) := by
  have hv := visit_ok (nl := nl) (cp := cp) hL hs h20 L.length root [] (List.length_filter_le _ _) ⟨List.nodup_nil, fun z hz => by cases hz⟩ 0 _ rfl
  refine pureC_of_vc h21 rfl (Nat.le_of_ble_eq_true rfl) (by cases h : (walk L) <;> simp [AV.data, AV.data1, AV.dcell]) ?_
  refine vc_at h21 [] 100 ?_
  repeat' first
    | apply And.intro
    | exact (fun h => Bool.noConfusion h)
    | (refine chkI ?_; kernel_rfl)
    | (refine chkBI ?_; kernel_rfl)
    | exact (fun _ => True.intro)
    | exact True.intro
    | exact (fun h => h)
    | exact rfl
    | decide
    | exact (fun _ => by decide)
    | exact (show (_ : Int) ≠ _ by decide)
    | fail
  refine Exists.intro [0, 1, 2, 3, 4] (Exists.intro _ (And.intro rfl (And.intro (hv) ?_)))
  intro d H hq
  obtain ⟨rfl, g2, rfl⟩ := hq
  show backVC _ _ _ (hW _ (metE (root :: walk L) 0) (walk L) g2) _
  cases hw : walk L with
  | nil =>
    repeat' first
      | apply And.intro
      | exact (fun h => Bool.noConfusion h)
      | (refine chkI ?_; kernel_rfl)
      | (refine chkBI ?_; kernel_rfl)
      | exact (fun _ => True.intro)
      | exact True.intro
      | exact (fun h => h)
      | exact rfl
      | decide
      | exact (fun _ => by decide)
      | exact (show (_ : Int) ≠ _ by decide)
      | fail
  | cons z zs =>
    repeat' first
      | apply And.intro
      | exact (fun h => Bool.noConfusion h)
      | (refine chkI ?_; kernel_rfl)
      | (refine chkBI ?_; kernel_rfl)
      | exact (fun _ => True.intro)
      | exact True.intro
      | exact (fun h => h)
      | exact rfl
      | decide
      | exact (fun _ => by decide)
      | exact (show (_ : Int) ≠ _ by decide)
      | fail
    show frz _ (.ref 5 0 (zs.length + 1) none g2 2) = _
    rw [frz_ref rfl, List.drop_zero, List.take_of_length_le (by simp)]
    rfl

end Vm
end Go.Proofs.YtdbpcmpkpbamhaaGreatDoor
