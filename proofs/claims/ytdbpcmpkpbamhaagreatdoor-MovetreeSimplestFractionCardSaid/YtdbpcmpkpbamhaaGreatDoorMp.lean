/- Walks: the tree after edits. -/
import Derived.Test.YtdbpcmpkpbamhaaGreatDoorMo
namespace Go.Proofs.YtdbpcmpkpbamhaaGreatDoor
set_option linter.unusedVariables false
set_option linter.unusedSimpArgs false
set_option maxRecDepth 100000
namespace Vm
open Go

structure Edit where
  id : Id
  clock : Int
  floor : Int
  dn : Option Bool
  dc : Option Nat
  dk : Nat
  deps : List Id
  kind : Int
  node : Id
  par : Id
  neg : Bool
  num : List UInt8
  den : List UInt8
  field : List UInt8
  value : List UInt8
  target : Id
  who : List UInt8
abbrev editA (e : Edit) : AV := .agg [str e.id.au, i64 e.id.n, i64 e.clock, i64 e.floor, .sl e.dn e.dc e.dk (e.deps.map idA), i64 e.kind, str e.node.au, i64 e.node.n, str e.par.au, i64 e.par.n,
  .val (.bool e.neg), str e.num, str e.den, str e.field, str e.value, str e.target.au, i64 e.target.n, str e.who]

abbrev trash : Id := ⟨[45], 0⟩

/-- Sets what the map holds for a node's Id. -/
def putN (M : List Node) (s : Node) : List Node := match M.findIdx? (fun z => z.id == s.id) with
  | some k => M.set k s
  | none => M ++ [s]
def okPar (M : List Node) (p : Id) : Bool := (findN p M).isSome || p == root
def applyN (M : List Node) (e : Edit) : List Node :=
  if e.kind == 1 then
    if !(findN e.id M).isSome && okPar M e.par then M ++ [⟨e.id, e.par, e.neg, e.num, e.den, e.value⟩] else M
  else if e.kind == 2 then
    match findN e.node M with
    | some s => if (okPar M e.par || e.par == trash) && !underN M e.par e.node then putN M ⟨s.id, e.par, e.neg, e.num, e.den, s.kind⟩ else M
    | none => M
  else M

theorem spE_set (s z : Node) : ∀ (M : List Node) (i k : Nat), M[k]? = some z → s.id = z.id → (spE M i).set k (idA s.id, nodeA s, i + k) = spE (M.set k s) i
  | [], i, k, h, _ => by simp at h
  | x :: M, i, 0, h, e => by simp [spE]
  | x :: M, i, k + 1, h, e => by
    simp only [spE, List.set_cons_succ]
    rw [← spE_set s z M (i + 1) k (by simpa using h) e, show i + 1 + k = i + (k + 1) by omega]

/-- The map behind a store of a node under its Id. -/
theorem put_map (s : Node) (M : List Node) : (∃ k z, M[k]? = some z ∧ z.id = s.id ∧ findM tys 25 (idA s.id) (spE M 0) 0 = some (some (0 + k, idA z.id, nodeA z, 0 + k)) ∧ (spE M 0).set (0 + k) (idA s.id, nodeA s, 0 + k) = spE (putN M s) 0 ∧ (putN M s).length = M.length) ∨
    (findM tys 25 (idA s.id) (spE M 0) 0 = some none ∧ spE M 0 ++ [(idA s.id, nodeA s, M.length)] = spE (putN M s) 0 ∧ (putN M s).length = M.length + 1) := by
  have key : ∀ (M : List Node) (i j : Nat), (M.findIdx? (fun z => z.id == s.id) = none → findM tys 25 (idA s.id) (spE M i) j = some none) ∧
      (∀ k, M.findIdx? (fun z => z.id == s.id) = some k → ∃ z, M[k]? = some z ∧ z.id = s.id ∧ findM tys 25 (idA s.id) (spE M i) j = some (some (j + k, idA z.id, nodeA z, i + k))) := by
    intro M
    induction M with
    | nil => intro i j; exact ⟨fun _ => rfl, (fun k h => by simp at h)⟩
    | cons y M ih =>
      intro i j
      obtain ⟨h1, h2⟩ := ih (i + 1) (j + 1)
      simp only [spE, findM, List.findIdx?_cons]
      rw [eqT_id]
      by_cases h : s.id = y.id
      · rw [h, show (y.id == y.id) = true by simp]
        exact ⟨(fun h => by simp at h), fun k hk => by simp at hk; subst hk; exact ⟨y, rfl, rfl, rfl⟩⟩
      · rw [show (s.id == y.id) = false by simpa using h, show (y.id == s.id) = false by simpa using Ne.symm h]
        refine ⟨fun hn => h1 (by simpa using hn), fun k hk => ?_⟩
        simp only [Bool.false_eq_true, if_false, Option.map_eq_some_iff] at hk
        obtain ⟨k', hk', rfl⟩ := hk
        obtain ⟨z, g1, g2, g3⟩ := h2 k' hk'
        refine ⟨z, by simpa using g1, g2, ?_⟩
        rw [show j + (k' + 1) = j + 1 + k' by omega, show i + (k' + 1) = i + 1 + k' by omega]
        exact g3
  obtain ⟨h1, h2⟩ := key M 0 0
  unfold putN
  cases hf : M.findIdx? (fun z => z.id == s.id) with
  | none =>
    right
    refine ⟨h1 hf, ?_, by simp⟩
    rw [spE_snoc]; simp
  | some k =>
    left
    obtain ⟨z, g1, g2, g3⟩ := h2 k hf
    refine ⟨k, z, g1, g2, g3, ?_, by simp⟩
    have := spE_set s z M 0 k g1 g2.symm
    simpa using this

noncomputable abbrev f17 : FnI := fiH 17 Tryz.f17 0 [61, 62]
theorem h17 : Setting Tryz.prog tys f17 := settingH (by kernel_rfl) (by kernel_rfl)

/-- The first loop: the nodes go into the map. -/
theorem loop17a (en : Option Bool) (ec : Option Nat) (E : List Edit) (nl : Option Bool) (cp : Option Nat) (L : List Node) (hL : L.length < 2 ^ 39) {Q : AV → List Blk → Prop} : ∀ (k i : Nat) (M : List Node) (es : List (AV × AV × Nat)), k = L.length - i → i ≤ L.length → es = spE M 0 →
    (∀ es', es' = spE ((L.drop i).foldl putN M) 0 → VC Tryz.prog f17 [1, 1, 1] ⟨[(1, .sl en ec 18 (E.map editA)), (5, .mp 0)], [.map es' ((L.drop i).foldl putN M).length]⟩ Q) →
    VC Tryz.prog f17 [0, 0, 1, 0, 1, 1] ⟨[(1, .sl en ec 18 (E.map editA)), (5, .mp 0), (20, .sl nl cp 8 (L.map nodeA)), (21, i64 L.length), (22, i64 i)], [.map es M.length]⟩ Q
  | 0, i, M, es, hk, hi, hes, hQ => by
    have hd : L.drop i = [] := List.drop_eq_nil_of_le (by omega)
    rw [hd] at hQ
    refine vc_at h17 [[0, 0, 1, 0, 1, 1], [1, 1, 1]] 100 ?_
    repeat' first
      | apply And.intro
      | exact (fun h => Bool.noConfusion h)
      | (refine chkI ?_; kernel_rfl)
      | (refine chkBI ?_; kernel_rfl)
      | exact (fun _ => True.intro)
      | exact True.intro
      | exact (fun h => h)
      | exact rfl
      | decide
      | exact (fun _ => by decide)
      | exact (show (_ : Int) ≠ _ by decide)
      | fail
    rw [show decide ((i : Int) < L.length) = false by simp; omega]
    repeat' first
      | apply And.intro
      | exact (fun h => Bool.noConfusion h)
      | (refine chkI ?_; kernel_rfl)
      | (refine chkBI ?_; kernel_rfl)
      | exact (fun _ => True.intro)
      | exact True.intro
      | exact (fun h => h)
      | exact rfl
      | decide
      | exact (fun _ => by decide)
      | exact (show (_ : Int) ≠ _ by decide)
      | fail
    refine VC.gc [0] [1, 5] rfl rfl ?_
    exact hQ es hes
  | k + 1, i, M, es, hk, hi, hes, hQ => by
    have hlt : i < L.length := by omega
    obtain ⟨x, hx⟩ : ∃ x, L[i]? = some x := ⟨L[i], List.getElem?_eq_getElem hlt⟩
    have hdr : L.drop i = x :: L.drop (i + 1) := by rw [List.drop_eq_getElem_cons hlt]; rw [List.getElem?_eq_getElem hlt] at hx; cases hx; rfl
    rw [hdr, List.foldl_cons] at hQ
    refine vc_at h17 [[0, 0, 1, 0, 1, 1], [1, 1, 1]] 100 ?_
    repeat' first
      | apply And.intro
      | exact (fun h => Bool.noConfusion h)
      | (refine chkI ?_; kernel_rfl)
      | (refine chkBI ?_; kernel_rfl)
      | exact (fun _ => True.intro)
      | exact True.intro
      | exact (fun h => h)
      | exact rfl
      | decide
      | exact (fun _ => by decide)
      | exact (show (_ : Int) ≠ _ by decide)
      | fail
    rw [show decide ((i : Int) < L.length) = true by simp; omega]
    repeat' first
      | apply And.intro
      | exact (fun h => Bool.noConfusion h)
      | (refine chkI ?_; kernel_rfl)
      | (refine chkBI ?_; kernel_rfl)
      | exact (fun _ => True.intro)
      | exact True.intro
      | exact (fun h => h)
      | exact rfl
      | decide
      | exact (fun _ => by decide)
      | exact (show (_ : Int) ≠ _ by decide)
      | fail
    apply Exists.intro (nodeA x)
    apply And.intro
    · exact ⟨by omega, by rw [show ((i : Nat) : Int).toNat = i by omega, List.getElem?_map, hx]; rfl, rfl⟩
    repeat' first
      | apply And.intro
      | exact (fun h => Bool.noConfusion h)
      | (refine chkI ?_; kernel_rfl)
      | (refine chkBI ?_; kernel_rfl)
      | exact (fun _ => True.intro)
      | exact True.intro
      | exact (fun h => h)
      | exact rfl
      | decide
      | exact (fun _ => by decide)
      | exact (show (_ : Int) ≠ _ by decide)
      | fail
    conv => whnf
    rcases put_map x M with ⟨kk, z, g1, g2, g3, g4, g5⟩ | ⟨g3, g4, g5⟩
    · rw [← hes] at g3 g4
      rw [show findM tys 25 (AV.agg [AV.val (Value.string (bs x.id.au)), AV.val (Value.int IntKind.i64 x.id.n)]) es 0 = _ from g3]
      repeat' first
        | apply And.intro
        | exact (fun h => Bool.noConfusion h)
        | (refine chkI ?_; kernel_rfl)
        | (refine chkBI ?_; kernel_rfl)
        | exact (fun _ => True.intro)
        | exact True.intro
        | exact (fun h => h)
        | exact rfl
        | decide
        | exact (fun _ => by decide)
        | exact (show (_ : Int) ≠ _ by decide)
        | fail
      all_goals first
        | omega
        | (simp only [imp, i64ok, sz, List.length_map, List.length_cons, List.length_nil] <;> omega)
        | (dsimp only [List.length_cons, List.length_nil]; omega)
        | skip
      refine VC.gc [0] [1, 5, 20, 21, 22] rfl rfl ?_
      have key := loop17a en ec E nl cp L hL k (i + 1) (putN M x) _ (by omega) (by omega) g4 hQ
      rw [g5] at key
      exact key
    · rw [← hes] at g3 g4
      rw [show findM tys 25 (AV.agg [AV.val (Value.string (bs x.id.au)), AV.val (Value.int IntKind.i64 x.id.n)]) es 0 = _ from g3]
      repeat' first
        | apply And.intro
        | exact (fun h => Bool.noConfusion h)
        | (refine chkI ?_; kernel_rfl)
        | (refine chkBI ?_; kernel_rfl)
        | exact (fun _ => True.intro)
        | exact True.intro
        | exact (fun h => h)
        | exact rfl
        | decide
        | exact (fun _ => by decide)
        | exact (show (_ : Int) ≠ _ by decide)
        | fail
      all_goals first
        | omega
        | (simp only [imp, i64ok, sz, List.length_map, List.length_cons, List.length_nil] <;> omega)
        | (dsimp only [List.length_cons, List.length_nil]; omega)
        | skip
      refine VC.gc [0] [1, 5, 20, 21, 22] rfl rfl ?_
      have key := loop17a en ec E nl cp L hL k (i + 1) (putN M x) _ (by omega) (by omega) g4 hQ
      rw [g5] at key
      exact key

abbrev st17 (en : Option Bool) (ec : Option Nat) (E : List Edit) (i : Nat) (M : List Node) (es : List (AV × AV × Nat)) : St := ⟨[(5, .mp 0), (31, .sl en ec 18 (E.map editA)), (32, i64 E.length), (33, i64 i)], [.map es M.length]⟩

/-- The store of a node that was moved. -/
theorem put17 (en : Option Bool) (ec : Option Nat) (E : List Edit) (i : Nat) (M : List Node) (es : List (AV × AV × Nat)) (hes : es = spE M 0) (e : Edit) (zk : List UInt8) {Q : AV → List Blk → Prop}
    (hQ : ∀ es', es' = spE (putN M ⟨e.node, e.par, e.neg, e.num, e.den, zk⟩) 0 → VC Tryz.prog f17 [1, 1, 1, 0, 0, 1, 0, 1, 1, 1] (st17 en ec E i (putN M ⟨e.node, e.par, e.neg, e.num, e.den, zk⟩) es') Q) :
    VC Tryz.prog f17 [1, 0, 1, 1, 0, 1, 1, 1, 0, 1, 1, 1, 1, 0, 0, 1, 1, 0, 0, 1, 0, 1, 1, 1] ⟨[(5, .mp 0), (9, .ptr 1 0 0 0), (14, .ptr 2 0 0 0), (31, .sl en ec 18 (E.map editA)), (32, i64 E.length), (33, i64 i)], [.map es M.length, .box (cellsOf (editA e)) false, .box [str e.node.au, i64 e.node.n, str e.par.au, i64 e.par.n, .val (.bool e.neg), str e.num, str e.den, str zk] false]⟩ Q := by
  refine vc_at h17 [[1, 1, 1, 0, 0, 1, 0, 1, 1, 1]] 100 ?_
  repeat' first
    | apply And.intro
    | exact (fun h => Bool.noConfusion h)
    | (refine chkI ?_; kernel_rfl)
    | (refine chkBI ?_; kernel_rfl)
    | exact (fun _ => True.intro)
    | exact True.intro
    | exact (fun h => h)
    | exact rfl
    | decide
    | exact (fun _ => by decide)
    | exact (show (_ : Int) ≠ _ by decide)
    | fail
  conv => whnf
  rcases put_map ⟨e.node, e.par, e.neg, e.num, e.den, zk⟩ M with ⟨kk, z, g1, g2, g3, g4, g5⟩ | ⟨g3, g4, g5⟩
  all_goals rw [← hes] at g3 g4
  all_goals rw [show findM tys 25 (AV.agg [AV.val (Value.string (bs e.node.au)), AV.val (Value.int IntKind.i64 e.node.n)]) es 0 = _ from g3]
  · repeat' first
      | apply And.intro
      | exact (fun h => Bool.noConfusion h)
      | (refine chkI ?_; kernel_rfl)
      | (refine chkBI ?_; kernel_rfl)
      | exact (fun _ => True.intro)
      | exact True.intro
      | exact (fun h => h)
      | exact rfl
      | decide
      | exact (fun _ => by decide)
      | exact (show (_ : Int) ≠ _ by decide)
      | fail
    refine VC.gc [0] [5, 31, 32, 33] rfl rfl ?_
    have := hQ _ g4
    dsimp only [st17] at this
    rw [g5] at this
    exact this
  · repeat' first
      | apply And.intro
      | exact (fun h => Bool.noConfusion h)
      | (refine chkI ?_; kernel_rfl)
      | (refine chkBI ?_; kernel_rfl)
      | exact (fun _ => True.intro)
      | exact True.intro
      | exact (fun h => h)
      | exact rfl
      | decide
      | exact (fun _ => by decide)
      | exact (show (_ : Int) ≠ _ by decide)
      | fail
    refine VC.gc [0] [5, 31, 32, 33] rfl rfl ?_
    have := hQ _ g4
    dsimp only [st17] at this
    rw [g5] at this
    exact this

/-- Whether a node is moved. -/
theorem move17 (en : Option Bool) (ec : Option Nat) (E : List Edit) (i : Nat) (M : List Node) (es : List (AV × AV × Nat)) (hes : es = spE M 0) (e : Edit) (zp : Id) (zn : Bool) (znum zden zk : List UInt8) (pb : Bool) {Q : AV → List Blk → Prop}
    (hQ : ∀ M' es', M' = (if (pb || e.par == trash) && !underN M e.par e.node then putN M ⟨e.node, e.par, e.neg, e.num, e.den, zk⟩ else M) → es' = spE M' 0 → VC Tryz.prog f17 [1, 1, 1, 0, 0, 1, 0, 1, 1, 1] (st17 en ec E i M' es') Q) :
    VC Tryz.prog f17 [1, 0, 1, 1, 1, 0, 1, 1, 1, 1, 0, 0, 1, 1, 0, 0, 1, 0, 1, 1, 1] ⟨[(5, .mp 0), (9, .ptr 1 0 0 0), (11, .val (.bool pb)), (15, .val (.bool true)), (14, .ptr 2 0 0 0), (31, .sl en ec 18 (E.map editA)), (32, i64 E.length), (33, i64 i)], [.map es M.length, .box (cellsOf (editA e)) false, .box [str e.node.au, i64 e.node.n, str zp.au, i64 zp.n, .val (.bool zn), str znum, str zden, str zk] false]⟩ Q := by
  have ht := id_beq e.par trash
  refine vc_at h17 [[1, 1, 1, 0, 0, 1, 0, 1, 1, 1], [1, 0, 1, 1, 0, 1, 1, 1, 0, 1, 1, 1, 1, 0, 0, 1, 1, 0, 0, 1, 0, 1, 1, 1]] 100 ?_
  cases pb with
  | false =>
    repeat' first
      | apply And.intro
      | exact (fun h => Bool.noConfusion h)
      | (refine chkI ?_; kernel_rfl)
      | (refine chkBI ?_; kernel_rfl)
      | exact (fun _ => True.intro)
      | exact True.intro
      | exact (fun h => h)
      | exact rfl
      | decide
      | exact (fun _ => by decide)
      | exact (show (_ : Int) ≠ _ by decide)
      | fail
    all_goals rw [show (bs e.par.au == { data := #[45] } && (e.par.n == 0 && true)) = (e.par == trash) from ht]
    all_goals cases hpt : e.par == trash
    all_goals rw [hpt] at hQ
    all_goals first
      | exact (fun h => Bool.noConfusion h)
      | intro _
    · repeat' first
        | apply And.intro
        | exact (fun h => Bool.noConfusion h)
        | (refine chkI ?_; kernel_rfl)
        | (refine chkBI ?_; kernel_rfl)
        | exact (fun _ => True.intro)
        | exact True.intro
        | exact (fun h => h)
        | exact rfl
        | decide
        | exact (fun _ => by decide)
        | exact (show (_ : Int) ≠ _ by decide)
        | fail
      refine Exists.intro [0] (Exists.intro _ (And.intro rfl (And.intro (hc61 M e.par e.node M.length es hes) ?_)))
      intro d H hq
      obtain ⟨rfl, rfl⟩ := hq
      cases hu : underN M e.par e.node with
      | true =>
        rw [hu] at hQ
        repeat' first
          | apply And.intro
          | exact (fun h => Bool.noConfusion h)
          | (refine chkI ?_; kernel_rfl)
          | (refine chkBI ?_; kernel_rfl)
          | exact (fun _ => True.intro)
          | exact True.intro
          | exact (fun h => h)
          | exact rfl
          | decide
          | exact (fun _ => by decide)
          | exact (show (_ : Int) ≠ _ by decide)
          | fail
        conv => whnf
        refine VC.gc [0] [5, 31, 32, 33] rfl rfl ?_
        exact hQ M es (by simp) hes
      | false =>
        rw [hu] at hQ
        repeat' first
          | apply And.intro
          | exact (fun h => Bool.noConfusion h)
          | (refine chkI ?_; kernel_rfl)
          | (refine chkBI ?_; kernel_rfl)
          | exact (fun _ => True.intro)
          | exact True.intro
          | exact (fun h => h)
          | exact rfl
          | decide
          | exact (fun _ => by decide)
          | exact (show (_ : Int) ≠ _ by decide)
          | fail
        conv => whnf
        refine VC.gc [0, 1, 2] [5, 9, 14, 31, 32, 33] rfl rfl ?_
        exact put17 en ec E i M es hes e zk fun es' he => hQ _ es' (by simp) he
    · repeat' first
        | apply And.intro
        | exact (fun h => Bool.noConfusion h)
        | (refine chkI ?_; kernel_rfl)
        | (refine chkBI ?_; kernel_rfl)
        | exact (fun _ => True.intro)
        | exact True.intro
        | exact (fun h => h)
        | exact rfl
        | decide
        | exact (fun _ => by decide)
        | exact (show (_ : Int) ≠ _ by decide)
        | fail
      conv => whnf
      refine VC.gc [0] [5, 31, 32, 33] rfl rfl ?_
      exact hQ M es (by simp) hes
  | true =>
    repeat' first
      | apply And.intro
      | exact (fun h => Bool.noConfusion h)
      | (refine chkI ?_; kernel_rfl)
      | (refine chkBI ?_; kernel_rfl)
      | exact (fun _ => True.intro)
      | exact True.intro
      | exact (fun h => h)
      | exact rfl
      | decide
      | exact (fun _ => by decide)
      | exact (show (_ : Int) ≠ _ by decide)
      | fail
    intro _
    repeat' first
      | apply And.intro
      | exact (fun h => Bool.noConfusion h)
      | (refine chkI ?_; kernel_rfl)
      | (refine chkBI ?_; kernel_rfl)
      | exact (fun _ => True.intro)
      | exact True.intro
      | exact (fun h => h)
      | exact rfl
      | decide
      | exact (fun _ => by decide)
      | exact (show (_ : Int) ≠ _ by decide)
      | fail
    refine Exists.intro [0] (Exists.intro _ (And.intro rfl (And.intro (hc61 M e.par e.node M.length es hes) ?_)))
    intro d H hq
    obtain ⟨rfl, rfl⟩ := hq
    cases hu : underN M e.par e.node with
    | true =>
      rw [hu] at hQ
      repeat' first
        | apply And.intro
        | exact (fun h => Bool.noConfusion h)
        | (refine chkI ?_; kernel_rfl)
        | (refine chkBI ?_; kernel_rfl)
        | exact (fun _ => True.intro)
        | exact True.intro
        | exact (fun h => h)
        | exact rfl
        | decide
        | exact (fun _ => by decide)
        | exact (show (_ : Int) ≠ _ by decide)
        | fail
      conv => whnf
      refine VC.gc [0] [5, 31, 32, 33] rfl rfl ?_
      exact hQ M es (by simp) hes
    | false =>
      rw [hu] at hQ
      repeat' first
        | apply And.intro
        | exact (fun h => Bool.noConfusion h)
        | (refine chkI ?_; kernel_rfl)
        | (refine chkBI ?_; kernel_rfl)
        | exact (fun _ => True.intro)
        | exact True.intro
        | exact (fun h => h)
        | exact rfl
        | decide
        | exact (fun _ => by decide)
        | exact (show (_ : Int) ≠ _ by decide)
        | fail
      conv => whnf
      refine VC.gc [0, 1, 2] [5, 9, 14, 31, 32, 33] rfl rfl ?_
      exact put17 en ec E i M es hes e zk fun es' he => hQ _ es' (by simp) he

/-- What one edit does, where it is known whether its parent is there. -/
theorem step17 (en : Option Bool) (ec : Option Nat) (E : List Edit) (i : Nat) (M : List Node) (es : List (AV × AV × Nat)) (hes : es = spE M 0) (e : Edit) {Q : AV → List Blk → Prop}
    (hQ : ∀ es', es' = spE (applyN M e) 0 → VC Tryz.prog f17 [1, 1, 1, 0, 0, 1, 0, 1, 1, 1] (st17 en ec E i (applyN M e) es') Q) :
    VC Tryz.prog f17 [1, 1, 1, 1, 0, 0, 1, 1, 0, 0, 1, 0, 1, 1, 1] ⟨[(5, .mp 0), (9, .ptr 1 0 0 0), (11, .val (.bool (okPar M e.par))), (52, i64 e.kind), (31, .sl en ec 18 (E.map editA)), (32, i64 E.length), (33, i64 i)], [.map es M.length, .box (cellsOf (editA e)) false]⟩ Q := by
  unfold applyN at hQ
  refine vc_at h17 [[1, 1, 1, 0, 0, 1, 0, 1, 1, 1], [1, 0, 1, 1, 1, 0, 1, 1, 1, 1, 0, 0, 1, 1, 0, 0, 1, 0, 1, 1, 1]] 100 ?_
  repeat' first
    | apply And.intro
    | exact (fun h => Bool.noConfusion h)
    | (refine chkI ?_; kernel_rfl)
    | (refine chkBI ?_; kernel_rfl)
    | exact (fun _ => True.intro)
    | exact True.intro
    | exact (fun h => h)
    | exact rfl
    | decide
    | exact (fun _ => by decide)
    | exact (show (_ : Int) ≠ _ by decide)
    | fail
  cases hk1 : (e.kind == 1) with
  | true =>
    rw [if_pos hk1] at hQ
    repeat' first
      | apply And.intro
      | exact (fun h => Bool.noConfusion h)
      | (refine chkI ?_; kernel_rfl)
      | (refine chkBI ?_; kernel_rfl)
      | exact (fun _ => True.intro)
      | exact True.intro
      | exact (fun h => h)
      | exact rfl
      | decide
      | exact (fun _ => by decide)
      | exact (show (_ : Int) ≠ _ by decide)
      | fail
    conv => whnf
    obtain ⟨hf1, hf2⟩ := findM_sp e.id M 0 0
    rw [← hes] at hf1 hf2
    cases hz : findN e.id M with
    | some z =>
      obtain ⟨hzx, kk, hk1, hk2⟩ := hf2 z hz
      rw [hz, if_neg (by simp)] at hQ
      rw [show findM tys 25 (AV.agg [AV.val (Value.string (bs e.id.au)), AV.val (Value.int IntKind.i64 e.id.n)]) es 0 = _ from hk2]
      repeat' first
        | apply And.intro
        | exact (fun h => Bool.noConfusion h)
        | (refine chkI ?_; kernel_rfl)
        | (refine chkBI ?_; kernel_rfl)
        | exact (fun _ => True.intro)
        | exact True.intro
        | exact (fun h => h)
        | exact rfl
        | decide
        | exact (fun _ => by decide)
        | exact (show (_ : Int) ≠ _ by decide)
        | fail
      refine VC.gc [0] [5, 31, 32, 33] rfl rfl ?_
      exact hQ es hes
    | none =>
      rw [show findM tys 25 (AV.agg [AV.val (Value.string (bs e.id.au)), AV.val (Value.int IntKind.i64 e.id.n)]) es 0 = _ from hf1 hz]
      rw [hz] at hQ
      cases hp : okPar M e.par with
      | false =>
        rw [hp, if_neg (by simp)] at hQ
        repeat' first
          | apply And.intro
          | exact (fun h => Bool.noConfusion h)
          | (refine chkI ?_; kernel_rfl)
          | (refine chkBI ?_; kernel_rfl)
          | exact (fun _ => True.intro)
          | exact True.intro
          | exact (fun h => h)
          | exact rfl
          | decide
          | exact (fun _ => by decide)
          | exact (show (_ : Int) ≠ _ by decide)
          | fail
        refine VC.gc [0] [5, 31, 32, 33] rfl rfl ?_
        exact hQ es hes
      | true =>
        rw [hp, if_pos (by simp)] at hQ
        repeat' first
          | apply And.intro
          | exact (fun h => Bool.noConfusion h)
          | (refine chkI ?_; kernel_rfl)
          | (refine chkBI ?_; kernel_rfl)
          | exact (fun _ => True.intro)
          | exact True.intro
          | exact (fun h => h)
          | exact rfl
          | decide
          | exact (fun _ => by decide)
          | exact (show (_ : Int) ≠ _ by decide)
          | fail
        conv => whnf
        rw [show findM tys 25 (AV.agg [AV.val (Value.string (bs e.id.au)), AV.val (Value.int IntKind.i64 e.id.n)]) es 0 = _ from hf1 hz]
        repeat' first
          | apply And.intro
          | exact (fun h => Bool.noConfusion h)
          | (refine chkI ?_; kernel_rfl)
          | (refine chkBI ?_; kernel_rfl)
          | exact (fun _ => True.intro)
          | exact True.intro
          | exact (fun h => h)
          | exact rfl
          | decide
          | exact (fun _ => by decide)
          | exact (show (_ : Int) ≠ _ by decide)
          | fail
        refine VC.gc [0] [5, 31, 32, 33] rfl rfl ?_
        have := hQ (es ++ [(idA e.id, nodeA ⟨e.id, e.par, e.neg, e.num, e.den, e.value⟩, M.length)]) (by rw [spE_snoc, hes]; simp)
        dsimp only [st17] at this
        rw [List.length_append] at this
        exact this
  | false =>
    rw [if_neg (by rw [hk1]; simp)] at hQ
    repeat' first
      | apply And.intro
      | exact (fun h => Bool.noConfusion h)
      | (refine chkI ?_; kernel_rfl)
      | (refine chkBI ?_; kernel_rfl)
      | exact (fun _ => True.intro)
      | exact True.intro
      | exact (fun h => h)
      | exact rfl
      | decide
      | exact (fun _ => by decide)
      | exact (show (_ : Int) ≠ _ by decide)
      | fail
    cases hk2 : (e.kind == 2) with
    | false =>
      rw [if_neg (by rw [hk2]; simp)] at hQ
      repeat' first
        | apply And.intro
        | exact (fun h => Bool.noConfusion h)
        | (refine chkI ?_; kernel_rfl)
        | (refine chkBI ?_; kernel_rfl)
        | exact (fun _ => True.intro)
        | exact True.intro
        | exact (fun h => h)
        | exact rfl
        | decide
        | exact (fun _ => by decide)
        | exact (show (_ : Int) ≠ _ by decide)
        | fail
      refine VC.gc [0] [5, 31, 32, 33] rfl rfl ?_
      exact hQ es hes
    | true =>
      rw [if_pos hk2] at hQ
      repeat' first
        | apply And.intro
        | exact (fun h => Bool.noConfusion h)
        | (refine chkI ?_; kernel_rfl)
        | (refine chkBI ?_; kernel_rfl)
        | exact (fun _ => True.intro)
        | exact True.intro
        | exact (fun h => h)
        | exact rfl
        | decide
        | exact (fun _ => by decide)
        | exact (show (_ : Int) ≠ _ by decide)
        | fail
      conv => whnf
      obtain ⟨hf1, hf2⟩ := findM_sp e.node M 0 0
      rw [← hes] at hf1 hf2
      cases hz : findN e.node M with
      | none =>
        rw [hz] at hQ
        rw [show findM tys 25 (AV.agg [AV.val (Value.string (bs e.node.au)), AV.val (Value.int IntKind.i64 e.node.n)]) es 0 = _ from hf1 hz]
        repeat' first
          | apply And.intro
          | exact (fun h => Bool.noConfusion h)
          | (refine chkI ?_; kernel_rfl)
          | (refine chkBI ?_; kernel_rfl)
          | exact (fun _ => True.intro)
          | exact True.intro
          | exact (fun h => h)
          | exact rfl
          | decide
          | exact (fun _ => by decide)
          | exact (show (_ : Int) ≠ _ by decide)
          | fail
        refine VC.gc [0, 1] [5, 9, 11, 15, 31, 32, 33] rfl rfl ?_
        refine vc_at h17 [[1, 1, 1, 0, 0, 1, 0, 1, 1, 1]] 100 ?_
        repeat' first
          | apply And.intro
          | exact (fun h => Bool.noConfusion h)
          | (refine chkI ?_; kernel_rfl)
          | (refine chkBI ?_; kernel_rfl)
          | exact (fun _ => True.intro)
          | exact True.intro
          | exact (fun h => h)
          | exact rfl
          | decide
          | exact (fun _ => by decide)
          | exact (show (_ : Int) ≠ _ by decide)
          | fail
        intro _
        repeat' first
          | apply And.intro
          | exact (fun h => Bool.noConfusion h)
          | (refine chkI ?_; kernel_rfl)
          | (refine chkBI ?_; kernel_rfl)
          | exact (fun _ => True.intro)
          | exact True.intro
          | exact (fun h => h)
          | exact rfl
          | decide
          | exact (fun _ => by decide)
          | exact (show (_ : Int) ≠ _ by decide)
          | fail
        conv => whnf
        refine VC.gc [0] [5, 31, 32, 33] rfl rfl ?_
        exact hQ es hes
      | some z =>
        obtain ⟨hzx, kk, hk1, hk2⟩ := hf2 z hz
        obtain ⟨zi, zp, zn, znum, zden, zk⟩ := z
        dsimp only at hzx
        subst hzx
        rw [hz] at hQ
        dsimp only at hQ
        rw [show findM tys 25 (AV.agg [AV.val (Value.string (bs e.node.au)), AV.val (Value.int IntKind.i64 e.node.n)]) es 0 = _ from hk2]
        repeat' first
          | apply And.intro
          | exact (fun h => Bool.noConfusion h)
          | (refine chkI ?_; kernel_rfl)
          | (refine chkBI ?_; kernel_rfl)
          | exact (fun _ => True.intro)
          | exact True.intro
          | exact (fun h => h)
          | exact rfl
          | decide
          | exact (fun _ => by decide)
          | exact (show (_ : Int) ≠ _ by decide)
          | fail
        refine VC.gc [0, 1, 2] [5, 9, 11, 15, 14, 31, 32, 33] rfl rfl ?_
        exact move17 en ec E i M es hes e zp zn znum zden zk _ fun M' es' h1 h2 => by subst h1; exact hQ es' h2

end Vm
end Go.Proofs.YtdbpcmpkpbamhaaGreatDoor
