/- Walks: the tree after edits, the loops and the whole. -/
import Derived.Test.YtdbpcmpkpbamhaaGreatDoorMp
namespace Go.Proofs.YtdbpcmpkpbamhaaGreatDoor
set_option linter.unusedVariables false
set_option linter.unusedSimpArgs false
set_option maxRecDepth 100000
namespace Vm
open Go

/-- The second loop: the edits. -/
theorem loop17b (en : Option Bool) (ec : Option Nat) (E : List Edit) (hL : E.length < 2 ^ 39) {Q : AV → List Blk → Prop} : ∀ (k i : Nat) (M : List Node) (es : List (AV × AV × Nat)), k = E.length - i → i ≤ E.length → es = spE M 0 →
    (∀ es', es' = spE ((E.drop i).foldl applyN M) 0 → VC Tryz.prog f17 [1, 1, 1, 1] ⟨[(5, .mp 0)], [.map es' ((E.drop i).foldl applyN M).length]⟩ Q) →
    VC Tryz.prog f17 [0, 0, 1, 0, 1, 1, 1] (st17 en ec E i M es) Q
  | 0, i, M, es, hk, hi, hes, hQ => by
    have hd : E.drop i = [] := List.drop_eq_nil_of_le (by omega)
    rw [hd] at hQ
    refine vc_at h17 [[0, 0, 1, 0, 1, 1, 1], [1, 1, 1, 1]] 100 ?_
    repeat' first
      | apply And.intro
      | exact (fun h => Bool.noConfusion h)
      | (refine chkI ?_; kernel_rfl)
      | (refine chkBI ?_; kernel_rfl)
      | exact (fun _ => True.intro)
      | exact True.intro
      | exact (fun h => h)
      | exact rfl
      | decide
      | exact (fun _ => by decide)
      | exact (show (_ : Int) ≠ _ by decide)
      | fail
    rw [show decide ((i : Int) < E.length) = false by simp; omega]
    repeat' first
      | apply And.intro
      | exact (fun h => Bool.noConfusion h)
      | (refine chkI ?_; kernel_rfl)
      | (refine chkBI ?_; kernel_rfl)
      | exact (fun _ => True.intro)
      | exact True.intro
      | exact (fun h => h)
      | exact rfl
      | decide
      | exact (fun _ => by decide)
      | exact (show (_ : Int) ≠ _ by decide)
      | fail
    refine VC.gc [0] [5] rfl rfl ?_
    exact hQ es hes
  | k + 1, i, M, es, hk, hi, hes, hQ => by
    have hlt : i < E.length := by omega
    obtain ⟨x, hx⟩ : ∃ x, E[i]? = some x := ⟨E[i], List.getElem?_eq_getElem hlt⟩
    have hdr : E.drop i = x :: E.drop (i + 1) := by rw [List.drop_eq_getElem_cons hlt]; rw [List.getElem?_eq_getElem hlt] at hx; cases hx; rfl
    rw [hdr, List.foldl_cons] at hQ
    obtain ⟨hf1, hf2⟩ := findM_sp x.par M 0 0
    rw [← hes] at hf1 hf2
    have next : ∀ es', es' = spE (applyN M x) 0 → VC Tryz.prog f17 [1, 1, 1, 0, 0, 1, 0, 1, 1, 1] (st17 en ec E i (applyN M x) es') Q := by
      intro es' he
      refine vc_at h17 [[0, 0, 1, 0, 1, 1, 1]] 100 ?_
      repeat' first
        | apply And.intro
        | exact (fun h => Bool.noConfusion h)
        | (refine chkI ?_; kernel_rfl)
        | (refine chkBI ?_; kernel_rfl)
        | exact (fun _ => True.intro)
        | exact True.intro
        | exact (fun h => h)
        | exact rfl
        | decide
        | exact (fun _ => by decide)
        | exact (show (_ : Int) ≠ _ by decide)
        | fail
      all_goals first
        | omega
        | (simp only [imp, i64ok, sz, List.length_map, List.length_cons, List.length_nil] <;> omega)
        | (dsimp only [List.length_cons, List.length_nil]; omega)
        | skip
      refine VC.gc [0] [5, 31, 32, 33] rfl rfl ?_
      exact loop17b en ec E hL k (i + 1) (applyN M x) es' (by omega) (by omega) he hQ
    have step := step17 en ec E i M es hes x next
    have hr := id_beq x.par root
    refine vc_at h17 [[0, 0, 1, 0, 1, 1, 1], [1, 1, 1, 1], [1, 1, 1, 1, 0, 0, 1, 1, 0, 0, 1, 0, 1, 1, 1]] 100 ?_
    repeat' first
      | apply And.intro
      | exact (fun h => Bool.noConfusion h)
      | (refine chkI ?_; kernel_rfl)
      | (refine chkBI ?_; kernel_rfl)
      | exact (fun _ => True.intro)
      | exact True.intro
      | exact (fun h => h)
      | exact rfl
      | decide
      | exact (fun _ => by decide)
      | exact (show (_ : Int) ≠ _ by decide)
      | fail
    rw [show decide ((i : Int) < E.length) = true by simp; omega]
    repeat' first
      | apply And.intro
      | exact (fun h => Bool.noConfusion h)
      | (refine chkI ?_; kernel_rfl)
      | (refine chkBI ?_; kernel_rfl)
      | exact (fun _ => True.intro)
      | exact True.intro
      | exact (fun h => h)
      | exact rfl
      | decide
      | exact (fun _ => by decide)
      | exact (show (_ : Int) ≠ _ by decide)
      | fail
    apply Exists.intro (editA x)
    apply And.intro
    · exact ⟨by omega, by rw [show ((i : Nat) : Int).toNat = i by omega, List.getElem?_map, hx]; rfl, rfl⟩
    repeat' first
      | apply And.intro
      | exact (fun h => Bool.noConfusion h)
      | (refine chkI ?_; kernel_rfl)
      | (refine chkBI ?_; kernel_rfl)
      | exact (fun _ => True.intro)
      | exact True.intro
      | exact (fun h => h)
      | exact rfl
      | decide
      | exact (fun _ => by decide)
      | exact (show (_ : Int) ≠ _ by decide)
      | fail
    conv => whnf
    cases hz : findN x.par M with
    | none =>
      rw [show findM tys 25 (AV.agg [AV.val (Value.string (bs x.par.au)), AV.val (Value.int IntKind.i64 x.par.n)]) es 0 = _ from hf1 hz]
      repeat' first
        | apply And.intro
        | exact (fun h => Bool.noConfusion h)
        | (refine chkI ?_; kernel_rfl)
        | (refine chkBI ?_; kernel_rfl)
        | exact (fun _ => True.intro)
        | exact True.intro
        | exact (fun h => h)
        | exact rfl
        | decide
        | exact (fun _ => by decide)
        | exact (show (_ : Int) ≠ _ by decide)
        | fail
      conv => whnf
      rw [show okPar M x.par = (false || (bs x.par.au == bs root.au && (x.par.n == root.n && true))) by unfold okPar; rw [hz, hr]; rfl] at step
      refine VC.gc [0, 1] [5, 9, 11, 52, 31, 32, 33] rfl rfl ?_
      exact step
    | some z =>
      obtain ⟨hzx, kk, hk1, hk2⟩ := hf2 z hz
      rw [show findM tys 25 (AV.agg [AV.val (Value.string (bs x.par.au)), AV.val (Value.int IntKind.i64 x.par.n)]) es 0 = _ from hk2]
      repeat' first
        | apply And.intro
        | exact (fun h => Bool.noConfusion h)
        | (refine chkI ?_; kernel_rfl)
        | (refine chkBI ?_; kernel_rfl)
        | exact (fun _ => True.intro)
        | exact True.intro
        | exact (fun h => h)
        | exact rfl
        | decide
        | exact (fun _ => by decide)
        | exact (show (_ : Int) ≠ _ by decide)
        | fail
      conv => whnf
      rw [show okPar M x.par = (true || (bs x.par.au == bs root.au && (x.par.n == root.n && true))) by unfold okPar; rw [hz, hr]; rfl] at step
      refine VC.gc [0, 1] [5, 9, 11, 52, 31, 32, 33] rfl rfl ?_
      exact step

/-! ### The third loop: the nodes come out in any order -/
theorem spE_get : ∀ (M : List Node) (i : Nat) (e : AV × AV × Nat), e ∈ spE M i → ∃ k z, M[k]? = some z ∧ e = (idA z.id, nodeA z, i + k)
  | [], i, e, h => by simp [spE] at h
  | x :: M, i, e, h => by
    simp only [spE, List.mem_cons] at h
    rcases h with rfl | h
    · exact ⟨0, x, rfl, rfl⟩
    · obtain ⟨k, z, h1, h2⟩ := spE_get M (i + 1) e h
      exact ⟨k + 1, z, by simpa using h1, by rw [h2, show i + 1 + k = i + (k + 1) by omega]⟩
theorem spE_mem : ∀ (M : List Node) (i k : Nat) (z : Node), M[k]? = some z → (idA z.id, nodeA z, i + k) ∈ spE M i
  | [], i, k, z, h => by simp at h
  | x :: M, i, 0, z, h => by simp only [List.getElem?_cons_zero, Option.some.injEq] at h; subst h; simp [spE]
  | x :: M, i, k + 1, z, h => by
    have := spE_mem M (i + 1) k z (by simpa using h)
    simp only [spE, List.mem_cons]
    rw [show i + (k + 1) = i + 1 + k by omega]
    exact .inr this
theorem spE_find : ∀ (M : List Node) (i k : Nat) (z : Node), M[k]? = some z → (spE M i).find? (fun x => x.2.2 == i + k) = some (idA z.id, nodeA z, i + k)
  | [], i, k, z, h => by simp at h
  | x :: M, i, 0, z, h => by simp only [List.getElem?_cons_zero, Option.some.injEq] at h; subst h; simp [spE]
  | x :: M, i, k + 1, z, h => by
    have := spE_find M (i + 1) k z (by simpa using h)
    simp only [spE, List.find?_cons]
    rw [show (i == i + (k + 1)) = false by simp, show i + (k + 1) = i + 1 + k by omega]
    exact this

/-- What came out so far: the nodes at the places seen. -/
structure Out (M : List Node) (seen : List Nat) (out : List Node) : Prop where
  nd : seen.Nodup
  eq : out.map some = seen.map fun j => M[j]?
theorem Out.len {M : List Node} {seen : List Nat} {out : List Node} (h : Out M seen out) : out.length = seen.length := by
  have := congrArg List.length h.eq
  simpa using this
theorem Out.lt {M : List Node} {seen : List Nat} {out : List Node} (h : Out M seen out) : ∀ j ∈ seen, j < M.length := by
  intro j hj
  have : M[j]? ∈ out.map some := by rw [h.eq]; exact List.mem_map.2 ⟨j, hj, rfl⟩
  obtain ⟨z, _, hz⟩ := List.mem_map.1 this
  exact (List.getElem?_eq_some_iff.1 hz.symm).1
theorem Out.le {M : List Node} {seen : List Nat} {out : List Node} (h : Out M seen out) : seen.length ≤ M.length := by
  have := List.Nodup.length_le_of_subset h.nd (l₂ := List.range M.length) fun j hj => by simpa using h.lt j hj
  simpa using this
theorem Out.perm {M : List Node} {seen : List Nat} {out : List Node} (h : Out M seen out) (hl : ∀ j, j < M.length → j ∈ seen) : out.Perm M := by
  have hp : seen.Perm (List.range M.length) := (List.perm_ext_iff_of_nodup h.nd List.nodup_range).2 fun j => by simp; exact ⟨h.lt j, hl j⟩
  have h2 := hp.map fun j => M[j]?
  rw [← h.eq, show (List.range M.length).map (fun j => M[j]?) = M.map some by apply List.ext_getElem?; intro i; simp [List.getElem?_range]; by_cases hi : i < M.length <;> simp [hi]] at h2
  have h3 := h2.filterMap id
  simpa using h3

abbrev st17c (M : List Node) (es : List (AV × AV × Nat)) (seen : List Nat) (out : List Node) (g : Nat) : St :=
  ⟨[(16, .ref 1 0 out.length none g 8), (122, .ptr 2 0 0 0)], [.map es M.length, .row (out.map nodeA) 8 g, .iter (some 0) M.length seen M.length]⟩

theorem loop17c (M : List Node) (hM : M.length < 2 ^ 39) (es : List (AV × AV × Nat)) (hes : es = spE M 0) {Q : AV → List Blk → Prop}
    (hQ : ∀ (out : List Node) (g : Nat), out.Perm M → VC Tryz.prog f17 [1, 1, 1, 1, 1, 1] ⟨[(16, .ref 0 0 out.length none g 8)], [.row (out.map nodeA) 8 g]⟩ Q) : ∀ (k : Nat) (seen : List Nat) (out : List Node) (g : Nat), M.length - seen.length < k → Out M seen out →
    VC Tryz.prog f17 [0, 0, 1, 0, 1, 1, 1, 1, 1] (st17c M es seen out g) Q
  | 0, seen, out, g, hk, ho => by omega
  | k + 1, seen, out, g, hk, ho => by
    have hle := ho.le
    have hol := ho.len
    refine vc_at h17 [[0, 0, 1, 0, 1, 1, 1, 1, 1], [1, 1, 1, 1, 1, 1]] 100 ?_
    repeat' first
      | apply And.intro
      | exact (fun h => Bool.noConfusion h)
      | (refine chkI ?_; kernel_rfl)
      | (refine chkBI ?_; kernel_rfl)
      | exact (fun _ => True.intro)
      | exact True.intro
      | exact (fun h => h)
      | exact rfl
      | decide
      | exact (fun _ => by decide)
      | exact (show (_ : Int) ≠ _ by decide)
      | fail
    · intro e he
      rw [hes] at he
      obtain ⟨k', z, h1, rfl⟩ := spE_get M 0 e he
      have := (List.getElem?_eq_some_iff.1 h1).1
      dsimp only; omega
    · exact Nat.le_refl _
    · intro hn
      repeat' first
        | apply And.intro
        | exact (fun h => Bool.noConfusion h)
        | (refine chkI ?_; kernel_rfl)
        | (refine chkBI ?_; kernel_rfl)
        | exact (fun _ => True.intro)
        | exact True.intro
        | exact (fun h => h)
        | exact rfl
        | decide
        | exact (fun _ => by decide)
        | exact (show (_ : Int) ≠ _ by decide)
        | fail
      conv => whnf
      refine VC.gc [1] [16] rfl rfl ?_
      refine hQ out g (ho.perm fun j hj => ?_)
      obtain ⟨z, hz⟩ : ∃ z, M[j]? = some z := ⟨M[j], List.getElem?_eq_getElem hj⟩
      have hm := spE_mem M 0 j z hz
      rw [← hes] at hm
      have : (idA z.id, nodeA z, 0 + j) ∉ leftL es seen := by rw [hn]; simp
      unfold leftL at this
      rw [List.mem_filter] at this
      simp only [Nat.zero_add] at hm
      simp [hm] at this
      exact this
    · intro e he
      unfold leftL at he
      rw [List.mem_filter] at he
      obtain ⟨he1, he2⟩ := he
      rw [hes] at he1
      obtain ⟨j, z, h1, rfl⟩ := spE_get M 0 e he1
      have hj : j ∉ seen := by simpa using he2
      repeat' first
        | apply And.intro
        | exact (fun h => Bool.noConfusion h)
        | (refine chkI ?_; kernel_rfl)
        | (refine chkBI ?_; kernel_rfl)
        | exact (fun _ => True.intro)
        | exact True.intro
        | exact (fun h => h)
        | exact rfl
        | decide
        | exact (fun _ => by decide)
        | exact (show (_ : Int) ≠ _ by decide)
        | fail
      apply Exists.intro ((idA z.id, nodeA z, 0 + j))
      apply And.intro
      · exact ⟨rfl, by simp, by rw [hes]; exact spE_find M 0 j z h1⟩
      repeat' first
        | apply And.intro
        | exact (fun h => Bool.noConfusion h)
        | (refine chkI ?_; kernel_rfl)
        | (refine chkBI ?_; kernel_rfl)
        | exact (fun _ => True.intro)
        | exact True.intro
        | exact (fun h => h)
        | exact rfl
        | decide
        | exact (fun _ => by decide)
        | exact (show (_ : Int) ≠ _ by decide)
        | fail
      all_goals first
        | omega
        | (simp only [imp, i64ok, sz, List.length_map, List.length_cons, List.length_nil] <;> omega)
        | (dsimp only [List.length_cons, List.length_nil]; omega)
        | skip
      have e : ((out.map nodeA).drop 0).take out.length ++ [nodeA z] = (out ++ [z]).map nodeA := by rw [List.drop_zero, List.take_of_length_le (by simp)]; simp
      have ho' : Out M (seen ++ [j]) (out ++ [z]) := ⟨by
        rw [List.nodup_append]
        exact ⟨ho.nd, by simp, fun a ha b hb => by simp at hb; subst hb; intro h; subst h; exact hj ha⟩, by rw [List.map_append, List.map_append, ho.eq]; simp [h1]⟩
      have key := loop17c M hM es hes hQ k (seen ++ [j]) (out ++ [z]) (g + 1) (by have := ho'.le; rw [List.length_append] at this ⊢; simp at this ⊢; omega) ho'
      dsimp only [st17c] at key
      rw [← e, List.length_append, ← Nat.zero_add j] at key
      refine VC.gc [0, 1, 2] [16, 122] rfl rfl ?_
      exact key

theorem tail17 (en : Option Bool) (ec : Option Nat) (E : List Edit) (M0 : List Node) (es : List (AV × AV × Nat)) (hes : es = spE M0 0) (hE : E.length < 2 ^ 39) (h12 : (E.foldl applyN M0).length ≤ 12) (hn : ((E.foldl applyN M0).map (·.id)).Nodup) :
    VC Tryz.prog f17 [1, 1, 1] ⟨[(1, .sl en ec 18 (E.map editA)), (5, .mp 0)], [.map es M0.length]⟩ (Gives (.sl (some false) none 8 ((sortN (E.foldl applyN M0)).map nodeA))) := by
  refine vc_at h17 [[0, 0, 1, 0, 1, 1, 1]] 100 ?_
  repeat' first
    | apply And.intro
    | exact (fun h => Bool.noConfusion h)
    | (refine chkI ?_; kernel_rfl)
    | (refine chkBI ?_; kernel_rfl)
    | exact (fun _ => True.intro)
    | exact True.intro
    | exact (fun h => h)
    | exact rfl
    | decide
    | exact (fun _ => by decide)
    | exact (show (_ : Int) ≠ _ by decide)
    | fail
  have e1 : (E.map editA).length = E.length := by simp
  rw [e1]
  refine VC.gc [0] [5, 31, 32, 33] rfl rfl ?_
  refine loop17b en ec E hE E.length 0 _ es rfl (Nat.zero_le _) hes fun es hes => ?_
  rw [List.drop_zero] at *
  generalize E.foldl applyN M0 = M at *
  have hel : es.length = M.length := by rw [hes, spE_len]
  refine vc_at h17 [[0, 0, 1, 0, 1, 1, 1, 1, 1]] 100 ?_
  repeat' first
    | apply And.intro
    | exact (fun h => Bool.noConfusion h)
    | (refine chkI ?_; kernel_rfl)
    | (refine chkBI ?_; kernel_rfl)
    | exact (fun _ => True.intro)
    | exact True.intro
    | exact (fun h => h)
    | exact rfl
    | decide
    | exact (fun _ => by decide)
    | exact (show (_ : Int) ≠ _ by decide)
    | fail
  all_goals first
    | omega
    | (simp only [imp, i64ok, sz, List.length_map, List.length_cons, List.length_nil] <;> omega)
    | (dsimp only [List.length_cons, List.length_nil]; omega)
    | skip
  refine VC.gc [0, 1, 2] [16, 122] rfl rfl ?_
  refine loop17c M (by omega) es hes (fun out g hp => ?_) (M.length + 1) [] [] 0 (by simp) ⟨by simp, rfl⟩
  have hlen := hp.length_eq
  refine vc_at h17 [] 100 ?_
  repeat' first
    | apply And.intro
    | exact (fun h => Bool.noConfusion h)
    | (refine chkI ?_; kernel_rfl)
    | (refine chkBI ?_; kernel_rfl)
    | exact (fun _ => True.intro)
    | exact True.intro
    | exact (fun h => h)
    | exact rfl
    | decide
    | exact (fun _ => by decide)
    | exact (show (_ : Int) ≠ _ by decide)
    | fail
  refine Exists.intro [0] (Exists.intro _ (And.intro rfl (And.intro (hc62s (S := fun _ => True) (f := 63) (c := cmpK) (fun x y _ _ => c63 x y) out none g (by omega) (fun _ _ => trivial)) ?_)))
  intro d H hq
  obtain ⟨rfl, rfl⟩ := hq
  repeat' first
    | apply And.intro
    | exact (fun h => Bool.noConfusion h)
    | (refine chkI ?_; kernel_rfl)
    | (refine chkBI ?_; kernel_rfl)
    | exact (fun _ => True.intro)
    | exact True.intro
    | exact (fun h => h)
    | exact rfl
    | decide
    | exact (fun _ => by decide)
    | exact (show (_ : Int) ≠ _ by decide)
    | fail
  show frz _ _ = _
  have hl := (sortN_perm out).length_eq
  have hu := sortN_unique hp.symm hn
  unfold sortN at hl hu
  rw [frz_ref rfl]
  rw [List.drop_zero, List.take_of_length_le (by rw [List.length_map]; omega)]
  unfold sortN
  rw [hu]

/-- movetree.Apply -/
theorem c17 (nl : Option Bool) (cp : Option Nat) (L : List Node) (en : Option Bool) (ec : Option Nat) (E : List Edit) (hL : L.length < 2 ^ 39) (hE : E.length < 2 ^ 39) (h12 : (E.foldl applyN (L.foldl putN [])).length ≤ 12) (hn : ((E.foldl applyN (L.foldl putN [])).map (·.id)).Nodup) :
    PureC Tryz.prog 17 [.sl nl cp 8 (L.map nodeA), .sl en ec 18 (E.map editA)] (.sl (some false) none 8 ((sortN (E.foldl applyN (L.foldl putN []))).map nodeA)) := by
  refine pureC_of_vc h17 rfl (Nat.le_of_ble_eq_true rfl) rfl ?_
  refine vc_at h17 [[0, 0, 1, 0, 1, 1]] 100 ?_
  repeat' first
    | apply And.intro
    | exact (fun h => Bool.noConfusion h)
    | (refine chkI ?_; kernel_rfl)
    | (refine chkBI ?_; kernel_rfl)
    | exact (fun _ => True.intro)
    | exact True.intro
    | exact (fun h => h)
    | exact rfl
    | decide
    | exact (fun _ => by decide)
    | exact (show (_ : Int) ≠ _ by decide)
    | fail
  have e0 : (L.map nodeA).length = L.length := by simp
  rw [e0]
  refine VC.gc [0] [1, 5, 20, 21, 22] rfl rfl ?_
  refine loop17a en ec E nl cp L hL L.length 0 [] [] rfl (Nat.zero_le _) rfl fun es hes => ?_
  rw [List.drop_zero] at *
  exact tail17 en ec E _ es hes hE h12 hn

/-- movetree.Apply to no node -/
theorem c17n (en : Option Bool) (ec : Option Nat) (E : List Edit) (hE : E.length < 2 ^ 39) (h12 : (E.foldl applyN []).length ≤ 12) (hn : ((E.foldl applyN []).map (·.id)).Nodup) :
    PureC Tryz.prog 17 [nilA, .sl en ec 18 (E.map editA)] (.sl (some false) none 8 ((sortN (E.foldl applyN [])).map nodeA)) := by
  refine pureC_of_vc h17 rfl (Nat.le_of_ble_eq_true rfl) rfl ?_
  refine vc_at h17 [[0, 0, 1, 0, 1, 1]] 100 ?_
  repeat' first
    | apply And.intro
    | exact (fun h => Bool.noConfusion h)
    | (refine chkI ?_; kernel_rfl)
    | (refine chkBI ?_; kernel_rfl)
    | exact (fun _ => True.intro)
    | exact True.intro
    | exact (fun h => h)
    | exact rfl
    | decide
    | exact (fun _ => by decide)
    | exact (show (_ : Int) ≠ _ by decide)
    | fail
  refine VC.gc [0] [1, 5, 20, 21, 22] rfl rfl ?_
  refine vc_at h17 [[0, 0, 1, 0, 1, 1], [1, 1, 1]] 100 ?_
  repeat' first
    | apply And.intro
    | exact (fun h => Bool.noConfusion h)
    | (refine chkI ?_; kernel_rfl)
    | (refine chkBI ?_; kernel_rfl)
    | exact (fun _ => True.intro)
    | exact True.intro
    | exact (fun h => h)
    | exact rfl
    | decide
    | exact (fun _ => by decide)
    | exact (show (_ : Int) ≠ _ by decide)
    | fail
  refine VC.gc [0] [1, 5] rfl rfl ?_
  exact tail17 en ec E [] [] rfl hE h12 hn

end Vm
end Go.Proofs.YtdbpcmpkpbamhaaGreatDoor

/- Walks: the simplest fraction. -/
namespace Go.Proofs.YtdbpcmpkpbamhaaGreatDoor
set_option linter.unusedVariables false
set_option linter.unusedSimpArgs false
set_option linter.unusedSectionVars false
set_option maxRecDepth 100000
namespace Vm
open Go

/-- A fraction of small parts. -/
structure Sm (q : Rat) : Prop where
  n : q.num.natAbs ≤ 4096
  d : q.den ≤ 4096
theorem mulB {a b : Nat} (ha : a ≤ 4096) (hb : b ≤ 4096) : a * b ≤ 16777216 := Nat.mul_le_mul ha hb
theorem encB {n : Nat} (h : n ≤ 4096) : (enc n).length < 2 ^ 26 := by have := enc_len_64 (n := n) (by omega); omega
section
variable {p q : Rat} (hp : Sm p) (hq : Sm q)
include hp
theorem Sm.rv : RV (rat p) p p.num p.den := rv_rat p (encB hp.n) (encB hp.d)
theorem Sm.gd : GD p.num.natAbs p.den := gd_small (by have := hp.n; omega) p.den_pos (by have := hp.d; omega)
include hq
theorem Sm.den : 0 < p.den * q.den ∧ p.den * q.den < 2 ^ 32 := ⟨Nat.mul_pos p.den_pos q.den_pos, by have := mulB hp.d hq.d; omega⟩
theorem Sm.b1 : (p.num * q.den).natAbs ≤ 16777216 := by rw [Int.natAbs_mul]; exact mulB hp.n (by have := hq.d; omega)
theorem Sm.b2 : (q.num * p.den).natAbs ≤ 16777216 := by rw [Int.natAbs_mul]; exact mulB hq.n (by have := hp.d; omega)
def cmpQ (p q : Rat) : Int := (p.num * q.den - q.num * p.den).sign
theorem q30 : PureC Tryz.prog 30 [rat p, rat q] (i64 (cmpQ p q)) := c30 hp.rv hq.rv
theorem q76 : PureC Tryz.prog 76 [rat p, rat q] (rat (p + q)) := c76 hp.rv hq.rv (gd_small (by have h1 := hp.b1 hq; have h2 := hp.b2 hq; omega) (hp.den hq).1 (hp.den hq).2)
theorem q39 : PureC Tryz.prog 39 [rat p, rat q] (rat (p * q)) := c39 hp.rv hq.rv (gd_small (by have := mulB hp.n hq.n; rw [← Int.natAbs_mul] at this; omega) (hp.den hq).1 (hp.den hq).2)
theorem q74 : PureC Tryz.prog 74 [rat p, rat q] (rat (p - q)) := c74 hp.rv hq.rv hq.gd (gd_small (by have h1 := hp.b1 hq; have h2 := hp.b2 hq; rw [Int.neg_mul]; omega) (hp.den hq).1 (hp.den hq).2)
theorem q33 (h0 : q ≠ 0) : PureC Tryz.prog 33 [rat p, rat q] (.tup [rat (p / q), .val (.bool true)]) := by
  have hz : q.num ≠ 0 := fun h => h0 (Rat.num_eq_zero.1 h)
  refine c33 hp.rv hq.rv hz (gd_small (by have h1 := hp.b1 hq; omega) ?_ ?_)
  · rw [Int.natAbs_mul]; exact Nat.mul_pos (by have := p.den_pos; omega) (by omega)
  · rw [Int.natAbs_mul]; have := mulB (a := (p.den : Int).natAbs) (by have := hp.d; omega) hq.n; omega
theorem q33z (h0 : q = 0) : PureC Tryz.prog 33 [rat p, rat q] (.tup [rat 0, .val (.bool false)]) := c33z hp.rv hq.rv (by subst h0; rfl)
omit hq
theorem q35 : PureC Tryz.prog 35 [rat p] (i64 p.num.sign) := c35 hp.rv
theorem q36 : PureC Tryz.prog 36 [rat p] (rat (-p)) := c36 hp.rv hp.gd
theorem q77 : PureC Tryz.prog 77 [rat p] (rat p) := c77 hp.rv hp.gd
theorem q38 : PureC Tryz.prog 38 [rat p] (int p.floor) := by
  rw [Rat.floor_def]
  exact c38 hp.rv (c94 _ _ (sm_64 (by have := hp.n; omega)) (by have := p.den_pos; omega) (by have := hp.d; omega))
end

theorem s75 : Setting Tryz.prog tys (fi 75 Tryz.f75) := setting (by kernel_rfl) (by kernel_rfl)
theorem s196 : Setting Tryz.prog tys (fi 196 Tryz.f196) := setting (by kernel_rfl) (by kernel_rfl)
theorem s139 : Setting Tryz.prog tys (fi 139 Tryz.f139) := setting (by kernel_rfl) (by kernel_rfl)
theorem s78 : Setting Tryz.prog tys (fi 78 Tryz.f78) := setting (by kernel_rfl) (by kernel_rfl)

/-- movetree.one -/
theorem c75 : PureC Tryz.prog 75 [] (rat 1) := by
  refine pureC_of_vc s75 rfl (Nat.le_of_ble_eq_true rfl) rfl ?_
  refine vc_at s75 [] 100 ?_
  repeat' first
    | apply And.intro
    | exact (fun h => Bool.noConfusion h)
    | (refine chkI ?_; kernel_rfl)
    | (refine chkBI ?_; kernel_rfl)
    | exact (fun _ => True.intro)
    | exact True.intro
    | exact (fun h => h)
    | exact rfl
    | decide
    | exact (fun _ => by decide)
    | exact (show (_ : Int) ≠ _ by decide)
    | fail
  refine Exists.intro _ (And.intro (c34 1 (by decide) (by decide)) ?_)
  repeat' first
    | apply And.intro
    | exact (fun h => Bool.noConfusion h)
    | (refine chkI ?_; kernel_rfl)
    | (refine chkBI ?_; kernel_rfl)
    | exact (fun _ => True.intro)
    | exact True.intro
    | exact (fun h => h)
    | exact rfl
    | decide
    | exact (fun _ => by decide)
    | exact (show (_ : Int) ≠ _ by decide)
    | fail

/-- movetree.floor -/
theorem c196 {p : Rat} (hp : Sm p) (hf : Sm (p.floor : Rat)) : PureC Tryz.prog 196 [rat p] (rat (p.floor : Rat)) := by
  refine pureC_of_vc s196 rfl (Nat.le_of_ble_eq_true rfl) rfl ?_
  refine vc_at s196 [] 100 ?_
  repeat' first
    | apply And.intro
    | exact (fun h => Bool.noConfusion h)
    | (refine chkI ?_; kernel_rfl)
    | (refine chkBI ?_; kernel_rfl)
    | exact (fun _ => True.intro)
    | exact True.intro
    | exact (fun h => h)
    | exact rfl
    | decide
    | exact (fun _ => by decide)
    | exact (show (_ : Int) ≠ _ by decide)
    | fail
  refine Exists.intro _ (And.intro (q38 hp) ?_)
  repeat' first
    | apply And.intro
    | exact (fun h => Bool.noConfusion h)
    | (refine chkI ?_; kernel_rfl)
    | (refine chkBI ?_; kernel_rfl)
    | exact (fun _ => True.intro)
    | exact True.intro
    | exact (fun h => h)
    | exact rfl
    | decide
    | exact (fun _ => by decide)
    | exact (show (_ : Int) ≠ _ by decide)
    | fail
  refine Exists.intro _ (And.intro (pc (q77 hf) ?_) ?_)
  · rfl
  repeat' first
    | apply And.intro
    | exact (fun h => Bool.noConfusion h)
    | (refine chkI ?_; kernel_rfl)
    | (refine chkBI ?_; kernel_rfl)
    | exact (fun _ => True.intro)
    | exact True.intro
    | exact (fun h => h)
    | exact rfl
    | decide
    | exact (fun _ => by decide)
    | exact (show (_ : Int) ≠ _ by decide)
    | fail

/-- The simplest fraction between two, as the code looks for it. -/
def simplest : Nat → Rat → Rat → Bool → Rat
  | 0, _, _, _ => 0
  | k + 1, lo, hi, b => if !b || decide (cmpQ ((lo.floor : Rat) + 1) hi < 0) then (lo.floor : Rat) + 1 else lo.floor + 1 / simplest k (1 / (hi - lo.floor)) (1 / (lo - lo.floor)) (decide (lo - lo.floor ≠ 0))

/-- All that the search meets is of small parts. -/
def Fit : Nat → Rat → Rat → Bool → Prop
  | 0, _, _, _ => False
  | k + 1, lo, hi, b => Sm lo ∧ Sm hi ∧ Sm (lo.floor : Rat) ∧ Sm ((lo.floor : Rat) + 1) ∧ ((!b || decide (cmpQ ((lo.floor : Rat) + 1) hi < 0)) = false →
      hi - lo.floor ≠ 0 ∧ Sm (hi - lo.floor) ∧ Sm (lo - lo.floor) ∧ Fit k (1 / (hi - lo.floor)) (1 / (lo - lo.floor)) (decide (lo - lo.floor ≠ 0)) ∧
      simplest k (1 / (hi - lo.floor)) (1 / (lo - lo.floor)) (decide (lo - lo.floor ≠ 0)) ≠ 0 ∧ Sm (simplest k (1 / (hi - lo.floor)) (1 / (lo - lo.floor)) (decide (lo - lo.floor ≠ 0))) ∧
      Sm (1 / simplest k (1 / (hi - lo.floor)) (1 / (lo - lo.floor)) (decide (lo - lo.floor ≠ 0))))

theorem sm_one : Sm 1 := ⟨by decide, by decide⟩
theorem sm_zero : Sm 0 := ⟨by decide, by decide⟩

/-- movetree.simplest -/
theorem c139 : ∀ (k : Nat) (lo hi : Rat) (b : Bool), Fit k lo hi b → PureC Tryz.prog 139 [rat lo, rat hi, .val (.bool b)] (rat (simplest k lo hi b))
  | 0, lo, hi, b, h => h.elim
  | k + 1, lo, hi, b, h => by
    obtain ⟨h1, h2, h3, h4, h5⟩ := h
    have ih := c139 k (1 / (hi - lo.floor)) (1 / (lo - lo.floor)) (decide (lo - lo.floor ≠ 0))
    have hnext := q76 h3 sm_one
    have hcmp := q30 h4 h2
    have hend : simplest (k + 1) lo hi b = if !b || decide (cmpQ ((lo.floor : Rat) + 1) hi < 0) then (lo.floor : Rat) + 1 else lo.floor + 1 / simplest k (1 / (hi - lo.floor)) (1 / (lo - lo.floor)) (decide (lo - lo.floor ≠ 0)) := rfl
    rw [hend]
    refine pureC_of_vc s139 rfl (Nat.le_of_ble_eq_true rfl) rfl ?_
    refine vc_at s139 [] 100 ?_
    repeat' first
      | apply And.intro
      | exact (fun h => Bool.noConfusion h)
      | (refine chkI ?_; kernel_rfl)
      | (refine chkBI ?_; kernel_rfl)
      | exact (fun _ => True.intro)
      | exact True.intro
      | exact (fun h => h)
      | exact rfl
      | decide
      | exact (fun _ => by decide)
      | exact (show (_ : Int) ≠ _ by decide)
      | fail
    refine Exists.intro _ (And.intro (c196 h1 h3) ?_)
    repeat' first
      | apply And.intro
      | exact (fun h => Bool.noConfusion h)
      | (refine chkI ?_; kernel_rfl)
      | (refine chkBI ?_; kernel_rfl)
      | exact (fun _ => True.intro)
      | exact True.intro
      | exact (fun h => h)
      | exact rfl
      | decide
      | exact (fun _ => by decide)
      | exact (show (_ : Int) ≠ _ by decide)
      | fail
    refine Exists.intro _ (And.intro (c75) ?_)
    repeat' first
      | apply And.intro
      | exact (fun h => Bool.noConfusion h)
      | (refine chkI ?_; kernel_rfl)
      | (refine chkBI ?_; kernel_rfl)
      | exact (fun _ => True.intro)
      | exact True.intro
      | exact (fun h => h)
      | exact rfl
      | decide
      | exact (fun _ => by decide)
      | exact (show (_ : Int) ≠ _ by decide)
      | fail
    refine Exists.intro _ (And.intro (hnext) ?_)
    repeat' first
      | apply And.intro
      | exact (fun h => Bool.noConfusion h)
      | (refine chkI ?_; kernel_rfl)
      | (refine chkBI ?_; kernel_rfl)
      | exact (fun _ => True.intro)
      | exact True.intro
      | exact (fun h => h)
      | exact rfl
      | decide
      | exact (fun _ => by decide)
      | exact (show (_ : Int) ≠ _ by decide)
      | fail
    refine Exists.intro _ (And.intro (fun _ => hcmp) ?_)
    repeat' first
      | apply And.intro
      | exact (fun h => Bool.noConfusion h)
      | (refine chkI ?_; kernel_rfl)
      | (refine chkBI ?_; kernel_rfl)
      | exact (fun _ => True.intro)
      | exact True.intro
      | exact (fun h => h)
      | exact rfl
      | decide
      | exact (fun _ => by decide)
      | exact (show (_ : Int) ≠ _ by decide)
      | fail
    cases hb : (!b || decide (cmpQ ((lo.floor : Rat) + 1) hi < 0)) with
    | true =>
      rw [if_pos rfl]
      repeat' first
        | apply And.intro
        | exact (fun h => Bool.noConfusion h)
        | (refine chkI ?_; kernel_rfl)
        | (refine chkBI ?_; kernel_rfl)
        | exact (fun _ => True.intro)
        | exact True.intro
        | exact (fun h => h)
        | exact rfl
        | decide
        | exact (fun _ => by decide)
        | exact (show (_ : Int) ≠ _ by decide)
        | fail
    | false =>
      obtain ⟨g1, g2, g3, g4, g5, g6, g7⟩ := h5 hb
      rw [if_neg (by simp)]
      have ih := ih g4
      have hsub1 := q74 h2 h3
      have hdiv1 := q33 sm_one g2 g1
      have hsub2 := q74 h1 h3
      have hdiv3 := q33 sm_one g6 g5
      have hadd := q76 h3 g7
      generalize simplest k (1 / (hi - lo.floor)) (1 / (lo - lo.floor)) (decide (lo - lo.floor ≠ 0)) = r at *
      by_cases h0 : lo - lo.floor = 0
      · have hdiv2 := q33z sm_one g3 h0
        rw [h0] at ih
        rw [show (1 : Rat) / 0 = 0 by rw [Rat.div_def, Rat.inv_zero, Rat.mul_zero]] at ih
        repeat' first
          | apply And.intro
          | exact (fun h => Bool.noConfusion h)
          | (refine chkI ?_; kernel_rfl)
          | (refine chkBI ?_; kernel_rfl)
          | exact (fun _ => True.intro)
          | exact True.intro
          | exact (fun h => h)
          | exact rfl
          | decide
          | exact (fun _ => by decide)
          | exact (show (_ : Int) ≠ _ by decide)
          | fail
        refine Exists.intro _ (And.intro (c75) ?_)
        repeat' first
          | apply And.intro
          | exact (fun h => Bool.noConfusion h)
          | (refine chkI ?_; kernel_rfl)
          | (refine chkBI ?_; kernel_rfl)
          | exact (fun _ => True.intro)
          | exact True.intro
          | exact (fun h => h)
          | exact rfl
          | decide
          | exact (fun _ => by decide)
          | exact (show (_ : Int) ≠ _ by decide)
          | fail
        refine Exists.intro _ (And.intro (hsub1) ?_)
        repeat' first
          | apply And.intro
          | exact (fun h => Bool.noConfusion h)
          | (refine chkI ?_; kernel_rfl)
          | (refine chkBI ?_; kernel_rfl)
          | exact (fun _ => True.intro)
          | exact True.intro
          | exact (fun h => h)
          | exact rfl
          | decide
          | exact (fun _ => by decide)
          | exact (show (_ : Int) ≠ _ by decide)
          | fail
        refine Exists.intro _ (And.intro (hdiv1) ?_)
        repeat' first
          | apply And.intro
          | exact (fun h => Bool.noConfusion h)
          | (refine chkI ?_; kernel_rfl)
          | (refine chkBI ?_; kernel_rfl)
          | exact (fun _ => True.intro)
          | exact True.intro
          | exact (fun h => h)
          | exact rfl
          | decide
          | exact (fun _ => by decide)
          | exact (show (_ : Int) ≠ _ by decide)
          | fail
        refine Exists.intro _ (And.intro (c75) ?_)
        repeat' first
          | apply And.intro
          | exact (fun h => Bool.noConfusion h)
          | (refine chkI ?_; kernel_rfl)
          | (refine chkBI ?_; kernel_rfl)
          | exact (fun _ => True.intro)
          | exact True.intro
          | exact (fun h => h)
          | exact rfl
          | decide
          | exact (fun _ => by decide)
          | exact (show (_ : Int) ≠ _ by decide)
          | fail
        refine Exists.intro _ (And.intro (hsub2) ?_)
        repeat' first
          | apply And.intro
          | exact (fun h => Bool.noConfusion h)
          | (refine chkI ?_; kernel_rfl)
          | (refine chkBI ?_; kernel_rfl)
          | exact (fun _ => True.intro)
          | exact True.intro
          | exact (fun h => h)
          | exact rfl
          | decide
          | exact (fun _ => by decide)
          | exact (show (_ : Int) ≠ _ by decide)
          | fail
        refine Exists.intro _ (And.intro (hdiv2) ?_)
        repeat' first
          | apply And.intro
          | exact (fun h => Bool.noConfusion h)
          | (refine chkI ?_; kernel_rfl)
          | (refine chkBI ?_; kernel_rfl)
          | exact (fun _ => True.intro)
          | exact True.intro
          | exact (fun h => h)
          | exact rfl
          | decide
          | exact (fun _ => by decide)
          | exact (show (_ : Int) ≠ _ by decide)
          | fail
        refine Exists.intro _ (And.intro (c75) ?_)
        repeat' first
          | apply And.intro
          | exact (fun h => Bool.noConfusion h)
          | (refine chkI ?_; kernel_rfl)
          | (refine chkBI ?_; kernel_rfl)
          | exact (fun _ => True.intro)
          | exact True.intro
          | exact (fun h => h)
          | exact rfl
          | decide
          | exact (fun _ => by decide)
          | exact (show (_ : Int) ≠ _ by decide)
          | fail
        refine Exists.intro _ (And.intro (pc (ih) ?_) ?_)
        · simp
        repeat' first
          | apply And.intro
          | exact (fun h => Bool.noConfusion h)
          | (refine chkI ?_; kernel_rfl)
          | (refine chkBI ?_; kernel_rfl)
          | exact (fun _ => True.intro)
          | exact True.intro
          | exact (fun h => h)
          | exact rfl
          | decide
          | exact (fun _ => by decide)
          | exact (show (_ : Int) ≠ _ by decide)
          | fail
        refine Exists.intro _ (And.intro (hdiv3) ?_)
        repeat' first
          | apply And.intro
          | exact (fun h => Bool.noConfusion h)
          | (refine chkI ?_; kernel_rfl)
          | (refine chkBI ?_; kernel_rfl)
          | exact (fun _ => True.intro)
          | exact True.intro
          | exact (fun h => h)
          | exact rfl
          | decide
          | exact (fun _ => by decide)
          | exact (show (_ : Int) ≠ _ by decide)
          | fail
        refine Exists.intro _ (And.intro (hadd) ?_)
        repeat' first
          | apply And.intro
          | exact (fun h => Bool.noConfusion h)
          | (refine chkI ?_; kernel_rfl)
          | (refine chkBI ?_; kernel_rfl)
          | exact (fun _ => True.intro)
          | exact True.intro
          | exact (fun h => h)
          | exact rfl
          | decide
          | exact (fun _ => by decide)
          | exact (show (_ : Int) ≠ _ by decide)
          | fail
      · have hdiv2 := q33 sm_one g3 h0
        repeat' first
          | apply And.intro
          | exact (fun h => Bool.noConfusion h)
          | (refine chkI ?_; kernel_rfl)
          | (refine chkBI ?_; kernel_rfl)
          | exact (fun _ => True.intro)
          | exact True.intro
          | exact (fun h => h)
          | exact rfl
          | decide
          | exact (fun _ => by decide)
          | exact (show (_ : Int) ≠ _ by decide)
          | fail
        refine Exists.intro _ (And.intro (c75) ?_)
        repeat' first
          | apply And.intro
          | exact (fun h => Bool.noConfusion h)
          | (refine chkI ?_; kernel_rfl)
          | (refine chkBI ?_; kernel_rfl)
          | exact (fun _ => True.intro)
          | exact True.intro
          | exact (fun h => h)
          | exact rfl
          | decide
          | exact (fun _ => by decide)
          | exact (show (_ : Int) ≠ _ by decide)
          | fail
        refine Exists.intro _ (And.intro (hsub1) ?_)
        repeat' first
          | apply And.intro
          | exact (fun h => Bool.noConfusion h)
          | (refine chkI ?_; kernel_rfl)
          | (refine chkBI ?_; kernel_rfl)
          | exact (fun _ => True.intro)
          | exact True.intro
          | exact (fun h => h)
          | exact rfl
          | decide
          | exact (fun _ => by decide)
          | exact (show (_ : Int) ≠ _ by decide)
          | fail
        refine Exists.intro _ (And.intro (hdiv1) ?_)
        repeat' first
          | apply And.intro
          | exact (fun h => Bool.noConfusion h)
          | (refine chkI ?_; kernel_rfl)
          | (refine chkBI ?_; kernel_rfl)
          | exact (fun _ => True.intro)
          | exact True.intro
          | exact (fun h => h)
          | exact rfl
          | decide
          | exact (fun _ => by decide)
          | exact (show (_ : Int) ≠ _ by decide)
          | fail
        refine Exists.intro _ (And.intro (c75) ?_)
        repeat' first
          | apply And.intro
          | exact (fun h => Bool.noConfusion h)
          | (refine chkI ?_; kernel_rfl)
          | (refine chkBI ?_; kernel_rfl)
          | exact (fun _ => True.intro)
          | exact True.intro
          | exact (fun h => h)
          | exact rfl
          | decide
          | exact (fun _ => by decide)
          | exact (show (_ : Int) ≠ _ by decide)
          | fail
        refine Exists.intro _ (And.intro (hsub2) ?_)
        repeat' first
          | apply And.intro
          | exact (fun h => Bool.noConfusion h)
          | (refine chkI ?_; kernel_rfl)
          | (refine chkBI ?_; kernel_rfl)
          | exact (fun _ => True.intro)
          | exact True.intro
          | exact (fun h => h)
          | exact rfl
          | decide
          | exact (fun _ => by decide)
          | exact (show (_ : Int) ≠ _ by decide)
          | fail
        refine Exists.intro _ (And.intro (hdiv2) ?_)
        repeat' first
          | apply And.intro
          | exact (fun h => Bool.noConfusion h)
          | (refine chkI ?_; kernel_rfl)
          | (refine chkBI ?_; kernel_rfl)
          | exact (fun _ => True.intro)
          | exact True.intro
          | exact (fun h => h)
          | exact rfl
          | decide
          | exact (fun _ => by decide)
          | exact (show (_ : Int) ≠ _ by decide)
          | fail
        refine Exists.intro _ (And.intro (c75) ?_)
        repeat' first
          | apply And.intro
          | exact (fun h => Bool.noConfusion h)
          | (refine chkI ?_; kernel_rfl)
          | (refine chkBI ?_; kernel_rfl)
          | exact (fun _ => True.intro)
          | exact True.intro
          | exact (fun h => h)
          | exact rfl
          | decide
          | exact (fun _ => by decide)
          | exact (show (_ : Int) ≠ _ by decide)
          | fail
        refine Exists.intro _ (And.intro (pc (ih) ?_) ?_)
        · simp [h0]
        repeat' first
          | apply And.intro
          | exact (fun h => Bool.noConfusion h)
          | (refine chkI ?_; kernel_rfl)
          | (refine chkBI ?_; kernel_rfl)
          | exact (fun _ => True.intro)
          | exact True.intro
          | exact (fun h => h)
          | exact rfl
          | decide
          | exact (fun _ => by decide)
          | exact (show (_ : Int) ≠ _ by decide)
          | fail
        refine Exists.intro _ (And.intro (hdiv3) ?_)
        repeat' first
          | apply And.intro
          | exact (fun h => Bool.noConfusion h)
          | (refine chkI ?_; kernel_rfl)
          | (refine chkBI ?_; kernel_rfl)
          | exact (fun _ => True.intro)
          | exact True.intro
          | exact (fun h => h)
          | exact rfl
          | decide
          | exact (fun _ => by decide)
          | exact (show (_ : Int) ≠ _ by decide)
          | fail
        refine Exists.intro _ (And.intro (hadd) ?_)
        repeat' first
          | apply And.intro
          | exact (fun h => Bool.noConfusion h)
          | (refine chkI ?_; kernel_rfl)
          | (refine chkBI ?_; kernel_rfl)
          | exact (fun _ => True.intro)
          | exact True.intro
          | exact (fun h => h)
          | exact rfl
          | decide
          | exact (fun _ => by decide)
          | exact (show (_ : Int) ≠ _ by decide)
          | fail

/-- The simplest fraction strictly between two, of any sign. -/
def betweenQ (k : Nat) (lo hi : Rat) : Rat := if decide (lo.num.sign < 0) && decide (hi.num.sign > 0) then 0 else if decide (hi.num.sign ≤ 0) then -simplest k (-hi) (-lo) true else simplest k lo hi true

/-- movetree.between -/
theorem c78 (k : Nat) {lo hi : Rat} (h1 : Sm lo) (h2 : Sm hi) (hneg : (decide (lo.num.sign < 0) && decide (hi.num.sign > 0)) = false → hi.num.sign ≤ 0 → Fit k (-hi) (-lo) true ∧ Sm (simplest k (-hi) (-lo) true))
    (hpos : (decide (lo.num.sign < 0) && decide (hi.num.sign > 0)) = false → ¬ hi.num.sign ≤ 0 → Fit k lo hi true) : PureC Tryz.prog 78 [rat lo, rat hi] (rat (betweenQ k lo hi)) := by
  have g1 := q35 h1
  have g2 := q35 h2
  unfold betweenQ
  refine pureC_of_vc s78 rfl (Nat.le_of_ble_eq_true rfl) rfl ?_
  refine vc_at s78 [] 100 ?_
  repeat' first
    | apply And.intro
    | exact (fun h => Bool.noConfusion h)
    | (refine chkI ?_; kernel_rfl)
    | (refine chkBI ?_; kernel_rfl)
    | exact (fun _ => True.intro)
    | exact True.intro
    | exact (fun h => h)
    | exact rfl
    | decide
    | exact (fun _ => by decide)
    | exact (show (_ : Int) ≠ _ by decide)
    | fail
  refine Exists.intro _ (And.intro (g1) ?_)
  repeat' first
    | apply And.intro
    | exact (fun h => Bool.noConfusion h)
    | (refine chkI ?_; kernel_rfl)
    | (refine chkBI ?_; kernel_rfl)
    | exact (fun _ => True.intro)
    | exact True.intro
    | exact (fun h => h)
    | exact rfl
    | decide
    | exact (fun _ => by decide)
    | exact (show (_ : Int) ≠ _ by decide)
    | fail
  refine Exists.intro _ (And.intro (fun _ => g2) ?_)
  repeat' first
    | apply And.intro
    | exact (fun h => Bool.noConfusion h)
    | (refine chkI ?_; kernel_rfl)
    | (refine chkBI ?_; kernel_rfl)
    | exact (fun _ => True.intro)
    | exact True.intro
    | exact (fun h => h)
    | exact rfl
    | decide
    | exact (fun _ => by decide)
    | exact (show (_ : Int) ≠ _ by decide)
    | fail
  cases hb : (decide (lo.num.sign < 0) && decide (hi.num.sign > 0)) with
  | true =>
    rw [if_pos rfl]
    repeat' first
      | apply And.intro
      | exact (fun h => Bool.noConfusion h)
      | (refine chkI ?_; kernel_rfl)
      | (refine chkBI ?_; kernel_rfl)
      | exact (fun _ => True.intro)
      | exact True.intro
      | exact (fun h => h)
      | exact rfl
      | decide
      | exact (fun _ => by decide)
      | exact (show (_ : Int) ≠ _ by decide)
      | fail
  | false =>
    rw [if_neg (by simp)]
    repeat' first
      | apply And.intro
      | exact (fun h => Bool.noConfusion h)
      | (refine chkI ?_; kernel_rfl)
      | (refine chkBI ?_; kernel_rfl)
      | exact (fun _ => True.intro)
      | exact True.intro
      | exact (fun h => h)
      | exact rfl
      | decide
      | exact (fun _ => by decide)
      | exact (show (_ : Int) ≠ _ by decide)
      | fail
    refine Exists.intro _ (And.intro (g2) ?_)
    repeat' first
      | apply And.intro
      | exact (fun h => Bool.noConfusion h)
      | (refine chkI ?_; kernel_rfl)
      | (refine chkBI ?_; kernel_rfl)
      | exact (fun _ => True.intro)
      | exact True.intro
      | exact (fun h => h)
      | exact rfl
      | decide
      | exact (fun _ => by decide)
      | exact (show (_ : Int) ≠ _ by decide)
      | fail
    by_cases hs : hi.num.sign ≤ 0
    · obtain ⟨f1, f2⟩ := hneg hb hs
      rw [show decide (hi.num.sign ≤ 0) = true by simpa using hs, if_pos rfl]
      repeat' first
        | apply And.intro
        | exact (fun h => Bool.noConfusion h)
        | (refine chkI ?_; kernel_rfl)
        | (refine chkBI ?_; kernel_rfl)
        | exact (fun _ => True.intro)
        | exact True.intro
        | exact (fun h => h)
        | exact rfl
        | decide
        | exact (fun _ => by decide)
        | exact (show (_ : Int) ≠ _ by decide)
        | fail
      refine Exists.intro _ (And.intro (q36 h2) ?_)
      repeat' first
        | apply And.intro
        | exact (fun h => Bool.noConfusion h)
        | (refine chkI ?_; kernel_rfl)
        | (refine chkBI ?_; kernel_rfl)
        | exact (fun _ => True.intro)
        | exact True.intro
        | exact (fun h => h)
        | exact rfl
        | decide
        | exact (fun _ => by decide)
        | exact (show (_ : Int) ≠ _ by decide)
        | fail
      refine Exists.intro _ (And.intro (q36 h1) ?_)
      repeat' first
        | apply And.intro
        | exact (fun h => Bool.noConfusion h)
        | (refine chkI ?_; kernel_rfl)
        | (refine chkBI ?_; kernel_rfl)
        | exact (fun _ => True.intro)
        | exact True.intro
        | exact (fun h => h)
        | exact rfl
        | decide
        | exact (fun _ => by decide)
        | exact (show (_ : Int) ≠ _ by decide)
        | fail
      refine Exists.intro _ (And.intro (c139 k _ _ _ f1) ?_)
      repeat' first
        | apply And.intro
        | exact (fun h => Bool.noConfusion h)
        | (refine chkI ?_; kernel_rfl)
        | (refine chkBI ?_; kernel_rfl)
        | exact (fun _ => True.intro)
        | exact True.intro
        | exact (fun h => h)
        | exact rfl
        | decide
        | exact (fun _ => by decide)
        | exact (show (_ : Int) ≠ _ by decide)
        | fail
      refine Exists.intro _ (And.intro (q36 f2) ?_)
      repeat' first
        | apply And.intro
        | exact (fun h => Bool.noConfusion h)
        | (refine chkI ?_; kernel_rfl)
        | (refine chkBI ?_; kernel_rfl)
        | exact (fun _ => True.intro)
        | exact True.intro
        | exact (fun h => h)
        | exact rfl
        | decide
        | exact (fun _ => by decide)
        | exact (show (_ : Int) ≠ _ by decide)
        | fail
    · rw [show decide (hi.num.sign ≤ 0) = false by simpa using hs, if_neg (by simp)]
      repeat' first
        | apply And.intro
        | exact (fun h => Bool.noConfusion h)
        | (refine chkI ?_; kernel_rfl)
        | (refine chkBI ?_; kernel_rfl)
        | exact (fun _ => True.intro)
        | exact True.intro
        | exact (fun h => h)
        | exact rfl
        | decide
        | exact (fun _ => by decide)
        | exact (show (_ : Int) ≠ _ by decide)
        | fail
      refine Exists.intro _ (And.intro (c139 k _ _ _ (hpos hb hs)) ?_)
      repeat' first
        | apply And.intro
        | exact (fun h => Bool.noConfusion h)
        | (refine chkI ?_; kernel_rfl)
        | (refine chkBI ?_; kernel_rfl)
        | exact (fun _ => True.intro)
        | exact True.intro
        | exact (fun h => h)
        | exact rfl
        | decide
        | exact (fun _ => by decide)
        | exact (show (_ : Int) ≠ _ by decide)
        | fail

end Vm
end Go.Proofs.YtdbpcmpkpbamhaaGreatDoor
