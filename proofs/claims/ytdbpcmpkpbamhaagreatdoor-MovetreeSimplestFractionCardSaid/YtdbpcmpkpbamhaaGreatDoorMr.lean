/- Walks: the order key, and the law's example. -/
import Derived.Test.YtdbpcmpkpbamhaaGreatDoorMq
namespace Go.Proofs.YtdbpcmpkpbamhaaGreatDoor
set_option linter.unusedVariables false
set_option linter.unusedSimpArgs false
set_option linter.unusedSectionVars false
set_option maxRecDepth 100000
namespace Vm
open Go

abbrev Node.plc (z : Node) : AV := ratS z.neg z.num z.den
theorem s28 : Setting Tryz.prog tys (fi 28 Tryz.f28) := setting (by kernel_rfl) (by kernel_rfl)
theorem s32 : Setting Tryz.prog tys (fi 32 Tryz.f32) := setting (by kernel_rfl) (by kernel_rfl)
theorem s20 : Setting Tryz.prog tys (fi 20 Tryz.f20) := setting (by kernel_rfl) (by kernel_rfl)

/-- movetree.OrderKey, between two siblings -/
theorem c28 (nl : Option Bool) (cp : Option Nat) (p : Id) (L : List Node) (hL : L.length < 2 ^ 39) (hs : ∀ x ∈ L, x.short) (h20 : (L.filter (fun x => x.par == p)).length < 20) (i : Nat) (a b : Node) (qa qb : Rat) (k : Nat)
    (ha : (sibs p L)[i]? = some a) (hb : (sibs p L)[i + 1]? = some b) (ea : a.plc = rat qa) (eb : b.plc = rat qb) (sa : Sm qa) (sb : Sm qb)
    (hbt : cmpQ qa qb ≠ 0 → PureC Tryz.prog 78 [rat qa, rat qb] (rat (betweenQ k qa qb))) :
    PureC Tryz.prog 28 [.sl nl cp 8 (L.map nodeA), idA p, i64 ((i : Int) + 1)] (rat (if cmpQ qa qb = 0 then qa else betweenQ k qa qb)) := by
  have hc := q30 sa sb
  have h77 := q77 sa
  rw [← ea, ← eb] at hc hbt
  rw [← ea] at h77
  have h67 := c67 nl cp p L hL hs h20
  have hlen : i + 1 < (sibs p L).length := (List.getElem?_eq_some_iff.1 hb).1
  have hlen2 : (sibs p L).length < 20 := by
    have := isort_len sibCmp 0 (L.filter (fun x => x.par == p)).length (L.filter (fun x => x.par == p))
    unfold sibs
    dsimp only
    omega
  generalize sibs p L = S at *
  cases S with
  | nil => simp at hb
  | cons z zs =>
    dsimp only [outA, List.map_cons] at h67
    have el : (nodeA z :: zs.map nodeA).length = (z :: zs).length := by simp
    refine pureC_of_vc s28 rfl (Nat.le_of_ble_eq_true rfl) rfl ?_
    refine vc_at s28 [] 100 ?_
    repeat' first
      | apply And.intro
      | exact (fun h => Bool.noConfusion h)
      | (refine chkI ?_; kernel_rfl)
      | (refine chkBI ?_; kernel_rfl)
      | exact (fun _ => True.intro)
      | exact True.intro
      | exact (fun h => h)
      | exact rfl
      | decide
      | exact (fun _ => by decide)
      | exact (show (_ : Int) ≠ _ by decide)
      | fail
    refine Exists.intro _ (And.intro (h67) ?_)
    repeat' first
      | apply And.intro
      | exact (fun h => Bool.noConfusion h)
      | (refine chkI ?_; kernel_rfl)
      | (refine chkBI ?_; kernel_rfl)
      | exact (fun _ => True.intro)
      | exact True.intro
      | exact (fun h => h)
      | exact rfl
      | decide
      | exact (fun _ => by decide)
      | exact (show (_ : Int) ≠ _ by decide)
      | fail
    rw [show decide ((i : Int) + 1 ≥ ((nodeA z :: zs.map nodeA).length : Nat)) = false by rw [el]; exact decide_eq_false (by omega)]
    have hia : ((nodeA z :: zs.map nodeA))[((i : Int) + 1 - 1).toNat]? = some (nodeA a) := by
      rw [show ((i : Int) + 1 - 1).toNat = i by omega, ← List.map_cons, List.getElem?_map, ha]; rfl
    have hib : ((nodeA z :: zs.map nodeA))[((i : Int) + 1).toNat]? = some (nodeA b) := by
      rw [show ((i : Int) + 1).toNat = i + 1 by omega, ← List.map_cons, List.getElem?_map, hb]; rfl
    repeat' first
      | apply And.intro
      | exact (fun h => Bool.noConfusion h)
      | (refine chkI ?_; kernel_rfl)
      | (refine chkBI ?_; kernel_rfl)
      | exact (fun _ => True.intro)
      | exact True.intro
      | exact (fun h => h)
      | exact rfl
      | decide
      | exact (fun _ => by decide)
      | exact (show (_ : Int) ≠ _ by decide)
      | fail
    all_goals first
      | omega
      | (simp only [imp, i64ok, sz, List.length_map, List.length_cons, List.length_nil] <;> omega)
      | (dsimp only [List.length_cons, List.length_nil]; omega)
      | skip
    apply Exists.intro (nodeA a)
    apply And.intro
    · exact ⟨by omega, hia, rfl⟩
    repeat' first
      | apply And.intro
      | exact (fun h => Bool.noConfusion h)
      | (refine chkI ?_; kernel_rfl)
      | (refine chkBI ?_; kernel_rfl)
      | exact (fun _ => True.intro)
      | exact True.intro
      | exact (fun h => h)
      | exact rfl
      | decide
      | exact (fun _ => by decide)
      | exact (show (_ : Int) ≠ _ by decide)
      | fail
    all_goals first
      | omega
      | (simp only [imp, i64ok, sz, List.length_map, List.length_cons, List.length_nil] <;> omega)
      | (dsimp only [List.length_cons, List.length_nil]; omega)
      | skip
    apply Exists.intro (nodeA b)
    apply And.intro
    · exact ⟨by omega, hib, rfl⟩
    repeat' first
      | apply And.intro
      | exact (fun h => Bool.noConfusion h)
      | (refine chkI ?_; kernel_rfl)
      | (refine chkBI ?_; kernel_rfl)
      | exact (fun _ => True.intro)
      | exact True.intro
      | exact (fun h => h)
      | exact rfl
      | decide
      | exact (fun _ => by decide)
      | exact (show (_ : Int) ≠ _ by decide)
      | fail
    refine Exists.intro _ (And.intro (hc) ?_)
    repeat' first
      | apply And.intro
      | exact (fun h => Bool.noConfusion h)
      | (refine chkI ?_; kernel_rfl)
      | (refine chkBI ?_; kernel_rfl)
      | exact (fun _ => True.intro)
      | exact True.intro
      | exact (fun h => h)
      | exact rfl
      | decide
      | exact (fun _ => by decide)
      | exact (show (_ : Int) ≠ _ by decide)
      | fail
    by_cases h0 : cmpQ qa qb = 0
    · rw [show (cmpQ qa qb == 0) = true by simpa using h0, if_pos h0, ← ea]
      repeat' first
        | apply And.intro
        | exact (fun h => Bool.noConfusion h)
        | (refine chkI ?_; kernel_rfl)
        | (refine chkBI ?_; kernel_rfl)
        | exact (fun _ => True.intro)
        | exact True.intro
        | exact (fun h => h)
        | exact rfl
        | decide
        | exact (fun _ => by decide)
        | exact (show (_ : Int) ≠ _ by decide)
        | fail
      refine Exists.intro _ (And.intro (h77) ?_)
      repeat' first
        | apply And.intro
        | exact (fun h => Bool.noConfusion h)
        | (refine chkI ?_; kernel_rfl)
        | (refine chkBI ?_; kernel_rfl)
        | exact (fun _ => True.intro)
        | exact True.intro
        | exact (fun h => h)
        | exact rfl
        | decide
        | exact (fun _ => by decide)
        | exact (show (_ : Int) ≠ _ by decide)
        | fail
    · rw [show (cmpQ qa qb == 0) = false by simpa using h0, if_neg h0]
      repeat' first
        | apply And.intro
        | exact (fun h => Bool.noConfusion h)
        | (refine chkI ?_; kernel_rfl)
        | (refine chkBI ?_; kernel_rfl)
        | exact (fun _ => True.intro)
        | exact True.intro
        | exact (fun h => h)
        | exact rfl
        | decide
        | exact (fun _ => by decide)
        | exact (show (_ : Int) ≠ _ by decide)
        | fail
      refine Exists.intro _ (And.intro (hbt h0) ?_)
      repeat' first
        | apply And.intro
        | exact (fun h => Bool.noConfusion h)
        | (refine chkI ?_; kernel_rfl)
        | (refine chkBI ?_; kernel_rfl)
        | exact (fun _ => True.intro)
        | exact True.intro
        | exact (fun h => h)
        | exact rfl
        | decide
        | exact (fun _ => by decide)
        | exact (show (_ : Int) ≠ _ by decide)
        | fail

/-- voussoirlaw41.id -/
theorem c32 (n : Int) : PureC Tryz.prog 32 [i64 n] (idA ⟨[97], n⟩) := by
  refine pureC_of_vc s32 rfl (Nat.le_of_ble_eq_true rfl) rfl ?_
  refine vc_at s32 [] 100 ?_
  repeat' first
    | apply And.intro
    | exact (fun h => Bool.noConfusion h)
    | (refine chkI ?_; kernel_rfl)
    | (refine chkBI ?_; kernel_rfl)
    | exact (fun _ => True.intro)
    | exact True.intro
    | exact (fun h => h)
    | exact rfl
    | decide
    | exact (fun _ => by decide)
    | exact (show (_ : Int) ≠ _ by decide)
    | fail

theorem loop20 (n1 n2 : Option Bool) (k1 k2 : Option Nat) (q1 q2 : Nat) (a b : List Id) (hl : a.length = b.length) (ha : a.length < 2 ^ 39) (hq : a ≠ [] → q1 = 2 ∧ q2 = 2) {Q : AV → List Blk → Prop} : ∀ (k i : Nat), k = a.length - i → i ≤ a.length → a.take i = b.take i →
    (∀ r, r = decide (a = b) → Q (.val (.bool r)) []) →
    VC Tryz.prog (fi 20 Tryz.f20) [0, 0, 1, 0, 1, 1] ⟨[(0, .sl n1 k1 q1 (a.map idA)), (1, .sl n2 k2 q2 (b.map idA)), (12, i64 a.length), (13, i64 i)], []⟩ Q
  | 0, i, hk, hi, he, hQ => by
    have hii : i = a.length := by omega
    subst hii
    rw [List.take_length, hl, List.take_length] at he
    refine vc_at s20 [[0, 0, 1, 0, 1, 1]] 100 ?_
    repeat' first
      | apply And.intro
      | exact (fun h => Bool.noConfusion h)
      | (refine chkI ?_; kernel_rfl)
      | (refine chkBI ?_; kernel_rfl)
      | exact (fun _ => True.intro)
      | exact True.intro
      | exact (fun h => h)
      | exact rfl
      | decide
      | exact (fun _ => by decide)
      | exact (show (_ : Int) ≠ _ by decide)
      | fail
    rw [show decide ((a.length : Int) < a.length) = false by simp]
    repeat' first
      | apply And.intro
      | exact (fun h => Bool.noConfusion h)
      | (refine chkI ?_; kernel_rfl)
      | (refine chkBI ?_; kernel_rfl)
      | exact (fun _ => True.intro)
      | exact True.intro
      | exact (fun h => h)
      | exact rfl
      | decide
      | exact (fun _ => by decide)
      | exact (show (_ : Int) ≠ _ by decide)
      | fail
    exact hQ true (by simp [he])
  | k + 1, i, hk, hi, he, hQ => by
    have hlt : i < a.length := by omega
    obtain ⟨hq1, hq2⟩ := hq (by intro h; rw [h] at hlt; simp at hlt)
    subst hq1; subst hq2
    obtain ⟨x, hx⟩ : ∃ x, a[i]? = some x := ⟨a[i], List.getElem?_eq_getElem hlt⟩
    obtain ⟨y, hy⟩ : ∃ y, b[i]? = some y := ⟨b[i], List.getElem?_eq_getElem (by omega)⟩
    have hb := id_beq x y
    refine vc_at s20 [[0, 0, 1, 0, 1, 1]] 100 ?_
    repeat' first
      | apply And.intro
      | exact (fun h => Bool.noConfusion h)
      | (refine chkI ?_; kernel_rfl)
      | (refine chkBI ?_; kernel_rfl)
      | exact (fun _ => True.intro)
      | exact True.intro
      | exact (fun h => h)
      | exact rfl
      | decide
      | exact (fun _ => by decide)
      | exact (show (_ : Int) ≠ _ by decide)
      | fail
    rw [show decide ((i : Int) < a.length) = true by simp; omega]
    repeat' first
      | apply And.intro
      | exact (fun h => Bool.noConfusion h)
      | (refine chkI ?_; kernel_rfl)
      | (refine chkBI ?_; kernel_rfl)
      | exact (fun _ => True.intro)
      | exact True.intro
      | exact (fun h => h)
      | exact rfl
      | decide
      | exact (fun _ => by decide)
      | exact (show (_ : Int) ≠ _ by decide)
      | fail
    apply Exists.intro (idA x)
    apply And.intro
    · exact ⟨by omega, by rw [show ((i : Nat) : Int).toNat = i by omega, List.getElem?_map, hx]; rfl, rfl⟩
    repeat' first
      | apply And.intro
      | exact (fun h => Bool.noConfusion h)
      | (refine chkI ?_; kernel_rfl)
      | (refine chkBI ?_; kernel_rfl)
      | exact (fun _ => True.intro)
      | exact True.intro
      | exact (fun h => h)
      | exact rfl
      | decide
      | exact (fun _ => by decide)
      | exact (show (_ : Int) ≠ _ by decide)
      | fail
    apply Exists.intro (idA y)
    apply And.intro
    · exact ⟨by omega, by rw [show ((i : Nat) : Int).toNat = i by omega, List.getElem?_map, hy]; rfl, rfl⟩
    repeat' first
      | apply And.intro
      | exact (fun h => Bool.noConfusion h)
      | (refine chkI ?_; kernel_rfl)
      | (refine chkBI ?_; kernel_rfl)
      | exact (fun _ => True.intro)
      | exact True.intro
      | exact (fun h => h)
      | exact rfl
      | decide
      | exact (fun _ => by decide)
      | exact (show (_ : Int) ≠ _ by decide)
      | fail
    rw [hb]
    cases hxy : (x == y) with
    | false =>
      repeat' first
        | apply And.intro
        | exact (fun h => Bool.noConfusion h)
        | (refine chkI ?_; kernel_rfl)
        | (refine chkBI ?_; kernel_rfl)
        | exact (fun _ => True.intro)
        | exact True.intro
        | exact (fun h => h)
        | exact rfl
        | decide
        | exact (fun _ => by decide)
        | exact (show (_ : Int) ≠ _ by decide)
        | fail
      refine hQ false (decide_eq_false fun h => ?_).symm
      rw [h, hy] at hx
      cases hx
      simp at hxy
    | true =>
      repeat' first
        | apply And.intro
        | exact (fun h => Bool.noConfusion h)
        | (refine chkI ?_; kernel_rfl)
        | (refine chkBI ?_; kernel_rfl)
        | exact (fun _ => True.intro)
        | exact True.intro
        | exact (fun h => h)
        | exact rfl
        | decide
        | exact (fun _ => by decide)
        | exact (show (_ : Int) ≠ _ by decide)
        | fail
      all_goals first
        | omega
        | (simp only [imp, i64ok, sz, List.length_map, List.length_cons, List.length_nil] <;> omega)
        | (dsimp only [List.length_cons, List.length_nil]; omega)
        | skip
      refine VC.forget 0 [0, 1, 12, 13] (Nat.zero_le _) ?_
      refine loop20 n1 n2 k1 k2 2 2 a b hl ha hq k (i + 1) (by omega) (by omega) ?_ hQ
      rw [List.take_add_one, List.take_add_one, he, hx, hy, (by simpa using hxy : x = y)]

/-- voussoirref41.SameIds -/
theorem c20 (n1 n2 : Option Bool) (k1 k2 : Option Nat) (q1 q2 : Nat) (a b : List Id) (ha : a.length < 2 ^ 39) (hq : a ≠ [] → q1 = 2 ∧ (b ≠ [] → q2 = 2)) :
    PureC Tryz.prog 20 [.sl n1 k1 q1 (a.map idA), .sl n2 k2 q2 (b.map idA)] (.val (.bool (decide (a = b)))) := by
  have e1 : (a.map idA).length = a.length := by simp
  have e2 : (b.map idA).length = b.length := by simp
  refine pureC_of_vc s20 rfl (Nat.le_of_ble_eq_true rfl) rfl ?_
  refine vc_at s20 [[0, 0, 1, 0, 1, 1]] 100 ?_
  repeat' first
    | apply And.intro
    | exact (fun h => Bool.noConfusion h)
    | (refine chkI ?_; kernel_rfl)
    | (refine chkBI ?_; kernel_rfl)
    | exact (fun _ => True.intro)
    | exact True.intro
    | exact (fun h => h)
    | exact rfl
    | decide
    | exact (fun _ => by decide)
    | exact (show (_ : Int) ≠ _ by decide)
    | fail
  rw [e1, e2]
  by_cases hl : a.length = b.length
  · rw [show ((a.length : Int) != b.length) = false by simp [hl]]
    repeat' first
      | apply And.intro
      | exact (fun h => Bool.noConfusion h)
      | (refine chkI ?_; kernel_rfl)
      | (refine chkBI ?_; kernel_rfl)
      | exact (fun _ => True.intro)
      | exact True.intro
      | exact (fun h => h)
      | exact rfl
      | decide
      | exact (fun _ => by decide)
      | exact (show (_ : Int) ≠ _ by decide)
      | fail
    rw [e1]
    refine VC.forget 0 [0, 1, 12, 13] (Nat.zero_le _) ?_
    refine loop20 n1 n2 k1 k2 q1 q2 a b hl ha (fun h => ⟨(hq h).1, (hq h).2 ?_⟩) a.length 0 rfl (Nat.zero_le _) rfl (fun r hr => by subst hr; rfl)
    intro hb; subst hb; simp at hl; exact h hl
  · rw [show ((a.length : Int) != b.length) = true by simp; omega]
    repeat' first
      | apply And.intro
      | exact (fun h => Bool.noConfusion h)
      | (refine chkI ?_; kernel_rfl)
      | (refine chkBI ?_; kernel_rfl)
      | exact (fun _ => True.intro)
      | exact True.intro
      | exact (fun h => h)
      | exact rfl
      | decide
      | exact (fun _ => by decide)
      | exact (show (_ : Int) ≠ _ by decide)
      | fail
    rw [show decide (a = b) = false from decide_eq_false fun h => hl (by rw [h])]
    rfl

end Vm
end Go.Proofs.YtdbpcmpkpbamhaaGreatDoor

/- Walks: the law's example. -/
namespace Go.Proofs.YtdbpcmpkpbamhaaGreatDoor
set_option linter.unusedVariables false
set_option linter.unusedSimpArgs false
set_option linter.unusedSectionVars false
set_option maxRecDepth 100000
namespace Vm
open Go

abbrev gGroup : List UInt8 := [103, 114, 111, 117, 112]
abbrev gParam : List UInt8 := [112, 97, 114, 97, 109]
abbrev ida (n : Int) : Id := ⟨[97], n⟩
abbrev nid : Id := ⟨[], 0⟩
abbrev exE (one : List UInt8) : List Edit :=
  [⟨ida 1, 1, 0, some true, some 0, 0, [], 1, nid, nid, false, [], [], [], gGroup, nid, []⟩,
   ⟨ida 2, 2, 0, some false, some 1, 2, [ida 1], 1, nid, ida 1, false, one, [], [], gParam, nid, []⟩,
   ⟨ida 3, 3, 0, some false, some 1, 2, [ida 2], 2, ida 1, ida 2, false, [], [], [], [], nid, []⟩,
   ⟨ida 4, 4, 0, some false, some 1, 2, [ida 3], 1, nid, ida 1, false, [], [], [], gParam, nid, []⟩]
abbrev exL : List Node := [⟨ida 1, nid, false, [], [], gGroup⟩, ⟨ida 2, ida 1, false, [1], [], gParam⟩, ⟨ida 4, ida 1, false, [], [], gParam⟩]
theorem ex_nodes : (exE [1]).foldl applyN [] = exL := by decide
theorem ex_sort : sortN exL = exL := by decide
theorem ex_walk : walk exL = [ida 1, ida 4, ida 2] := by decide
theorem ex_short : ∀ x ∈ exL, x.short := by
  intro x hx
  simp only [List.mem_cons, List.not_mem_nil, or_false] at hx
  rcases hx with rfl | rfl | rfl <;> exact ⟨by decide, by decide⟩
theorem ex_few (p : Id) : (exL.filter (fun x => x.par == p)).length < 20 := Nat.lt_of_le_of_lt (List.length_filter_le _ _) (by decide)
theorem ex17 : PureC Tryz.prog 17 [nilA, .sl (some false) (some 4) 18 ((exE [1]).map editA)] (.sl (some false) none 8 (exL.map nodeA)) := by
  have := c17n (some false) (some 4) (exE [1]) (by decide) (by rw [ex_nodes]; decide) (by rw [ex_nodes]; decide)
  rw [ex_nodes, ex_sort] at this
  exact this
theorem ex21 : PureC Tryz.prog 21 [.sl (some false) none 8 (exL.map nodeA)] (.sl (some false) none 2 ([ida 1, ida 4, ida 2].map idA)) := by
  have := c21 (some false) none exL (by decide) ex_short ex_few
  rw [ex_walk] at this
  exact this
instance (q : Rat) : Decidable (Sm q) := decidable_of_iff (q.num.natAbs ≤ 4096 ∧ q.den ≤ 4096) ⟨fun ⟨a, b⟩ => ⟨a, b⟩, fun ⟨a, b⟩ => ⟨a, b⟩⟩
instance decFit : ∀ (k : Nat) (lo hi : Rat) (b : Bool), Decidable (Fit k lo hi b)
  | 0, _, _, _ => .isFalse fun h => h
  | k + 1, lo, hi, b => by
    unfold Fit
    have := decFit k
    infer_instance
theorem ex_fit : Fit 5 0 1 true := by decide +kernel
theorem ex_half : betweenQ 5 0 1 = ((1 : Int) : Rat) / ((2 : Int) : Rat) := by decide +kernel
theorem ex_sibs : sibs (ida 1) exL = [⟨ida 4, ida 1, false, [], [], gParam⟩, ⟨ida 2, ida 1, false, [1], [], gParam⟩] := by decide
theorem ex_cmp : ¬ cmpQ 0 1 = 0 := by decide
theorem ex28 : PureC Tryz.prog 28 [.sl (some false) none 8 (exL.map nodeA), idA (ida 1), i64 1] (rat (((1 : Int) : Rat) / ((2 : Int) : Rat))) := by
  have := c28 (some false) none (ida 1) exL (by decide) ex_short (ex_few _) 0 ⟨ida 4, ida 1, false, [], [], gParam⟩ ⟨ida 2, ida 1, false, [1], [], gParam⟩ 0 1 5 (by rw [ex_sibs]; rfl) (by rw [ex_sibs]; rfl) rfl rfl sm_zero sm_one
    fun _ => c78 5 sm_zero sm_one (fun _ h => absurd h (by decide)) fun _ _ => ex_fit
  rw [if_neg ex_cmp, ex_half] at this
  exact this
theorem ex33 : PureC Tryz.prog 33 [rat ((1 : Int) : Rat), rat ((2 : Int) : Rat)] (.tup [rat (((1 : Int) : Rat) / ((2 : Int) : Rat)), .val (.bool true)]) := q33 ⟨by decide, by decide⟩ ⟨by decide, by decide⟩ (by decide)
/-- What the comparison of two fractions gives. -/
theorem rat_beq (p q : Rat) : (decide (p.num < 0) == decide (q.num < 0) && (bs (enc p.num.natAbs) == bs (enc q.num.natAbs) && (bs (encD p.den) == bs (encD q.den) && true))) = decide (p = q) := by
  rw [bs_eq, bs_eq, Bool.eq_iff_iff]
  simp only [Bool.and_eq_true, beq_iff_eq, decide_eq_true_eq, and_true]
  exact ⟨fun ⟨h1, h2, h3⟩ => rat_inj h1 h2 h3, fun h => by subst h; exact ⟨rfl, rfl, rfl⟩⟩
theorem s16 : Setting Tryz.prog tys (fi 16 Tryz.f16) := setting (by kernel_rfl) (by kernel_rfl)
/-- voussoirlaw41.awake -/
theorem c16 : PureC Tryz.prog 16 [] (.val (.bool true)) := by
  refine pureC_of_vc s16 rfl (Nat.le_of_ble_eq_true rfl) rfl ?_
  refine vc_at s16 [] 100 ?_
  repeat' first
    | apply And.intro
    | exact (fun h => Bool.noConfusion h)
    | (refine chkI ?_; kernel_rfl)
    | (refine chkBI ?_; kernel_rfl)
    | exact (fun _ => True.intro)
    | exact True.intro
    | exact (fun h => h)
    | exact rfl
    | decide
    | exact (fun _ => by decide)
    | exact (show (_ : Int) ≠ _ by decide)
    | fail
  refine Exists.intro _ (And.intro (c32 1) ?_)
  repeat' first
    | apply And.intro
    | exact (fun h => Bool.noConfusion h)
    | (refine chkI ?_; kernel_rfl)
    | (refine chkBI ?_; kernel_rfl)
    | exact (fun _ => True.intro)
    | exact True.intro
    | exact (fun h => h)
    | exact rfl
    | decide
    | exact (fun _ => by decide)
    | exact (show (_ : Int) ≠ _ by decide)
    | fail
  refine Exists.intro _ (And.intro (c32 2) ?_)
  repeat' first
    | apply And.intro
    | exact (fun h => Bool.noConfusion h)
    | (refine chkI ?_; kernel_rfl)
    | (refine chkBI ?_; kernel_rfl)
    | exact (fun _ => True.intro)
    | exact True.intro
    | exact (fun h => h)
    | exact rfl
    | decide
    | exact (fun _ => by decide)
    | exact (show (_ : Int) ≠ _ by decide)
    | fail
  refine Exists.intro _ (And.intro (c32 1) ?_)
  repeat' first
    | apply And.intro
    | exact (fun h => Bool.noConfusion h)
    | (refine chkI ?_; kernel_rfl)
    | (refine chkBI ?_; kernel_rfl)
    | exact (fun _ => True.intro)
    | exact True.intro
    | exact (fun h => h)
    | exact rfl
    | decide
    | exact (fun _ => by decide)
    | exact (show (_ : Int) ≠ _ by decide)
    | fail
  refine Exists.intro _ (And.intro (c32 1) ?_)
  repeat' first
    | apply And.intro
    | exact (fun h => Bool.noConfusion h)
    | (refine chkI ?_; kernel_rfl)
    | (refine chkBI ?_; kernel_rfl)
    | exact (fun _ => True.intro)
    | exact True.intro
    | exact (fun h => h)
    | exact rfl
    | decide
    | exact (fun _ => by decide)
    | exact (show (_ : Int) ≠ _ by decide)
    | fail
  refine Exists.intro _ (And.intro (c34 1 (by decide) (by decide)) ?_)
  repeat' first
    | apply And.intro
    | exact (fun h => Bool.noConfusion h)
    | (refine chkI ?_; kernel_rfl)
    | (refine chkBI ?_; kernel_rfl)
    | exact (fun _ => True.intro)
    | exact True.intro
    | exact (fun h => h)
    | exact rfl
    | decide
    | exact (fun _ => by decide)
    | exact (show (_ : Int) ≠ _ by decide)
    | fail
  refine Exists.intro _ (And.intro (c32 3) ?_)
  repeat' first
    | apply And.intro
    | exact (fun h => Bool.noConfusion h)
    | (refine chkI ?_; kernel_rfl)
    | (refine chkBI ?_; kernel_rfl)
    | exact (fun _ => True.intro)
    | exact True.intro
    | exact (fun h => h)
    | exact rfl
    | decide
    | exact (fun _ => by decide)
    | exact (show (_ : Int) ≠ _ by decide)
    | fail
  refine Exists.intro _ (And.intro (c32 2) ?_)
  repeat' first
    | apply And.intro
    | exact (fun h => Bool.noConfusion h)
    | (refine chkI ?_; kernel_rfl)
    | (refine chkBI ?_; kernel_rfl)
    | exact (fun _ => True.intro)
    | exact True.intro
    | exact (fun h => h)
    | exact rfl
    | decide
    | exact (fun _ => by decide)
    | exact (show (_ : Int) ≠ _ by decide)
    | fail
  refine Exists.intro _ (And.intro (c32 1) ?_)
  repeat' first
    | apply And.intro
    | exact (fun h => Bool.noConfusion h)
    | (refine chkI ?_; kernel_rfl)
    | (refine chkBI ?_; kernel_rfl)
    | exact (fun _ => True.intro)
    | exact True.intro
    | exact (fun h => h)
    | exact rfl
    | decide
    | exact (fun _ => by decide)
    | exact (show (_ : Int) ≠ _ by decide)
    | fail
  refine Exists.intro _ (And.intro (c32 2) ?_)
  repeat' first
    | apply And.intro
    | exact (fun h => Bool.noConfusion h)
    | (refine chkI ?_; kernel_rfl)
    | (refine chkBI ?_; kernel_rfl)
    | exact (fun _ => True.intro)
    | exact True.intro
    | exact (fun h => h)
    | exact rfl
    | decide
    | exact (fun _ => by decide)
    | exact (show (_ : Int) ≠ _ by decide)
    | fail
  refine Exists.intro _ (And.intro (c32 4) ?_)
  repeat' first
    | apply And.intro
    | exact (fun h => Bool.noConfusion h)
    | (refine chkI ?_; kernel_rfl)
    | (refine chkBI ?_; kernel_rfl)
    | exact (fun _ => True.intro)
    | exact True.intro
    | exact (fun h => h)
    | exact rfl
    | decide
    | exact (fun _ => by decide)
    | exact (show (_ : Int) ≠ _ by decide)
    | fail
  refine Exists.intro _ (And.intro (c32 3) ?_)
  repeat' first
    | apply And.intro
    | exact (fun h => Bool.noConfusion h)
    | (refine chkI ?_; kernel_rfl)
    | (refine chkBI ?_; kernel_rfl)
    | exact (fun _ => True.intro)
    | exact True.intro
    | exact (fun h => h)
    | exact rfl
    | decide
    | exact (fun _ => by decide)
    | exact (show (_ : Int) ≠ _ by decide)
    | fail
  refine Exists.intro _ (And.intro (c32 1) ?_)
  repeat' first
    | apply And.intro
    | exact (fun h => Bool.noConfusion h)
    | (refine chkI ?_; kernel_rfl)
    | (refine chkBI ?_; kernel_rfl)
    | exact (fun _ => True.intro)
    | exact True.intro
    | exact (fun h => h)
    | exact rfl
    | decide
    | exact (fun _ => by decide)
    | exact (show (_ : Int) ≠ _ by decide)
    | fail
  refine Exists.intro _ (And.intro (pc (ex17) ?_) ?_)
  · rfl
  repeat' first
    | apply And.intro
    | exact (fun h => Bool.noConfusion h)
    | (refine chkI ?_; kernel_rfl)
    | (refine chkBI ?_; kernel_rfl)
    | exact (fun _ => True.intro)
    | exact True.intro
    | exact (fun h => h)
    | exact rfl
    | decide
    | exact (fun _ => by decide)
    | exact (show (_ : Int) ≠ _ by decide)
    | fail
  refine Exists.intro _ (And.intro (ex21) ?_)
  repeat' first
    | apply And.intro
    | exact (fun h => Bool.noConfusion h)
    | (refine chkI ?_; kernel_rfl)
    | (refine chkBI ?_; kernel_rfl)
    | exact (fun _ => True.intro)
    | exact True.intro
    | exact (fun h => h)
    | exact rfl
    | decide
    | exact (fun _ => by decide)
    | exact (show (_ : Int) ≠ _ by decide)
    | fail
  refine Exists.intro _ (And.intro (c34 1 (by decide) (by decide)) ?_)
  repeat' first
    | apply And.intro
    | exact (fun h => Bool.noConfusion h)
    | (refine chkI ?_; kernel_rfl)
    | (refine chkBI ?_; kernel_rfl)
    | exact (fun _ => True.intro)
    | exact True.intro
    | exact (fun h => h)
    | exact rfl
    | decide
    | exact (fun _ => by decide)
    | exact (show (_ : Int) ≠ _ by decide)
    | fail
  refine Exists.intro _ (And.intro (c34 2 (by decide) (by decide)) ?_)
  repeat' first
    | apply And.intro
    | exact (fun h => Bool.noConfusion h)
    | (refine chkI ?_; kernel_rfl)
    | (refine chkBI ?_; kernel_rfl)
    | exact (fun _ => True.intro)
    | exact True.intro
    | exact (fun h => h)
    | exact rfl
    | decide
    | exact (fun _ => by decide)
    | exact (show (_ : Int) ≠ _ by decide)
    | fail
  refine Exists.intro _ (And.intro (ex33) ?_)
  repeat' first
    | apply And.intro
    | exact (fun h => Bool.noConfusion h)
    | (refine chkI ?_; kernel_rfl)
    | (refine chkBI ?_; kernel_rfl)
    | exact (fun _ => True.intro)
    | exact True.intro
    | exact (fun h => h)
    | exact rfl
    | decide
    | exact (fun _ => by decide)
    | exact (show (_ : Int) ≠ _ by decide)
    | fail
  refine Exists.intro _ (And.intro (fun _ => c32 1) ?_)
  repeat' first
    | apply And.intro
    | exact (fun h => Bool.noConfusion h)
    | (refine chkI ?_; kernel_rfl)
    | (refine chkBI ?_; kernel_rfl)
    | exact (fun _ => True.intro)
    | exact True.intro
    | exact (fun h => h)
    | exact rfl
    | decide
    | exact (fun _ => by decide)
    | exact (show (_ : Int) ≠ _ by decide)
    | fail
  refine Exists.intro _ (And.intro (fun _ => c32 4) ?_)
  repeat' first
    | apply And.intro
    | exact (fun h => Bool.noConfusion h)
    | (refine chkI ?_; kernel_rfl)
    | (refine chkBI ?_; kernel_rfl)
    | exact (fun _ => True.intro)
    | exact True.intro
    | exact (fun h => h)
    | exact rfl
    | decide
    | exact (fun _ => by decide)
    | exact (show (_ : Int) ≠ _ by decide)
    | fail
  refine Exists.intro _ (And.intro (fun _ => c32 2) ?_)
  repeat' first
    | apply And.intro
    | exact (fun h => Bool.noConfusion h)
    | (refine chkI ?_; kernel_rfl)
    | (refine chkBI ?_; kernel_rfl)
    | exact (fun _ => True.intro)
    | exact True.intro
    | exact (fun h => h)
    | exact rfl
    | decide
    | exact (fun _ => by decide)
    | exact (show (_ : Int) ≠ _ by decide)
    | fail
  refine Exists.intro _ (And.intro (fun _ => c20 (some false) (some false) none (some 3) 2 2 [ida 1, ida 4, ida 2] [ida 1, ida 4, ida 2] (by decide) (fun _ => ⟨rfl, fun _ => rfl⟩)) ?_)
  repeat' first
    | apply And.intro
    | exact (fun h => Bool.noConfusion h)
    | (refine chkI ?_; kernel_rfl)
    | (refine chkBI ?_; kernel_rfl)
    | exact (fun _ => True.intro)
    | exact True.intro
    | exact (fun h => h)
    | exact rfl
    | decide
    | exact (fun _ => by decide)
    | exact (show (_ : Int) ≠ _ by decide)
    | fail
  refine Exists.intro _ (And.intro (fun _ => c32 1) ?_)
  repeat' first
    | apply And.intro
    | exact (fun h => Bool.noConfusion h)
    | (refine chkI ?_; kernel_rfl)
    | (refine chkBI ?_; kernel_rfl)
    | exact (fun _ => True.intro)
    | exact True.intro
    | exact (fun h => h)
    | exact rfl
    | decide
    | exact (fun _ => by decide)
    | exact (show (_ : Int) ≠ _ by decide)
    | fail
  refine Exists.intro _ (And.intro (fun _ => ex28) ?_)
  repeat' first
    | apply And.intro
    | exact (fun h => Bool.noConfusion h)
    | (refine chkI ?_; kernel_rfl)
    | (refine chkBI ?_; kernel_rfl)
    | exact (fun _ => True.intro)
    | exact True.intro
    | exact (fun h => h)
    | exact rfl
    | decide
    | exact (fun _ => by decide)
    | exact (show (_ : Int) ≠ _ by decide)
    | fail
  rw [rat_beq, show ((((exL.map nodeA).length : Nat) : Int) == 3 && decide ([ida 1, ida 4, ida 2] = [ida 1, ida 4, ida 2]) && decide (((1 : Int) : Rat) / ((2 : Int) : Rat) = ((1 : Int) : Rat) / ((2 : Int) : Rat))) = true by simp]
  repeat' first
    | apply And.intro
    | exact (fun h => Bool.noConfusion h)
    | (refine chkI ?_; kernel_rfl)
    | (refine chkBI ?_; kernel_rfl)
    | exact (fun _ => True.intro)
    | exact True.intro
    | exact (fun h => h)
    | exact rfl
    | decide
    | exact (fun _ => by decide)
    | exact (show (_ : Int) ≠ _ by decide)
    | fail

end Vm
end Go.Proofs.YtdbpcmpkpbamhaaGreatDoor

/- Plain law: the simplest fraction between two, in natural numbers. -/
namespace Go.Proofs.YtdbpcmpkpbamhaaGreatDoor
set_option linter.unusedVariables false
set_option linter.unusedSimpArgs false
namespace Vm
open Go

def sbt : Nat → Nat → Nat → Nat → Nat → Nat × Nat
  | 0, _, _, _, _ => (0, 1)
  | k + 1, n1, d1, n2, d2 => if d2 = 0 ∨ (n1 / d1 + 1) * d2 < n2 then (n1 / d1 + 1, 1) else ((n1 / d1) * (sbt k d2 (n2 - n1 / d1 * d2) d1 (n1 % d1)).1 + (sbt k d2 (n2 - n1 / d1 * d2) d1 (n1 % d1)).2, (sbt k d2 (n2 - n1 / d1 * d2) d1 (n1 % d1)).1)

structure Sbt (n1 d1 n2 d2 p q : Nat) : Prop where
  q0 : 0 < q
  p0 : 0 < p
  lo : n1 * q < p * d1
  hi : p * d2 < n2 * q
  min : ∀ P Q, n1 * Q < P * d1 → P * d2 < n2 * Q → p ≤ P ∧ q ≤ Q

theorem sbt_a {f m d1 n2 d2 : Nat} (hm : m < d1) (h : (f * d1 + m) * d2 < n2 * d1) (hc : d2 = 0 ∨ (f + 1) * d2 < n2) : Sbt (f * d1 + m) d1 n2 d2 (f + 1) 1 := by
  refine ⟨by omega, by omega, ?_, ?_, ?_⟩
  · rw [Nat.mul_one, Nat.succ_mul]; omega
  · rcases hc with rfl | hc
    · have : 0 < n2 := Nat.pos_of_ne_zero fun h0 => by subst h0; simp at h
      omega
    · omega
  · intro P Q h1 h2
    have hQ : 0 < Q := Nat.pos_of_ne_zero fun h0 => by subst h0; simp at h2
    have h3 : f * Q < P := by
      refine Nat.lt_of_mul_lt_mul_right (a := d1) (Nat.lt_of_le_of_lt ?_ h1)
      rw [Nat.add_mul, Nat.mul_right_comm]
      exact Nat.le_add_right _ _
    have h4 : f ≤ f * Q := Nat.le_mul_of_pos_right _ hQ
    omega

theorem sbt_b {f m d1 t d2 p q : Nat} (hm : m < d1) (h : Sbt d2 t d1 m p q) : Sbt (f * d1 + m) d1 (f * d2 + t) d2 (f * p + q) p := by
  obtain ⟨h1, h2, h3, h4, h5⟩ := h
  refine ⟨h2, by omega, ?_, ?_, ?_⟩
  · have e1 : (f * d1 + m) * p = f * p * d1 + p * m := by rw [Nat.add_mul, Nat.mul_right_comm, Nat.mul_comm m]
    have e2 : (f * p + q) * d1 = f * p * d1 + d1 * q := by rw [Nat.add_mul, Nat.mul_comm q]
    omega
  · have e1 : (f * p + q) * d2 = f * d2 * p + d2 * q := by rw [Nat.add_mul, Nat.mul_right_comm, Nat.mul_comm q]
    have e2 : (f * d2 + t) * p = f * d2 * p + p * t := by rw [Nat.add_mul, Nat.mul_comm t]
    omega
  · intro P Q g1 g2
    have h3 : f * Q < P := by
      refine Nat.lt_of_mul_lt_mul_right (a := d1) (Nat.lt_of_le_of_lt ?_ g1)
      rw [Nat.add_mul, Nat.mul_right_comm]
      exact Nat.le_add_right _ _
    obtain ⟨R, rfl⟩ : ∃ R, P = f * Q + R := ⟨P - f * Q, by omega⟩
    have e1 : (f * d1 + m) * Q = f * Q * d1 + Q * m := by rw [Nat.add_mul, Nat.mul_right_comm, Nat.mul_comm m]
    have e2 : (f * Q + R) * d1 = f * Q * d1 + d1 * R := by rw [Nat.add_mul, Nat.mul_comm R]
    have e3 : (f * Q + R) * d2 = f * d2 * Q + d2 * R := by rw [Nat.add_mul, Nat.mul_right_comm, Nat.mul_comm R]
    have e4 : (f * d2 + t) * Q = f * d2 * Q + Q * t := by rw [Nat.add_mul, Nat.mul_comm t]
    obtain ⟨a, b⟩ := h5 Q R (by omega) (by omega)
    have := Nat.mul_le_mul_left f a
    omega

/-- The pieces of one step. -/
theorem sbt_parts {n1 d1 n2 d2 : Nat} (hd : 0 < d1) (h : n1 * d2 < n2 * d1) (hc : ¬ (d2 = 0 ∨ (n1 / d1 + 1) * d2 < n2)) :
    n1 % d1 < d1 ∧ n2 = n1 / d1 * d2 + (n2 - n1 / d1 * d2) ∧ 0 < n2 - n1 / d1 * d2 ∧ n2 - n1 / d1 * d2 ≤ d2 ∧ d2 * (n1 % d1) < d1 * (n2 - n1 / d1 * d2) := by
  have hm := Nat.mod_lt n1 hd
  have e : n1 = n1 / d1 * d1 + n1 % d1 := by rw [Nat.mul_comm]; exact (Nat.div_add_mod n1 d1).symm
  generalize n1 / d1 = f at *
  generalize n1 % d1 = m at *
  subst e
  have e1 : (f * d1 + m) * d2 = f * d2 * d1 + d2 * m := by rw [Nat.add_mul, Nat.mul_right_comm, Nat.mul_comm m]
  have h1 : f * d2 < n2 := Nat.lt_of_mul_lt_mul_right (a := d1) (by omega)
  have h2 : (f + 1) * d2 = f * d2 + d2 := Nat.succ_mul f d2
  obtain ⟨t, rfl⟩ : ∃ t, n2 = f * d2 + t := ⟨n2 - f * d2, by omega⟩
  have e2 : (f * d2 + t) * d1 = f * d2 * d1 + d1 * t := by rw [Nat.add_mul, Nat.mul_comm t]
  rw [Nat.add_sub_cancel_left]
  refine ⟨hm, rfl, by omega, by omega, by omega⟩

theorem sbt_ok : ∀ (k n1 d1 n2 d2 : Nat), d1 + d2 < k → 0 < d1 → n1 * d2 < n2 * d1 → Sbt n1 d1 n2 d2 (sbt k n1 d1 n2 d2).1 (sbt k n1 d1 n2 d2).2
  | 0, n1, d1, n2, d2, hk, hd, h => by omega
  | k + 1, n1, d1, n2, d2, hk, hd, h => by
    have e : n1 = n1 / d1 * d1 + n1 % d1 := by rw [Nat.mul_comm]; exact (Nat.div_add_mod n1 d1).symm
    simp only [sbt]
    split
    · rename_i hc
      have := sbt_a (f := n1 / d1) (m := n1 % d1) (Nat.mod_lt n1 hd) (by rw [← e]; exact h) hc
      rw [← e] at this
      exact this
    · rename_i hc
      obtain ⟨h1, h2, h3, h4, h5⟩ := sbt_parts hd h hc
      have ih := sbt_ok k d2 (n2 - n1 / d1 * d2) d1 (n1 % d1) (by omega) h3 h5
      have := sbt_b (f := n1 / d1) h1 ih
      rw [← e, ← h2] at this
      exact this

/-- The result is no greater than what lies in the middle. -/
theorem Sbt.le {n1 d1 n2 d2 p q : Nat} (h : Sbt n1 d1 n2 d2 p q) (hl : n1 * d2 < n2 * d1) : p ≤ n1 + n2 ∧ q ≤ d1 + d2 :=
  h.min (n1 + n2) (d1 + d2) (by rw [Nat.mul_add, Nat.add_mul]; omega) (by rw [Nat.mul_add, Nat.add_mul]; omega)

end Vm
end Go.Proofs.YtdbpcmpkpbamhaaGreatDoor

/- Plain law: the simplest fraction, as fractions. -/
namespace Go.Proofs.YtdbpcmpkpbamhaaGreatDoor
set_option linter.unusedVariables false
set_option linter.unusedSimpArgs false
namespace Vm
open Go

def fr (n d : Nat) : Rat := (n : Rat) / (d : Rat)

theorem nat_pos {d : Nat} (h : 0 < d) : (0 : Rat) < (d : Rat) := Rat.natCast_pos.2 h
theorem nat_ne {d : Nat} (h : 0 < d) : (d : Rat) ≠ 0 := by
  intro h0
  have := Rat.natCast_eq_zero_iff.1 h0
  omega

theorem fr_lt {n1 d1 n2 d2 : Nat} (h1 : 0 < d1) (h2 : 0 < d2) : fr n1 d1 < fr n2 d2 ↔ n1 * d2 < n2 * d1 := by
  unfold fr
  rw [Rat.div_lt_iff (nat_pos h1)]
  have e : (n2 : Rat) / (d2 : Rat) * (d1 : Rat) = ((n2 * d1 : Nat) : Rat) / (d2 : Rat) := by
    rw [Rat.natCast_mul, Rat.div_def, Rat.div_def, Rat.mul_assoc, Rat.mul_comm (d2 : Rat)⁻¹, ← Rat.mul_assoc]
  rw [e, Rat.lt_div_iff (nat_pos h2), ← Rat.natCast_mul, Rat.natCast_lt_natCast]

theorem fr_one (n : Nat) : fr n 1 = (n : Rat) := by
  unfold fr
  rw [show ((1 : Nat) : Rat) = 1 from rfl, Rat.div_def]
  grind

theorem fr_divInt (n d : Nat) : fr n d = Rat.divInt n d := by
  rw [Rat.divInt_eq_div]
  rfl

theorem sm_fr {n d : Nat} (hn : n ≤ 4096) (hd : d ≤ 4096) : Sm (fr n d) := by
  rw [fr_divInt]
  refine ⟨?_, ?_⟩
  · rw [mk_abs]
    split
    · omega
    · exact Nat.le_trans (Nat.div_le_self _ _) (by simpa using hn)
  · rw [mk_den]
    split
    · omega
    · exact Nat.le_trans (Nat.div_le_self _ _) (by simpa using hd)

theorem cmpQ_neg (p q : Rat) : cmpQ p q < 0 ↔ p < q := by
  unfold cmpQ
  rw [Rat.lt_iff]
  rcases Int.lt_trichotomy (p.num * q.den - q.num * p.den) 0 with h | h | h
  · rw [Int.sign_eq_neg_one_of_neg h]; omega
  · rw [h]; simp; omega
  · rw [Int.sign_eq_one_of_pos h]; omega
theorem cmpQ_pos (p q : Rat) : 0 < cmpQ p q ↔ q < p := by
  unfold cmpQ
  rw [Rat.lt_iff]
  rcases Int.lt_trichotomy (p.num * q.den - q.num * p.den) 0 with h | h | h
  · rw [Int.sign_eq_neg_one_of_neg h]; omega
  · rw [h]; simp; omega
  · rw [Int.sign_eq_one_of_pos h]; omega
theorem cmpQ_zero (p q : Rat) : cmpQ p q = 0 ↔ p = q := by
  have h1 := cmpQ_neg p q
  have h2 := cmpQ_pos p q
  constructor
  · intro h
    rw [h] at h1 h2
    have a1 : ¬ p < q := fun h => by have := h1.2 h; omega
    have a2 : ¬ q < p := fun h => by have := h2.2 h; omega
    exact Rat.le_antisymm (Rat.not_lt.1 a2) (Rat.not_lt.1 a1)
  · rintro rfl
    unfold cmpQ
    rw [Int.sub_self]
    rfl

theorem floor_fr (n : Nat) {d : Nat} (hd : 0 < d) : ((fr n d).floor : Rat) = ((n / d : Nat) : Rat) := by
  have e : n = n / d * d + n % d := by rw [Nat.mul_comm]; exact (Nat.div_add_mod n d).symm
  have hm := Nat.mod_lt n hd
  have h1 : ((n / d : Nat) : Int) ≤ (fr n d).floor := by
    rw [Rat.le_floor_iff, ← Rat.not_lt, show (((n / d : Nat) : Int) : Rat) = fr (n / d) 1 from (fr_one _).symm, fr_lt hd (by omega)]
    omega
  have h2 : (fr n d).floor < ((n / d + 1 : Nat) : Int) := by
    rw [Rat.floor_lt_iff, show (((n / d + 1 : Nat) : Int) : Rat) = fr (n / d + 1) 1 from (fr_one _).symm, fr_lt hd (by omega), Nat.succ_mul]
    omega
  rw [show (fr n d).floor = ((n / d : Nat) : Int) by omega]
  rfl

theorem fr_sub (f t : Nat) {d : Nat} (hd : 0 < d) : fr (f * d + t) d - (f : Rat) = fr t d := by
  have := nat_ne hd
  unfold fr
  rw [Rat.natCast_add, Rat.natCast_mul]
  generalize (d : Rat) = D at *
  generalize (f : Rat) = F at *
  generalize (t : Rat) = T at *
  grind
theorem fr_inv (n d : Nat) : 1 / fr n d = fr d n := by
  unfold fr
  generalize (d : Rat) = D at *
  generalize (n : Rat) = N at *
  grind
theorem fr_add (f q : Nat) {p : Nat} (hp : 0 < p) : (f : Rat) + fr q p = fr (f * p + q) p := by
  have := nat_ne hp
  unfold fr
  rw [Rat.natCast_add, Rat.natCast_mul]
  generalize (p : Rat) = D at *
  generalize (f : Rat) = F at *
  generalize (q : Rat) = T at *
  grind
theorem fr_eq_zero {n d : Nat} (hd : 0 < d) : fr n d = 0 ↔ n = 0 := by
  have := nat_ne hd
  unfold fr
  rw [← Rat.natCast_eq_zero_iff]
  generalize (d : Rat) = D at *
  generalize (n : Rat) = N at *
  grind

/-- The search in fractions is the search in natural numbers. -/
theorem simplest_fr : ∀ (k n1 d1 n2 d2 : Nat), d1 + d2 < k → 0 < d1 → n1 * d2 < n2 * d1 → n1 ≤ 1000 → d1 ≤ 1000 → n2 ≤ 1000 → d2 ≤ 1000 →
    simplest k (fr n1 d1) (fr n2 d2) (decide (d2 ≠ 0)) = fr (sbt k n1 d1 n2 d2).1 (sbt k n1 d1 n2 d2).2 ∧ Fit k (fr n1 d1) (fr n2 d2) (decide (d2 ≠ 0))
  | 0, n1, d1, n2, d2, hk, hd, h, b1, b2, b3, b4 => by omega
  | k + 1, n1, d1, n2, d2, hk, hd, h, b1, b2, b3, b4 => by
    have hf := floor_fr n1 hd
    have hfb : n1 / d1 ≤ 1000 := Nat.le_trans (Nat.div_le_self _ _) b1
    have s1 : Sm ((n1 / d1 : Nat) : Rat) := by rw [← fr_one]; exact sm_fr (by omega) (by omega)
    have s2 : Sm (((n1 / d1 : Nat) : Rat) + 1) := by
      rw [show ((n1 / d1 : Nat) : Rat) + 1 = ((n1 / d1 + 1 : Nat) : Rat) by rw [Rat.natCast_add]; rfl, ← fr_one]; exact sm_fr (by omega) (by omega)
    have hcond : (!decide (d2 ≠ 0) || decide (cmpQ (((n1 / d1 : Nat) : Rat) + 1) (fr n2 d2) < 0)) = decide (d2 = 0 ∨ (n1 / d1 + 1) * d2 < n2) := by
      rw [show ((n1 / d1 : Nat) : Rat) + 1 = fr (n1 / d1 + 1) 1 by rw [fr_one, Rat.natCast_add]; rfl]
      by_cases h0 : d2 = 0
      · simp [h0]
      · rw [Bool.eq_iff_iff]
        simp only [Bool.or_eq_true, decide_eq_true_eq, Bool.not_eq_true', decide_eq_false_iff_not, Decidable.not_not, cmpQ_neg]
        rw [fr_lt (by omega) (by omega), Nat.mul_one]
    simp only [simplest, Fit, sbt]
    rw [hf, hcond]
    by_cases hc : d2 = 0 ∨ (n1 / d1 + 1) * d2 < n2
    · rw [if_pos (by simpa using hc), if_pos hc]
      refine ⟨?_, sm_fr (by omega) (by omega), sm_fr (by omega) (by omega), s1, s2, fun h => ?_⟩
      · rw [fr_one, Rat.natCast_add]; rfl
      · rw [decide_eq_false_iff_not] at h
        exact absurd hc h
    · rw [if_neg (by simpa using hc), if_neg hc]
      obtain ⟨h1, h2, h3, h4, h5⟩ := sbt_parts hd h hc
      have e : n1 = n1 / d1 * d1 + n1 % d1 := by rw [Nat.mul_comm]; exact (Nat.div_add_mod n1 d1).symm
      have hd2 : 0 < d2 := Nat.pos_of_ne_zero fun h => hc (.inl h)
      have t1 : fr n2 d2 - ((n1 / d1 : Nat) : Rat) = fr (n2 - n1 / d1 * d2) d2 := by
        have := fr_sub (n1 / d1) (n2 - n1 / d1 * d2) hd2
        rwa [← h2] at this
      have t2 : fr n1 d1 - ((n1 / d1 : Nat) : Rat) = fr (n1 % d1) d1 := by
        have := fr_sub (n1 / d1) (n1 % d1) hd
        rwa [← e] at this
      rw [t1, t2, fr_inv, fr_inv, show decide (fr (n1 % d1) d1 ≠ 0) = decide (n1 % d1 ≠ 0) by simp only [ne_eq, fr_eq_zero hd]]
      have hn2 : n2 - n1 / d1 * d2 ≤ d2 := h4
      obtain ⟨g1, g2⟩ := simplest_fr k d2 (n2 - n1 / d1 * d2) d1 (n1 % d1) (by omega) h3 h5 (by omega) (by omega) (by omega) (by omega)
      have hs := sbt_ok k d2 (n2 - n1 / d1 * d2) d1 (n1 % d1) (by omega) h3 h5
      have hl := hs.le h5
      rw [g1, fr_inv]
      have hp := hs.p0
      have hq := hs.q0
      refine ⟨fr_add _ _ hp, sm_fr (by omega) (by omega), sm_fr (by omega) (by omega), s1, s2, fun _ => ⟨?_, sm_fr (by omega) (by omega), sm_fr (by omega) (by omega), g2, ?_, sm_fr (by omega) (by omega), sm_fr (by omega) (by omega)⟩⟩
      · rw [ne_eq, fr_eq_zero hd2]; omega
      · rw [ne_eq, fr_eq_zero hq]; omega

end Vm
end Go.Proofs.YtdbpcmpkpbamhaaGreatDoor
