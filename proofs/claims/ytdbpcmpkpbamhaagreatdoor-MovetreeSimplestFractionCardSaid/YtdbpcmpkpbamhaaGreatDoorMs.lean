/- Walks: the law of the simplest fraction. -/
import Derived.Test.YtdbpcmpkpbamhaaGreatDoorMr
namespace Go.Proofs.YtdbpcmpkpbamhaaGreatDoor
set_option linter.unusedVariables false
set_option linter.unusedSimpArgs false
set_option linter.unusedSectionVars false
set_option maxRecDepth 100000
namespace Vm
open Go

theorem s8 : Setting Tryz.prog tys (fi 8 Tryz.f8) := setting (by kernel_rfl) (by kernel_rfl)
abbrev i8 (z : Int) : AV := .val (.int .i8 z)
abbrev bx (q : Rat) : Blk := .box [.val (.bool (decide (q.num < 0))), str (enc q.num.natAbs), str (encD q.den)] false

abbrev st8 (n1 d1 n2 d2 p q i : Nat) : St := ⟨[(9, .ptr 0 0 0 0), (11, .ptr 1 0 0 0), (14, .ptr 2 0 0 0), (15, i64 i)], [bx (fr n1 d1), bx (fr n2 d2), bx (fr p q)]⟩

theorem fr_mul (n i : Nat) (d : Nat) : fr n d * ((i : Int) : Rat) = fr (n * i) d := by
  unfold fr
  rw [Rat.natCast_mul, show ((i : Int) : Rat) = (i : Rat) from rfl, Rat.div_def, Rat.div_def, Rat.mul_assoc, Rat.mul_comm (d : Rat)⁻¹, ← Rat.mul_assoc]

theorem floor_frI (n : Nat) {d : Nat} (hd : 0 < d) : (fr n d).floor = ((n / d : Nat) : Int) := by
  have := floor_fr n hd
  exact Rat.intCast_inj.1 this

abbrev lp8 : List Nat := [0, 0, 1, 0, 1, 1, 1, 1, 1, 1, 1, 1, 1, 1]
/-- One denominator. -/
theorem step8 (n1 d1 n2 d2 p q : Nat) (hs : Sbt n1 d1 n2 d2 p q) (b1 : n1 ≤ 40) (b2 : d1 ≤ 40) (b3 : n2 ≤ 40) (b4 : d2 ≤ 40) (hd1 : 0 < d1) (hd2 : 0 < d2) (bp : p ≤ 80) (bq : q ≤ 80) (i : Nat) (hi0 : 0 < i) (hiq : i ≤ q)
    (next : i < q → VC Tryz.prog (fi 8 Tryz.f8) lp8 (st8 n1 d1 n2 d2 p q (i + 1)) (Gives (.val (.bool true)))) :
    VC Tryz.prog (fi 8 Tryz.f8) lp8 (st8 n1 d1 n2 d2 p q i) (Gives (.val (.bool true))) := by
  have hni : n1 * i ≤ 3200 := Nat.mul_le_mul b1 (by omega : i ≤ 80)
  have hF : n1 * i / d1 ≤ 3200 := Nat.le_trans (Nat.div_le_self _ _) hni
  have hlo : n1 * i < (n1 * i / d1 + 1) * d1 := by rw [Nat.mul_comm _ d1]; exact Nat.lt_mul_div_succ _ hd1
  have m39 := q39 (sm_fr (n := n1) (d := d1) (by omega) (by omega)) (show Sm ((i : Int) : Rat) from by rw [show ((i : Int) : Rat) = fr i 1 from (fr_one i).symm]; exact sm_fr (by omega) (by omega))
  rw [fr_mul] at m39
  have m38 := q38 (sm_fr (n := n1 * i) (d := d1) (by omega) (by omega))
  rw [floor_frI _ hd1] at m38
  have hgen : ∀ F : Nat, F ≤ 3200 → (F : Int).natAbs < 2 ^ 64 ∧ ((F : Int) + 1).natAbs < 2 ^ 64 := fun F h => ⟨by omega, by omega⟩
  obtain ⟨hb, hb1⟩ := hgen _ hF
  have m37 := c37 ((n1 * i / d1 : Nat) : Int) 1 (sm_64 hb) (sm_64 (by decide))
  have m41 := c41 (((n1 * i / d1 : Nat) : Int) + 1) i (by omega) (sm_64 (by omega)) (sm_64 hb1) (gd_small hb1 (by omega) (by omega))
  rw [show Rat.divInt (((n1 * i / d1 : Nat) : Int) + 1) i = fr (n1 * i / d1 + 1) i from (fr_divInt _ _).symm] at m41
  have m30 := q30 (sm_fr (n := n1 * i / d1 + 1) (d := i) (by omega) (by omega)) (sm_fr (n := n2) (d := d2) (by omega) (by omega))
  have hcmp : decide (cmpQ (fr (n1 * i / d1 + 1) i) (fr n2 d2) < 0) = decide (q = i) := by
    rw [Bool.eq_iff_iff, decide_eq_true_eq, decide_eq_true_eq, cmpQ_neg, fr_lt hi0 hd2]
    constructor
    · intro h
      have := hs.min _ _ hlo h
      omega
    · rintro rfl
      have h1 : n1 * q / d1 < p := Nat.div_lt_of_lt_mul (by rw [Nat.mul_comm d1]; exact hs.lo)
      exact Nat.lt_of_le_of_lt (Nat.mul_le_mul_right d2 h1) hs.hi
  have hkey : q = i → n1 * i / d1 + 1 = p := by
    rintro rfl
    have h1 : n1 * q / d1 < p := Nat.div_lt_of_lt_mul (by rw [Nat.mul_comm d1]; exact hs.lo)
    have := hs.min _ _ hlo (Nat.lt_of_le_of_lt (Nat.mul_le_mul_right d2 h1) hs.hi)
    omega
  generalize n1 * i / d1 = F at *
  refine vc_at s8 [lp8] 100 ?_
  repeat' first
    | apply And.intro
    | exact (fun h => Bool.noConfusion h)
    | (refine chkI ?_; kernel_rfl)
    | (refine chkBI ?_; kernel_rfl)
    | exact (fun _ => True.intro)
    | exact True.intro
    | exact (fun h => h)
    | exact rfl
    | decide
    | exact (fun _ => by decide)
    | exact (show (_ : Int) ≠ _ by decide)
    | fail
  rw [show decide ((i : Int) ≤ 100) = true by simp; omega]
  repeat' first
    | apply And.intro
    | exact (fun h => Bool.noConfusion h)
    | (refine chkI ?_; kernel_rfl)
    | (refine chkBI ?_; kernel_rfl)
    | exact (fun _ => True.intro)
    | exact True.intro
    | exact (fun h => h)
    | exact rfl
    | decide
    | exact (fun _ => by decide)
    | exact (show (_ : Int) ≠ _ by decide)
    | fail
  refine Exists.intro _ (And.intro (c34 i (by omega) (by omega)) ?_)
  repeat' first
    | apply And.intro
    | exact (fun h => Bool.noConfusion h)
    | (refine chkI ?_; kernel_rfl)
    | (refine chkBI ?_; kernel_rfl)
    | exact (fun _ => True.intro)
    | exact True.intro
    | exact (fun h => h)
    | exact rfl
    | decide
    | exact (fun _ => by decide)
    | exact (show (_ : Int) ≠ _ by decide)
    | fail
  refine Exists.intro _ (And.intro (m39) ?_)
  repeat' first
    | apply And.intro
    | exact (fun h => Bool.noConfusion h)
    | (refine chkI ?_; kernel_rfl)
    | (refine chkBI ?_; kernel_rfl)
    | exact (fun _ => True.intro)
    | exact True.intro
    | exact (fun h => h)
    | exact rfl
    | decide
    | exact (fun _ => by decide)
    | exact (show (_ : Int) ≠ _ by decide)
    | fail
  refine Exists.intro _ (And.intro (m38) ?_)
  repeat' first
    | apply And.intro
    | exact (fun h => Bool.noConfusion h)
    | (refine chkI ?_; kernel_rfl)
    | (refine chkBI ?_; kernel_rfl)
    | exact (fun _ => True.intro)
    | exact True.intro
    | exact (fun h => h)
    | exact rfl
    | decide
    | exact (fun _ => by decide)
    | exact (show (_ : Int) ≠ _ by decide)
    | fail
  refine Exists.intro _ (And.intro (c40 1 (by decide) (by decide)) ?_)
  repeat' first
    | apply And.intro
    | exact (fun h => Bool.noConfusion h)
    | (refine chkI ?_; kernel_rfl)
    | (refine chkBI ?_; kernel_rfl)
    | exact (fun _ => True.intro)
    | exact True.intro
    | exact (fun h => h)
    | exact rfl
    | decide
    | exact (fun _ => by decide)
    | exact (show (_ : Int) ≠ _ by decide)
    | fail
  refine Exists.intro _ (And.intro (m37) ?_)
  repeat' first
    | apply And.intro
    | exact (fun h => Bool.noConfusion h)
    | (refine chkI ?_; kernel_rfl)
    | (refine chkBI ?_; kernel_rfl)
    | exact (fun _ => True.intro)
    | exact True.intro
    | exact (fun h => h)
    | exact rfl
    | decide
    | exact (fun _ => by decide)
    | exact (show (_ : Int) ≠ _ by decide)
    | fail
  refine Exists.intro _ (And.intro (c40 i (by omega) (by omega)) ?_)
  repeat' first
    | apply And.intro
    | exact (fun h => Bool.noConfusion h)
    | (refine chkI ?_; kernel_rfl)
    | (refine chkBI ?_; kernel_rfl)
    | exact (fun _ => True.intro)
    | exact True.intro
    | exact (fun h => h)
    | exact rfl
    | decide
    | exact (fun _ => by decide)
    | exact (show (_ : Int) ≠ _ by decide)
    | fail
  refine Exists.intro _ (And.intro (m41) ?_)
  repeat' first
    | apply And.intro
    | exact (fun h => Bool.noConfusion h)
    | (refine chkI ?_; kernel_rfl)
    | (refine chkBI ?_; kernel_rfl)
    | exact (fun _ => True.intro)
    | exact True.intro
    | exact (fun h => h)
    | exact rfl
    | decide
    | exact (fun _ => by decide)
    | exact (show (_ : Int) ≠ _ by decide)
    | fail
  refine Exists.intro _ (And.intro (m30) ?_)
  repeat' first
    | apply And.intro
    | exact (fun h => Bool.noConfusion h)
    | (refine chkI ?_; kernel_rfl)
    | (refine chkBI ?_; kernel_rfl)
    | exact (fun _ => True.intro)
    | exact True.intro
    | exact (fun h => h)
    | exact rfl
    | decide
    | exact (fun _ => by decide)
    | exact (show (_ : Int) ≠ _ by decide)
    | fail
  rw [hcmp]
  by_cases hq : q = i
  · rw [show decide (q = i) = true by simpa using hq]
    have hk := hkey hq
    repeat' first
      | apply And.intro
      | exact (fun h => Bool.noConfusion h)
      | (refine chkI ?_; kernel_rfl)
      | (refine chkBI ?_; kernel_rfl)
      | exact (fun _ => True.intro)
      | exact True.intro
      | exact (fun h => h)
      | exact rfl
      | decide
      | exact (fun _ => by decide)
      | exact (show (_ : Int) ≠ _ by decide)
      | fail
    refine Exists.intro _ (And.intro (fun _ => c16) ?_)
    repeat' first
      | apply And.intro
      | exact (fun h => Bool.noConfusion h)
      | (refine chkI ?_; kernel_rfl)
      | (refine chkBI ?_; kernel_rfl)
      | exact (fun _ => True.intro)
      | exact True.intro
      | exact (fun h => h)
      | exact rfl
      | decide
      | exact (fun _ => by decide)
      | exact (show (_ : Int) ≠ _ by decide)
      | fail
    rw [rat_beq, hk, hq, show (decide (fr p i = fr p i) && true) = true by simp]
    repeat' first
      | apply And.intro
      | exact (fun h => Bool.noConfusion h)
      | (refine chkI ?_; kernel_rfl)
      | (refine chkBI ?_; kernel_rfl)
      | exact (fun _ => True.intro)
      | exact True.intro
      | exact (fun h => h)
      | exact rfl
      | decide
      | exact (fun _ => by decide)
      | exact (show (_ : Int) ≠ _ by decide)
      | fail
  · rw [show decide (q = i) = false by simpa using hq]
    repeat' first
      | apply And.intro
      | exact (fun h => Bool.noConfusion h)
      | (refine chkI ?_; kernel_rfl)
      | (refine chkBI ?_; kernel_rfl)
      | exact (fun _ => True.intro)
      | exact True.intro
      | exact (fun h => h)
      | exact rfl
      | decide
      | exact (fun _ => by decide)
      | exact (show (_ : Int) ≠ _ by decide)
      | fail
    all_goals first
      | omega
      | (simp only [imp, i64ok, sz, List.length_map, List.length_cons, List.length_nil] <;> omega)
      | (dsimp only [List.length_cons, List.length_nil]; omega)
      | skip
    refine VC.gc [0, 1, 2] [9, 11, 14, 15] rfl rfl ?_
    exact next (by omega)

/-- The loop over the denominators. -/
theorem loop8 (n1 d1 n2 d2 p q : Nat) (hs : Sbt n1 d1 n2 d2 p q) (b1 : n1 ≤ 40) (b2 : d1 ≤ 40) (b3 : n2 ≤ 40) (b4 : d2 ≤ 40) (hd1 : 0 < d1) (hd2 : 0 < d2) (bp : p ≤ 80) (bq : q ≤ 80) : ∀ (k i : Nat), k = q - i → 0 < i → i ≤ q →
    VC Tryz.prog (fi 8 Tryz.f8) lp8 (st8 n1 d1 n2 d2 p q i) (Gives (.val (.bool true)))
  | 0, i, hk, hi0, hiq => step8 n1 d1 n2 d2 p q hs b1 b2 b3 b4 hd1 hd2 bp bq i hi0 hiq fun h => absurd h (by omega)
  | k + 1, i, hk, hi0, hiq => step8 n1 d1 n2 d2 p q hs b1 b2 b3 b4 hd1 hd2 bp bq i hi0 hiq fun h => loop8 n1 d1 n2 d2 p q hs b1 b2 b3 b4 hd1 hd2 bp bq k (i + 1) (by omega) (by omega) (by omega)

/-- From the loop on. -/
theorem tail8 (n1 d1 n2 d2 p q : Nat) (hs : Sbt n1 d1 n2 d2 p q) (b1 : n1 ≤ 40) (b2 : d1 ≤ 40) (b3 : n2 ≤ 40) (b4 : d2 ≤ 40) (hd1 : 0 < d1) (hd2 : 0 < d2) (bp : p ≤ 80) (bq : q ≤ 80) :
    VC Tryz.prog (fi 8 Tryz.f8) [1, 1, 1, 1, 1, 1, 1, 1, 1, 1] ⟨[(9, .ptr 0 0 0 0), (11, .ptr 1 0 0 0), (14, .ptr 2 0 0 0)], [bx (fr n1 d1), bx (fr n2 d2), bx (fr p q)]⟩ (Gives (.val (.bool true))) := by
  refine vc_at s8 [lp8] 100 ?_
  repeat' first
    | apply And.intro
    | exact (fun h => Bool.noConfusion h)
    | (refine chkI ?_; kernel_rfl)
    | (refine chkBI ?_; kernel_rfl)
    | exact (fun _ => True.intro)
    | exact True.intro
    | exact (fun h => h)
    | exact rfl
    | decide
    | exact (fun _ => by decide)
    | exact (show (_ : Int) ≠ _ by decide)
    | fail
  refine VC.gc [0, 1, 2] [9, 11, 14, 15] rfl rfl ?_
  exact loop8 n1 d1 n2 d2 p q hs b1 b2 b3 b4 hd1 hd2 bp bq _ 1 rfl (by omega) hs.q0

/-! ### What the law's places give -/
theorem cmpQ_0 (q : Rat) : cmpQ q 0 = q.num.sign := by
  unfold cmpQ
  rw [show (0 : Rat).num = 0 from rfl, show (0 : Rat).den = 1 from rfl]
  congr 1
  omega
theorem sgn_neg (q : Rat) : q.num.sign < 0 ↔ q < 0 := by rw [← cmpQ_0, cmpQ_neg]
theorem sgn_pos (q : Rat) : 0 < q.num.sign ↔ 0 < q := by rw [← cmpQ_0, cmpQ_pos]

abbrev ndQ (i : Int) (q : Rat) : Node := ⟨ida i, nid, decide (q.num < 0), enc q.num.natAbs, encD q.den, gGroup⟩
theorem ndQ_short (i : Int) {q : Rat} (h : Sm q) : (ndQ i q).short := by
  refine ⟨encB h.n, ?_⟩
  show (encD q.den).length < 2 ^ 26
  unfold encD
  split
  · decide
  · exact encB h.d
theorem ndQ_cmp {lo hi : Rat} (h : lo ≤ hi) : ¬ sibCmp (ndQ 2 hi) (ndQ 1 lo) < 0 := by
  have e : (ndQ 2 hi).cmpPlace (ndQ 1 lo) = cmpQ hi lo := by
    unfold Node.cmpPlace cmpQ
    rw [numI_enc, numI_enc, denN_encD hi.den_pos, denN_encD lo.den_pos]
  unfold sibCmp
  rw [e, orI_lt]
  have h1 := cmpQ_neg hi lo
  have h2 : ¬ hi < lo := Rat.not_lt.2 h
  have h3 : lessId (ndQ 2 hi).id (ndQ 1 lo).id = 1 := (by decide : lessId (ida 2) (ida 1) = 1)
  rw [h3]
  rintro (h4 | ⟨_, h4⟩)
  · exact h2 (h1.1 h4)
  · omega
theorem ndQ_sibs {lo hi : Rat} (h : lo ≤ hi) : sibs nid [ndQ 1 lo, ndQ 2 hi] = [ndQ 1 lo, ndQ 2 hi] := by
  have hc := ndQ_cmp h
  unfold sibs
  rw [show [ndQ 1 lo, ndQ 2 hi].filter (fun x => x.par == nid) = [ndQ 1 lo, ndQ 2 hi] from rfl]
  dsimp only
  rw [isort_eq]
  show (insB sibCmp [ndQ 1 lo] (ndQ 2 hi)).reverse = _
  unfold insB
  rw [if_neg hc]
  rfl

def keyQ (lo hi : Rat) : Rat := if cmpQ lo hi = 0 then lo else betweenQ 100 lo hi
theorem key28 {lo hi : Rat} (sl : Sm lo) (sh : Sm hi) (h : lo ≤ hi) (h78 : cmpQ lo hi ≠ 0 → PureC Tryz.prog 78 [rat lo, rat hi] (rat (betweenQ 100 lo hi))) :
    PureC Tryz.prog 28 [.sl (some false) (some 2) 8 ([ndQ 1 lo, ndQ 2 hi].map nodeA), idA nid, i64 1] (rat (keyQ lo hi)) := by
  have := c28 (some false) (some 2) nid [ndQ 1 lo, ndQ 2 hi] (by simp) (fun x hx => by
    simp only [List.mem_cons, List.not_mem_nil, or_false] at hx
    rcases hx with rfl | rfl
    · exact ndQ_short 1 sl
    · exact ndQ_short 2 sh) (Nat.lt_of_le_of_lt (List.length_filter_le _ _) (by simp)) 0 (ndQ 1 lo) (ndQ 2 hi) lo hi 100 (by rw [ndQ_sibs h]; rfl) (by rw [ndQ_sibs h]; rfl) rfl rfl sl sh h78
  exact this

abbrev st8k (lo hi key : Rat) : St := ⟨[(9, .ptr 0 0 0 0), (11, .ptr 1 0 0 0), (14, .ptr 2 0 0 0)], [bx lo, bx hi, bx key]⟩

/-- The key is asked for. -/
theorem mid8 {lo hi : Rat} (sl : Sm lo) (sh : Sm hi) (h : lo ≤ hi) (h78 : cmpQ lo hi ≠ 0 → PureC Tryz.prog 78 [rat lo, rat hi] (rat (betweenQ 100 lo hi)))
    (hrest : VC Tryz.prog (fi 8 Tryz.f8) [1, 1, 1, 1, 1, 1] (st8k lo hi (keyQ lo hi)) (Gives (.val (.bool true)))) :
    VC Tryz.prog (fi 8 Tryz.f8) [1, 1, 1, 1] ⟨[(9, .ptr 0 0 0 0), (11, .ptr 1 0 0 0)], [bx lo, bx hi]⟩ (Gives (.val (.bool true))) := by
  have hk := key28 sl sh h h78
  refine vc_at s8 [[1, 1, 1, 1, 1, 1]] 100 ?_
  repeat' first
    | apply And.intro
    | exact (fun h => Bool.noConfusion h)
    | (refine chkI ?_; kernel_rfl)
    | (refine chkBI ?_; kernel_rfl)
    | exact (fun _ => True.intro)
    | exact True.intro
    | exact (fun h => h)
    | exact rfl
    | decide
    | exact (fun _ => by decide)
    | exact (show (_ : Int) ≠ _ by decide)
    | fail
  refine Exists.intro _ (And.intro (c32 1) ?_)
  repeat' first
    | apply And.intro
    | exact (fun h => Bool.noConfusion h)
    | (refine chkI ?_; kernel_rfl)
    | (refine chkBI ?_; kernel_rfl)
    | exact (fun _ => True.intro)
    | exact True.intro
    | exact (fun h => h)
    | exact rfl
    | decide
    | exact (fun _ => by decide)
    | exact (show (_ : Int) ≠ _ by decide)
    | fail
  refine Exists.intro _ (And.intro (c32 2) ?_)
  repeat' first
    | apply And.intro
    | exact (fun h => Bool.noConfusion h)
    | (refine chkI ?_; kernel_rfl)
    | (refine chkBI ?_; kernel_rfl)
    | exact (fun _ => True.intro)
    | exact True.intro
    | exact (fun h => h)
    | exact rfl
    | decide
    | exact (fun _ => by decide)
    | exact (show (_ : Int) ≠ _ by decide)
    | fail
  refine Exists.intro _ (And.intro (pc (hk) ?_) ?_)
  · rfl
  repeat' first
    | apply And.intro
    | exact (fun h => Bool.noConfusion h)
    | (refine chkI ?_; kernel_rfl)
    | (refine chkBI ?_; kernel_rfl)
    | exact (fun _ => True.intro)
    | exact True.intro
    | exact (fun h => h)
    | exact rfl
    | decide
    | exact (fun _ => by decide)
    | exact (show (_ : Int) ≠ _ by decide)
    | fail
  refine VC.gc [0, 1, 2] [9, 11, 14] rfl rfl ?_
  exact hrest

theorem endA (lo : Rat) : VC Tryz.prog (fi 8 Tryz.f8) [1, 1, 1, 1, 1, 1] (st8k lo lo lo) (Gives (.val (.bool true))) := by
  refine vc_at s8 [] 100 ?_
  repeat' first
    | apply And.intro
    | exact (fun h => Bool.noConfusion h)
    | (refine chkI ?_; kernel_rfl)
    | (refine chkBI ?_; kernel_rfl)
    | exact (fun _ => True.intro)
    | exact True.intro
    | exact (fun h => h)
    | exact rfl
    | decide
    | exact (fun _ => by decide)
    | exact (show (_ : Int) ≠ _ by decide)
    | fail
  rw [rat_beq, show decide (lo = lo) = true by simp]
  repeat' first
    | apply And.intro
    | exact (fun h => Bool.noConfusion h)
    | (refine chkI ?_; kernel_rfl)
    | (refine chkBI ?_; kernel_rfl)
    | exact (fun _ => True.intro)
    | exact True.intro
    | exact (fun h => h)
    | exact rfl
    | decide
    | exact (fun _ => by decide)
    | exact (show (_ : Int) ≠ _ by decide)
    | fail
  refine Exists.intro _ (And.intro (fun _ => c16) ?_)
  repeat' first
    | apply And.intro
    | exact (fun h => Bool.noConfusion h)
    | (refine chkI ?_; kernel_rfl)
    | (refine chkBI ?_; kernel_rfl)
    | exact (fun _ => True.intro)
    | exact True.intro
    | exact (fun h => h)
    | exact rfl
    | decide
    | exact (fun _ => by decide)
    | exact (show (_ : Int) ≠ _ by decide)
    | fail
  rw [rat_beq, show (decide (lo = lo) && true) = true by simp]
  rfl

theorem endB1 {lo hi : Rat} (sl : Sm lo) (sh : Sm hi) (h1 : lo < 0) (h2 : 0 < hi) : VC Tryz.prog (fi 8 Tryz.f8) [1, 1, 1, 1, 1, 1] (st8k lo hi 0) (Gives (.val (.bool true))) := by
  have m1 := q30 sl sm_zero
  have m2 := q30 sm_zero sh
  have a1 : cmpQ lo 0 < 0 := (cmpQ_neg _ _).2 h1
  have a2 : cmpQ 0 hi < 0 := (cmpQ_neg _ _).2 h2
  have a3 := (sgn_neg lo).2 h1
  have a4 := (sgn_pos hi).2 h2
  refine vc_at s8 [] 100 ?_
  repeat' first
    | apply And.intro
    | exact (fun h => Bool.noConfusion h)
    | (refine chkI ?_; kernel_rfl)
    | (refine chkBI ?_; kernel_rfl)
    | exact (fun _ => True.intro)
    | exact True.intro
    | exact (fun h => h)
    | exact rfl
    | decide
    | exact (fun _ => by decide)
    | exact (show (_ : Int) ≠ _ by decide)
    | fail
  rw [rat_beq, show decide (lo = hi) = false from decide_eq_false fun h => by rw [h] at h1; exact absurd (Rat.le_of_lt h1) (Rat.not_le.2 h2)]
  repeat' first
    | apply And.intro
    | exact (fun h => Bool.noConfusion h)
    | (refine chkI ?_; kernel_rfl)
    | (refine chkBI ?_; kernel_rfl)
    | exact (fun _ => True.intro)
    | exact True.intro
    | exact (fun h => h)
    | exact rfl
    | decide
    | exact (fun _ => by decide)
    | exact (show (_ : Int) ≠ _ by decide)
    | fail
  refine Exists.intro _ (And.intro (m1) ?_)
  repeat' first
    | apply And.intro
    | exact (fun h => Bool.noConfusion h)
    | (refine chkI ?_; kernel_rfl)
    | (refine chkBI ?_; kernel_rfl)
    | exact (fun _ => True.intro)
    | exact True.intro
    | exact (fun h => h)
    | exact rfl
    | decide
    | exact (fun _ => by decide)
    | exact (show (_ : Int) ≠ _ by decide)
    | fail
  refine Exists.intro _ (And.intro (fun _ => m2) ?_)
  repeat' first
    | apply And.intro
    | exact (fun h => Bool.noConfusion h)
    | (refine chkI ?_; kernel_rfl)
    | (refine chkBI ?_; kernel_rfl)
    | exact (fun _ => True.intro)
    | exact True.intro
    | exact (fun h => h)
    | exact rfl
    | decide
    | exact (fun _ => by decide)
    | exact (show (_ : Int) ≠ _ by decide)
    | fail
  rw [show (decide (cmpQ lo 0 ≥ 0) || decide (cmpQ 0 hi ≥ 0)) = false by simp; omega]
  repeat' first
    | apply And.intro
    | exact (fun h => Bool.noConfusion h)
    | (refine chkI ?_; kernel_rfl)
    | (refine chkBI ?_; kernel_rfl)
    | exact (fun _ => True.intro)
    | exact True.intro
    | exact (fun h => h)
    | exact rfl
    | decide
    | exact (fun _ => by decide)
    | exact (show (_ : Int) ≠ _ by decide)
    | fail
  refine Exists.intro _ (And.intro (q35 sl) ?_)
  repeat' first
    | apply And.intro
    | exact (fun h => Bool.noConfusion h)
    | (refine chkI ?_; kernel_rfl)
    | (refine chkBI ?_; kernel_rfl)
    | exact (fun _ => True.intro)
    | exact True.intro
    | exact (fun h => h)
    | exact rfl
    | decide
    | exact (fun _ => by decide)
    | exact (show (_ : Int) ≠ _ by decide)
    | fail
  refine Exists.intro _ (And.intro (fun _ => q35 sh) ?_)
  repeat' first
    | apply And.intro
    | exact (fun h => Bool.noConfusion h)
    | (refine chkI ?_; kernel_rfl)
    | (refine chkBI ?_; kernel_rfl)
    | exact (fun _ => True.intro)
    | exact True.intro
    | exact (fun h => h)
    | exact rfl
    | decide
    | exact (fun _ => by decide)
    | exact (show (_ : Int) ≠ _ by decide)
    | fail
  rw [show (decide (lo.num.sign < 0) && decide (hi.num.sign > 0)) = true by simp only [Bool.and_eq_true, decide_eq_true_eq]; exact ⟨a3, a4⟩]
  repeat' first
    | apply And.intro
    | exact (fun h => Bool.noConfusion h)
    | (refine chkI ?_; kernel_rfl)
    | (refine chkBI ?_; kernel_rfl)
    | exact (fun _ => True.intro)
    | exact True.intro
    | exact (fun h => h)
    | exact rfl
    | decide
    | exact (fun _ => by decide)
    | exact (show (_ : Int) ≠ _ by decide)
    | fail
  refine Exists.intro _ (And.intro (c34 0 (by decide) (by decide)) ?_)
  repeat' first
    | apply And.intro
    | exact (fun h => Bool.noConfusion h)
    | (refine chkI ?_; kernel_rfl)
    | (refine chkBI ?_; kernel_rfl)
    | exact (fun _ => True.intro)
    | exact True.intro
    | exact (fun h => h)
    | exact rfl
    | decide
    | exact (fun _ => by decide)
    | exact (show (_ : Int) ≠ _ by decide)
    | fail
  refine Exists.intro _ (And.intro (fun _ => c16) ?_)
  repeat' first
    | apply And.intro
    | exact (fun h => Bool.noConfusion h)
    | (refine chkI ?_; kernel_rfl)
    | (refine chkBI ?_; kernel_rfl)
    | exact (fun _ => True.intro)
    | exact True.intro
    | exact (fun h => h)
    | exact rfl
    | decide
    | exact (fun _ => by decide)
    | exact (show (_ : Int) ≠ _ by decide)
    | fail
  all_goals rw [rat_beq, show (decide ((0 : Rat) = ((0 : Int) : Rat)) && true) = true by decide]

theorem fr_nonneg (n d : Nat) : ¬ fr n d < 0 := by
  by_cases hd : 0 < d
  · rw [show (0 : Rat) = fr 0 1 from (by rw [fr_one]; rfl), fr_lt hd (by omega)]
    omega
  · have : d = 0 := by omega
    subst this
    have : fr n 0 = 0 := by
      unfold fr
      rw [Rat.div_def, show ((0 : Nat) : Rat) = 0 from rfl, Rat.inv_zero, Rat.mul_zero]
    rw [this]
    exact Rat.lt_irrefl

/-- Both places at zero or above. -/
theorem endB3 {n1 d1 n2 d2 p q : Nat} (hs : Sbt n1 d1 n2 d2 p q) (b1 : n1 ≤ 40) (b2 : d1 ≤ 40) (b3 : n2 ≤ 40) (b4 : d2 ≤ 40) (hd1 : 0 < d1) (hd2 : 0 < d2) (bp : p ≤ 80) (bq : q ≤ 80) (h : fr n1 d1 < fr n2 d2) :
    VC Tryz.prog (fi 8 Tryz.f8) [1, 1, 1, 1, 1, 1] (st8k (fr n1 d1) (fr n2 d2) (fr p q)) (Gives (.val (.bool true))) := by
  have s1 : Sm (fr n1 d1) := sm_fr (by omega) (by omega)
  have s2 : Sm (fr n2 d2) := sm_fr (by omega) (by omega)
  have s3 : Sm (fr p q) := sm_fr (by omega) (by omega)
  have hq := hs.q0
  have m1 := q30 s1 s3
  have m2 := q30 s3 s2
  have a1 : cmpQ (fr n1 d1) (fr p q) < 0 := (cmpQ_neg _ _).2 ((fr_lt hd1 hq).2 hs.lo)
  have a2 : cmpQ (fr p q) (fr n2 d2) < 0 := (cmpQ_neg _ _).2 ((fr_lt hq hd2).2 hs.hi)
  have a3 : ¬ (fr n1 d1).num.sign < 0 := fun h => fr_nonneg _ _ ((sgn_neg _).1 h)
  have h2 : 0 < fr n2 d2 := by have h0 := Rat.not_lt.1 (fr_nonneg n1 d1); grind
  have a4 : 0 < (fr n2 d2).num.sign := (sgn_pos _).2 h2
  have e := tail8 n1 d1 n2 d2 p q hs b1 b2 b3 b4 hd1 hd2 bp bq
  refine vc_at s8 [[1, 1, 1, 1, 1, 1, 1, 1, 1, 1]] 100 ?_
  repeat' first
    | apply And.intro
    | exact (fun h => Bool.noConfusion h)
    | (refine chkI ?_; kernel_rfl)
    | (refine chkBI ?_; kernel_rfl)
    | exact (fun _ => True.intro)
    | exact True.intro
    | exact (fun h => h)
    | exact rfl
    | decide
    | exact (fun _ => by decide)
    | exact (show (_ : Int) ≠ _ by decide)
    | fail
  rw [rat_beq, show decide (fr n1 d1 = fr n2 d2) = false from decide_eq_false fun h0 => by rw [h0] at h; exact Rat.lt_irrefl h]
  repeat' first
    | apply And.intro
    | exact (fun h => Bool.noConfusion h)
    | (refine chkI ?_; kernel_rfl)
    | (refine chkBI ?_; kernel_rfl)
    | exact (fun _ => True.intro)
    | exact True.intro
    | exact (fun h => h)
    | exact rfl
    | decide
    | exact (fun _ => by decide)
    | exact (show (_ : Int) ≠ _ by decide)
    | fail
  refine Exists.intro _ (And.intro (m1) ?_)
  repeat' first
    | apply And.intro
    | exact (fun h => Bool.noConfusion h)
    | (refine chkI ?_; kernel_rfl)
    | (refine chkBI ?_; kernel_rfl)
    | exact (fun _ => True.intro)
    | exact True.intro
    | exact (fun h => h)
    | exact rfl
    | decide
    | exact (fun _ => by decide)
    | exact (show (_ : Int) ≠ _ by decide)
    | fail
  refine Exists.intro _ (And.intro (fun _ => m2) ?_)
  repeat' first
    | apply And.intro
    | exact (fun h => Bool.noConfusion h)
    | (refine chkI ?_; kernel_rfl)
    | (refine chkBI ?_; kernel_rfl)
    | exact (fun _ => True.intro)
    | exact True.intro
    | exact (fun h => h)
    | exact rfl
    | decide
    | exact (fun _ => by decide)
    | exact (show (_ : Int) ≠ _ by decide)
    | fail
  rw [show (decide (cmpQ (fr n1 d1) (fr p q) ≥ 0) || decide (cmpQ (fr p q) (fr n2 d2) ≥ 0)) = false by simp; omega]
  repeat' first
    | apply And.intro
    | exact (fun h => Bool.noConfusion h)
    | (refine chkI ?_; kernel_rfl)
    | (refine chkBI ?_; kernel_rfl)
    | exact (fun _ => True.intro)
    | exact True.intro
    | exact (fun h => h)
    | exact rfl
    | decide
    | exact (fun _ => by decide)
    | exact (show (_ : Int) ≠ _ by decide)
    | fail
  refine Exists.intro _ (And.intro (q35 s1) ?_)
  repeat' first
    | apply And.intro
    | exact (fun h => Bool.noConfusion h)
    | (refine chkI ?_; kernel_rfl)
    | (refine chkBI ?_; kernel_rfl)
    | exact (fun _ => True.intro)
    | exact True.intro
    | exact (fun h => h)
    | exact rfl
    | decide
    | exact (fun _ => by decide)
    | exact (show (_ : Int) ≠ _ by decide)
    | fail
  refine Exists.intro _ (And.intro (fun _ => q35 s2) ?_)
  repeat' first
    | apply And.intro
    | exact (fun h => Bool.noConfusion h)
    | (refine chkI ?_; kernel_rfl)
    | (refine chkBI ?_; kernel_rfl)
    | exact (fun _ => True.intro)
    | exact True.intro
    | exact (fun h => h)
    | exact rfl
    | decide
    | exact (fun _ => by decide)
    | exact (show (_ : Int) ≠ _ by decide)
    | fail
  rw [show (decide ((fr n1 d1).num.sign < 0) && decide ((fr n2 d2).num.sign > 0)) = false by rw [decide_eq_false a3]; rfl]
  repeat' first
    | apply And.intro
    | exact (fun h => Bool.noConfusion h)
    | (refine chkI ?_; kernel_rfl)
    | (refine chkBI ?_; kernel_rfl)
    | exact (fun _ => True.intro)
    | exact True.intro
    | exact (fun h => h)
    | exact rfl
    | decide
    | exact (fun _ => by decide)
    | exact (show (_ : Int) ≠ _ by decide)
    | fail
  refine Exists.intro _ (And.intro (q35 s2) ?_)
  repeat' first
    | apply And.intro
    | exact (fun h => Bool.noConfusion h)
    | (refine chkI ?_; kernel_rfl)
    | (refine chkBI ?_; kernel_rfl)
    | exact (fun _ => True.intro)
    | exact True.intro
    | exact (fun h => h)
    | exact rfl
    | decide
    | exact (fun _ => by decide)
    | exact (show (_ : Int) ≠ _ by decide)
    | fail
  rw [show decide ((fr n2 d2).num.sign ≤ 0) = false from decide_eq_false (by omega)]
  repeat' first
    | apply And.intro
    | exact (fun h => Bool.noConfusion h)
    | (refine chkI ?_; kernel_rfl)
    | (refine chkBI ?_; kernel_rfl)
    | exact (fun _ => True.intro)
    | exact True.intro
    | exact (fun h => h)
    | exact rfl
    | decide
    | exact (fun _ => by decide)
    | exact (show (_ : Int) ≠ _ by decide)
    | fail
  refine VC.gc [0, 1, 2] [9, 11, 14] rfl rfl ?_
  exact e

/-- Both places at zero or below. -/
theorem endB2 {n1 d1 n2 d2 p q : Nat} (hs : Sbt n1 d1 n2 d2 p q) (b1 : n1 ≤ 40) (b2 : d1 ≤ 40) (b3 : n2 ≤ 40) (b4 : d2 ≤ 40) (hd1 : 0 < d1) (hd2 : 0 < d2) (bp : p ≤ 80) (bq : q ≤ 80) (h : fr n1 d1 < fr n2 d2) :
    VC Tryz.prog (fi 8 Tryz.f8) [1, 1, 1, 1, 1, 1] (st8k (-fr n2 d2) (-fr n1 d1) (-fr p q)) (Gives (.val (.bool true))) := by
  have sn : ∀ {q : Rat}, Sm q → Sm (-q) := fun h => ⟨by rw [Rat.neg_num, Int.natAbs_neg]; exact h.n, h.d⟩
  have s1 : Sm (-fr n1 d1) := sn (sm_fr (by omega) (by omega))
  have s2 : Sm (-fr n2 d2) := sn (sm_fr (by omega) (by omega))
  have s3 : Sm (-fr p q) := sn (sm_fr (by omega) (by omega))
  have hq := hs.q0
  have m1 := q30 s2 s3
  have m2 := q30 s3 s1
  have ng : ∀ {a b : Rat}, a < b → -b < -a := fun h => by grind
  have a1 : cmpQ (-fr n2 d2) (-fr p q) < 0 := (cmpQ_neg _ _).2 (ng ((fr_lt hq hd2).2 hs.hi))
  have a2 : cmpQ (-fr p q) (-fr n1 d1) < 0 := (cmpQ_neg _ _).2 (ng ((fr_lt hd1 hq).2 hs.lo))
  have a3 : ¬ 0 < (-fr n1 d1).num.sign := fun h => by
    have := (sgn_pos _).1 h
    exact fr_nonneg n1 d1 (by grind)
  have f1 := q36 s1
  have f2 := q36 s2
  have f3 := q36 s3
  rw [Rat.neg_neg] at f1 f2 f3
  have e := tail8 n1 d1 n2 d2 p q hs b1 b2 b3 b4 hd1 hd2 bp bq
  refine vc_at s8 [[1, 1, 1, 1, 1, 1, 1, 1, 1, 1]] 100 ?_
  repeat' first
    | apply And.intro
    | exact (fun h => Bool.noConfusion h)
    | (refine chkI ?_; kernel_rfl)
    | (refine chkBI ?_; kernel_rfl)
    | exact (fun _ => True.intro)
    | exact True.intro
    | exact (fun h => h)
    | exact rfl
    | decide
    | exact (fun _ => by decide)
    | exact (show (_ : Int) ≠ _ by decide)
    | fail
  rw [rat_beq, show decide (-fr n2 d2 = -fr n1 d1) = false from decide_eq_false fun h0 => by have := ng h; rw [h0] at this; exact Rat.lt_irrefl this]
  repeat' first
    | apply And.intro
    | exact (fun h => Bool.noConfusion h)
    | (refine chkI ?_; kernel_rfl)
    | (refine chkBI ?_; kernel_rfl)
    | exact (fun _ => True.intro)
    | exact True.intro
    | exact (fun h => h)
    | exact rfl
    | decide
    | exact (fun _ => by decide)
    | exact (show (_ : Int) ≠ _ by decide)
    | fail
  refine Exists.intro _ (And.intro (m1) ?_)
  repeat' first
    | apply And.intro
    | exact (fun h => Bool.noConfusion h)
    | (refine chkI ?_; kernel_rfl)
    | (refine chkBI ?_; kernel_rfl)
    | exact (fun _ => True.intro)
    | exact True.intro
    | exact (fun h => h)
    | exact rfl
    | decide
    | exact (fun _ => by decide)
    | exact (show (_ : Int) ≠ _ by decide)
    | fail
  refine Exists.intro _ (And.intro (fun _ => m2) ?_)
  repeat' first
    | apply And.intro
    | exact (fun h => Bool.noConfusion h)
    | (refine chkI ?_; kernel_rfl)
    | (refine chkBI ?_; kernel_rfl)
    | exact (fun _ => True.intro)
    | exact True.intro
    | exact (fun h => h)
    | exact rfl
    | decide
    | exact (fun _ => by decide)
    | exact (show (_ : Int) ≠ _ by decide)
    | fail
  rw [show (decide (cmpQ (-fr n2 d2) (-fr p q) ≥ 0) || decide (cmpQ (-fr p q) (-fr n1 d1) ≥ 0)) = false by simp; omega]
  repeat' first
    | apply And.intro
    | exact (fun h => Bool.noConfusion h)
    | (refine chkI ?_; kernel_rfl)
    | (refine chkBI ?_; kernel_rfl)
    | exact (fun _ => True.intro)
    | exact True.intro
    | exact (fun h => h)
    | exact rfl
    | decide
    | exact (fun _ => by decide)
    | exact (show (_ : Int) ≠ _ by decide)
    | fail
  refine Exists.intro _ (And.intro (q35 s2) ?_)
  repeat' first
    | apply And.intro
    | exact (fun h => Bool.noConfusion h)
    | (refine chkI ?_; kernel_rfl)
    | (refine chkBI ?_; kernel_rfl)
    | exact (fun _ => True.intro)
    | exact True.intro
    | exact (fun h => h)
    | exact rfl
    | decide
    | exact (fun _ => by decide)
    | exact (show (_ : Int) ≠ _ by decide)
    | fail
  refine Exists.intro _ (And.intro (fun _ => q35 s1) ?_)
  repeat' first
    | apply And.intro
    | exact (fun h => Bool.noConfusion h)
    | (refine chkI ?_; kernel_rfl)
    | (refine chkBI ?_; kernel_rfl)
    | exact (fun _ => True.intro)
    | exact True.intro
    | exact (fun h => h)
    | exact rfl
    | decide
    | exact (fun _ => by decide)
    | exact (show (_ : Int) ≠ _ by decide)
    | fail
  rw [show (decide ((-fr n2 d2).num.sign < 0) && decide ((-fr n1 d1).num.sign > 0)) = false by rw [show decide ((-fr n1 d1).num.sign > 0) = false from decide_eq_false a3, Bool.and_false]]
  repeat' first
    | apply And.intro
    | exact (fun h => Bool.noConfusion h)
    | (refine chkI ?_; kernel_rfl)
    | (refine chkBI ?_; kernel_rfl)
    | exact (fun _ => True.intro)
    | exact True.intro
    | exact (fun h => h)
    | exact rfl
    | decide
    | exact (fun _ => by decide)
    | exact (show (_ : Int) ≠ _ by decide)
    | fail
  refine Exists.intro _ (And.intro (q35 s1) ?_)
  repeat' first
    | apply And.intro
    | exact (fun h => Bool.noConfusion h)
    | (refine chkI ?_; kernel_rfl)
    | (refine chkBI ?_; kernel_rfl)
    | exact (fun _ => True.intro)
    | exact True.intro
    | exact (fun h => h)
    | exact rfl
    | decide
    | exact (fun _ => by decide)
    | exact (show (_ : Int) ≠ _ by decide)
    | fail
  rw [show decide ((-fr n1 d1).num.sign ≤ 0) = true from decide_eq_true (by omega)]
  repeat' first
    | apply And.intro
    | exact (fun h => Bool.noConfusion h)
    | (refine chkI ?_; kernel_rfl)
    | (refine chkBI ?_; kernel_rfl)
    | exact (fun _ => True.intro)
    | exact True.intro
    | exact (fun h => h)
    | exact rfl
    | decide
    | exact (fun _ => by decide)
    | exact (show (_ : Int) ≠ _ by decide)
    | fail
  refine Exists.intro _ (And.intro (f1) ?_)
  repeat' first
    | apply And.intro
    | exact (fun h => Bool.noConfusion h)
    | (refine chkI ?_; kernel_rfl)
    | (refine chkBI ?_; kernel_rfl)
    | exact (fun _ => True.intro)
    | exact True.intro
    | exact (fun h => h)
    | exact rfl
    | decide
    | exact (fun _ => by decide)
    | exact (show (_ : Int) ≠ _ by decide)
    | fail
  refine Exists.intro _ (And.intro (f2) ?_)
  repeat' first
    | apply And.intro
    | exact (fun h => Bool.noConfusion h)
    | (refine chkI ?_; kernel_rfl)
    | (refine chkBI ?_; kernel_rfl)
    | exact (fun _ => True.intro)
    | exact True.intro
    | exact (fun h => h)
    | exact rfl
    | decide
    | exact (fun _ => by decide)
    | exact (show (_ : Int) ≠ _ by decide)
    | fail
  refine Exists.intro _ (And.intro (f3) ?_)
  repeat' first
    | apply And.intro
    | exact (fun h => Bool.noConfusion h)
    | (refine chkI ?_; kernel_rfl)
    | (refine chkBI ?_; kernel_rfl)
    | exact (fun _ => True.intro)
    | exact True.intro
    | exact (fun h => h)
    | exact rfl
    | decide
    | exact (fun _ => by decide)
    | exact (show (_ : Int) ≠ _ by decide)
    | fail
  refine VC.gc [0, 1, 2] [9, 11, 14] rfl rfl ?_
  exact e

end Vm
end Go.Proofs.YtdbpcmpkpbamhaaGreatDoor

/- Walks: the law of the simplest fraction, the whole. -/
namespace Go.Proofs.YtdbpcmpkpbamhaaGreatDoor
set_option linter.unusedVariables false
set_option linter.unusedSimpArgs false
set_option linter.unusedSectionVars false
set_option maxRecDepth 100000
namespace Vm
open Go

/-- A place that the law tries. -/
def Pt (x : Rat) : Prop := ∃ n d, n ≤ 40 ∧ 0 < d ∧ d ≤ 40 ∧ (x = fr n d ∨ x = -fr n d)
theorem sm_neg {q : Rat} (h : Sm q) : Sm (-q) := ⟨by rw [Rat.neg_num, Int.natAbs_neg]; exact h.n, h.d⟩
theorem Pt.sm {x : Rat} (h : Pt x) : Sm x := by
  obtain ⟨n, d, h1, h2, h3, rfl | rfl⟩ := h
  · exact sm_fr (by omega) (by omega)
  · exact sm_neg (sm_fr (by omega) (by omega))
theorem Pt.pos {x : Rat} (h : Pt x) (h0 : ¬ x < 0) : ∃ n d, n ≤ 40 ∧ 0 < d ∧ d ≤ 40 ∧ x = fr n d := by
  obtain ⟨n, d, h1, h2, h3, rfl | rfl⟩ := h
  · exact ⟨n, d, h1, h2, h3, rfl⟩
  · have := fr_nonneg n d
    refine ⟨0, 1, by omega, by omega, by omega, ?_⟩
    rw [fr_one]
    have e : fr n d = 0 := by grind
    rw [e]
    rfl
theorem Pt.neg {x : Rat} (h : Pt x) (h0 : ¬ 0 < x) : ∃ n d, n ≤ 40 ∧ 0 < d ∧ d ≤ 40 ∧ x = -fr n d := by
  obtain ⟨n, d, h1, h2, h3, rfl | rfl⟩ := h
  · have := fr_nonneg n d
    refine ⟨0, 1, by omega, by omega, by omega, ?_⟩
    rw [fr_one]
    have e : fr n d = 0 := by grind
    rw [e]
    rfl
  · exact ⟨n, d, h1, h2, h3, rfl⟩

theorem final8 {lo hi : Rat} (pl : Pt lo) (ph : Pt hi) (h : lo ≤ hi) :
    VC Tryz.prog (fi 8 Tryz.f8) [1, 1, 1, 1] ⟨[(9, .ptr 0 0 0 0), (11, .ptr 1 0 0 0)], [bx lo, bx hi]⟩ (Gives (.val (.bool true))) := by
  have sl := pl.sm
  have sh := ph.sm
  by_cases he : lo = hi
  · subst he
    have h0 : cmpQ lo lo = 0 := (cmpQ_zero _ _).2 rfl
    refine mid8 sl sh h (fun hn => absurd h0 hn) ?_
    unfold keyQ
    rw [if_pos h0]
    exact endA lo
  have hlt : lo < hi := by grind
  have hc : ¬ cmpQ lo hi = 0 := fun h0 => he ((cmpQ_zero _ _).1 h0)
  have hkey : keyQ lo hi = betweenQ 100 lo hi := if_neg hc
  by_cases hl : lo < 0
  · by_cases hh : 0 < hi
    · have hb : (decide (lo.num.sign < 0) && decide (hi.num.sign > 0)) = true := by
        simp only [Bool.and_eq_true, decide_eq_true_eq]
        exact ⟨(sgn_neg _).2 hl, (sgn_pos _).2 hh⟩
      refine mid8 sl sh h (fun _ => c78 100 sl sh (fun h0 => by rw [hb] at h0; cases h0) (fun h0 => by rw [hb] at h0; cases h0)) ?_
      rw [hkey]
      unfold betweenQ
      rw [if_pos hb]
      exact endB1 sl sh hl hh
    · obtain ⟨n2, d2, c1, c2, c3, rfl⟩ := pl.neg (by grind)
      obtain ⟨n1, d1, g1, g2, g3, rfl⟩ := ph.neg hh
      have hlt' : fr n1 d1 < fr n2 d2 := by grind
      have hx := (fr_lt g2 c2).1 hlt'
      have hs := sbt_ok 100 n1 d1 n2 d2 (by omega) g2 hx
      have hle := hs.le hx
      obtain ⟨e1, e2⟩ := simplest_fr 100 n1 d1 n2 d2 (by omega) g2 hx (by omega) (by omega) (by omega) (by omega)
      rw [decide_eq_true (by omega : d2 ≠ 0)] at e1 e2
      have hneg : ¬ 0 < (-fr n1 d1).num.sign := fun h0 => hh ((sgn_pos _).1 h0)
      have hb : (decide ((-fr n2 d2).num.sign < 0) && decide ((-fr n1 d1).num.sign > 0)) = false := by
        rw [show decide ((-fr n1 d1).num.sign > 0) = false from decide_eq_false hneg, Bool.and_false]
      refine mid8 sl sh h (fun _ => c78 100 sl sh (fun _ _ => ?_) (fun _ h0 => absurd h0 (by omega))) ?_
      · rw [Rat.neg_neg, Rat.neg_neg, e1]
        exact ⟨e2, sm_fr (by omega) (by omega)⟩
      · rw [hkey]
        unfold betweenQ
        rw [if_neg (by rw [hb]; simp), if_pos (decide_eq_true (by omega)), Rat.neg_neg, Rat.neg_neg, e1]
        exact endB2 hs g1 g3 c1 c3 g2 c2 (by omega) (by omega) hlt'
  · obtain ⟨n1, d1, g1, g2, g3, rfl⟩ := pl.pos hl
    obtain ⟨n2, d2, c1, c2, c3, rfl⟩ := ph.pos (by grind)
    have hx := (fr_lt g2 c2).1 hlt
    have hs := sbt_ok 100 n1 d1 n2 d2 (by omega) g2 hx
    have hle := hs.le hx
    obtain ⟨e1, e2⟩ := simplest_fr 100 n1 d1 n2 d2 (by omega) g2 hx (by omega) (by omega) (by omega) (by omega)
    rw [decide_eq_true (by omega : d2 ≠ 0)] at e1 e2
    have hpos : 0 < (fr n2 d2).num.sign := (sgn_pos _).2 (by grind)
    have hn : ¬ (fr n1 d1).num.sign < 0 := fun h0 => hl ((sgn_neg _).1 h0)
    have hb : (decide ((fr n1 d1).num.sign < 0) && decide ((fr n2 d2).num.sign > 0)) = false := by
      rw [show decide ((fr n1 d1).num.sign < 0) = false from decide_eq_false hn, Bool.false_and]
    refine mid8 sl sh h (fun _ => c78 100 sl sh (fun _ h0 => absurd h0 (by omega)) (fun _ _ => e2)) ?_
    rw [hkey]
    unfold betweenQ
    rw [if_neg (by rw [hb]; simp), if_neg (by rw [decide_eq_false (by omega)]; simp), e1]
    exact endB3 hs g1 g3 c1 c3 g2 c2 (by omega) (by omega) hlt

theorem pt_div (a b : Int) (h1 : -40 ≤ a) (h2 : a ≤ 40) (h3 : 1 ≤ b) (h4 : b ≤ 40) : Pt ((a : Rat) / (b : Rat)) := by
  obtain ⟨d, rfl⟩ : ∃ d : Nat, b = d := ⟨b.toNat, by omega⟩
  refine ⟨a.natAbs, d, by omega, by omega, by omega, ?_⟩
  by_cases h : 0 ≤ a
  · left
    rw [fr_divInt, Rat.divInt_eq_div, show ((a.natAbs : Nat) : Int) = a by omega]
  · right
    rw [fr_divInt, Rat.divInt_eq_div, show ((a.natAbs : Nat) : Int) = -a by omega, Rat.intCast_neg, Rat.div_def, Rat.div_def, Rat.neg_mul, Rat.neg_neg]

/-- voussoirlaw41.MovetreeSimplestFraction -/
theorem c8 (x0 x1 : Int) (y0 y1 : Int) (a1 : -128 ≤ x0) (a2 : x0 ≤ 127) (a3 : -128 ≤ x1) (a4 : x1 ≤ 127) (b1 : 0 ≤ y0) (b2 : y0 ≤ 255) (b3 : 0 ≤ y1) (b4 : y1 ≤ 255) :
    PureC Tryz.prog 8 [i8 x0, i8 x1, .val (.int .u8 y0), .val (.int .u8 y1)] (.val (.bool true)) := by
  have t1 := Int.tmod_lt_of_pos x0 (show (0 : Int) < 41 by decide)
  have t2 := Int.lt_tmod_of_pos x0 (show (0 : Int) < 41 by decide)
  have t3 := Int.tmod_lt_of_pos x1 (show (0 : Int) < 41 by decide)
  have t4 := Int.lt_tmod_of_pos x1 (show (0 : Int) < 41 by decide)
  have u1 := Int.tmod_lt_of_pos y0 (show (0 : Int) < 40 by decide)
  have u2 := Int.tmod_nonneg 40 b1
  have u3 := Int.tmod_lt_of_pos y1 (show (0 : Int) < 40 by decide)
  have u4 := Int.tmod_nonneg 40 b3
  have si : ∀ z : Int, -4096 ≤ z → z ≤ 4096 → Sm (z : Rat) := fun z h1 h2 => ⟨by rw [Rat.num_intCast]; omega, by rw [Rat.den_intCast]; decide⟩
  have ne : ∀ z : Int, 0 < z → (z : Rat) ≠ 0 := fun z h h0 => by have := Rat.intCast_eq_zero_iff.1 h0; omega
  have v1 := q33 (si (x0.tmod 41) (by omega) (by omega)) (si (y0.tmod 40 + 1) (by omega) (by omega)) (ne _ (by omega))
  have v2 := q33 (si (x1.tmod 41) (by omega) (by omega)) (si (y1.tmod 40 + 1) (by omega) (by omega)) (ne _ (by omega))
  have p1 := pt_div (x0.tmod 41) (y0.tmod 40 + 1) (by omega) (by omega) (by omega) (by omega)
  have p2 := pt_div (x1.tmod 41) (y1.tmod 40 + 1) (by omega) (by omega) (by omega) (by omega)
  have v3 := q30 p1.sm p2.sm
  generalize ((x0.tmod 41 : Int) : Rat) / ((y0.tmod 40 + 1 : Int) : Rat) = lo at *
  generalize ((x1.tmod 41 : Int) : Rat) / ((y1.tmod 40 + 1 : Int) : Rat) = hi at *
  refine pureC_of_vc s8 rfl (Nat.le_of_ble_eq_true rfl) rfl ?_
  refine vc_at s8 [[1, 1, 1, 1]] 100 ?_
  repeat' first
    | apply And.intro
    | exact (fun h => Bool.noConfusion h)
    | (refine chkI ?_; kernel_rfl)
    | (refine chkBI ?_; kernel_rfl)
    | exact (fun _ => True.intro)
    | exact True.intro
    | exact (fun h => h)
    | exact rfl
    | decide
    | exact (fun _ => by decide)
    | exact (show (_ : Int) ≠ _ by decide)
    | fail
  all_goals first
    | omega
    | (simp only [imp, i64ok, sz, List.length_map, List.length_cons, List.length_nil] <;> omega)
    | (dsimp only [List.length_cons, List.length_nil]; omega)
    | skip
  repeat' first
    | apply And.intro
    | exact (fun h => Bool.noConfusion h)
    | (refine chkI ?_; kernel_rfl)
    | (refine chkBI ?_; kernel_rfl)
    | exact (fun _ => True.intro)
    | exact True.intro
    | exact (fun h => h)
    | exact rfl
    | decide
    | exact (fun _ => by decide)
    | exact (show (_ : Int) ≠ _ by decide)
    | fail
  refine Exists.intro _ (And.intro (c34 (x0.tmod 41) (by omega) (by omega)) ?_)
  repeat' first
    | apply And.intro
    | exact (fun h => Bool.noConfusion h)
    | (refine chkI ?_; kernel_rfl)
    | (refine chkBI ?_; kernel_rfl)
    | exact (fun _ => True.intro)
    | exact True.intro
    | exact (fun h => h)
    | exact rfl
    | decide
    | exact (fun _ => by decide)
    | exact (show (_ : Int) ≠ _ by decide)
    | fail
  all_goals first
    | omega
    | (simp only [imp, i64ok, sz, List.length_map, List.length_cons, List.length_nil] <;> omega)
    | (dsimp only [List.length_cons, List.length_nil]; omega)
    | skip
  repeat' first
    | apply And.intro
    | exact (fun h => Bool.noConfusion h)
    | (refine chkI ?_; kernel_rfl)
    | (refine chkBI ?_; kernel_rfl)
    | exact (fun _ => True.intro)
    | exact True.intro
    | exact (fun h => h)
    | exact rfl
    | decide
    | exact (fun _ => by decide)
    | exact (show (_ : Int) ≠ _ by decide)
    | fail
  refine Exists.intro _ (And.intro (c34 (y0.tmod 40 + 1) (by omega) (by omega)) ?_)
  repeat' first
    | apply And.intro
    | exact (fun h => Bool.noConfusion h)
    | (refine chkI ?_; kernel_rfl)
    | (refine chkBI ?_; kernel_rfl)
    | exact (fun _ => True.intro)
    | exact True.intro
    | exact (fun h => h)
    | exact rfl
    | decide
    | exact (fun _ => by decide)
    | exact (show (_ : Int) ≠ _ by decide)
    | fail
  refine Exists.intro _ (And.intro (v1) ?_)
  repeat' first
    | apply And.intro
    | exact (fun h => Bool.noConfusion h)
    | (refine chkI ?_; kernel_rfl)
    | (refine chkBI ?_; kernel_rfl)
    | exact (fun _ => True.intro)
    | exact True.intro
    | exact (fun h => h)
    | exact rfl
    | decide
    | exact (fun _ => by decide)
    | exact (show (_ : Int) ≠ _ by decide)
    | fail
  all_goals first
    | omega
    | (simp only [imp, i64ok, sz, List.length_map, List.length_cons, List.length_nil] <;> omega)
    | (dsimp only [List.length_cons, List.length_nil]; omega)
    | skip
  repeat' first
    | apply And.intro
    | exact (fun h => Bool.noConfusion h)
    | (refine chkI ?_; kernel_rfl)
    | (refine chkBI ?_; kernel_rfl)
    | exact (fun _ => True.intro)
    | exact True.intro
    | exact (fun h => h)
    | exact rfl
    | decide
    | exact (fun _ => by decide)
    | exact (show (_ : Int) ≠ _ by decide)
    | fail
  refine Exists.intro _ (And.intro (c34 (x1.tmod 41) (by omega) (by omega)) ?_)
  repeat' first
    | apply And.intro
    | exact (fun h => Bool.noConfusion h)
    | (refine chkI ?_; kernel_rfl)
    | (refine chkBI ?_; kernel_rfl)
    | exact (fun _ => True.intro)
    | exact True.intro
    | exact (fun h => h)
    | exact rfl
    | decide
    | exact (fun _ => by decide)
    | exact (show (_ : Int) ≠ _ by decide)
    | fail
  all_goals first
    | omega
    | (simp only [imp, i64ok, sz, List.length_map, List.length_cons, List.length_nil] <;> omega)
    | (dsimp only [List.length_cons, List.length_nil]; omega)
    | skip
  repeat' first
    | apply And.intro
    | exact (fun h => Bool.noConfusion h)
    | (refine chkI ?_; kernel_rfl)
    | (refine chkBI ?_; kernel_rfl)
    | exact (fun _ => True.intro)
    | exact True.intro
    | exact (fun h => h)
    | exact rfl
    | decide
    | exact (fun _ => by decide)
    | exact (show (_ : Int) ≠ _ by decide)
    | fail
  refine Exists.intro _ (And.intro (c34 (y1.tmod 40 + 1) (by omega) (by omega)) ?_)
  repeat' first
    | apply And.intro
    | exact (fun h => Bool.noConfusion h)
    | (refine chkI ?_; kernel_rfl)
    | (refine chkBI ?_; kernel_rfl)
    | exact (fun _ => True.intro)
    | exact True.intro
    | exact (fun h => h)
    | exact rfl
    | decide
    | exact (fun _ => by decide)
    | exact (show (_ : Int) ≠ _ by decide)
    | fail
  refine Exists.intro _ (And.intro (v2) ?_)
  repeat' first
    | apply And.intro
    | exact (fun h => Bool.noConfusion h)
    | (refine chkI ?_; kernel_rfl)
    | (refine chkBI ?_; kernel_rfl)
    | exact (fun _ => True.intro)
    | exact True.intro
    | exact (fun h => h)
    | exact rfl
    | decide
    | exact (fun _ => by decide)
    | exact (show (_ : Int) ≠ _ by decide)
    | fail
  refine Exists.intro _ (And.intro (v3) ?_)
  repeat' first
    | apply And.intro
    | exact (fun h => Bool.noConfusion h)
    | (refine chkI ?_; kernel_rfl)
    | (refine chkBI ?_; kernel_rfl)
    | exact (fun _ => True.intro)
    | exact True.intro
    | exact (fun h => h)
    | exact rfl
    | decide
    | exact (fun _ => by decide)
    | exact (show (_ : Int) ≠ _ by decide)
    | fail
  by_cases hc : cmpQ lo hi > 0
  · rw [show decide (cmpQ lo hi > 0) = true from decide_eq_true hc]
    repeat' first
      | apply And.intro
      | exact (fun h => Bool.noConfusion h)
      | (refine chkI ?_; kernel_rfl)
      | (refine chkBI ?_; kernel_rfl)
      | exact (fun _ => True.intro)
      | exact True.intro
      | exact (fun h => h)
      | exact rfl
      | decide
      | exact (fun _ => by decide)
      | exact (show (_ : Int) ≠ _ by decide)
      | fail
    refine VC.gc [0, 1] [9, 11] rfl rfl ?_
    exact final8 p2 p1 (Rat.le_of_lt ((cmpQ_pos _ _).1 hc))
  · rw [show decide (cmpQ lo hi > 0) = false from decide_eq_false hc]
    repeat' first
      | apply And.intro
      | exact (fun h => Bool.noConfusion h)
      | (refine chkI ?_; kernel_rfl)
      | (refine chkBI ?_; kernel_rfl)
      | exact (fun _ => True.intro)
      | exact True.intro
      | exact (fun h => h)
      | exact rfl
      | decide
      | exact (fun _ => by decide)
      | exact (show (_ : Int) ≠ _ by decide)
      | fail
    refine VC.gc [0, 1] [9, 11] rfl rfl ?_
    exact final8 p1 p2 (Rat.not_lt.1 fun h => hc ((cmpQ_pos _ _).2 h))

end Vm
end Go.Proofs.YtdbpcmpkpbamhaaGreatDoor
