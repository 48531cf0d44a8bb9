/- Walks: magnitudes. -/
import Derived.Test.YtdbpcmpkpbamhaaGreatDoorMh
namespace Go.Proofs.YtdbpcmpkpbamhaaGreatDoor
set_option linter.unusedVariables false
set_option linter.unusedSimpArgs false
set_option maxRecDepth 100000
namespace Vm
open Go

abbrev u32 (n : Nat) : AV := .val (.int .u32 (n : Int))
abbrev u64 (n : Nat) : AV := .val (.int .u64 (n : Int))
abbrev i64 (n : Int) : AV := .val (.int .i64 n)

theorem s153 : Setting Tryz.prog tys (fi 153 Tryz.f153) := setting (by kernel_rfl) (by kernel_rfl)
theorem shr_u8 (x m : Nat) : IntKind.u8.wrap ((x : Int).fdiv (2 ^ m)) = ((UInt8.ofNat (x / 2 ^ m)).toNat : Int) := by
  have h1 : (x : Int).fdiv (2 ^ m) = ((x / 2 ^ m : Nat) : Int) := by
    have : ((2 : Int) ^ m) = ((2 ^ m : Nat) : Int) := by simp
    rw [this, Int.fdiv_eq_ediv_of_nonneg _ (Int.natCast_nonneg _)]; rfl
  rw [h1]
  simp only [UInt8.toNat_ofNat', IntKind.wrap, IntKind.bits, IntKind.signed]
  generalize x / 2 ^ m = y
  simp

theorem take_grow (A : List AV) (n : Nat) (h : A.length = n) (y : AV) : ((A.drop 0).take n ++ [y]) = A ++ [y] := by
  rw [List.drop_zero, List.take_of_length_le (by omega)]

theorem loop153 (xs : List Nat) (nl : Option Bool) (cp : Option Nat) (hl : xs.length < 2 ^ 40) (hx : ∀ x ∈ xs, x < 2 ^ 32) : ∀ (n i : Nat) (elems : List AV) (g len : Nat) (vi vn : Value), xs.length - i ≤ n → i ≤ xs.length → elems = ((xs.take i).flatMap b4).map u8 → len = 4 * i → vi = .int .i64 (i : Int) → vn = .int .i64 (xs.length : Int) →
    VC Tryz.prog (fi 153 Tryz.f153) [0, 0, 1, 0, 1, 1] ⟨[(0, .sl nl cp 1 (xs.map u32)), (3, .ref 0 0 len none g 1), (11, .sl nl cp 1 (xs.map u32)), (12, .val vn), (13, .val vi)], [.row elems 1 g]⟩ (Gives (str (trimR 0 (xs.flatMap b4))))
  | n, i, _, g, _, _, _, hn, hi, rfl, rfl, rfl, rfl => by
    refine vc_at s153 [[0, 0, 1, 0, 1, 1]] 100 ?_
    repeat' first
      | apply And.intro
      | exact (fun h => Bool.noConfusion h)
      | (refine chkI ?_; kernel_rfl)
      | (refine chkBI ?_; kernel_rfl)
      | exact (fun _ => True.intro)
      | exact True.intro
      | exact (fun h => h)
      | exact rfl
      | decide
      | exact (fun _ => by decide)
      | exact (show (_ : Int) ≠ _ by decide)
      | fail
    conv => whnf
    split
    · rename_i hc
      have hlt : i < xs.length := by simpa using hc
      repeat' first
        | apply And.intro
        | exact (fun h => Bool.noConfusion h)
        | (refine chkI ?_; kernel_rfl)
        | (refine chkBI ?_; kernel_rfl)
        | exact (fun _ => True.intro)
        | exact True.intro
        | exact (fun h => h)
        | exact rfl
        | decide
        | exact (fun _ => by decide)
        | exact (show (_ : Int) ≠ _ by decide)
        | fail
      apply Exists.intro (u32 xs[i])
      apply And.intro
      · exact ⟨Int.natCast_nonneg _, by simp [hlt], rfl⟩
      repeat' first
        | apply And.intro
        | exact (fun h => Bool.noConfusion h)
        | (refine chkI ?_; kernel_rfl)
        | (refine chkBI ?_; kernel_rfl)
        | exact (fun _ => True.intro)
        | exact True.intro
        | exact (fun h => h)
        | exact rfl
        | decide
        | exact (fun _ => by decide)
        | exact (show (_ : Int) ≠ _ by decide)
        | fail
      refine vc_at s153 [[0, 0, 1, 0, 1, 1]] 100 ?_
      repeat' first
        | apply And.intro
        | exact (fun h => Bool.noConfusion h)
        | (refine chkI ?_; kernel_rfl)
        | (refine chkBI ?_; kernel_rfl)
        | exact (fun _ => True.intro)
        | exact True.intro
        | exact (fun h => h)
        | exact rfl
        | decide
        | exact (fun _ => by decide)
        | exact (show (_ : Int) ≠ _ by decide)
        | fail
      all_goals first
        | omega
        | (simp only [imp, i64ok, sz, List.length_map, List.length_cons, List.length_nil] <;> omega)
        | skip
      refine VC.forget 1 [0, 3, 11, 12, 13] (Nat.zero_le _) (loop153 xs nl cp hl hx (n - 1) (i + 1) _ _ _ _ _ (by omega) hlt ?_ ?_ ?_ rfl)
      · have hA : (List.map u8 (List.flatMap b4 (List.take i xs))).length = 4 * i := by rw [List.length_map, b4_len, List.length_take]; omega
        simp only [List.length_cons, List.length_nil]
        rw [take_grow _ _ hA, take_grow (List.map u8 (List.flatMap b4 (List.take i xs)) ++ [_]) _ (by simp only [List.length_append, List.length_cons, List.length_nil, hA]), take_grow (List.map u8 (List.flatMap b4 (List.take i xs)) ++ [_] ++ [_]) _ (by simp only [List.length_append, List.length_cons, List.length_nil, hA]), take_grow (List.map u8 (List.flatMap b4 (List.take i xs)) ++ [_] ++ [_] ++ [_]) _ (by simp only [List.length_append, List.length_cons, List.length_nil, hA])]
        rw [List.take_add_one, List.getElem?_eq_getElem hlt, List.flatMap_append, List.map_append]
        simp only [List.append_assoc]
        congr 1
        show [_] ++ ([_] ++ ([_] ++ [_])) = _
        have e0 := shr_u8 xs[i] 0
        have e1 := shr_u8 xs[i] 8
        have e2 := shr_u8 xs[i] 16
        have e3 := shr_u8 xs[i] 24
        have e0' : xs[i] / 2 ^ 0 = xs[i] := by simp
        rw [e0'] at e0
        simp only [Option.toList, List.flatMap_cons, List.flatMap_nil, b4, List.append_nil, List.map_cons, List.map_nil, List.cons_append, List.nil_append]
        show [AV.val (.int .u8 (IntKind.u8.wrap ((xs[i] : Int).fdiv (2 ^ 0)))), AV.val (.int .u8 (IntKind.u8.wrap ((xs[i] : Int).fdiv (2 ^ 8)))), AV.val (.int .u8 (IntKind.u8.wrap ((xs[i] : Int).fdiv (2 ^ 16)))), AV.val (.int .u8 (IntKind.u8.wrap ((xs[i] : Int).fdiv (2 ^ 24))))] = _
        rw [e0, e1, e2, e3]
      · simp only [List.length_cons, List.length_nil]; omega
      · show Value.int .i64 ((i : Int) + 1) = _
        simp
    · have hi' : i = xs.length := by rename_i hc; simp at hc; omega
      subst hi'
      rw [List.take_length]
      repeat' first
        | apply And.intro
        | exact (fun h => Bool.noConfusion h)
        | (refine chkI ?_; kernel_rfl)
        | (refine chkBI ?_; kernel_rfl)
        | exact (fun _ => True.intro)
        | exact True.intro
        | exact (fun h => h)
        | exact rfl
        | decide
        | exact (fun _ => by decide)
        | exact (show (_ : Int) ≠ _ by decide)
        | fail
      apply Exists.intro (xs.flatMap b4)
      apply And.intro
      · show (List.drop 0 (List.map u8 (List.flatMap b4 xs))).take (4 * xs.length) = _
        rw [List.drop_zero, List.take_of_length_le (by rw [List.length_map, b4_len]; omega)]
      repeat' first
        | apply And.intro
        | exact (fun h => Bool.noConfusion h)
        | (refine chkI ?_; kernel_rfl)
        | (refine chkBI ?_; kernel_rfl)
        | exact (fun _ => True.intro)
        | exact True.intro
        | exact (fun h => h)
        | exact rfl
        | decide
        | exact (fun _ => by decide)
        | exact (show (_ : Int) ≠ _ by decide)
        | fail
      refine Exists.intro _ (And.intro (c148 (xs.flatMap b4) (by rw [b4_len]; omega)) ?_)
      repeat' first
        | apply And.intro
        | exact (fun h => Bool.noConfusion h)
        | (refine chkI ?_; kernel_rfl)
        | (refine chkBI ?_; kernel_rfl)
        | exact (fun _ => True.intro)
        | exact True.intro
        | exact (fun h => h)
        | exact rfl
        | decide
        | exact (fun _ => by decide)
        | exact (show (_ : Int) ≠ _ by decide)
        | fail

theorem c153 (xs : List Nat) (nl : Option Bool) (cp : Option Nat) (hl : xs.length < 2 ^ 40) (hx : ∀ x ∈ xs, x < 2 ^ 32) : PureC Tryz.prog 153 [.sl nl cp 1 (xs.map u32)] (str (trimR 0 (xs.flatMap b4))) := by
  refine pureC_of_vc s153 rfl (Nat.le_of_ble_eq_true rfl) rfl ?_
  refine vc_at s153 [] 100 ?_
  repeat' first
    | apply And.intro
    | exact (fun h => Bool.noConfusion h)
    | (refine chkI ?_; kernel_rfl)
    | (refine chkBI ?_; kernel_rfl)
    | exact (fun _ => True.intro)
    | exact True.intro
    | exact (fun h => h)
    | exact rfl
    | decide
    | exact (fun _ => by decide)
    | exact (show (_ : Int) ≠ _ by decide)
    | fail
  all_goals first
    | omega
    | (simp only [imp, i64ok, sz, List.length_map, List.length_cons, List.length_nil] <;> omega)
    | skip
  exact VC.forget 1 [0, 3, 11, 12, 13] (Nat.zero_le _) (loop153 xs nl cp hl hx _ 0 _ _ _ _ _ (Nat.le_refl _) (Nat.zero_le _) rfl rfl rfl (by simp))

theorem s151 : Setting Tryz.prog tys (fi 151 Tryz.f151) := setting (by kernel_rfl) (by kernel_rfl)
def limbsOf (m n : Nat) : List AV := (List.range m).map fun j => u32 (limb n j)

theorem quo4 (i : Nat) (h : i < 2 ^ 60) : IntKind.i64.wrap ((i : Int).tdiv 4) = ((i / 4 : Nat) : Int) := by
  have e : (i : Int).tdiv 4 = ((i / 4 : Nat) : Int) := by
    rw [Int.tdiv_eq_ediv_of_nonneg (Int.natCast_nonneg _)]; rfl
  rw [e, wrap_i64]
  unfold i64ok; omega
theorem rem4 (i : Nat) : (i : Int).tmod 4 = ((i % 4 : Nat) : Int) := by
  rw [Int.tmod_eq_emod_of_nonneg (Int.natCast_nonneg _)]; rfl

theorem shl_u32 (x r : Nat) (hx : x < 2 ^ 32) (h : x * 2 ^ (8 * r) < 2 ^ 32) (hr : r < 4) : IntKind.u32.wrap (IntKind.u32.wrap (x : Int) * 2 ^ min ((8 : Int) * (r : Int)).toNat IntKind.u32.bits) = ((x * 2 ^ (8 * r) : Nat) : Int) := by
  have e : min ((8 : Int) * (r : Int)).toNat IntKind.u32.bits = 8 * r := by
    have : IntKind.u32.bits = 32 := rfl
    omega
  rw [e, wrap_u32, Nat.mod_eq_of_lt hx]
  have : ((x : Nat) : Int) * 2 ^ (8 * r) = ((x * 2 ^ (8 * r) : Nat) : Int) := by simp
  rw [this, wrap_u32, Nat.mod_eq_of_lt h]

theorem byteAt_get (a : List UInt8) (i : Nat) (h : i < a.length) : byteAt (bs a) ((i : Int)).toNat = (a[i].toNat : Int) := by
  rw [Int.toNat_natCast, byteAt_bs, List.getD_eq_getElem?_getD, List.getElem?_eq_getElem h]; rfl

theorem limbs_set (m : Nat) (D D' q : Nat) (hq : q < m) (h : ∀ j, j ≠ q → limb D' j = limb D j) (y : AV) (hy : y = u32 (limb D' q)) : (limbsOf m D).set q y = limbsOf m D' := by
  subst hy
  apply List.ext_getElem?
  intro j
  rw [List.getElem?_set]
  by_cases hj : q = j
  · subst hj; simp [limbsOf, hq]
  · rw [if_neg hj]
    simp only [limbsOf, List.getElem?_map]
    by_cases hm : j < m
    · rw [List.getElem?_range hm]; simp [h j (Ne.symm hj)]
    · rw [List.getElem?_eq_none (by simpa using hm)]; rfl

theorem loop151 (a : List UInt8) (hl : a.length < 2 ^ 40) : ∀ (n i : Nat) (elems : List AV) (len : Nat) (va : ByteArray) (vi vn : Value), a.length - i ≤ n → i ≤ a.length → elems = limbsOf ((a.length + 3) / 4) (dec (a.take i)) → len = (a.length + 3) / 4 → va = bs a → vi = .int .i64 (i : Int) → vn = .int .i64 (a.length : Int) →
    VC Tryz.prog (fi 151 Tryz.f151) [0, 0, 1, 0, 1, 1, 1] ⟨[(0, .val (.string va)), (3, .ref 0 0 len none 0 1), (14, .val vn), (15, .val vi)], [.row elems 1 0]⟩ (Gives (.sl (some false) none 1 (limbsOf ((a.length + 3) / 4) (dec a))))
  | n, i, _, _, _, _, _, hn, hi, rfl, rfl, rfl, rfl, rfl => by
    refine vc_at s151 [[0, 0, 1, 0, 1, 1, 1]] 100 ?_
    repeat' first
      | apply And.intro
      | exact (fun h => Bool.noConfusion h)
      | (refine chkI ?_; kernel_rfl)
      | (refine chkBI ?_; kernel_rfl)
      | exact (fun _ => True.intro)
      | exact True.intro
      | exact (fun h => h)
      | exact rfl
      | decide
      | exact (fun _ => by decide)
      | exact (show (_ : Int) ≠ _ by decide)
      | fail
    conv => whnf
    split
    · rename_i hc
      have hlt : i < a.length := by simpa using hc
      have hq := quo4 i (by omega)
      have hr := rem4 i
      have hget : (limbsOf ((a.length + 3) / 4) (dec (a.take i)))[0 + (((i / 4 : Nat) : Int)).toNat]? = some (u32 (limb (dec (a.take i)) (i / 4))) := by
        simp only [limbsOf, Nat.zero_add, Int.toNat_natCast, List.getElem?_map]
        rw [List.getElem?_range (by omega)]
        rfl
      repeat' first
        | apply And.intro
        | exact (fun h => Bool.noConfusion h)
        | (refine chkI ?_; kernel_rfl)
        | (refine chkBI ?_; kernel_rfl)
        | exact (fun _ => True.intro)
        | exact True.intro
        | exact (fun h => h)
        | exact rfl
        | decide
        | exact (fun _ => by decide)
        | exact (show (_ : Int) ≠ _ by decide)
        | fail
      all_goals rw [hq]
      all_goals first
        | omega
        | (simp only [imp, i64ok, sz, List.length_map, List.length_cons, List.length_nil] <;> omega)
        | skip
      apply Exists.intro (u32 (limb (dec (a.take i)) (i / 4)))
      apply And.intro
      · exact ⟨rfl, hget⟩
      repeat' first
        | apply And.intro
        | exact (fun h => Bool.noConfusion h)
        | (refine chkI ?_; kernel_rfl)
        | (refine chkBI ?_; kernel_rfl)
        | exact (fun _ => True.intro)
        | exact True.intro
        | exact (fun h => h)
        | exact rfl
        | decide
        | exact (fun _ => by decide)
        | exact (show (_ : Int) ≠ _ by decide)
        | fail
      all_goals (try rw [hr])
      all_goals first
        | omega
        | (simp only [imp, i64ok, sz, List.length_map, List.length_cons, List.length_nil] <;> omega)
        | skip
      repeat' first
        | apply And.intro
        | exact (fun h => Bool.noConfusion h)
        | (refine chkI ?_; kernel_rfl)
        | (refine chkBI ?_; kernel_rfl)
        | exact (fun _ => True.intro)
        | exact True.intro
        | exact (fun h => h)
        | exact rfl
        | decide
        | exact (fun _ => by decide)
        | exact (show (_ : Int) ≠ _ by decide)
        | fail
      all_goals first
        | omega
        | (simp only [imp, i64ok, sz, List.length_map, List.length_cons, List.length_nil] <;> omega)
        | skip
      apply Exists.intro (u32 (limb (dec (a.take i)) (i / 4)))
      apply And.intro
      · exact ⟨rfl, hget, Nat.le_refl _⟩
      repeat' first
        | apply And.intro
        | exact (fun h => Bool.noConfusion h)
        | (refine chkI ?_; kernel_rfl)
        | (refine chkBI ?_; kernel_rfl)
        | exact (fun _ => True.intro)
        | exact True.intro
        | exact (fun h => h)
        | exact rfl
        | decide
        | exact (fun _ => by decide)
        | exact (show (_ : Int) ≠ _ by decide)
        | fail
      all_goals first
        | omega
        | (simp only [imp, i64ok, sz, List.length_map, List.length_cons, List.length_nil] <;> omega)
        | skip
      have hx : a[i].toNat < 256 := a[i].toNat_lt
      obtain ⟨h1, h2, h3⟩ := limb_at (dec_take_lt a i) hx
      refine VC.forget 1 [0, 3, 14, 15] (Nat.zero_le _) (loop151 a hl (n - 1) (i + 1) _ _ _ _ _ (by omega) hlt ?_ rfl rfl ?_ rfl)
      · rw [dec_take_succ a i hlt, Nat.zero_add, Int.toNat_natCast]
        refine limbs_set _ _ _ _ (by omega) (fun j hj => ?_) _ ?_
        · rcases Nat.lt_or_gt_of_ne hj with hj | hj
          · exact limb_low hj
          · exact limb_high (dec_take_lt a i) hx hj
        · rw [h1]
          show AV.val (.int .u32 _) = _
          rw [byteAt_get a i hlt, shl_u32 _ _ (by omega) h2 (by omega), or_u32 h3 h2]
      · show Value.int .i64 ((i : Int) + 1) = _
        simp
    · have hi' : i = a.length := by rename_i hc; simp at hc; omega
      subst hi'
      rw [List.take_length]
      repeat' first
        | apply And.intro
        | exact (fun h => Bool.noConfusion h)
        | (refine chkI ?_; kernel_rfl)
        | (refine chkBI ?_; kernel_rfl)
        | exact (fun _ => True.intro)
        | exact True.intro
        | exact (fun h => h)
        | exact rfl
        | decide
        | exact (fun _ => by decide)
        | exact (show (_ : Int) ≠ _ by decide)
        | fail
      show AV.sl _ _ _ (List.take _ (List.drop 0 _)) = _
      rw [List.drop_zero, List.take_of_length_le (by simp [limbsOf])]

theorem limbs_zero (m : Nat) : List.replicate m (u32 0) = limbsOf m 0 := by
  apply List.ext_getElem?
  intro j
  by_cases h : j < m
  · simp [limbsOf, h, limb]
  · rw [List.getElem?_eq_none (by simpa using h), List.getElem?_eq_none (by simpa [limbsOf] using h)]

theorem c151 (l : List UInt8) (hl : l.length < 2 ^ 40) : PureC Tryz.prog 151 [str l] (.sl (some false) none 1 (limbsOf (nl (dec l)) (dec l))) := by
  have ht : (trimR 0 l).length ≤ l.length := by
    rw [trimR_dec]; exact enc_length_le (dec_lt l)
  have hq : IntKind.i64.wrap ((((trimR 0 l).length : Int) + 4 - 1).tdiv 4) = ((((trimR 0 l).length + 3) / 4 : Nat) : Int) := by
    rw [← quo4 ((trimR 0 l).length + 3) (by omega)]
    congr 2; omega
  have hR : limbsOf (nl (dec l)) (dec l) = limbsOf (((trimR 0 l).length + 3) / 4) (dec (trimR 0 l)) := by rw [trimR_dec, dec_enc]; rfl
  rw [hR]
  refine pureC_of_vc s151 rfl (Nat.le_of_ble_eq_true rfl) rfl ?_
  refine vc_at s151 [] 100 ?_
  repeat' first
    | apply And.intro
    | exact (fun h => Bool.noConfusion h)
    | (refine chkI ?_; kernel_rfl)
    | (refine chkBI ?_; kernel_rfl)
    | exact (fun _ => True.intro)
    | exact True.intro
    | exact (fun h => h)
    | exact rfl
    | decide
    | exact (fun _ => by decide)
    | exact (show (_ : Int) ≠ _ by decide)
    | fail
  refine Exists.intro _ (And.intro (c148 l (by omega)) ?_)
  repeat' first
    | apply And.intro
    | exact (fun h => Bool.noConfusion h)
    | (refine chkI ?_; kernel_rfl)
    | (refine chkBI ?_; kernel_rfl)
    | exact (fun _ => True.intro)
    | exact True.intro
    | exact (fun h => h)
    | exact rfl
    | decide
    | exact (fun _ => by decide)
    | exact (show (_ : Int) ≠ _ by decide)
    | fail
  all_goals first
    | omega
    | (simp only [imp, i64ok, sz, List.length_map, List.length_cons, List.length_nil] <;> omega)
    | skip
  all_goals (try simp only [sz])
  all_goals (try rw [hq])
  all_goals first
    | omega
    | (simp only [imp, i64ok, sz, List.length_map, List.length_cons, List.length_nil] <;> omega)
    | skip
  exact VC.forget 1 [0, 3, 14, 15] (Nat.zero_le _) (loop151 (trimR 0 l) (by omega) _ 0 _ _ _ _ _ (Nat.le_refl _) (Nat.zero_le _) (limbs_zero _) (Int.toNat_natCast _) rfl rfl rfl)

theorem s95 : Setting Tryz.prog tys (fi 95 Tryz.f95) := setting (by kernel_rfl) (by kernel_rfl)
/-- FromUint64 -/
theorem c95 (n : Nat) (hn : n < 2 ^ 64) : PureC Tryz.prog 95 [u64 n] (str (enc n)) := by
  have h1 : trimR 0 ([n % 2 ^ 32, n / 2 ^ 32].flatMap b4) = enc n := by
    rw [trimR_dec, dec_flat _ (by intro x hx; simp at hx; omega)]
    simp only [val32]
    congr 1; omega
  refine pureC_of_vc s95 rfl (Nat.le_of_ble_eq_true rfl) rfl ?_
  refine vc_at s95 [] 100 ?_
  repeat' first
    | apply And.intro
    | exact (fun h => Bool.noConfusion h)
    | (refine chkI ?_; kernel_rfl)
    | (refine chkBI ?_; kernel_rfl)
    | exact (fun _ => True.intro)
    | exact True.intro
    | exact (fun h => h)
    | exact rfl
    | decide
    | exact (fun _ => by decide)
    | exact (show (_ : Int) ≠ _ by decide)
    | fail
  all_goals first
    | omega
    | (simp only [imp, i64ok, sz, List.length_map, List.length_cons, List.length_nil] <;> omega)
    | skip
  repeat' first
    | apply And.intro
    | exact (fun h => Bool.noConfusion h)
    | (refine chkI ?_; kernel_rfl)
    | (refine chkBI ?_; kernel_rfl)
    | exact (fun _ => True.intro)
    | exact True.intro
    | exact (fun h => h)
    | exact rfl
    | decide
    | exact (fun _ => by decide)
    | exact (show (_ : Int) ≠ _ by decide)
    | fail
  refine Exists.intro _ (And.intro (pc (c153 [n % 2 ^ 32, n / 2 ^ 32] (some false) (some 2) (by simp) (by intro x hx; simp at hx; omega)) ?_) ?_)
  · show [AV.sl _ _ _ [.val (.int .u32 (IntKind.u32.wrap (n : Int))), .val (.int .u32 (IntKind.u32.wrap ((n : Int).fdiv (2 ^ 32))))]] = _
    rw [shr_nat, wrap_u32, wrap_u32, Nat.mod_eq_of_lt (show n / 2 ^ 32 < 2 ^ 32 by omega)]
    rfl
  rw [h1]
  repeat' first
    | apply And.intro
    | exact (fun h => Bool.noConfusion h)
    | (refine chkI ?_; kernel_rfl)
    | (refine chkBI ?_; kernel_rfl)
    | exact (fun _ => True.intro)
    | exact True.intro
    | exact (fun h => h)
    | exact rfl
    | decide
    | exact (fun _ => by decide)
    | exact (show (_ : Int) ≠ _ by decide)
    | fail

end Vm
end Go.Proofs.YtdbpcmpkpbamhaaGreatDoor

/- Walks: magnitudes as numbers, comparison. -/
namespace Go.Proofs.YtdbpcmpkpbamhaaGreatDoor
set_option linter.unusedVariables false
set_option linter.unusedSimpArgs false
set_option maxRecDepth 100000
namespace Vm
open Go

theorem s156 : Setting Tryz.prog tys (fi 156 Tryz.f156) := setting (by kernel_rfl) (by kernel_rfl)
theorem shl_u64 (x i : Nat) (hx : x < 2 ^ 8) (hr : i < 8) : IntKind.u64.wrap (IntKind.u64.wrap (x : Int) * 2 ^ min ((8 : Int) * (i : Int)).toNat IntKind.u64.bits) = ((x * 2 ^ (8 * i) : Nat) : Int) := by
  have e : min ((8 : Int) * (i : Int)).toNat IntKind.u64.bits = 8 * i := by
    have : IntKind.u64.bits = 64 := rfl
    omega
  have h : x * 2 ^ (8 * i) < 2 ^ 64 := by
    have h1 : x * 2 ^ (8 * i) < 2 ^ 8 * 2 ^ (8 * i) := Nat.mul_lt_mul_of_pos_right hx (Nat.two_pow_pos _)
    have h2 : 2 ^ 8 * 2 ^ (8 * i) ≤ 2 ^ 64 := by rw [← Nat.pow_add]; exact Nat.pow_le_pow_right (by omega) (by omega)
    omega
  rw [e, wrap_u64, Nat.mod_eq_of_lt (by omega)]
  have : ((x : Nat) : Int) * 2 ^ (8 * i) = ((x * 2 ^ (8 * i) : Nat) : Int) := by simp
  rw [this, wrap_u64, Nat.mod_eq_of_lt h]

theorem loop156 (a : List UInt8) (hl : a.length ≤ 8) : ∀ (n i : Nat) (va : ByteArray) (v vi vn : Value), a.length - i ≤ n → i ≤ a.length → va = bs a → v = .int .u64 (dec (a.take i) : Int) → vi = .int .i64 (i : Int) → vn = .int .i64 (a.length : Int) →
    VC Tryz.prog (fi 156 Tryz.f156) [0, 0, 1, 0, 1, 1, 1, 1] ⟨[(0, .val (.string va)), (4, .val v), (12, .val vn), (13, .val vi)], []⟩ (Gives (.tup [u64 (dec a), .val (.bool true)]))
  | n, i, _, _, _, _, hn, hi, rfl, rfl, rfl, rfl => by
    refine vc_at s156 [[0, 0, 1, 0, 1, 1, 1, 1]] 100 ?_
    repeat' first
      | apply And.intro
      | exact (fun h => Bool.noConfusion h)
      | (refine chkI ?_; kernel_rfl)
      | (refine chkBI ?_; kernel_rfl)
      | exact (fun _ => True.intro)
      | exact True.intro
      | exact (fun h => h)
      | exact rfl
      | decide
      | exact (fun _ => by decide)
      | exact (show (_ : Int) ≠ _ by decide)
      | fail
    conv => whnf
    split
    · rename_i hc
      have hlt : i < a.length := by simpa using hc
      repeat' first
        | apply And.intro
        | exact (fun h => Bool.noConfusion h)
        | (refine chkI ?_; kernel_rfl)
        | (refine chkBI ?_; kernel_rfl)
        | exact (fun _ => True.intro)
        | exact True.intro
        | exact (fun h => h)
        | exact rfl
        | decide
        | exact (fun _ => by decide)
        | exact (show (_ : Int) ≠ _ by decide)
        | fail
      all_goals first
        | omega
        | (simp only [imp, i64ok, sz, List.length_map, List.length_cons, List.length_nil] <;> omega)
        | skip
      have hx : a[i].toNat < 2 ^ 8 := a[i].toNat_lt
      refine VC.forget 0 [0, 4, 12, 13] (Nat.zero_le _) (loop156 a hl (n - 1) (i + 1) _ _ _ _ (by omega) hlt rfl ?_ ?_ rfl)
      · have hD := dec_take_lt a i
        have hb : dec (a.take i) < 2 ^ 64 := Nat.lt_of_lt_of_le hD (by rw [p256]; exact Nat.pow_le_pow_right (by omega) (by omega))
        have hb2 : a[i].toNat * 2 ^ (8 * i) < 2 ^ 64 := by
          have h1 : a[i].toNat * 2 ^ (8 * i) < 2 ^ 8 * 2 ^ (8 * i) := Nat.mul_lt_mul_of_pos_right hx (Nat.two_pow_pos _)
          have h2 : 2 ^ 8 * 2 ^ (8 * i) ≤ 2 ^ 64 := by rw [← Nat.pow_add]; exact Nat.pow_le_pow_right (by omega) (by omega)
          omega
        show Value.int .u64 _ = _
        rw [byteAt_get a i hlt, shl_u64 _ _ hx (by omega), or_u64 hb hb2, dec_take_succ a i hlt]
        congr 2
        rw [p256] at hD ⊢
        rw [Nat.or_comm, Nat.mul_comm, ← Nat.two_pow_add_eq_or_of_lt hD, Nat.add_comm]
      · show Value.int .i64 ((i : Int) + 1) = _
        simp
    · have hi' : i = a.length := by rename_i hc; simp at hc; omega
      subst hi'
      rw [List.take_length]
      repeat' first
        | apply And.intro
        | exact (fun h => Bool.noConfusion h)
        | (refine chkI ?_; kernel_rfl)
        | (refine chkBI ?_; kernel_rfl)
        | exact (fun _ => True.intro)
        | exact True.intro
        | exact (fun h => h)
        | exact rfl
        | decide
        | exact (fun _ => by decide)
        | exact (show (_ : Int) ≠ _ by decide)
        | fail

theorem trim_len (l : List UInt8) : (trimR 0 l).length ≤ l.length := by
  rw [trimR_dec]; exact enc_length_le (dec_lt l)

theorem c156 (l : List UInt8) (hl : l.length < 2 ^ 40) (h : dec l < 2 ^ 64) : PureC Tryz.prog 156 [str l] (.tup [u64 (dec l), .val (.bool true)]) := by
  have hn : (trimR 0 l).length ≤ 8 := by rw [trimR_dec]; exact enc_length_le h
  have hd : dec l = dec (trimR 0 l) := by rw [trimR_dec, dec_enc]
  rw [hd]
  refine pureC_of_vc s156 rfl (Nat.le_of_ble_eq_true rfl) rfl ?_
  refine vc_at s156 [] 100 ?_
  repeat' first
    | apply And.intro
    | exact (fun h => Bool.noConfusion h)
    | (refine chkI ?_; kernel_rfl)
    | (refine chkBI ?_; kernel_rfl)
    | exact (fun _ => True.intro)
    | exact True.intro
    | exact (fun h => h)
    | exact rfl
    | decide
    | exact (fun _ => by decide)
    | exact (show (_ : Int) ≠ _ by decide)
    | fail
  refine Exists.intro _ (And.intro (c148 l (by omega)) ?_)
  repeat' first
    | apply And.intro
    | exact (fun h => Bool.noConfusion h)
    | (refine chkI ?_; kernel_rfl)
    | (refine chkBI ?_; kernel_rfl)
    | exact (fun _ => True.intro)
    | exact True.intro
    | exact (fun h => h)
    | exact rfl
    | decide
    | exact (fun _ => by decide)
    | exact (show (_ : Int) ≠ _ by decide)
    | fail
  conv => whnf
  split
  · rename_i hc
    simp [sz] at hc; omega
  · repeat' first
      | apply And.intro
      | exact (fun h => Bool.noConfusion h)
      | (refine chkI ?_; kernel_rfl)
      | (refine chkBI ?_; kernel_rfl)
      | exact (fun _ => True.intro)
      | exact True.intro
      | exact (fun h => h)
      | exact rfl
      | decide
      | exact (fun _ => by decide)
      | exact (show (_ : Int) ≠ _ by decide)
      | fail
    exact VC.forget 0 [0, 4, 12, 13] (Nat.zero_le _) (loop156 _ hn _ 0 _ _ _ _ (Nat.le_refl _) (Nat.zero_le _) rfl rfl rfl rfl)

theorem c156' (l : List UInt8) (hl : l.length < 2 ^ 40) (h : 2 ^ 64 ≤ dec l) : PureC Tryz.prog 156 [str l] (.tup [u64 0, .val (.bool false)]) := by
  have hn : 8 < (trimR 0 l).length := by
    have h1 := dec_lt (trimR 0 l)
    rw [trimR_dec, dec_enc, ← trimR_dec] at h1
    rcases Nat.lt_or_ge 8 (trimR 0 l).length with h | h2
    · exact h
    · have : 256 ^ (trimR 0 l).length ≤ 256 ^ 8 := Nat.pow_le_pow_right (by omega) h2
      omega
  refine pureC_of_vc s156 rfl (Nat.le_of_ble_eq_true rfl) rfl ?_
  refine vc_at s156 [] 100 ?_
  repeat' first
    | apply And.intro
    | exact (fun h => Bool.noConfusion h)
    | (refine chkI ?_; kernel_rfl)
    | (refine chkBI ?_; kernel_rfl)
    | exact (fun _ => True.intro)
    | exact True.intro
    | exact (fun h => h)
    | exact rfl
    | decide
    | exact (fun _ => by decide)
    | exact (show (_ : Int) ≠ _ by decide)
    | fail
  refine Exists.intro _ (And.intro (c148 l (by omega)) ?_)
  repeat' first
    | apply And.intro
    | exact (fun h => Bool.noConfusion h)
    | (refine chkI ?_; kernel_rfl)
    | (refine chkBI ?_; kernel_rfl)
    | exact (fun _ => True.intro)
    | exact True.intro
    | exact (fun h => h)
    | exact rfl
    | decide
    | exact (fun _ => by decide)
    | exact (show (_ : Int) ≠ _ by decide)
    | fail
  conv => whnf
  split
  · repeat' first
      | apply And.intro
      | exact (fun h => Bool.noConfusion h)
      | (refine chkI ?_; kernel_rfl)
      | (refine chkBI ?_; kernel_rfl)
      | exact (fun _ => True.intro)
      | exact True.intro
      | exact (fun h => h)
      | exact rfl
      | decide
      | exact (fun _ => by decide)
      | exact (show (_ : Int) ≠ _ by decide)
      | fail
  · rename_i hc
    simp [sz] at hc; omega

theorem s154 : Setting Tryz.prog tys (fi 154 Tryz.f154) := setting (by kernel_rfl) (by kernel_rfl)
theorem loop154 (a b : List UInt8) (hab : a.length = b.length) (hl : a.length < 2 ^ 40) : ∀ (n i : Nat) (va vb : ByteArray) (vi vn : Value), a.length - i ≤ n → i ≤ a.length → a.drop (a.length - i) = b.drop (a.length - i) → va = bs a → vb = bs b → vi = .int .i64 (i : Int) → vn = .int .i64 (a.length : Int) →
    VC Tryz.prog (fi 154 Tryz.f154) [0, 0, 1, 0, 1, 1, 1] ⟨[(0, .val (.string va)), (1, .val (.string vb)), (22, .val vn), (23, .val vi)], []⟩ (Gives (i64 (cmpN (dec a) (dec b))))
  | n, i, _, _, _, _, hn, hi, hd, rfl, rfl, rfl, rfl => by
    refine vc_at s154 [[0, 0, 1, 0, 1, 1, 1]] 100 ?_
    repeat' first
      | apply And.intro
      | exact (fun h => Bool.noConfusion h)
      | (refine chkI ?_; kernel_rfl)
      | (refine chkBI ?_; kernel_rfl)
      | exact (fun _ => True.intro)
      | exact True.intro
      | exact (fun h => h)
      | exact rfl
      | decide
      | exact (fun _ => by decide)
      | exact (show (_ : Int) ≠ _ by decide)
      | fail
    conv => whnf
    split
    · rename_i hc
      have hlt : i < a.length := by simpa using hc
      have hk : a.length - 1 - i < a.length := by omega
      have hkb : a.length - 1 - i < b.length := by omega
      have hidx : ((((bs a).size : Nat) : Int) - 1 - (i : Int)).toNat = a.length - 1 - i := by rw [sz]; omega
      have e1 : byteAt (bs a) ((((bs a).size : Nat) : Int) - 1 - (i : Int)).toNat = (a[a.length - 1 - i].toNat : Int) := by
        rw [hidx, byteAt_bs, List.getD_eq_getElem?_getD, List.getElem?_eq_getElem hk]; rfl
      have e2 : byteAt (bs b) ((((bs a).size : Nat) : Int) - 1 - (i : Int)).toNat = (b[a.length - 1 - i].toNat : Int) := by
        rw [hidx, byteAt_bs, List.getD_eq_getElem?_getD, List.getElem?_eq_getElem hkb]; rfl
      have hd' : a.drop (a.length - 1 - i + 1) = b.drop (a.length - 1 - i + 1) := by
        rw [show a.length - 1 - i + 1 = a.length - i by omega]; exact hd
      repeat' first
        | apply And.intro
        | exact (fun h => Bool.noConfusion h)
        | (refine chkI ?_; kernel_rfl)
        | (refine chkBI ?_; kernel_rfl)
        | exact (fun _ => True.intro)
        | exact True.intro
        | exact (fun h => h)
        | exact rfl
        | decide
        | exact (fun _ => by decide)
        | exact (show (_ : Int) ≠ _ by decide)
        | fail
      all_goals first
        | omega
        | (simp only [imp, i64ok, sz, List.length_map, List.length_cons, List.length_nil] <;> omega)
        | skip
      rw [e1, e2]
      conv => whnf
      split
      · rename_i hne
        have hne : (a[a.length - 1 - i].toNat : Int) ≠ (b[a.length - 1 - i].toNat : Int) := by simpa using hne
        repeat' first
          | apply And.intro
          | exact (fun h => Bool.noConfusion h)
          | (refine chkI ?_; kernel_rfl)
          | (refine chkBI ?_; kernel_rfl)
          | exact (fun _ => True.intro)
          | exact True.intro
          | exact (fun h => h)
          | exact rfl
          | decide
          | exact (fun _ => by decide)
          | exact (show (_ : Int) ≠ _ by decide)
          | fail
        all_goals first
          | omega
          | (simp only [imp, i64ok, sz, List.length_map, List.length_cons, List.length_nil] <;> omega)
          | skip
        rw [e1, e2]
        conv => whnf
        split
        · rename_i hlt2
          have hlt2 : (a[a.length - 1 - i].toNat : Int) < (b[a.length - 1 - i].toNat : Int) := by simpa using hlt2
          rw [cmpN_lt (dec_lt_at hab hk hd' (by rw [UInt8.lt_iff_toNat_lt]; omega))]
          repeat' first
            | apply And.intro
            | exact (fun h => Bool.noConfusion h)
            | (refine chkI ?_; kernel_rfl)
            | (refine chkBI ?_; kernel_rfl)
            | exact (fun _ => True.intro)
            | exact True.intro
            | exact (fun h => h)
            | exact rfl
            | decide
            | exact (fun _ => by decide)
            | exact (show (_ : Int) ≠ _ by decide)
            | fail
        · rename_i hlt2
          have hlt2 : ¬ (a[a.length - 1 - i].toNat : Int) < (b[a.length - 1 - i].toNat : Int) := by simpa using hlt2
          rw [cmpN_gt (dec_lt_at hab.symm hkb hd'.symm (by rw [UInt8.lt_iff_toNat_lt]; omega))]
          repeat' first
            | apply And.intro
            | exact (fun h => Bool.noConfusion h)
            | (refine chkI ?_; kernel_rfl)
            | (refine chkBI ?_; kernel_rfl)
            | exact (fun _ => True.intro)
            | exact True.intro
            | exact (fun h => h)
            | exact rfl
            | decide
            | exact (fun _ => by decide)
            | exact (show (_ : Int) ≠ _ by decide)
            | fail
      · rename_i hne
        have hne : a[a.length - 1 - i].toNat = b[a.length - 1 - i].toNat := by simp at hne; exact_mod_cast hne
        have hab' : a[a.length - 1 - i] = b[a.length - 1 - i] := UInt8.toNat_inj.1 hne
        repeat' first
          | apply And.intro
          | exact (fun h => Bool.noConfusion h)
          | (refine chkI ?_; kernel_rfl)
          | (refine chkBI ?_; kernel_rfl)
          | exact (fun _ => True.intro)
          | exact True.intro
          | exact (fun h => h)
          | exact rfl
          | decide
          | exact (fun _ => by decide)
          | exact (show (_ : Int) ≠ _ by decide)
          | fail
        all_goals first
          | omega
          | (simp only [imp, i64ok, sz, List.length_map, List.length_cons, List.length_nil] <;> omega)
          | skip
        refine VC.forget 0 [0, 1, 22, 23] (Nat.zero_le _) (loop154 a b hab hl (n - 1) (i + 1) _ _ _ _ (by omega) hlt ?_ rfl rfl ?_ rfl)
        · rw [show a.length - (i + 1) = a.length - 1 - i by omega, ← List.getElem_cons_drop hk, ← List.getElem_cons_drop hkb, hd', hab']
        · show Value.int .i64 ((i : Int) + 1) = _
          simp
    · have hi' : i = a.length := by rename_i hc; simp at hc; omega
      subst hi'
      have : a = b := by simpa using hd
      subst this
      rw [cmpN_eq]
      repeat' first
        | apply And.intro
        | exact (fun h => Bool.noConfusion h)
        | (refine chkI ?_; kernel_rfl)
        | (refine chkBI ?_; kernel_rfl)
        | exact (fun _ => True.intro)
        | exact True.intro
        | exact (fun h => h)
        | exact rfl
        | decide
        | exact (fun _ => by decide)
        | exact (show (_ : Int) ≠ _ by decide)
        | fail

theorem c154 (a b : List UInt8) (ha : a.length < 2 ^ 40) (hb : b.length < 2 ^ 40) : PureC Tryz.prog 154 [str a, str b] (i64 (cmpN (dec a) (dec b))) := by
  have h1 := trim_len a
  have h2 := trim_len b
  have da : dec a = dec (trimR 0 a) := by rw [trimR_dec, dec_enc]
  have db : dec b = dec (trimR 0 b) := by rw [trimR_dec, dec_enc]
  rw [da, db]
  refine pureC_of_vc s154 rfl (Nat.le_of_ble_eq_true rfl) rfl ?_
  refine vc_at s154 [] 100 ?_
  repeat' first
    | apply And.intro
    | exact (fun h => Bool.noConfusion h)
    | (refine chkI ?_; kernel_rfl)
    | (refine chkBI ?_; kernel_rfl)
    | exact (fun _ => True.intro)
    | exact True.intro
    | exact (fun h => h)
    | exact rfl
    | decide
    | exact (fun _ => by decide)
    | exact (show (_ : Int) ≠ _ by decide)
    | fail
  refine Exists.intro _ (And.intro (c148 a (by omega)) ?_)
  repeat' first
    | apply And.intro
    | exact (fun h => Bool.noConfusion h)
    | (refine chkI ?_; kernel_rfl)
    | (refine chkBI ?_; kernel_rfl)
    | exact (fun _ => True.intro)
    | exact True.intro
    | exact (fun h => h)
    | exact rfl
    | decide
    | exact (fun _ => by decide)
    | exact (show (_ : Int) ≠ _ by decide)
    | fail
  refine Exists.intro _ (And.intro (c148 b (by omega)) ?_)
  repeat' first
    | apply And.intro
    | exact (fun h => Bool.noConfusion h)
    | (refine chkI ?_; kernel_rfl)
    | (refine chkBI ?_; kernel_rfl)
    | exact (fun _ => True.intro)
    | exact True.intro
    | exact (fun h => h)
    | exact rfl
    | decide
    | exact (fun _ => by decide)
    | exact (show (_ : Int) ≠ _ by decide)
    | fail
  conv => whnf
  split
  · rename_i hne
    repeat' first
      | apply And.intro
      | exact (fun h => Bool.noConfusion h)
      | (refine chkI ?_; kernel_rfl)
      | (refine chkBI ?_; kernel_rfl)
      | exact (fun _ => True.intro)
      | exact True.intro
      | exact (fun h => h)
      | exact rfl
      | decide
      | exact (fun _ => by decide)
      | exact (show (_ : Int) ≠ _ by decide)
      | fail
    conv => whnf
    split
    · rename_i hlt
      have hlt : (trimR 0 a).length < (trimR 0 b).length := by simpa [sz] using hlt
      rw [cmpN_lt (by rw [← da, ← db]; rw [trimR_dec, trimR_dec] at hlt; exact lt_of_enc_len hlt)]
      repeat' first
        | apply And.intro
        | exact (fun h => Bool.noConfusion h)
        | (refine chkI ?_; kernel_rfl)
        | (refine chkBI ?_; kernel_rfl)
        | exact (fun _ => True.intro)
        | exact True.intro
        | exact (fun h => h)
        | exact rfl
        | decide
        | exact (fun _ => by decide)
        | exact (show (_ : Int) ≠ _ by decide)
        | fail
    · rename_i hlt
      have hlt : (trimR 0 b).length < (trimR 0 a).length := by simp [sz] at hlt hne; omega
      rw [cmpN_gt (by rw [← da, ← db]; rw [trimR_dec, trimR_dec] at hlt; exact lt_of_enc_len hlt)]
      repeat' first
        | apply And.intro
        | exact (fun h => Bool.noConfusion h)
        | (refine chkI ?_; kernel_rfl)
        | (refine chkBI ?_; kernel_rfl)
        | exact (fun _ => True.intro)
        | exact True.intro
        | exact (fun h => h)
        | exact rfl
        | decide
        | exact (fun _ => by decide)
        | exact (show (_ : Int) ≠ _ by decide)
        | fail
  · rename_i hne
    have he : (trimR 0 a).length = (trimR 0 b).length := by simp [sz] at hne; exact_mod_cast hne
    repeat' first
      | apply And.intro
      | exact (fun h => Bool.noConfusion h)
      | (refine chkI ?_; kernel_rfl)
      | (refine chkBI ?_; kernel_rfl)
      | exact (fun _ => True.intro)
      | exact True.intro
      | exact (fun h => h)
      | exact rfl
      | decide
      | exact (fun _ => by decide)
      | exact (show (_ : Int) ≠ _ by decide)
      | fail
    exact VC.forget 0 [0, 1, 22, 23] (Nat.zero_le _) (loop154 _ _ he (by omega) _ 0 _ _ _ _ (Nat.le_refl _) (Nat.zero_le _) (by simp [he]) rfl rfl rfl rfl)

end Vm
end Go.Proofs.YtdbpcmpkpbamhaaGreatDoor

/- Walks: sums. -/
namespace Go.Proofs.YtdbpcmpkpbamhaaGreatDoor
set_option linter.unusedVariables false
set_option linter.unusedSimpArgs false
set_option maxRecDepth 100000
namespace Vm
open Go

theorem s152 : Setting Tryz.prog tys (fi 152 Tryz.f152) := setting (by kernel_rfl) (by kernel_rfl)
theorem s155 : Setting Tryz.prog tys (fi 155 Tryz.f155) := setting (by kernel_rfl) (by kernel_rfl)
/-- bits.Add32 -/
theorem c152 (x y c : Nat) (hx : x < 2 ^ 32) (hy : y < 2 ^ 32) (hc : c ≤ 1) : PureC Tryz.prog 152 [u32 x, u32 y, u32 c] (.tup [u32 ((x + y + c) % 2 ^ 32), u32 ((x + y + c) / 2 ^ 32)]) := by
  refine pureC_of_vc s152 rfl (Nat.le_of_ble_eq_true rfl) rfl ?_
  refine vc_at s152 [] 100 ?_
  repeat' first
    | apply And.intro
    | exact (fun h => Bool.noConfusion h)
    | (refine chkI ?_; kernel_rfl)
    | (refine chkBI ?_; kernel_rfl)
    | exact (fun _ => True.intro)
    | exact True.intro
    | exact (fun h => h)
    | exact rfl
    | decide
    | exact (fun _ => by decide)
    | exact (show (_ : Int) ≠ _ by decide)
    | fail
  all_goals first
    | omega
    | (simp only [imp, i64ok, sz, List.length_map, List.length_cons, List.length_nil] <;> omega)
    | skip
  repeat' first
    | apply And.intro
    | exact (fun h => Bool.noConfusion h)
    | (refine chkI ?_; kernel_rfl)
    | (refine chkBI ?_; kernel_rfl)
    | exact (fun _ => True.intro)
    | exact True.intro
    | exact (fun h => h)
    | exact rfl
    | decide
    | exact (fun _ => by decide)
    | exact (show (_ : Int) ≠ _ by decide)
    | fail
  have e : IntKind.u64.wrap (IntKind.u64.wrap (IntKind.u64.wrap (x : Int) + IntKind.u64.wrap (y : Int)) + IntKind.u64.wrap (c : Int)) = ((x + y + c : Nat) : Int) := by
    rw [wrapI_u64, wrapI_u64, wrapI_u64, wrapI_u64, wrapI_u64]; omega
  show AV.tup [.val (.int .u32 (IntKind.u32.wrap (IntKind.u64.wrap (IntKind.u64.wrap (IntKind.u64.wrap (x : Int) + IntKind.u64.wrap (y : Int)) + IntKind.u64.wrap (c : Int))))), .val (.int .u32 (IntKind.u32.wrap ((IntKind.u64.wrap (IntKind.u64.wrap (IntKind.u64.wrap (x : Int) + IntKind.u64.wrap (y : Int)) + IntKind.u64.wrap (c : Int))).fdiv (2 ^ 32))))] = _
  rw [e, shr_nat, wrap_u32, wrap_u32, Nat.mod_eq_of_lt (show (x + y + c) / 2 ^ 32 < 2 ^ 32 by omega)]

/-- bits.Sub32 -/
theorem c155 (x y c : Nat) (hx : x < 2 ^ 32) (hy : y < 2 ^ 32) (hc : c ≤ 1) : PureC Tryz.prog 155 [u32 x, u32 y, u32 c] (.tup [u32 ((x + 2 ^ 32 - y - c) % 2 ^ 32), u32 (if x < y + c then 1 else 0)]) := by
  refine pureC_of_vc s155 rfl (Nat.le_of_ble_eq_true rfl) rfl ?_
  refine vc_at s155 [] 100 ?_
  repeat' first
    | apply And.intro
    | exact (fun h => Bool.noConfusion h)
    | (refine chkI ?_; kernel_rfl)
    | (refine chkBI ?_; kernel_rfl)
    | exact (fun _ => True.intro)
    | exact True.intro
    | exact (fun h => h)
    | exact rfl
    | decide
    | exact (fun _ => by decide)
    | exact (show (_ : Int) ≠ _ by decide)
    | fail
  all_goals first
    | omega
    | (simp only [imp, i64ok, sz, List.length_map, List.length_cons, List.length_nil] <;> omega)
    | skip
  repeat' first
    | apply And.intro
    | exact (fun h => Bool.noConfusion h)
    | (refine chkI ?_; kernel_rfl)
    | (refine chkBI ?_; kernel_rfl)
    | exact (fun _ => True.intro)
    | exact True.intro
    | exact (fun h => h)
    | exact rfl
    | decide
    | exact (fun _ => by decide)
    | exact (show (_ : Int) ≠ _ by decide)
    | fail
  have e : IntKind.u32.wrap (IntKind.u32.wrap ((x : Int) - (y : Int)) - (c : Int)) = (((x + 2 ^ 32 - y - c) % 2 ^ 32 : Nat) : Int) := by
    rw [wrapI_u32, wrapI_u32]; omega
  have hd : (x + 2 ^ 32 - y - c) % 2 ^ 32 < 2 ^ 32 := Nat.mod_lt _ (Nat.two_pow_pos _)
  have hm : (4294967295 : Nat) < 2 ^ 32 := by omega
  show AV.tup [.val (.int .u32 (IntKind.u32.wrap (IntKind.u32.wrap ((x : Int) - (y : Int)) - (c : Int)))), .val (.int .u32 ((bitsOf .or .u32 (bitsOf .and .u32 (bitsOf .xor .u32 ((4294967295 : Nat) : Int) (x : Int)) (y : Int)) (bitsOf .and .u32 (bitsOf .xor .u32 ((4294967295 : Nat) : Int) (bitsOf .xor .u32 (x : Int) (y : Int))) (IntKind.u32.wrap (IntKind.u32.wrap ((x : Int) - (y : Int)) - (c : Int))))).fdiv (2 ^ 31)))] = _
  rw [e, xor_u32 hm hx, xor_u32 hx hy, xor_u32 hm (Nat.xor_lt_two_pow hx hy), and_u32 (Nat.xor_lt_two_pow hm hx) hy, and_u32 (Nat.xor_lt_two_pow hm (Nat.xor_lt_two_pow hx hy)) hd, or_u32 (Nat.and_lt_two_pow _ hy) (Nat.and_lt_two_pow _ hd), shr_nat, borrow x y _ c hx hy hc rfl]

theorem c153' (m n : Nat) (nl : Option Bool) (cp : Option Nat) (hm : m < 2 ^ 40) (h : n < 2 ^ (32 * m)) : PureC Tryz.prog 153 [.sl nl cp 1 (limbsOf m n)] (str (enc n)) := by
  have := c153 ((List.range m).map (limb n)) nl cp (by simpa using hm) (fun x hx => by
    obtain ⟨j, _, rfl⟩ := List.mem_map.1 hx
    exact limb_lt _ _)
  rw [val_range h, List.map_map] at this
  exact this

theorem limbsOf_len (m n : Nat) : (limbsOf m n).length = m := by simp [limbsOf]
theorem limbsOf_get {m n j : Nat} (h : j < m) : (limbsOf m n)[j]? = some (u32 (limb n j)) := by
  simp only [limbsOf, List.getElem?_map]; rw [List.getElem?_range h]; rfl

theorem s92 : Setting Tryz.prog tys (fi 92 Tryz.f92) := setting (by kernel_rfl) (by kernel_rfl)
theorem loop92 (X Y mx my : Nat) (hx : X < 2 ^ (32 * mx)) (hy : Y < 2 ^ (32 * my)) (hm : my ≤ mx) (hmx : mx < 2 ^ 39) : ∀ (n i : Nat) (elems : List AV) (xs ys : List AV) (len : Nat) (vc vi vn : Value), mx - i ≤ n → i ≤ mx → elems = limbsOf (mx + 1) ((X + Y) % 2 ^ (32 * i)) → xs = limbsOf mx X → ys = limbsOf my Y → len = mx + 1 → vc = .int .u32 (carry X Y i : Int) → vi = .int .i64 (i : Int) → vn = .int .i64 (mx : Int) →
    VC Tryz.prog (fi 92 Tryz.f92) [0, 0, 1, 0, 1, 1, 1, 1, 1] ⟨[(5, .sl (some false) none 1 xs), (6, .sl (some false) none 1 ys), (7, .ref 0 0 len none 0 1), (8, .val vc), (27, .val vn), (28, .val vi)], [.row elems 1 0]⟩ (Gives (str (enc (X + Y))))
  | n, i, _, _, _, _, _, _, _, hn, hi, rfl, rfl, rfl, rfl, rfl, rfl, rfl => by
    refine vc_at s92 [[0, 0, 1, 0, 1, 1, 1, 1, 1]] 100 ?_
    repeat' first
      | apply And.intro
      | exact (fun h => Bool.noConfusion h)
      | (refine chkI ?_; kernel_rfl)
      | (refine chkBI ?_; kernel_rfl)
      | exact (fun _ => True.intro)
      | exact True.intro
      | exact (fun h => h)
      | exact rfl
      | decide
      | exact (fun _ => by decide)
      | exact (show (_ : Int) ≠ _ by decide)
      | fail
    conv => whnf
    split
    · rename_i hc
      have hlt : i < mx := by simpa using hc
      repeat' first
        | apply And.intro
        | exact (fun h => Bool.noConfusion h)
        | (refine chkI ?_; kernel_rfl)
        | (refine chkBI ?_; kernel_rfl)
        | exact (fun _ => True.intro)
        | exact True.intro
        | exact (fun h => h)
        | exact rfl
        | decide
        | exact (fun _ => by decide)
        | exact (show (_ : Int) ≠ _ by decide)
        | fail
      conv => whnf
      split
      · rename_i hc2
        have hlt2 : i < my := by simp [limbsOf_len] at hc2; omega
        repeat' first
          | apply And.intro
          | exact (fun h => Bool.noConfusion h)
          | (refine chkI ?_; kernel_rfl)
          | (refine chkBI ?_; kernel_rfl)
          | exact (fun _ => True.intro)
          | exact True.intro
          | exact (fun h => h)
          | exact rfl
          | decide
          | exact (fun _ => by decide)
          | exact (show (_ : Int) ≠ _ by decide)
          | fail
        apply Exists.intro (u32 (limb Y i))
        apply And.intro
        · exact ⟨Int.natCast_nonneg _, limbsOf_get hlt2, rfl⟩
        repeat' first
          | apply And.intro
          | exact (fun h => Bool.noConfusion h)
          | (refine chkI ?_; kernel_rfl)
          | (refine chkBI ?_; kernel_rfl)
          | exact (fun _ => True.intro)
          | exact True.intro
          | exact (fun h => h)
          | exact rfl
          | decide
          | exact (fun _ => by decide)
          | exact (show (_ : Int) ≠ _ by decide)
          | fail
        apply Exists.intro (u32 (limb X i))
        apply And.intro
        · exact ⟨Int.natCast_nonneg _, limbsOf_get hlt, rfl⟩
        repeat' first
          | apply And.intro
          | exact (fun h => Bool.noConfusion h)
          | (refine chkI ?_; kernel_rfl)
          | (refine chkBI ?_; kernel_rfl)
          | exact (fun _ => True.intro)
          | exact True.intro
          | exact (fun h => h)
          | exact rfl
          | decide
          | exact (fun _ => by decide)
          | exact (show (_ : Int) ≠ _ by decide)
          | fail
        refine Exists.intro _ (And.intro (c152 (limb X i) (limb Y i) (carry X Y i) (limb_lt _ _) (limb_lt _ _) (carry_le _ _ _)) ?_)
        repeat' first
          | apply And.intro
          | exact (fun h => Bool.noConfusion h)
          | (refine chkI ?_; kernel_rfl)
          | (refine chkBI ?_; kernel_rfl)
          | exact (fun _ => True.intro)
          | exact True.intro
          | exact (fun h => h)
          | exact rfl
          | decide
          | exact (fun _ => by decide)
          | exact (show (_ : Int) ≠ _ by decide)
          | fail
        all_goals first
          | omega
          | (simp only [imp, i64ok, sz, List.length_map, List.length_cons, List.length_nil] <;> omega)
          | skip
        apply Exists.intro (u32 (limb ((X + Y) % 2 ^ (32 * i)) i))
        apply And.intro
        · exact ⟨rfl, by simpa using limbsOf_get (show i < mx + 1 by omega), Nat.le_refl _⟩
        repeat' first
          | apply And.intro
          | exact (fun h => Bool.noConfusion h)
          | (refine chkI ?_; kernel_rfl)
          | (refine chkBI ?_; kernel_rfl)
          | exact (fun _ => True.intro)
          | exact True.intro
          | exact (fun h => h)
          | exact rfl
          | decide
          | exact (fun _ => by decide)
          | exact (show (_ : Int) ≠ _ by decide)
          | fail
        all_goals first
          | omega
          | (simp only [imp, i64ok, sz, List.length_map, List.length_cons, List.length_nil] <;> omega)
          | skip
        refine VC.forget 1 [5, 6, 7, 8, 27, 28] (Nat.zero_le _) (loop92 X Y mx my hx hy hm hmx (n - 1) (i + 1) _ _ _ _ _ _ _ (by omega) hlt ?_ rfl rfl rfl ?_ ?_ rfl)
        · rw [Nat.zero_add, Int.toNat_natCast]
          refine limbs_set _ _ _ _ (by omega) (fun j hj => ?_) _ ?_
          · rw [limb_mod, limb_mod]
            by_cases h : j < i
            · rw [if_pos h, if_pos (by omega)]
            · rw [if_neg h, if_neg (by omega)]
          · show AV.val (.int .u32 (((limb X i + limb Y i + carry X Y i) % 2 ^ 32 : Nat) : Int)) = _
            rw [limb_mod, if_pos (Nat.lt_succ_self i), limb_add]
        · show Value.int .u32 (((limb X i + limb Y i + carry X Y i) / 2 ^ 32 : Nat) : Int) = _
          rw [carry_succ]
        · show Value.int .i64 ((i : Int) + 1) = _
          simp
      · rename_i hc2
        have hle : my ≤ i := by simp [limbsOf_len] at hc2; omega
        have hz : limb Y i = 0 := limb_zero (Nat.lt_of_lt_of_le hy (Nat.pow_le_pow_right (by omega) (by omega)))
        repeat' first
          | apply And.intro
          | exact (fun h => Bool.noConfusion h)
          | (refine chkI ?_; kernel_rfl)
          | (refine chkBI ?_; kernel_rfl)
          | exact (fun _ => True.intro)
          | exact True.intro
          | exact (fun h => h)
          | exact rfl
          | decide
          | exact (fun _ => by decide)
          | exact (show (_ : Int) ≠ _ by decide)
          | fail
        apply Exists.intro (u32 (limb X i))
        apply And.intro
        · exact ⟨Int.natCast_nonneg _, limbsOf_get hlt, rfl⟩
        repeat' first
          | apply And.intro
          | exact (fun h => Bool.noConfusion h)
          | (refine chkI ?_; kernel_rfl)
          | (refine chkBI ?_; kernel_rfl)
          | exact (fun _ => True.intro)
          | exact True.intro
          | exact (fun h => h)
          | exact rfl
          | decide
          | exact (fun _ => by decide)
          | exact (show (_ : Int) ≠ _ by decide)
          | fail
        refine Exists.intro _ (And.intro (c152 (limb X i) 0 (carry X Y i) (limb_lt _ _) (by omega) (carry_le _ _ _)) ?_)
        repeat' first
          | apply And.intro
          | exact (fun h => Bool.noConfusion h)
          | (refine chkI ?_; kernel_rfl)
          | (refine chkBI ?_; kernel_rfl)
          | exact (fun _ => True.intro)
          | exact True.intro
          | exact (fun h => h)
          | exact rfl
          | decide
          | exact (fun _ => by decide)
          | exact (show (_ : Int) ≠ _ by decide)
          | fail
        all_goals first
          | omega
          | (simp only [imp, i64ok, sz, List.length_map, List.length_cons, List.length_nil] <;> omega)
          | skip
        apply Exists.intro (u32 (limb ((X + Y) % 2 ^ (32 * i)) i))
        apply And.intro
        · exact ⟨rfl, by simpa using limbsOf_get (show i < mx + 1 by omega), Nat.le_refl _⟩
        repeat' first
          | apply And.intro
          | exact (fun h => Bool.noConfusion h)
          | (refine chkI ?_; kernel_rfl)
          | (refine chkBI ?_; kernel_rfl)
          | exact (fun _ => True.intro)
          | exact True.intro
          | exact (fun h => h)
          | exact rfl
          | decide
          | exact (fun _ => by decide)
          | exact (show (_ : Int) ≠ _ by decide)
          | fail
        all_goals first
          | omega
          | (simp only [imp, i64ok, sz, List.length_map, List.length_cons, List.length_nil] <;> omega)
          | skip
        refine VC.forget 1 [5, 6, 7, 8, 27, 28] (Nat.zero_le _) (loop92 X Y mx my hx hy hm hmx (n - 1) (i + 1) _ _ _ _ _ _ _ (by omega) hlt ?_ rfl rfl rfl ?_ ?_ rfl)
        · rw [Nat.zero_add, Int.toNat_natCast]
          refine limbs_set _ _ _ _ (by omega) (fun j hj => ?_) _ ?_
          · rw [limb_mod, limb_mod]
            by_cases h : j < i
            · rw [if_pos h, if_pos (by omega)]
            · rw [if_neg h, if_neg (by omega)]
          · show AV.val (.int .u32 (((limb X i + 0 + carry X Y i) % 2 ^ 32 : Nat) : Int)) = _
            rw [limb_mod, if_pos (Nat.lt_succ_self i), limb_add, hz]
        · show Value.int .u32 (((limb X i + 0 + carry X Y i) / 2 ^ 32 : Nat) : Int) = _
          rw [carry_succ, hz]
        · show Value.int .i64 ((i : Int) + 1) = _
          simp
    · rename_i hc
      have hi' : i = mx := by simp at hc; omega
      subst hi'
      have hl := limbsOf_len i X
      repeat' first
        | apply And.intro
        | exact (fun h => Bool.noConfusion h)
        | (refine chkI ?_; kernel_rfl)
        | (refine chkBI ?_; kernel_rfl)
        | exact (fun _ => True.intro)
        | exact True.intro
        | exact (fun h => h)
        | exact rfl
        | decide
        | exact (fun _ => by decide)
        | exact (show (_ : Int) ≠ _ by decide)
        | fail
      all_goals rw [hl]
      all_goals first
        | omega
        | (simp only [imp, i64ok, sz, List.length_map, List.length_cons, List.length_nil] <;> omega)
        | skip
      apply Exists.intro (u32 (limb ((X + Y) % 2 ^ (32 * i)) i))
      apply And.intro
      · exact ⟨rfl, by simpa using limbsOf_get (show i < i + 1 by omega), Nat.le_refl _⟩
      repeat' first
        | apply And.intro
        | exact (fun h => Bool.noConfusion h)
        | (refine chkI ?_; kernel_rfl)
        | (refine chkBI ?_; kernel_rfl)
        | exact (fun _ => True.intro)
        | exact True.intro
        | exact (fun h => h)
        | exact rfl
        | decide
        | exact (fun _ => by decide)
        | exact (show (_ : Int) ≠ _ by decide)
        | fail
      have hX : X % 2 ^ (32 * i) = X := Nat.mod_eq_of_lt hx
      have hy' : Y < 2 ^ (32 * i) := Nat.lt_of_lt_of_le hy (Nat.pow_le_pow_right (by omega) (by omega))
      have hY : Y % 2 ^ (32 * i) = Y := Nat.mod_eq_of_lt hy'
      have hXY : X + Y < 2 ^ (32 * (i + 1)) := by
        rw [show 32 * (i + 1) = 32 * i + 32 by omega, Nat.pow_add]
        clear hc hX hY hm hn hl
        generalize 2 ^ (32 * i) = P at *
        omega
      have hc : carry X Y i = limb (X + Y) i := by
        have := carry_le X Y i
        unfold limb
        rw [Nat.mod_eq_of_lt]
        · unfold carry; rw [hX, hY]
        · have : (X + Y) / 2 ^ (32 * i) = carry X Y i := by unfold carry; rw [hX, hY]
          omega
      refine Exists.intro _ (And.intro (pc (c153' (i + 1) (X + Y) (some false) none (by omega) hXY) ?_) ?_)
      · show [AV.sl (some false) none 1 ((List.drop 0 ((limbsOf (i + 1) ((X + Y) % 2 ^ (32 * i))).set (0 + ((i : Int)).toNat) (.val (.int .u32 (carry X Y i : Int))))).take (i + 1))] = _
        rw [Nat.zero_add, Int.toNat_natCast, limbs_set (i + 1) ((X + Y) % 2 ^ (32 * i)) (X + Y) i (by omega) (fun j hj => ?_) _ (by rw [hc]), List.drop_zero, List.take_of_length_le (by rw [limbsOf_len]; omega)]
        rw [limb_mod]
        by_cases h : j < i
        · rw [if_pos h]
        · rw [if_neg h, limb_zero (Nat.lt_of_lt_of_le hXY (Nat.pow_le_pow_right (by omega) (by omega)))]
      repeat' first
        | apply And.intro
        | exact (fun h => Bool.noConfusion h)
        | (refine chkI ?_; kernel_rfl)
        | (refine chkBI ?_; kernel_rfl)
        | exact (fun _ => True.intro)
        | exact True.intro
        | exact (fun h => h)
        | exact rfl
        | decide
        | exact (fun _ => by decide)
        | exact (show (_ : Int) ≠ _ by decide)
        | fail

theorem nl_mono {m n : Nat} (h : nl m < nl n) : m < n := by
  rcases Nat.lt_or_ge m n with h1 | h1
  · exact h1
  · have := enc_len_mono h1; unfold nl at h; omega

theorem nl_dec (l : List UInt8) : nl (dec l) ≤ l.length := by
  have := trim_len l
  rw [trimR_dec] at this
  unfold nl; omega

theorem c92 (a b : List UInt8) (ha : a.length < 2 ^ 39) (hb : b.length < 2 ^ 39) : PureC Tryz.prog 92 [str a, str b] (str (enc (dec a + dec b))) := by
  have h1 := nl_dec a
  have h2 := nl_dec b
  have l1 := limbsOf_len (nl (dec a)) (dec a)
  have l2 := limbsOf_len (nl (dec b)) (dec b)
  have hz : ∀ (m n : Nat), List.replicate (((m : Int) + 1)).toNat (u32 0) = limbsOf (m + 1) (n % 2 ^ (32 * 0)) := fun m n => by
    rw [show ((m : Int) + 1).toNat = m + 1 by omega, limbs_zero]; simp [Nat.mod_one]
  have hc0 : ∀ x y, Value.int .u32 (0 : Int) = Value.int .u32 (carry x y 0 : Int) := fun x y => by simp [carry, Nat.mod_one]
  have ht : ∀ m : Nat, ((m : Int) + 1).toNat = m + 1 := fun m => by omega
  refine pureC_of_vc s92 rfl (Nat.le_of_ble_eq_true rfl) rfl ?_
  refine vc_at s92 [] 100 ?_
  repeat' first
    | apply And.intro
    | exact (fun h => Bool.noConfusion h)
    | (refine chkI ?_; kernel_rfl)
    | (refine chkBI ?_; kernel_rfl)
    | exact (fun _ => True.intro)
    | exact True.intro
    | exact (fun h => h)
    | exact rfl
    | decide
    | exact (fun _ => by decide)
    | exact (show (_ : Int) ≠ _ by decide)
    | fail
  refine Exists.intro _ (And.intro (c151 a (by omega)) ?_)
  repeat' first
    | apply And.intro
    | exact (fun h => Bool.noConfusion h)
    | (refine chkI ?_; kernel_rfl)
    | (refine chkBI ?_; kernel_rfl)
    | exact (fun _ => True.intro)
    | exact True.intro
    | exact (fun h => h)
    | exact rfl
    | decide
    | exact (fun _ => by decide)
    | exact (show (_ : Int) ≠ _ by decide)
    | fail
  refine Exists.intro _ (And.intro (c151 b (by omega)) ?_)
  repeat' first
    | apply And.intro
    | exact (fun h => Bool.noConfusion h)
    | (refine chkI ?_; kernel_rfl)
    | (refine chkBI ?_; kernel_rfl)
    | exact (fun _ => True.intro)
    | exact True.intro
    | exact (fun h => h)
    | exact rfl
    | decide
    | exact (fun _ => by decide)
    | exact (show (_ : Int) ≠ _ by decide)
    | fail
  conv => whnf
  split
  · rename_i hlt
    have hlt : nl (dec a) < nl (dec b) := by rw [l1, l2] at hlt; simp at hlt; exact hlt
    rw [Nat.add_comm (dec a) (dec b)]
    repeat' first
      | apply And.intro
      | exact (fun h => Bool.noConfusion h)
      | (refine chkI ?_; kernel_rfl)
      | (refine chkBI ?_; kernel_rfl)
      | exact (fun _ => True.intro)
      | exact True.intro
      | exact (fun h => h)
      | exact rfl
      | decide
      | exact (fun _ => by decide)
      | exact (show (_ : Int) ≠ _ by decide)
      | fail
    all_goals rw [l2]
    all_goals first
      | omega
      | (simp only [imp, i64ok, sz, List.length_map, List.length_cons, List.length_nil] <;> omega)
      | skip
    exact VC.forget 1 [5, 6, 7, 8, 27, 28] (Nat.zero_le _) (loop92 (dec b) (dec a) (nl (dec b)) (nl (dec a)) (lt_nl _) (lt_nl _) (by omega) (by omega) _ 0 _ _ _ _ _ _ _ (Nat.le_refl _) (Nat.zero_le _) (hz _ _) rfl rfl (ht _) (hc0 _ _) rfl rfl)
  · rename_i hlt
    have hlt : nl (dec b) ≤ nl (dec a) := by rw [l1, l2] at hlt; simp at hlt; exact hlt
    repeat' first
      | apply And.intro
      | exact (fun h => Bool.noConfusion h)
      | (refine chkI ?_; kernel_rfl)
      | (refine chkBI ?_; kernel_rfl)
      | exact (fun _ => True.intro)
      | exact True.intro
      | exact (fun h => h)
      | exact rfl
      | decide
      | exact (fun _ => by decide)
      | exact (show (_ : Int) ≠ _ by decide)
      | fail
    all_goals rw [l1]
    all_goals first
      | omega
      | (simp only [imp, i64ok, sz, List.length_map, List.length_cons, List.length_nil] <;> omega)
      | skip
    exact VC.forget 1 [5, 6, 7, 8, 27, 28] (Nat.zero_le _) (loop92 (dec a) (dec b) (nl (dec a)) (nl (dec b)) (lt_nl _) (lt_nl _) (by omega) (by omega) _ 0 _ _ _ _ _ _ _ (Nat.le_refl _) (Nat.zero_le _) (hz _ _) rfl rfl (ht _) (hc0 _ _) rfl rfl)

end Vm
end Go.Proofs.YtdbpcmpkpbamhaaGreatDoor

/- Differences of numbers, limb by limb: plain Lean. -/
namespace Go.Proofs.YtdbpcmpkpbamhaaGreatDoor
set_option linter.unusedVariables false
namespace Vm
open Go

/-- The borrow from limb i of a difference. -/
def brw (X Y i : Nat) : Nat := if X % 2 ^ (32 * i) < Y % 2 ^ (32 * i) then 1 else 0

theorem brw_le (X Y i : Nat) : brw X Y i ≤ 1 := by unfold brw; split <;> omega

theorem brw_zero (X Y : Nat) : brw X Y 0 = 0 := by simp [brw, Nat.mod_one]

theorem brw_succ (X Y i : Nat) : brw X Y (i + 1) = if limb X i < limb Y i + brw X Y i then 1 else 0 := by
  unfold brw
  rw [mod_succ_limb, mod_succ_limb]
  have h1 := Nat.mod_lt X (Nat.two_pow_pos (32 * i))
  have h2 := Nat.mod_lt Y (Nat.two_pow_pos (32 * i))
  generalize X % 2 ^ (32 * i) = x at *
  generalize Y % 2 ^ (32 * i) = y at *
  generalize limb X i = a
  generalize limb Y i = b
  generalize 2 ^ (32 * i) = P at *
  have key : x + P * a < y + P * b ↔ a < b + (if x < y then 1 else 0) := by
    rcases Nat.lt_trichotomy a b with h | h | h
    · have : P * a + P ≤ P * b := by rw [← Nat.mul_succ]; exact Nat.mul_le_mul_left _ h
      constructor
      · intro _; omega
      · intro _; omega
    · subst h
      split <;> omega
    · have : P * b + P ≤ P * a := by rw [← Nat.mul_succ]; exact Nat.mul_le_mul_left _ h
      constructor
      · intro _; omega
      · split <;> omega
  by_cases h : x + P * a < y + P * b
  · rw [if_pos h, if_pos (key.1 h)]
  · rw [if_neg h, if_neg (fun h' => h (key.2 h'))]

theorem limb_sub {X Y : Nat} (h : Y ≤ X) (i : Nat) : limb (X - Y) i = (limb X i + 2 ^ 32 - limb Y i - brw X Y i) % 2 ^ 32 := by
  have hp := Nat.two_pow_pos (32 * i)
  have e : (X - Y) / 2 ^ (32 * i) + Y / 2 ^ (32 * i) + brw X Y i = X / 2 ^ (32 * i) := by
    unfold brw
    have h1 := Nat.div_add_mod X (2 ^ (32 * i))
    have h2 := Nat.div_add_mod Y (2 ^ (32 * i))
    have h3 := Nat.mod_lt X hp
    have h4 := Nat.mod_lt Y hp
    generalize X % 2 ^ (32 * i) = x at *
    generalize Y % 2 ^ (32 * i) = y at *
    generalize X / 2 ^ (32 * i) = a at *
    generalize Y / 2 ^ (32 * i) = b at *
    generalize 2 ^ (32 * i) = P at *
    have hab : b ≤ a := by
      rcases Nat.lt_or_ge a b with h5 | h5
      · have : P * a + P ≤ P * b := by rw [← Nat.mul_succ]; exact Nat.mul_le_mul_left _ h5
        omega
      · exact h5
    obtain ⟨k, rfl⟩ := Nat.exists_eq_add_of_le hab
    rw [Nat.mul_add] at h1
    split
    · rename_i hxy
      have hk : 0 < k := by
        rcases Nat.eq_zero_or_pos k with h5 | h5
        · subst h5; simp at h1; omega
        · exact h5
      obtain ⟨m, rfl⟩ := Nat.exists_eq_add_of_le hk
      rw [Nat.mul_add, Nat.mul_one] at h1
      have : X - Y = (P + x - y) + P * m := by omega
      rw [this, Nat.add_mul_div_left _ _ hp, Nat.div_eq_of_lt (by omega)]; omega
    · rename_i hxy
      have : X - Y = (x - y) + P * k := by omega
      rw [this, Nat.add_mul_div_left _ _ hp, Nat.div_eq_of_lt (by omega)]; omega
  have hb := brw_le X Y i
  unfold limb
  generalize (X - Y) / 2 ^ (32 * i) = d at *
  generalize X / 2 ^ (32 * i) = a at *
  generalize Y / 2 ^ (32 * i) = b at *
  generalize brw X Y i = c at *
  omega

end Vm
end Go.Proofs.YtdbpcmpkpbamhaaGreatDoor
