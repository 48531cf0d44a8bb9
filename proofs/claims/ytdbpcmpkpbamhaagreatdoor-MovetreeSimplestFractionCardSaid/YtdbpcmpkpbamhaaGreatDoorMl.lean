/- Walks: rational numbers. -/
import Derived.Test.YtdbpcmpkpbamhaaGreatDoorMk
namespace Go.Proofs.YtdbpcmpkpbamhaaGreatDoor
set_option linter.unusedVariables false
set_option linter.unusedSimpArgs false
set_option maxRecDepth 100000
namespace Vm
open Go

/-- The greatest common divisor of two magnitudes, and the two quotients. -/
structure GD (a b : Nat) : Prop where
  gcd : PureC Tryz.prog 96 [str (enc a), str (enc b)] (str (enc (Nat.gcd a b)))
  num : PureC Tryz.prog 98 [str (enc a), str (enc (Nat.gcd a b))] (.tup [str (enc (a / Nat.gcd a b)), str (enc (a % Nat.gcd a b)), .val (.bool true)])
  den : PureC Tryz.prog 98 [str (enc b), str (enc (Nat.gcd a b))] (.tup [str (enc (b / Nat.gcd a b)), str (enc (b % Nat.gcd a b)), .val (.bool true)])

theorem enc_len_64 {n : Nat} (h : n < 2 ^ 64) : (enc n).length ≤ 8 := enc_length_le (by rw [p256]; exact h)

theorem gd_small {a b : Nat} (ha : a < 2 ^ 64) (hb0 : 0 < b) (hb : b < 2 ^ 32) : GD a b := by
  have h1 := enc_len_64 (n := a) (by omega)
  have h2 := enc_len_64 (n := b) (by omega)
  have hg0 : 0 < Nat.gcd a b := Nat.gcd_pos_of_pos_right _ hb0
  have hgle : Nat.gcd a b ≤ b := Nat.gcd_le_right _ hb0
  have h3 := enc_len_64 (n := Nat.gcd a b) (by omega)
  refine ⟨?_, ?_, ?_⟩
  · have := c96 (enc a) (enc b) (by omega) (by omega) (by rw [dec_enc]; omega) (by rw [dec_enc]; omega)
    rwa [dec_enc, dec_enc] at this
  · have := c98 (enc a) (enc (Nat.gcd a b)) (by omega) (by omega) (by rw [dec_enc]; omega) (by rw [dec_enc]; omega)
    rwa [dec_enc, dec_enc] at this
  · have := c98 (enc b) (enc (Nat.gcd a b)) (by omega) (by omega) (by rw [dec_enc]; omega) (by rw [dec_enc]; omega)
    rwa [dec_enc, dec_enc] at this

theorem s84 : Setting Tryz.prog tys (fi 84 Tryz.f84) := setting (by kernel_rfl) (by kernel_rfl)
theorem s97 : Setting Tryz.prog tys (fi 97 Tryz.f97) := setting (by kernel_rfl) (by kernel_rfl)
theorem s41 : Setting Tryz.prog tys (fi 41 Tryz.f41) := setting (by kernel_rfl) (by kernel_rfl)
/-- rational.parts -/
theorem c84 (neg : Bool) (num den : List UInt8) (hn : num.length < 2 ^ 38) (hd : den.length < 2 ^ 38) : PureC Tryz.prog 84 [ratS neg num den] (.tup [int (numI neg num), int (denN den : Int)]) := by
  have e1 : AV.agg [.val (.bool (neg && !(trimR 0 num).isEmpty)), str (trimR 0 num)] = int (numI neg num) := by
    rw [trimR_dec, enc_isEmpty]
    show AV.agg [.val (.bool (neg && dec num != 0)), str (enc (dec num))] = AV.agg [.val (.bool (decide (numI neg num < 0))), str (enc (numI neg num).natAbs)]
    rw [numI_abs, numI_neg]
  refine pureC_of_vc s84 rfl (Nat.le_of_ble_eq_true rfl) rfl ?_
  refine vc_at s84 [] 100 ?_
  repeat' first
    | apply And.intro
    | exact (fun h => Bool.noConfusion h)
    | (refine chkI ?_; kernel_rfl)
    | (refine chkBI ?_; kernel_rfl)
    | exact (fun _ => True.intro)
    | exact True.intro
    | exact (fun h => h)
    | exact rfl
    | decide
    | exact (fun _ => by decide)
    | exact (show (_ : Int) ≠ _ by decide)
    | fail
  refine Exists.intro _ (And.intro (c148 den (by omega)) ?_)
  rw [trimR_dec]
  repeat' first
    | apply And.intro
    | exact (fun h => Bool.noConfusion h)
    | (refine chkI ?_; kernel_rfl)
    | (refine chkBI ?_; kernel_rfl)
    | exact (fun _ => True.intro)
    | exact True.intro
    | exact (fun h => h)
    | exact rfl
    | decide
    | exact (fun _ => by decide)
    | exact (show (_ : Int) ≠ _ by decide)
    | fail
  rw [bs_enc_empty]
  rcases Nat.eq_zero_or_pos (dec den) with h0 | h0
  · rw [h0]
    repeat' first
      | apply And.intro
      | exact (fun h => Bool.noConfusion h)
      | (refine chkI ?_; kernel_rfl)
      | (refine chkBI ?_; kernel_rfl)
      | exact (fun _ => True.intro)
      | exact True.intro
      | exact (fun h => h)
      | exact rfl
      | decide
      | exact (fun _ => by decide)
      | exact (show (_ : Int) ≠ _ by decide)
      | fail
    refine Exists.intro _ (And.intro (c40 1 (by decide) (by decide)) ?_)
    repeat' first
      | apply And.intro
      | exact (fun h => Bool.noConfusion h)
      | (refine chkI ?_; kernel_rfl)
      | (refine chkBI ?_; kernel_rfl)
      | exact (fun _ => True.intro)
      | exact True.intro
      | exact (fun h => h)
      | exact rfl
      | decide
      | exact (fun _ => by decide)
      | exact (show (_ : Int) ≠ _ by decide)
      | fail
    refine Exists.intro _ (And.intro (c90 neg num (by omega)) ?_)
    rw [e1]
    repeat' first
      | apply And.intro
      | exact (fun h => Bool.noConfusion h)
      | (refine chkI ?_; kernel_rfl)
      | (refine chkBI ?_; kernel_rfl)
      | exact (fun _ => True.intro)
      | exact True.intro
      | exact (fun h => h)
      | exact rfl
      | decide
      | exact (fun _ => by decide)
      | exact (show (_ : Int) ≠ _ by decide)
      | fail
    show AV.tup [int (numI neg num), int 1] = _
    rw [show denN den = 1 by unfold denN; rw [if_pos h0]]
    rfl
  · rw [show (dec den == 0) = false by simp; omega]
    repeat' first
      | apply And.intro
      | exact (fun h => Bool.noConfusion h)
      | (refine chkI ?_; kernel_rfl)
      | (refine chkBI ?_; kernel_rfl)
      | exact (fun _ => True.intro)
      | exact True.intro
      | exact (fun h => h)
      | exact rfl
      | decide
      | exact (fun _ => by decide)
      | exact (show (_ : Int) ≠ _ by decide)
      | fail
    refine Exists.intro _ (And.intro (c90 neg num (by omega)) ?_)
    rw [e1]
    repeat' first
      | apply And.intro
      | exact (fun h => Bool.noConfusion h)
      | (refine chkI ?_; kernel_rfl)
      | (refine chkBI ?_; kernel_rfl)
      | exact (fun _ => True.intro)
      | exact True.intro
      | exact (fun h => h)
      | exact rfl
      | decide
      | exact (fun _ => by decide)
      | exact (show (_ : Int) ≠ _ by decide)
      | fail
    show AV.tup [int (numI neg num), .agg [.val (.bool false), str (enc (dec den))]] = AV.tup [int (numI neg num), .agg [.val (.bool (decide ((denN den : Int) < 0))), str (enc (denN den : Int).natAbs)]]
    rw [show denN den = dec den by unfold denN; rw [if_neg (by omega)]]
    rw [show decide ((dec den : Int) < 0) = false by simp, show (dec den : Int).natAbs = dec den by omega]

theorem c97 (a g : List UInt8) (q r : Nat) (h : PureC Tryz.prog 98 [str a, str g] (.tup [str (enc q), str (enc r), .val (.bool true)])) : PureC Tryz.prog 97 [str a, .ipt [str g]] (str (enc q)) := by
  refine pureC_of_vc s97 rfl (Nat.le_of_ble_eq_true rfl) rfl ?_
  refine vc_at s97 [] 100 ?_
  repeat' first
    | apply And.intro
    | exact (fun h => Bool.noConfusion h)
    | (refine chkI ?_; kernel_rfl)
    | (refine chkBI ?_; kernel_rfl)
    | exact (fun _ => True.intro)
    | exact True.intro
    | exact (fun h => h)
    | exact rfl
    | decide
    | exact (fun _ => by decide)
    | exact (show (_ : Int) ≠ _ by decide)
    | fail
  refine Exists.intro _ (And.intro (h) ?_)
  repeat' first
    | apply And.intro
    | exact (fun h => Bool.noConfusion h)
    | (refine chkI ?_; kernel_rfl)
    | (refine chkBI ?_; kernel_rfl)
    | exact (fun _ => True.intro)
    | exact True.intro
    | exact (fun h => h)
    | exact rfl
    | decide
    | exact (fun _ => by decide)
    | exact (show (_ : Int) ≠ _ by decide)
    | fail

theorem bs_eq (a b : List UInt8) : (bs a == bs b) = (a == b) := by
  rw [beq_toListBytes]
  have h : ∀ l, (bs l).toList = l := fun l => by rw [ByteArray.toList_eq]
  rw [h, h]

theorem bs_enc_one (n : Nat) : (bs (enc n) == (⟨#[1]⟩ : ByteArray)) = (n == 1) := by
  have e : (⟨#[1]⟩ : ByteArray) = bs (enc 1) := rfl
  rw [e, bs_eq, Bool.eq_iff_iff]
  simp only [beq_iff_eq]
  exact ⟨enc_inj, fun h => by rw [h]⟩

/-- rational.Make -/
theorem c41z (n d : Int) (hd : d = 0) (hs : sm d.natAbs) : PureC Tryz.prog 41 [int n, int d] (.tup [rat 0, .val (.bool false)]) := by
  refine pureC_of_vc s41 rfl (Nat.le_of_ble_eq_true rfl) rfl ?_
  refine vc_at s41 [] 100 ?_
  repeat' first
    | apply And.intro
    | exact (fun h => Bool.noConfusion h)
    | (refine chkI ?_; kernel_rfl)
    | (refine chkBI ?_; kernel_rfl)
    | exact (fun _ => True.intro)
    | exact True.intro
    | exact (fun h => h)
    | exact rfl
    | decide
    | exact (fun _ => by decide)
    | exact (show (_ : Int) ≠ _ by decide)
    | fail
  refine Exists.intro _ (And.intro (c88i d hs) ?_)
  subst hd
  repeat' first
    | apply And.intro
    | exact (fun h => Bool.noConfusion h)
    | (refine chkI ?_; kernel_rfl)
    | (refine chkBI ?_; kernel_rfl)
    | exact (fun _ => True.intro)
    | exact True.intro
    | exact (fun h => h)
    | exact rfl
    | decide
    | exact (fun _ => by decide)
    | exact (show (_ : Int) ≠ _ by decide)
    | fail

theorem rat_zero (d : Int) : rat (Rat.divInt 0 d) = rat 0 := by rw [Rat.zero_divInt]

theorem c41 (n d : Int) (hd : d ≠ 0) (hs : sm d.natAbs) (hsn : sm n.natAbs) (hg : GD n.natAbs d.natAbs) : PureC Tryz.prog 41 [int n, int d] (.tup [rat (Rat.divInt n d), .val (.bool true)]) := by
  have hsd : d.sign ≠ 0 := fun e => hd (Int.sign_eq_zero_iff_zero.1 e)
  refine pureC_of_vc s41 rfl (Nat.le_of_ble_eq_true rfl) rfl ?_
  refine vc_at s41 [[1, 1, 1, 1]] 100 ?_
  repeat' first
    | apply And.intro
    | exact (fun h => Bool.noConfusion h)
    | (refine chkI ?_; kernel_rfl)
    | (refine chkBI ?_; kernel_rfl)
    | exact (fun _ => True.intro)
    | exact True.intro
    | exact (fun h => h)
    | exact rfl
    | decide
    | exact (fun _ => by decide)
    | exact (show (_ : Int) ≠ _ by decide)
    | fail
  refine Exists.intro _ (And.intro (c88i d hs) ?_)
  repeat' first
    | apply And.intro
    | exact (fun h => Bool.noConfusion h)
    | (refine chkI ?_; kernel_rfl)
    | (refine chkBI ?_; kernel_rfl)
    | exact (fun _ => True.intro)
    | exact True.intro
    | exact (fun h => h)
    | exact rfl
    | decide
    | exact (fun _ => by decide)
    | exact (show (_ : Int) ≠ _ by decide)
    | fail
  rw [show (d.sign == 0) = false by simpa using hsd]
  repeat' first
    | apply And.intro
    | exact (fun h => Bool.noConfusion h)
    | (refine chkI ?_; kernel_rfl)
    | (refine chkBI ?_; kernel_rfl)
    | exact (fun _ => True.intro)
    | exact True.intro
    | exact (fun h => h)
    | exact rfl
    | decide
    | exact (fun _ => by decide)
    | exact (show (_ : Int) ≠ _ by decide)
    | fail
  refine Exists.intro _ (And.intro (c88i n hsn) ?_)
  repeat' first
    | apply And.intro
    | exact (fun h => Bool.noConfusion h)
    | (refine chkI ?_; kernel_rfl)
    | (refine chkBI ?_; kernel_rfl)
    | exact (fun _ => True.intro)
    | exact True.intro
    | exact (fun h => h)
    | exact rfl
    | decide
    | exact (fun _ => by decide)
    | exact (show (_ : Int) ≠ _ by decide)
    | fail
  by_cases hn : n = 0
  · subst hn
    repeat' first
      | apply And.intro
      | exact (fun h => Bool.noConfusion h)
      | (refine chkI ?_; kernel_rfl)
      | (refine chkBI ?_; kernel_rfl)
      | exact (fun _ => True.intro)
      | exact True.intro
      | exact (fun h => h)
      | exact rfl
      | decide
      | exact (fun _ => by decide)
      | exact (show (_ : Int) ≠ _ by decide)
      | fail
    show AV.tup [rat 0, .val (.bool true)] = _
    rw [rat_zero]
  · have hsn' : n.sign ≠ 0 := fun e => hn (Int.sign_eq_zero_iff_zero.1 e)
    rw [show (n.sign == 0) = false by simpa using hsn']
    repeat' first
      | apply And.intro
      | exact (fun h => Bool.noConfusion h)
      | (refine chkI ?_; kernel_rfl)
      | (refine chkBI ?_; kernel_rfl)
      | exact (fun _ => True.intro)
      | exact True.intro
      | exact (fun h => h)
      | exact rfl
      | decide
      | exact (fun _ => by decide)
      | exact (show (_ : Int) ≠ _ by decide)
      | fail
    refine Exists.intro _ (And.intro (hg.gcd) ?_)
    repeat' first
      | apply And.intro
      | exact (fun h => Bool.noConfusion h)
      | (refine chkI ?_; kernel_rfl)
      | (refine chkBI ?_; kernel_rfl)
      | exact (fun _ => True.intro)
      | exact True.intro
      | exact (fun h => h)
      | exact rfl
      | decide
      | exact (fun _ => by decide)
      | exact (show (_ : Int) ≠ _ by decide)
      | fail
    refine VC.freeze [3] [2, 3, 4, 6] rfl ?_
    refine vc_at (p := [1, 1, 1, 1]) s41 [] 100 ?_
    repeat' first
      | apply And.intro
      | exact (fun h => Bool.noConfusion h)
      | (refine chkI ?_; kernel_rfl)
      | (refine chkBI ?_; kernel_rfl)
      | exact (fun _ => True.intro)
      | exact True.intro
      | exact (fun h => h)
      | exact rfl
      | decide
      | exact (fun _ => by decide)
      | exact (show (_ : Int) ≠ _ by decide)
      | fail
    refine Exists.intro _ (And.intro (c97 _ _ _ _ hg.num) ?_)
    repeat' first
      | apply And.intro
      | exact (fun h => Bool.noConfusion h)
      | (refine chkI ?_; kernel_rfl)
      | (refine chkBI ?_; kernel_rfl)
      | exact (fun _ => True.intro)
      | exact True.intro
      | exact (fun h => h)
      | exact rfl
      | decide
      | exact (fun _ => by decide)
      | exact (show (_ : Int) ≠ _ by decide)
      | fail
    refine Exists.intro _ (And.intro (c97 _ _ _ _ hg.den) ?_)
    repeat' first
      | apply And.intro
      | exact (fun h => Bool.noConfusion h)
      | (refine chkI ?_; kernel_rfl)
      | (refine chkBI ?_; kernel_rfl)
      | exact (fun _ => True.intro)
      | exact True.intro
      | exact (fun h => h)
      | exact rfl
      | decide
      | exact (fun _ => by decide)
      | exact (show (_ : Int) ≠ _ by decide)
      | fail
    have e1 := mk_abs n d
    have e2 := mk_den n d
    rw [if_neg hd] at e1 e2
    have e3 := mk_neg hn hd
    rw [bs_enc_one, ← e2]
    by_cases h1 : (Rat.divInt n d).den = 1
    · rw [show ((Rat.divInt n d).den == 1) = true by simpa using h1]
      repeat' first
        | apply And.intro
        | exact (fun h => Bool.noConfusion h)
        | (refine chkI ?_; kernel_rfl)
        | (refine chkBI ?_; kernel_rfl)
        | exact (fun _ => True.intro)
        | exact True.intro
        | exact (fun h => h)
        | exact rfl
        | decide
        | exact (fun _ => by decide)
        | exact (show (_ : Int) ≠ _ by decide)
        | fail
      show AV.tup [.agg [.val (.bool (!(decide (n < 0) == decide (d < 0)))), str (enc (n.natAbs / n.natAbs.gcd d.natAbs)), str []], .val (.bool true)] = AV.tup [.agg [.val (.bool (decide ((Rat.divInt n d).num < 0))), str (enc (Rat.divInt n d).num.natAbs), str (encD (Rat.divInt n d).den)], .val (.bool true)]
      rw [e1, e3, show encD (Rat.divInt n d).den = [] by unfold encD; rw [if_pos h1]]; rfl
    · rw [show ((Rat.divInt n d).den == 1) = false by simpa using h1]
      repeat' first
        | apply And.intro
        | exact (fun h => Bool.noConfusion h)
        | (refine chkI ?_; kernel_rfl)
        | (refine chkBI ?_; kernel_rfl)
        | exact (fun _ => True.intro)
        | exact True.intro
        | exact (fun h => h)
        | exact rfl
        | decide
        | exact (fun _ => by decide)
        | exact (show (_ : Int) ≠ _ by decide)
        | fail
      show AV.tup [.agg [.val (.bool (!(decide (n < 0) == decide (d < 0)))), str (enc (n.natAbs / n.natAbs.gcd d.natAbs)), str (enc (Rat.divInt n d).den)], .val (.bool true)] = AV.tup [.agg [.val (.bool (decide ((Rat.divInt n d).num < 0))), str (enc (Rat.divInt n d).num.natAbs), str (encD (Rat.divInt n d).den)], .val (.bool true)]
      rw [e1, e3, show encD (Rat.divInt n d).den = enc (Rat.divInt n d).den by unfold encD; rw [if_neg h1]]; rfl

end Vm
end Go.Proofs.YtdbpcmpkpbamhaaGreatDoor

/- Walks: the arithmetic of rational numbers. -/
namespace Go.Proofs.YtdbpcmpkpbamhaaGreatDoor
set_option linter.unusedVariables false
set_option linter.unusedSimpArgs false
set_option linter.unusedSectionVars false
set_option maxRecDepth 100000
namespace Vm
open Go

theorem lt_enc (n : Nat) : n < 256 ^ (enc n).length := by
  have := dec_lt (enc n)
  rwa [dec_enc] at this
theorem len_mul (a b : Nat) : (enc (a * b)).length ≤ (enc a).length + (enc b).length := by
  refine enc_length_le ?_
  rw [Nat.pow_add]
  exact Nat.mul_lt_mul'' (lt_enc a) (lt_enc b)
theorem len_add (a b : Nat) : (enc (a + b)).length ≤ (enc a).length + (enc b).length + 1 := by
  refine enc_length_le ?_
  have h1 := lt_enc a
  have h2 := lt_enc b
  have h3 : 256 ^ (enc a).length ≤ 256 ^ ((enc a).length + (enc b).length) := Nat.pow_le_pow_right (by omega) (by omega)
  have h4 : 256 ^ (enc b).length ≤ 256 ^ ((enc a).length + (enc b).length) := Nat.pow_le_pow_right (by omega) (by omega)
  rw [Nat.pow_succ]
  omega
theorem len_dec (l : List UInt8) : (enc (dec l)).length ≤ l.length := enc_length_le (dec_lt l)
theorem len_mono {a b : Nat} (h : a ≤ b) : (enc a).length ≤ (enc b).length := enc_length_le (Nat.lt_of_le_of_lt h (lt_enc b))
theorem len_addI (a b : Int) : (enc (a + b).natAbs).length ≤ (enc a.natAbs).length + (enc b.natAbs).length + 1 := Nat.le_trans (len_mono (by omega)) (len_add a.natAbs b.natAbs)
theorem len_subI (a b : Int) : (enc (a - b).natAbs).length ≤ (enc a.natAbs).length + (enc b.natAbs).length + 1 := Nat.le_trans (len_mono (by omega)) (len_add a.natAbs b.natAbs)
theorem len_mulI (a b : Int) : (enc (a * b).natAbs).length ≤ (enc a.natAbs).length + (enc b.natAbs).length := by rw [Int.natAbs_mul]; exact len_mul _ _

/-- A value reads as the rational number q, as n over d; it is short. -/
structure RV (x : AV) (q : Rat) (n : Int) (d : Nat) : Prop where
  form : ∃ neg num den, x = ratS neg num den ∧ n = numI neg num ∧ d = denN den ∧ num.length < 2 ^ 26 ∧ den.length < 2 ^ 26
  val : q = Rat.divInt n d
  len1 : (enc n.natAbs).length < 2 ^ 26
  len2 : (enc d).length < 2 ^ 26
  pos : 0 < d

theorem rv_any (neg : Bool) (num den : List UInt8) (h1 : num.length < 2 ^ 26) (h2 : den.length < 2 ^ 26) : RV (ratS neg num den) (valQ neg num den) (numI neg num) (denN den) := by
  refine ⟨⟨neg, num, den, rfl, rfl, rfl, h1, h2⟩, rfl, ?_, ?_, denN_pos den⟩
  · rw [numI_abs]; exact Nat.lt_of_le_of_lt (len_dec num) h1
  · unfold denN; split
    · have : (enc 1).length = 1 := rfl
      omega
    · exact Nat.lt_of_le_of_lt (len_dec den) h2

theorem rv_rat (q : Rat) (h1 : (enc q.num.natAbs).length < 2 ^ 26) (h2 : (enc q.den).length < 2 ^ 26) : RV (rat q) q q.num q.den := by
  refine ⟨⟨_, _, _, rfl, (numI_enc q.num).symm, (denN_encD q.den_pos).symm, h1, ?_⟩, (Rat.num_divInt_den q).symm, h1, h2, q.den_pos⟩
  unfold encD
  split
  · simp
  · exact h2

theorem s87 : Setting Tryz.prog tys (fi 87 Tryz.f87) := setting (by kernel_rfl) (by kernel_rfl)
theorem s77 : Setting Tryz.prog tys (fi 77 Tryz.f77) := setting (by kernel_rfl) (by kernel_rfl)
theorem s34 : Setting Tryz.prog tys (fi 34 Tryz.f34) := setting (by kernel_rfl) (by kernel_rfl)
theorem s30 : Setting Tryz.prog tys (fi 30 Tryz.f30) := setting (by kernel_rfl) (by kernel_rfl)
theorem s35 : Setting Tryz.prog tys (fi 35 Tryz.f35) := setting (by kernel_rfl) (by kernel_rfl)
theorem s36 : Setting Tryz.prog tys (fi 36 Tryz.f36) := setting (by kernel_rfl) (by kernel_rfl)
theorem s76 : Setting Tryz.prog tys (fi 76 Tryz.f76) := setting (by kernel_rfl) (by kernel_rfl)
theorem s74 : Setting Tryz.prog tys (fi 74 Tryz.f74) := setting (by kernel_rfl) (by kernel_rfl)
theorem s39 : Setting Tryz.prog tys (fi 39 Tryz.f39) := setting (by kernel_rfl) (by kernel_rfl)
theorem s33 : Setting Tryz.prog tys (fi 33 Tryz.f33) := setting (by kernel_rfl) (by kernel_rfl)
theorem s38 : Setting Tryz.prog tys (fi 38 Tryz.f38) := setting (by kernel_rfl) (by kernel_rfl)
theorem c87 (n d : Int) (hd : d ≠ 0) (hs : sm d.natAbs) (hsn : sm n.natAbs) (hg : GD n.natAbs d.natAbs) : PureC Tryz.prog 87 [int n, int d] (rat (Rat.divInt n d)) := by
  refine pureC_of_vc s87 rfl (Nat.le_of_ble_eq_true rfl) rfl ?_
  refine vc_at s87 [] 100 ?_
  repeat' first
    | apply And.intro
    | exact (fun h => Bool.noConfusion h)
    | (refine chkI ?_; kernel_rfl)
    | (refine chkBI ?_; kernel_rfl)
    | exact (fun _ => True.intro)
    | exact True.intro
    | exact (fun h => h)
    | exact rfl
    | decide
    | exact (fun _ => by decide)
    | exact (show (_ : Int) ≠ _ by decide)
    | fail
  refine Exists.intro _ (And.intro (c41 n d hd hs hsn hg) ?_)
  repeat' first
    | apply And.intro
    | exact (fun h => Bool.noConfusion h)
    | (refine chkI ?_; kernel_rfl)
    | (refine chkBI ?_; kernel_rfl)
    | exact (fun _ => True.intro)
    | exact True.intro
    | exact (fun h => h)
    | exact rfl
    | decide
    | exact (fun _ => by decide)
    | exact (show (_ : Int) ≠ _ by decide)
    | fail

/-- rational.FromInt64 -/
theorem c34 (z : Int) (h1 : -9223372036854775808 ≤ z) (h2 : z ≤ 9223372036854775807) : PureC Tryz.prog 34 [i64 z] (rat z) := by
  have e : Rat.divInt z 1 = (z : Rat) := by rw [Rat.divInt_eq_div]; grind
  refine pureC_of_vc s34 rfl (Nat.le_of_ble_eq_true rfl) rfl ?_
  refine vc_at s34 [] 100 ?_
  repeat' first
    | apply And.intro
    | exact (fun h => Bool.noConfusion h)
    | (refine chkI ?_; kernel_rfl)
    | (refine chkBI ?_; kernel_rfl)
    | exact (fun _ => True.intro)
    | exact True.intro
    | exact (fun h => h)
    | exact rfl
    | decide
    | exact (fun _ => by decide)
    | exact (show (_ : Int) ≠ _ by decide)
    | fail
  refine Exists.intro _ (And.intro (c40 z h1 h2) ?_)
  repeat' first
    | apply And.intro
    | exact (fun h => Bool.noConfusion h)
    | (refine chkI ?_; kernel_rfl)
    | (refine chkBI ?_; kernel_rfl)
    | exact (fun _ => True.intro)
    | exact True.intro
    | exact (fun h => h)
    | exact rfl
    | decide
    | exact (fun _ => by decide)
    | exact (show (_ : Int) ≠ _ by decide)
    | fail
  refine Exists.intro _ (And.intro (c40 1 (by decide) (by decide)) ?_)
  repeat' first
    | apply And.intro
    | exact (fun h => Bool.noConfusion h)
    | (refine chkI ?_; kernel_rfl)
    | (refine chkBI ?_; kernel_rfl)
    | exact (fun _ => True.intro)
    | exact True.intro
    | exact (fun h => h)
    | exact rfl
    | decide
    | exact (fun _ => by decide)
    | exact (show (_ : Int) ≠ _ by decide)
    | fail
  refine Exists.intro _ (And.intro (c87 z 1 (by decide) (sm_64 (by decide)) (sm_64 (by omega)) (gd_small (by omega) (by decide) (by decide))) ?_)
  rw [e]
  repeat' first
    | apply And.intro
    | exact (fun h => Bool.noConfusion h)
    | (refine chkI ?_; kernel_rfl)
    | (refine chkBI ?_; kernel_rfl)
    | exact (fun _ => True.intro)
    | exact True.intro
    | exact (fun h => h)
    | exact rfl
    | decide
    | exact (fun _ => by decide)
    | exact (show (_ : Int) ≠ _ by decide)
    | fail

section
variable {x y : AV} {p q : Rat} {n m : Int} {d e : Nat} (hx : RV x p n d) (hy : RV y q m e)
include hx

theorem RV.sm1 : sm n.natAbs := by have := hx.len1; unfold sm; omega
theorem RV.sm2 : sm (d : Int).natAbs := by have := hx.len2; unfold sm; simp; omega
theorem RV.parts : PureC Tryz.prog 84 [x] (.tup [int n, int (d : Int)]) := by
  obtain ⟨⟨neg, num, den, rfl, rfl, rfl, h1, h2⟩, _⟩ := hx
  exact c84 neg num den (by omega) (by omega)

/-- rational.Normalize -/
theorem c77 (hg : GD n.natAbs d) : PureC Tryz.prog 77 [x] (rat p) := by
  have hp := hx.parts
  have s1 := hx.sm1
  have s2 := hx.sm2
  have hpos := hx.pos
  rw [hx.val]
  obtain ⟨neg, num, den, rfl, _⟩ := hx.form
  refine pureC_of_vc s77 rfl (Nat.le_of_ble_eq_true rfl) rfl ?_
  refine vc_at s77 [] 100 ?_
  repeat' first
    | apply And.intro
    | exact (fun h => Bool.noConfusion h)
    | (refine chkI ?_; kernel_rfl)
    | (refine chkBI ?_; kernel_rfl)
    | exact (fun _ => True.intro)
    | exact True.intro
    | exact (fun h => h)
    | exact rfl
    | decide
    | exact (fun _ => by decide)
    | exact (show (_ : Int) ≠ _ by decide)
    | fail
  refine Exists.intro _ (And.intro (hp) ?_)
  repeat' first
    | apply And.intro
    | exact (fun h => Bool.noConfusion h)
    | (refine chkI ?_; kernel_rfl)
    | (refine chkBI ?_; kernel_rfl)
    | exact (fun _ => True.intro)
    | exact True.intro
    | exact (fun h => h)
    | exact rfl
    | decide
    | exact (fun _ => by decide)
    | exact (show (_ : Int) ≠ _ by decide)
    | fail
  refine Exists.intro _ (And.intro (c87 n d (by omega) s2 s1 (by simpa using hg)) ?_)
  repeat' first
    | apply And.intro
    | exact (fun h => Bool.noConfusion h)
    | (refine chkI ?_; kernel_rfl)
    | (refine chkBI ?_; kernel_rfl)
    | exact (fun _ => True.intro)
    | exact True.intro
    | exact (fun h => h)
    | exact rfl
    | decide
    | exact (fun _ => by decide)
    | exact (show (_ : Int) ≠ _ by decide)
    | fail

/-- rational.Sign -/
theorem c35 : PureC Tryz.prog 35 [x] (i64 n.sign) := by
  have hp := hx.parts
  have s1 := hx.sm1
  obtain ⟨neg, num, den, rfl, _⟩ := hx.form
  refine pureC_of_vc s35 rfl (Nat.le_of_ble_eq_true rfl) rfl ?_
  refine vc_at s35 [] 100 ?_
  repeat' first
    | apply And.intro
    | exact (fun h => Bool.noConfusion h)
    | (refine chkI ?_; kernel_rfl)
    | (refine chkBI ?_; kernel_rfl)
    | exact (fun _ => True.intro)
    | exact True.intro
    | exact (fun h => h)
    | exact rfl
    | decide
    | exact (fun _ => by decide)
    | exact (show (_ : Int) ≠ _ by decide)
    | fail
  refine Exists.intro _ (And.intro (hp) ?_)
  repeat' first
    | apply And.intro
    | exact (fun h => Bool.noConfusion h)
    | (refine chkI ?_; kernel_rfl)
    | (refine chkBI ?_; kernel_rfl)
    | exact (fun _ => True.intro)
    | exact True.intro
    | exact (fun h => h)
    | exact rfl
    | decide
    | exact (fun _ => by decide)
    | exact (show (_ : Int) ≠ _ by decide)
    | fail
  refine Exists.intro _ (And.intro (c88i n s1) ?_)
  repeat' first
    | apply And.intro
    | exact (fun h => Bool.noConfusion h)
    | (refine chkI ?_; kernel_rfl)
    | (refine chkBI ?_; kernel_rfl)
    | exact (fun _ => True.intro)
    | exact True.intro
    | exact (fun h => h)
    | exact rfl
    | decide
    | exact (fun _ => by decide)
    | exact (show (_ : Int) ≠ _ by decide)
    | fail

/-- rational.Neg -/
theorem c36 (hg : GD n.natAbs d) : PureC Tryz.prog 36 [x] (rat (-p)) := by
  have hp := hx.parts
  have s1 := hx.sm1
  have s2 := hx.sm2
  have hpos := hx.pos
  rw [hx.val, Rat.neg_divInt]
  obtain ⟨neg, num, den, rfl, _⟩ := hx.form
  refine pureC_of_vc s36 rfl (Nat.le_of_ble_eq_true rfl) rfl ?_
  refine vc_at s36 [] 100 ?_
  repeat' first
    | apply And.intro
    | exact (fun h => Bool.noConfusion h)
    | (refine chkI ?_; kernel_rfl)
    | (refine chkBI ?_; kernel_rfl)
    | exact (fun _ => True.intro)
    | exact True.intro
    | exact (fun h => h)
    | exact rfl
    | decide
    | exact (fun _ => by decide)
    | exact (show (_ : Int) ≠ _ by decide)
    | fail
  refine Exists.intro _ (And.intro (hp) ?_)
  repeat' first
    | apply And.intro
    | exact (fun h => Bool.noConfusion h)
    | (refine chkI ?_; kernel_rfl)
    | (refine chkBI ?_; kernel_rfl)
    | exact (fun _ => True.intro)
    | exact True.intro
    | exact (fun h => h)
    | exact rfl
    | decide
    | exact (fun _ => by decide)
    | exact (show (_ : Int) ≠ _ by decide)
    | fail
  refine Exists.intro _ (And.intro (c89i n s1) ?_)
  repeat' first
    | apply And.intro
    | exact (fun h => Bool.noConfusion h)
    | (refine chkI ?_; kernel_rfl)
    | (refine chkBI ?_; kernel_rfl)
    | exact (fun _ => True.intro)
    | exact True.intro
    | exact (fun h => h)
    | exact rfl
    | decide
    | exact (fun _ => by decide)
    | exact (show (_ : Int) ≠ _ by decide)
    | fail
  refine Exists.intro _ (And.intro (c87 (-n) d (by omega) s2 (by rw [Int.natAbs_neg]; exact s1) (by rw [Int.natAbs_neg]; simpa using hg)) ?_)
  repeat' first
    | apply And.intro
    | exact (fun h => Bool.noConfusion h)
    | (refine chkI ?_; kernel_rfl)
    | (refine chkBI ?_; kernel_rfl)
    | exact (fun _ => True.intro)
    | exact True.intro
    | exact (fun h => h)
    | exact rfl
    | decide
    | exact (fun _ => by decide)
    | exact (show (_ : Int) ≠ _ by decide)
    | fail

include hy

theorem RV.mulL : sm (n * e).natAbs ∧ sm (m * d).natAbs ∧ sm ((d : Int) * e).natAbs ∧ sm (n * e + m * d).natAbs ∧ sm (n * e - m * d).natAbs ∧ sm (n * m).natAbs ∧ sm ((d : Int) * m).natAbs := by
  have h1 := len_mulI n e
  have h2 := len_mulI m d
  have h3 := len_mulI d e
  have h4 := len_addI (n * e) (m * d)
  have h5 := len_subI (n * e) (m * d)
  have h6 := len_mulI n m
  have h7 := len_mulI d m
  have := hx.len1
  have := hx.len2
  have := hy.len1
  have := hy.len2
  simp only [Int.natAbs_natCast] at h1 h2 h3 h6 h7
  unfold sm
  omega

/-- rational.Cmp -/
theorem c30 : PureC Tryz.prog 30 [x, y] (i64 (n * e - m * d).sign) := by
  have hp := hx.parts
  have hp' := hy.parts
  obtain ⟨a1, a2, a3, a4, a5, a6, a7⟩ := hx.mulL hy
  have s1 := hx.sm1
  have s2 := hx.sm2
  have s3 := hy.sm1
  have s4 := hy.sm2
  obtain ⟨neg, num, den, rfl, _⟩ := hx.form
  obtain ⟨neg', num', den', rfl, _⟩ := hy.form
  refine pureC_of_vc s30 rfl (Nat.le_of_ble_eq_true rfl) rfl ?_
  refine vc_at s30 [] 100 ?_
  repeat' first
    | apply And.intro
    | exact (fun h => Bool.noConfusion h)
    | (refine chkI ?_; kernel_rfl)
    | (refine chkBI ?_; kernel_rfl)
    | exact (fun _ => True.intro)
    | exact True.intro
    | exact (fun h => h)
    | exact rfl
    | decide
    | exact (fun _ => by decide)
    | exact (show (_ : Int) ≠ _ by decide)
    | fail
  refine Exists.intro _ (And.intro (hp) ?_)
  repeat' first
    | apply And.intro
    | exact (fun h => Bool.noConfusion h)
    | (refine chkI ?_; kernel_rfl)
    | (refine chkBI ?_; kernel_rfl)
    | exact (fun _ => True.intro)
    | exact True.intro
    | exact (fun h => h)
    | exact rfl
    | decide
    | exact (fun _ => by decide)
    | exact (show (_ : Int) ≠ _ by decide)
    | fail
  refine Exists.intro _ (And.intro (hp') ?_)
  repeat' first
    | apply And.intro
    | exact (fun h => Bool.noConfusion h)
    | (refine chkI ?_; kernel_rfl)
    | (refine chkBI ?_; kernel_rfl)
    | exact (fun _ => True.intro)
    | exact True.intro
    | exact (fun h => h)
    | exact rfl
    | decide
    | exact (fun _ => by decide)
    | exact (show (_ : Int) ≠ _ by decide)
    | fail
  refine Exists.intro _ (And.intro (c86 n e s1 s4) ?_)
  repeat' first
    | apply And.intro
    | exact (fun h => Bool.noConfusion h)
    | (refine chkI ?_; kernel_rfl)
    | (refine chkBI ?_; kernel_rfl)
    | exact (fun _ => True.intro)
    | exact True.intro
    | exact (fun h => h)
    | exact rfl
    | decide
    | exact (fun _ => by decide)
    | exact (show (_ : Int) ≠ _ by decide)
    | fail
  refine Exists.intro _ (And.intro (c86 m d s3 s2) ?_)
  repeat' first
    | apply And.intro
    | exact (fun h => Bool.noConfusion h)
    | (refine chkI ?_; kernel_rfl)
    | (refine chkBI ?_; kernel_rfl)
    | exact (fun _ => True.intro)
    | exact True.intro
    | exact (fun h => h)
    | exact rfl
    | decide
    | exact (fun _ => by decide)
    | exact (show (_ : Int) ≠ _ by decide)
    | fail
  refine Exists.intro _ (And.intro (c85 (n * e) (m * d) a1 a2 a5) ?_)
  repeat' first
    | apply And.intro
    | exact (fun h => Bool.noConfusion h)
    | (refine chkI ?_; kernel_rfl)
    | (refine chkBI ?_; kernel_rfl)
    | exact (fun _ => True.intro)
    | exact True.intro
    | exact (fun h => h)
    | exact rfl
    | decide
    | exact (fun _ => by decide)
    | exact (show (_ : Int) ≠ _ by decide)
    | fail

/-- rational.Add -/
theorem c76 (hg : GD (n * e + m * d).natAbs (d * e)) : PureC Tryz.prog 76 [x, y] (rat (p + q)) := by
  have hp := hx.parts
  have hp' := hy.parts
  obtain ⟨a1, a2, a3, a4, a5, a6, a7⟩ := hx.mulL hy
  have s1 := hx.sm1
  have s2 := hx.sm2
  have s3 := hy.sm1
  have s4 := hy.sm2
  have hd := hx.pos
  have he := hy.pos
  have hde : 0 < d * e := Nat.mul_pos hd he
  have hde' : (d : Int) * e ≠ 0 := by rw [← Int.natCast_mul]; omega
  rw [hx.val, hy.val, Rat.divInt_add_divInt _ _ (by omega) (by omega)]
  obtain ⟨neg, num, den, rfl, _⟩ := hx.form
  obtain ⟨neg', num', den', rfl, _⟩ := hy.form
  refine pureC_of_vc s76 rfl (Nat.le_of_ble_eq_true rfl) rfl ?_
  refine vc_at s76 [] 100 ?_
  repeat' first
    | apply And.intro
    | exact (fun h => Bool.noConfusion h)
    | (refine chkI ?_; kernel_rfl)
    | (refine chkBI ?_; kernel_rfl)
    | exact (fun _ => True.intro)
    | exact True.intro
    | exact (fun h => h)
    | exact rfl
    | decide
    | exact (fun _ => by decide)
    | exact (show (_ : Int) ≠ _ by decide)
    | fail
  refine Exists.intro _ (And.intro (hp) ?_)
  repeat' first
    | apply And.intro
    | exact (fun h => Bool.noConfusion h)
    | (refine chkI ?_; kernel_rfl)
    | (refine chkBI ?_; kernel_rfl)
    | exact (fun _ => True.intro)
    | exact True.intro
    | exact (fun h => h)
    | exact rfl
    | decide
    | exact (fun _ => by decide)
    | exact (show (_ : Int) ≠ _ by decide)
    | fail
  refine Exists.intro _ (And.intro (hp') ?_)
  repeat' first
    | apply And.intro
    | exact (fun h => Bool.noConfusion h)
    | (refine chkI ?_; kernel_rfl)
    | (refine chkBI ?_; kernel_rfl)
    | exact (fun _ => True.intro)
    | exact True.intro
    | exact (fun h => h)
    | exact rfl
    | decide
    | exact (fun _ => by decide)
    | exact (show (_ : Int) ≠ _ by decide)
    | fail
  refine Exists.intro _ (And.intro (c86 n e s1 s4) ?_)
  repeat' first
    | apply And.intro
    | exact (fun h => Bool.noConfusion h)
    | (refine chkI ?_; kernel_rfl)
    | (refine chkBI ?_; kernel_rfl)
    | exact (fun _ => True.intro)
    | exact True.intro
    | exact (fun h => h)
    | exact rfl
    | decide
    | exact (fun _ => by decide)
    | exact (show (_ : Int) ≠ _ by decide)
    | fail
  refine Exists.intro _ (And.intro (c86 m d s3 s2) ?_)
  repeat' first
    | apply And.intro
    | exact (fun h => Bool.noConfusion h)
    | (refine chkI ?_; kernel_rfl)
    | (refine chkBI ?_; kernel_rfl)
    | exact (fun _ => True.intro)
    | exact True.intro
    | exact (fun h => h)
    | exact rfl
    | decide
    | exact (fun _ => by decide)
    | exact (show (_ : Int) ≠ _ by decide)
    | fail
  refine Exists.intro _ (And.intro (c37 (n * e) (m * d) a1 a2) ?_)
  repeat' first
    | apply And.intro
    | exact (fun h => Bool.noConfusion h)
    | (refine chkI ?_; kernel_rfl)
    | (refine chkBI ?_; kernel_rfl)
    | exact (fun _ => True.intro)
    | exact True.intro
    | exact (fun h => h)
    | exact rfl
    | decide
    | exact (fun _ => by decide)
    | exact (show (_ : Int) ≠ _ by decide)
    | fail
  refine Exists.intro _ (And.intro (c86 d e s2 s4) ?_)
  repeat' first
    | apply And.intro
    | exact (fun h => Bool.noConfusion h)
    | (refine chkI ?_; kernel_rfl)
    | (refine chkBI ?_; kernel_rfl)
    | exact (fun _ => True.intro)
    | exact True.intro
    | exact (fun h => h)
    | exact rfl
    | decide
    | exact (fun _ => by decide)
    | exact (show (_ : Int) ≠ _ by decide)
    | fail
  refine Exists.intro _ (And.intro (c87 (n * e + m * d) (d * e) hde' a3 a4 (by rw [Int.natAbs_mul]; simpa using hg)) ?_)
  repeat' first
    | apply And.intro
    | exact (fun h => Bool.noConfusion h)
    | (refine chkI ?_; kernel_rfl)
    | (refine chkBI ?_; kernel_rfl)
    | exact (fun _ => True.intro)
    | exact True.intro
    | exact (fun h => h)
    | exact rfl
    | decide
    | exact (fun _ => by decide)
    | exact (show (_ : Int) ≠ _ by decide)
    | fail

/-- rational.Mul -/
theorem c39 (hg : GD (n * m).natAbs (d * e)) : PureC Tryz.prog 39 [x, y] (rat (p * q)) := by
  have hp := hx.parts
  have hp' := hy.parts
  obtain ⟨a1, a2, a3, a4, a5, a6, a7⟩ := hx.mulL hy
  have s1 := hx.sm1
  have s2 := hx.sm2
  have s3 := hy.sm1
  have s4 := hy.sm2
  have hd := hx.pos
  have he := hy.pos
  have hde : 0 < d * e := Nat.mul_pos hd he
  have hde' : (d : Int) * e ≠ 0 := by rw [← Int.natCast_mul]; omega
  rw [hx.val, hy.val, Rat.divInt_mul_divInt]
  obtain ⟨neg, num, den, rfl, _⟩ := hx.form
  obtain ⟨neg', num', den', rfl, _⟩ := hy.form
  refine pureC_of_vc s39 rfl (Nat.le_of_ble_eq_true rfl) rfl ?_
  refine vc_at s39 [] 100 ?_
  repeat' first
    | apply And.intro
    | exact (fun h => Bool.noConfusion h)
    | (refine chkI ?_; kernel_rfl)
    | (refine chkBI ?_; kernel_rfl)
    | exact (fun _ => True.intro)
    | exact True.intro
    | exact (fun h => h)
    | exact rfl
    | decide
    | exact (fun _ => by decide)
    | exact (show (_ : Int) ≠ _ by decide)
    | fail
  refine Exists.intro _ (And.intro (hp) ?_)
  repeat' first
    | apply And.intro
    | exact (fun h => Bool.noConfusion h)
    | (refine chkI ?_; kernel_rfl)
    | (refine chkBI ?_; kernel_rfl)
    | exact (fun _ => True.intro)
    | exact True.intro
    | exact (fun h => h)
    | exact rfl
    | decide
    | exact (fun _ => by decide)
    | exact (show (_ : Int) ≠ _ by decide)
    | fail
  refine Exists.intro _ (And.intro (hp') ?_)
  repeat' first
    | apply And.intro
    | exact (fun h => Bool.noConfusion h)
    | (refine chkI ?_; kernel_rfl)
    | (refine chkBI ?_; kernel_rfl)
    | exact (fun _ => True.intro)
    | exact True.intro
    | exact (fun h => h)
    | exact rfl
    | decide
    | exact (fun _ => by decide)
    | exact (show (_ : Int) ≠ _ by decide)
    | fail
  refine Exists.intro _ (And.intro (c86 n m s1 s3) ?_)
  repeat' first
    | apply And.intro
    | exact (fun h => Bool.noConfusion h)
    | (refine chkI ?_; kernel_rfl)
    | (refine chkBI ?_; kernel_rfl)
    | exact (fun _ => True.intro)
    | exact True.intro
    | exact (fun h => h)
    | exact rfl
    | decide
    | exact (fun _ => by decide)
    | exact (show (_ : Int) ≠ _ by decide)
    | fail
  refine Exists.intro _ (And.intro (c86 d e s2 s4) ?_)
  repeat' first
    | apply And.intro
    | exact (fun h => Bool.noConfusion h)
    | (refine chkI ?_; kernel_rfl)
    | (refine chkBI ?_; kernel_rfl)
    | exact (fun _ => True.intro)
    | exact True.intro
    | exact (fun h => h)
    | exact rfl
    | decide
    | exact (fun _ => by decide)
    | exact (show (_ : Int) ≠ _ by decide)
    | fail
  refine Exists.intro _ (And.intro (c87 (n * m) (d * e) hde' a3 a6 (by rw [Int.natAbs_mul (d : Int)]; simpa using hg)) ?_)
  repeat' first
    | apply And.intro
    | exact (fun h => Bool.noConfusion h)
    | (refine chkI ?_; kernel_rfl)
    | (refine chkBI ?_; kernel_rfl)
    | exact (fun _ => True.intro)
    | exact True.intro
    | exact (fun h => h)
    | exact rfl
    | decide
    | exact (fun _ => by decide)
    | exact (show (_ : Int) ≠ _ by decide)
    | fail

/-- rational.Div -/
theorem c33 (hm : m ≠ 0) (hg : GD (n * e).natAbs ((d : Int) * m).natAbs) : PureC Tryz.prog 33 [x, y] (.tup [rat (p / q), .val (.bool true)]) := by
  have hp := hx.parts
  have hp' := hy.parts
  obtain ⟨a1, a2, a3, a4, a5, a6, a7⟩ := hx.mulL hy
  have s1 := hx.sm1
  have s2 := hx.sm2
  have s3 := hy.sm1
  have s4 := hy.sm2
  have hd := hx.pos
  have he := hy.pos
  have hde' : (d : Int) * m ≠ 0 := Int.mul_ne_zero (by omega) hm
  rw [hx.val, hy.val, Rat.div_def, Rat.inv_divInt, Rat.divInt_mul_divInt]
  obtain ⟨neg, num, den, rfl, _⟩ := hx.form
  obtain ⟨neg', num', den', rfl, _⟩ := hy.form
  refine pureC_of_vc s33 rfl (Nat.le_of_ble_eq_true rfl) rfl ?_
  refine vc_at s33 [] 100 ?_
  repeat' first
    | apply And.intro
    | exact (fun h => Bool.noConfusion h)
    | (refine chkI ?_; kernel_rfl)
    | (refine chkBI ?_; kernel_rfl)
    | exact (fun _ => True.intro)
    | exact True.intro
    | exact (fun h => h)
    | exact rfl
    | decide
    | exact (fun _ => by decide)
    | exact (show (_ : Int) ≠ _ by decide)
    | fail
  refine Exists.intro _ (And.intro (hp) ?_)
  repeat' first
    | apply And.intro
    | exact (fun h => Bool.noConfusion h)
    | (refine chkI ?_; kernel_rfl)
    | (refine chkBI ?_; kernel_rfl)
    | exact (fun _ => True.intro)
    | exact True.intro
    | exact (fun h => h)
    | exact rfl
    | decide
    | exact (fun _ => by decide)
    | exact (show (_ : Int) ≠ _ by decide)
    | fail
  refine Exists.intro _ (And.intro (hp') ?_)
  repeat' first
    | apply And.intro
    | exact (fun h => Bool.noConfusion h)
    | (refine chkI ?_; kernel_rfl)
    | (refine chkBI ?_; kernel_rfl)
    | exact (fun _ => True.intro)
    | exact True.intro
    | exact (fun h => h)
    | exact rfl
    | decide
    | exact (fun _ => by decide)
    | exact (show (_ : Int) ≠ _ by decide)
    | fail
  refine Exists.intro _ (And.intro (c86 n e s1 s4) ?_)
  repeat' first
    | apply And.intro
    | exact (fun h => Bool.noConfusion h)
    | (refine chkI ?_; kernel_rfl)
    | (refine chkBI ?_; kernel_rfl)
    | exact (fun _ => True.intro)
    | exact True.intro
    | exact (fun h => h)
    | exact rfl
    | decide
    | exact (fun _ => by decide)
    | exact (show (_ : Int) ≠ _ by decide)
    | fail
  refine Exists.intro _ (And.intro (c86 d m s2 s3) ?_)
  repeat' first
    | apply And.intro
    | exact (fun h => Bool.noConfusion h)
    | (refine chkI ?_; kernel_rfl)
    | (refine chkBI ?_; kernel_rfl)
    | exact (fun _ => True.intro)
    | exact True.intro
    | exact (fun h => h)
    | exact rfl
    | decide
    | exact (fun _ => by decide)
    | exact (show (_ : Int) ≠ _ by decide)
    | fail
  refine Exists.intro _ (And.intro (c41 (n * e) (d * m) hde' a7 a1 hg) ?_)
  repeat' first
    | apply And.intro
    | exact (fun h => Bool.noConfusion h)
    | (refine chkI ?_; kernel_rfl)
    | (refine chkBI ?_; kernel_rfl)
    | exact (fun _ => True.intro)
    | exact True.intro
    | exact (fun h => h)
    | exact rfl
    | decide
    | exact (fun _ => by decide)
    | exact (show (_ : Int) ≠ _ by decide)
    | fail

theorem c33z (hm : m = 0) : PureC Tryz.prog 33 [x, y] (.tup [rat 0, .val (.bool false)]) := by
  have hp := hx.parts
  have hp' := hy.parts
  obtain ⟨a1, a2, a3, a4, a5, a6, a7⟩ := hx.mulL hy
  have s1 := hx.sm1
  have s2 := hx.sm2
  have s3 := hy.sm1
  have s4 := hy.sm2
  have hde' : (d : Int) * m = 0 := by rw [hm]; simp
  obtain ⟨neg, num, den, rfl, _⟩ := hx.form
  obtain ⟨neg', num', den', rfl, _⟩ := hy.form
  refine pureC_of_vc s33 rfl (Nat.le_of_ble_eq_true rfl) rfl ?_
  refine vc_at s33 [] 100 ?_
  repeat' first
    | apply And.intro
    | exact (fun h => Bool.noConfusion h)
    | (refine chkI ?_; kernel_rfl)
    | (refine chkBI ?_; kernel_rfl)
    | exact (fun _ => True.intro)
    | exact True.intro
    | exact (fun h => h)
    | exact rfl
    | decide
    | exact (fun _ => by decide)
    | exact (show (_ : Int) ≠ _ by decide)
    | fail
  refine Exists.intro _ (And.intro (hp) ?_)
  repeat' first
    | apply And.intro
    | exact (fun h => Bool.noConfusion h)
    | (refine chkI ?_; kernel_rfl)
    | (refine chkBI ?_; kernel_rfl)
    | exact (fun _ => True.intro)
    | exact True.intro
    | exact (fun h => h)
    | exact rfl
    | decide
    | exact (fun _ => by decide)
    | exact (show (_ : Int) ≠ _ by decide)
    | fail
  refine Exists.intro _ (And.intro (hp') ?_)
  repeat' first
    | apply And.intro
    | exact (fun h => Bool.noConfusion h)
    | (refine chkI ?_; kernel_rfl)
    | (refine chkBI ?_; kernel_rfl)
    | exact (fun _ => True.intro)
    | exact True.intro
    | exact (fun h => h)
    | exact rfl
    | decide
    | exact (fun _ => by decide)
    | exact (show (_ : Int) ≠ _ by decide)
    | fail
  refine Exists.intro _ (And.intro (c86 n e s1 s4) ?_)
  repeat' first
    | apply And.intro
    | exact (fun h => Bool.noConfusion h)
    | (refine chkI ?_; kernel_rfl)
    | (refine chkBI ?_; kernel_rfl)
    | exact (fun _ => True.intro)
    | exact True.intro
    | exact (fun h => h)
    | exact rfl
    | decide
    | exact (fun _ => by decide)
    | exact (show (_ : Int) ≠ _ by decide)
    | fail
  refine Exists.intro _ (And.intro (c86 d m s2 s3) ?_)
  repeat' first
    | apply And.intro
    | exact (fun h => Bool.noConfusion h)
    | (refine chkI ?_; kernel_rfl)
    | (refine chkBI ?_; kernel_rfl)
    | exact (fun _ => True.intro)
    | exact True.intro
    | exact (fun h => h)
    | exact rfl
    | decide
    | exact (fun _ => by decide)
    | exact (show (_ : Int) ≠ _ by decide)
    | fail
  refine Exists.intro _ (And.intro (c41z (n * e) (d * m) hde' a7) ?_)
  repeat' first
    | apply And.intro
    | exact (fun h => Bool.noConfusion h)
    | (refine chkI ?_; kernel_rfl)
    | (refine chkBI ?_; kernel_rfl)
    | exact (fun _ => True.intro)
    | exact True.intro
    | exact (fun h => h)
    | exact rfl
    | decide
    | exact (fun _ => by decide)
    | exact (show (_ : Int) ≠ _ by decide)
    | fail

/-- rational.Sub -/
theorem RV.neg_rv : RV (rat (-q)) (-q) (-q).num (-q).den := by
  have h1 := mk_abs m e
  have h2 := mk_den m e
  have he := hy.pos
  rw [if_neg (by omega), ← hy.val] at h1 h2
  refine rv_rat _ ?_ ?_
  · rw [Rat.neg_num, Int.natAbs_neg, h1]
    exact Nat.lt_of_le_of_lt (len_mono (Nat.div_le_self _ _)) hy.len1
  · rw [Rat.neg_den, h2]
    exact Nat.lt_of_le_of_lt (len_mono (Nat.div_le_self _ _)) (by simpa using hy.len2)

theorem c74 (hg : GD m.natAbs e) (hg2 : GD (n * q.den + -q.num * d).natAbs (d * q.den)) : PureC Tryz.prog 74 [x, y] (rat (p - q)) := by
  have hneg := c36 hy hg
  have hadd := c76 hx (hx.neg_rv hy) hg2
  rw [← Rat.sub_eq_add_neg] at hadd
  obtain ⟨neg, num, den, rfl, _⟩ := hx.form
  obtain ⟨neg', num', den', rfl, _⟩ := hy.form
  refine pureC_of_vc s74 rfl (Nat.le_of_ble_eq_true rfl) rfl ?_
  refine vc_at s74 [] 100 ?_
  repeat' first
    | apply And.intro
    | exact (fun h => Bool.noConfusion h)
    | (refine chkI ?_; kernel_rfl)
    | (refine chkBI ?_; kernel_rfl)
    | exact (fun _ => True.intro)
    | exact True.intro
    | exact (fun h => h)
    | exact rfl
    | decide
    | exact (fun _ => by decide)
    | exact (show (_ : Int) ≠ _ by decide)
    | fail
  refine Exists.intro _ (And.intro (hneg) ?_)
  repeat' first
    | apply And.intro
    | exact (fun h => Bool.noConfusion h)
    | (refine chkI ?_; kernel_rfl)
    | (refine chkBI ?_; kernel_rfl)
    | exact (fun _ => True.intro)
    | exact True.intro
    | exact (fun h => h)
    | exact rfl
    | decide
    | exact (fun _ => by decide)
    | exact (show (_ : Int) ≠ _ by decide)
    | fail
  refine Exists.intro _ (And.intro (hadd) ?_)
  repeat' first
    | apply And.intro
    | exact (fun h => Bool.noConfusion h)
    | (refine chkI ?_; kernel_rfl)
    | (refine chkBI ?_; kernel_rfl)
    | exact (fun _ => True.intro)
    | exact True.intro
    | exact (fun h => h)
    | exact rfl
    | decide
    | exact (fun _ => by decide)
    | exact (show (_ : Int) ≠ _ by decide)
    | fail

omit hy
/-- rational.Floor -/
theorem c38 (h94 : PureC Tryz.prog 94 [int n, int (d : Int)] (.tup [int (n / d), int (n % d), .val (.bool true)])) : PureC Tryz.prog 38 [x] (int (n / d)) := by
  have hp := hx.parts
  obtain ⟨neg, num, den, rfl, _⟩ := hx.form
  refine pureC_of_vc s38 rfl (Nat.le_of_ble_eq_true rfl) rfl ?_
  refine vc_at s38 [] 100 ?_
  repeat' first
    | apply And.intro
    | exact (fun h => Bool.noConfusion h)
    | (refine chkI ?_; kernel_rfl)
    | (refine chkBI ?_; kernel_rfl)
    | exact (fun _ => True.intro)
    | exact True.intro
    | exact (fun h => h)
    | exact rfl
    | decide
    | exact (fun _ => by decide)
    | exact (show (_ : Int) ≠ _ by decide)
    | fail
  refine Exists.intro _ (And.intro (hp) ?_)
  repeat' first
    | apply And.intro
    | exact (fun h => Bool.noConfusion h)
    | (refine chkI ?_; kernel_rfl)
    | (refine chkBI ?_; kernel_rfl)
    | exact (fun _ => True.intro)
    | exact True.intro
    | exact (fun h => h)
    | exact rfl
    | decide
    | exact (fun _ => by decide)
    | exact (show (_ : Int) ≠ _ by decide)
    | fail
  refine Exists.intro _ (And.intro (h94) ?_)
  repeat' first
    | apply And.intro
    | exact (fun h => Bool.noConfusion h)
    | (refine chkI ?_; kernel_rfl)
    | (refine chkBI ?_; kernel_rfl)
    | exact (fun _ => True.intro)
    | exact True.intro
    | exact (fun h => h)
    | exact rfl
    | decide
    | exact (fun _ => by decide)
    | exact (show (_ : Int) ≠ _ by decide)
    | fail
end

end Vm
end Go.Proofs.YtdbpcmpkpbamhaaGreatDoor
