/- Walks: quotients, greatest common divisors. -/
import Derived.Test.YtdbpcmpkpbamhaaGreatDoorMj
namespace Go.Proofs.YtdbpcmpkpbamhaaGreatDoor
set_option linter.unusedVariables false
set_option linter.unusedSimpArgs false
set_option maxRecDepth 100000
namespace Vm
open Go

theorem nl_zero : nl 0 = 0 := rfl
theorem nl_one {n : Nat} (h0 : 0 < n) (h : n < 2 ^ 32) : nl n = 1 := by
  have h1 : (enc n).length ≤ 4 := enc_length_le (by omega)
  have h2 : 0 < (enc n).length := by rw [enc_pos h0]; simp
  unfold nl; omega

theorem s98 : Setting Tryz.prog tys (fi 98 Tryz.f98) := setting (by kernel_rfl) (by kernel_rfl)
theorem c98z (a b : List UInt8) (hb : b.length < 2 ^ 39) (h : dec b = 0) : PureC Tryz.prog 98 [str a, str b] (.tup [str [], str [], .val (.bool false)]) := by
  have hl : (limbsOf (nl (dec b)) (dec b)).length = 0 := by rw [limbsOf_len, h]; rfl
  refine pureC_of_vc s98 rfl (Nat.le_of_ble_eq_true rfl) rfl ?_
  refine vc_at s98 [] 100 ?_
  repeat' first
    | apply And.intro
    | exact (fun h => Bool.noConfusion h)
    | (refine chkI ?_; kernel_rfl)
    | (refine chkBI ?_; kernel_rfl)
    | exact (fun _ => True.intro)
    | exact True.intro
    | exact (fun h => h)
    | exact rfl
    | decide
    | exact (fun _ => by decide)
    | exact (show (_ : Int) ≠ _ by decide)
    | fail
  refine Exists.intro _ (And.intro (c151 b (by omega)) ?_)
  repeat' first
    | apply And.intro
    | exact (fun h => Bool.noConfusion h)
    | (refine chkI ?_; kernel_rfl)
    | (refine chkBI ?_; kernel_rfl)
    | exact (fun _ => True.intro)
    | exact True.intro
    | exact (fun h => h)
    | exact rfl
    | decide
    | exact (fun _ => by decide)
    | exact (show (_ : Int) ≠ _ by decide)
    | fail
  conv => whnf
  split
  · repeat' first
      | apply And.intro
      | exact (fun h => Bool.noConfusion h)
      | (refine chkI ?_; kernel_rfl)
      | (refine chkBI ?_; kernel_rfl)
      | exact (fun _ => True.intro)
      | exact True.intro
      | exact (fun h => h)
      | exact rfl
      | decide
      | exact (fun _ => by decide)
      | exact (show (_ : Int) ≠ _ by decide)
      | fail
  · rename_i hc
    rw [hl] at hc; simp at hc

theorem c98lt (a b : List UInt8) (ha : a.length < 2 ^ 39) (hb : b.length < 2 ^ 39) (h : dec a < dec b) : PureC Tryz.prog 98 [str a, str b] (.tup [str [], str (enc (dec a)), .val (.bool true)]) := by
  have hl : (limbsOf (nl (dec b)) (dec b)).length ≠ 0 := by
    rw [limbsOf_len]
    intro h0
    have := lt_nl (dec b)
    rw [h0] at this; simp at this; omega
  have hc := cmpN_lt h
  refine pureC_of_vc s98 rfl (Nat.le_of_ble_eq_true rfl) rfl ?_
  refine vc_at s98 [] 100 ?_
  repeat' first
    | apply And.intro
    | exact (fun h => Bool.noConfusion h)
    | (refine chkI ?_; kernel_rfl)
    | (refine chkBI ?_; kernel_rfl)
    | exact (fun _ => True.intro)
    | exact True.intro
    | exact (fun h => h)
    | exact rfl
    | decide
    | exact (fun _ => by decide)
    | exact (show (_ : Int) ≠ _ by decide)
    | fail
  refine Exists.intro _ (And.intro (c151 b (by omega)) ?_)
  repeat' first
    | apply And.intro
    | exact (fun h => Bool.noConfusion h)
    | (refine chkI ?_; kernel_rfl)
    | (refine chkBI ?_; kernel_rfl)
    | exact (fun _ => True.intro)
    | exact True.intro
    | exact (fun h => h)
    | exact rfl
    | decide
    | exact (fun _ => by decide)
    | exact (show (_ : Int) ≠ _ by decide)
    | fail
  conv => whnf
  split
  · rename_i hc; simp at hc hl; exact absurd hc hl
  · repeat' first
      | apply And.intro
      | exact (fun h => Bool.noConfusion h)
      | (refine chkI ?_; kernel_rfl)
      | (refine chkBI ?_; kernel_rfl)
      | exact (fun _ => True.intro)
      | exact True.intro
      | exact (fun h => h)
      | exact rfl
      | decide
      | exact (fun _ => by decide)
      | exact (show (_ : Int) ≠ _ by decide)
      | fail
    refine Exists.intro _ (And.intro (c154 a b (by omega) (by omega)) ?_)
    rw [hc]
    repeat' first
      | apply And.intro
      | exact (fun h => Bool.noConfusion h)
      | (refine chkI ?_; kernel_rfl)
      | (refine chkBI ?_; kernel_rfl)
      | exact (fun _ => True.intro)
      | exact True.intro
      | exact (fun h => h)
      | exact rfl
      | decide
      | exact (fun _ => by decide)
      | exact (show (_ : Int) ≠ _ by decide)
      | fail
    refine Exists.intro _ (And.intro (c148 a (by omega)) ?_)
    rw [trimR_dec]
    repeat' first
      | apply And.intro
      | exact (fun h => Bool.noConfusion h)
      | (refine chkI ?_; kernel_rfl)
      | (refine chkBI ?_; kernel_rfl)
      | exact (fun _ => True.intro)
      | exact True.intro
      | exact (fun h => h)
      | exact rfl
      | decide
      | exact (fun _ => by decide)
      | exact (show (_ : Int) ≠ _ by decide)
      | fail

theorem c98 (a b : List UInt8) (ha : a.length < 2 ^ 38) (hb : b.length < 2 ^ 38) (h0 : 0 < dec b) (h : dec b < 2 ^ 32) : PureC Tryz.prog 98 [str a, str b] (.tup [str (enc (dec a / dec b)), str (enc (dec a % dec b)), .val (.bool true)]) := by
  rcases Nat.lt_or_ge (dec a) (dec b) with hab | hab
  · have := c98lt a b (by omega) (by omega) hab
    rw [Nat.div_eq_of_lt hab, Nat.mod_eq_of_lt hab]
    exact this
  have h1 := nl_dec a
  have hn := nl_one h0 h
  have hb1 : limb (dec b) 0 = dec b := by unfold limb; simp; omega
  have hcmp : ¬ cmpN (dec a) (dec b) < 0 := by
    unfold cmpN; rw [if_neg (by omega)]; split <;> omega
  refine pureC_of_vc s98 rfl (Nat.le_of_ble_eq_true rfl) rfl ?_
  refine vc_at s98 [] 100 ?_
  repeat' first
    | apply And.intro
    | exact (fun h => Bool.noConfusion h)
    | (refine chkI ?_; kernel_rfl)
    | (refine chkBI ?_; kernel_rfl)
    | exact (fun _ => True.intro)
    | exact True.intro
    | exact (fun h => h)
    | exact rfl
    | decide
    | exact (fun _ => by decide)
    | exact (show (_ : Int) ≠ _ by decide)
    | fail
  refine Exists.intro _ (And.intro (c151 b (by omega)) ?_)
  rw [hn]
  repeat' first
    | apply And.intro
    | exact (fun h => Bool.noConfusion h)
    | (refine chkI ?_; kernel_rfl)
    | (refine chkBI ?_; kernel_rfl)
    | exact (fun _ => True.intro)
    | exact True.intro
    | exact (fun h => h)
    | exact rfl
    | decide
    | exact (fun _ => by decide)
    | exact (show (_ : Int) ≠ _ by decide)
    | fail
  refine Exists.intro _ (And.intro (c154 a b (by omega) (by omega)) ?_)
  repeat' first
    | apply And.intro
    | exact (fun h => Bool.noConfusion h)
    | (refine chkI ?_; kernel_rfl)
    | (refine chkBI ?_; kernel_rfl)
    | exact (fun _ => True.intro)
    | exact True.intro
    | exact (fun h => h)
    | exact rfl
    | decide
    | exact (fun _ => by decide)
    | exact (show (_ : Int) ≠ _ by decide)
    | fail
  conv => whnf
  split
  · rename_i hlt
    exact absurd (by simpa using hlt) hcmp
  · repeat' first
      | apply And.intro
      | exact (fun h => Bool.noConfusion h)
      | (refine chkI ?_; kernel_rfl)
      | (refine chkBI ?_; kernel_rfl)
      | exact (fun _ => True.intro)
      | exact True.intro
      | exact (fun h => h)
      | exact rfl
      | decide
      | exact (fun _ => by decide)
      | exact (show (_ : Int) ≠ _ by decide)
      | fail
    refine Exists.intro _ (And.intro (c151 a (by omega)) ?_)
    repeat' first
      | apply And.intro
      | exact (fun h => Bool.noConfusion h)
      | (refine chkI ?_; kernel_rfl)
      | (refine chkBI ?_; kernel_rfl)
      | exact (fun _ => True.intro)
      | exact True.intro
      | exact (fun h => h)
      | exact rfl
      | decide
      | exact (fun _ => by decide)
      | exact (show (_ : Int) ≠ _ by decide)
      | fail
    apply Exists.intro (u32 (limb (dec b) 0))
    apply And.intro
    · exact ⟨Int.le_refl _, rfl, rfl⟩
    rw [hb1]
    repeat' first
      | apply And.intro
      | exact (fun h => Bool.noConfusion h)
      | (refine chkI ?_; kernel_rfl)
      | (refine chkBI ?_; kernel_rfl)
      | exact (fun _ => True.intro)
      | exact True.intro
      | exact (fun h => h)
      | exact rfl
      | decide
      | exact (fun _ => by decide)
      | exact (show (_ : Int) ≠ _ by decide)
      | fail
    refine Exists.intro _ (And.intro (c157 (dec a) (nl (dec a)) (dec b) (some false) none (by omega) (lt_nl _) h0 h) ?_)
    repeat' first
      | apply And.intro
      | exact (fun h => Bool.noConfusion h)
      | (refine chkI ?_; kernel_rfl)
      | (refine chkBI ?_; kernel_rfl)
      | exact (fun _ => True.intro)
      | exact True.intro
      | exact (fun h => h)
      | exact rfl
      | decide
      | exact (fun _ => by decide)
      | exact (show (_ : Int) ≠ _ by decide)
      | fail
    refine Exists.intro _ (And.intro (c153' (nl (dec a)) (dec a / dec b) (some false) none (by omega) (Nat.lt_of_le_of_lt (Nat.div_le_self _ _) (lt_nl _))) ?_)
    repeat' first
      | apply And.intro
      | exact (fun h => Bool.noConfusion h)
      | (refine chkI ?_; kernel_rfl)
      | (refine chkBI ?_; kernel_rfl)
      | exact (fun _ => True.intro)
      | exact True.intro
      | exact (fun h => h)
      | exact rfl
      | decide
      | exact (fun _ => by decide)
      | exact (show (_ : Int) ≠ _ by decide)
      | fail
    refine Exists.intro _ (And.intro (pc (c95 (dec a % dec b) (by have := Nat.mod_lt (dec a) h0; omega)) ?_) ?_)
    · show [AV.val (.int .u64 (IntKind.u64.wrap ((dec a % dec b : Nat) : Int)))] = _
      rw [wrap_u64, Nat.mod_eq_of_lt (by have := Nat.mod_lt (dec a) h0; omega)]
    repeat' first
      | apply And.intro
      | exact (fun h => Bool.noConfusion h)
      | (refine chkI ?_; kernel_rfl)
      | (refine chkBI ?_; kernel_rfl)
      | exact (fun _ => True.intro)
      | exact True.intro
      | exact (fun h => h)
      | exact rfl
      | decide
      | exact (fun _ => by decide)
      | exact (show (_ : Int) ≠ _ by decide)
      | fail

theorem s96 : Setting Tryz.prog tys (fi 96 Tryz.f96) := setting (by kernel_rfl) (by kernel_rfl)
theorem loop96 : ∀ (n x y : Nat) (vx vy : Value), y ≤ n → x < 2 ^ 64 → y < 2 ^ 64 → vx = .int .u64 (x : Int) → vy = .int .u64 (y : Int) →
    VC Tryz.prog (fi 96 Tryz.f96) [0, 0, 0, 0, 1, 0, 1, 1, 0, 1, 0, 0, 0, 1] ⟨[(5, .val vx), (7, .val vy)], []⟩ (Gives (str (enc (Nat.gcd x y))))
  | n, x, y, _, _, hn, hx, hy, rfl, rfl => by
    refine vc_at s96 [[0, 0, 0, 0, 1, 0, 1, 1, 0, 1, 0, 0, 0, 1]] 100 ?_
    repeat' first
      | apply And.intro
      | exact (fun h => Bool.noConfusion h)
      | (refine chkI ?_; kernel_rfl)
      | (refine chkBI ?_; kernel_rfl)
      | exact (fun _ => True.intro)
      | exact True.intro
      | exact (fun h => h)
      | exact rfl
      | decide
      | exact (fun _ => by decide)
      | exact (show (_ : Int) ≠ _ by decide)
      | fail
    conv => whnf
    split
    · rename_i hc
      have hy0 : 0 < y := by simp at hc; omega
      repeat' first
        | apply And.intro
        | exact (fun h => Bool.noConfusion h)
        | (refine chkI ?_; kernel_rfl)
        | (refine chkBI ?_; kernel_rfl)
        | exact (fun _ => True.intro)
        | exact True.intro
        | exact (fun h => h)
        | exact rfl
        | decide
        | exact (fun _ => by decide)
        | exact (show (_ : Int) ≠ _ by decide)
        | fail
      all_goals first
        | (show ((y : Nat) : Int) ≠ 0; omega)
        | skip
      rw [show Nat.gcd x y = Nat.gcd y (x % y) by rw [Nat.gcd_comm x y, Nat.gcd_rec y x, Nat.gcd_comm]]
      have hlt := Nat.mod_lt x hy0
      exact VC.forget 0 [5, 7] (Nat.zero_le _) (loop96 (n - 1) y (x % y) _ _ (by omega) hy (by omega) rfl (by rw [tmod_nat]))
    · rename_i hc
      have hy0 : y = 0 := by simp at hc; omega
      subst hy0
      rw [Nat.gcd_zero_right]
      repeat' first
        | apply And.intro
        | exact (fun h => Bool.noConfusion h)
        | (refine chkI ?_; kernel_rfl)
        | (refine chkBI ?_; kernel_rfl)
        | exact (fun _ => True.intro)
        | exact True.intro
        | exact (fun h => h)
        | exact rfl
        | decide
        | exact (fun _ => by decide)
        | exact (show (_ : Int) ≠ _ by decide)
        | fail
      refine Exists.intro _ (And.intro (c95 x hx) ?_)
      repeat' first
        | apply And.intro
        | exact (fun h => Bool.noConfusion h)
        | (refine chkI ?_; kernel_rfl)
        | (refine chkBI ?_; kernel_rfl)
        | exact (fun _ => True.intro)
        | exact True.intro
        | exact (fun h => h)
        | exact rfl
        | decide
        | exact (fun _ => by decide)
        | exact (show (_ : Int) ≠ _ by decide)
        | fail

theorem c96 (a b : List UInt8) (ha : a.length < 2 ^ 38) (hb : b.length < 2 ^ 38) (hA : dec a < 2 ^ 64) (hB : dec b < 2 ^ 64) : PureC Tryz.prog 96 [str a, str b] (str (enc (Nat.gcd (dec a) (dec b)))) := by
  refine pureC_of_vc s96 rfl (Nat.le_of_ble_eq_true rfl) rfl ?_
  refine vc_at s96 [] 100 ?_
  repeat' first
    | apply And.intro
    | exact (fun h => Bool.noConfusion h)
    | (refine chkI ?_; kernel_rfl)
    | (refine chkBI ?_; kernel_rfl)
    | exact (fun _ => True.intro)
    | exact True.intro
    | exact (fun h => h)
    | exact rfl
    | decide
    | exact (fun _ => by decide)
    | exact (show (_ : Int) ≠ _ by decide)
    | fail
  refine vc_at s96 [] 100 ?_
  repeat' first
    | apply And.intro
    | exact (fun h => Bool.noConfusion h)
    | (refine chkI ?_; kernel_rfl)
    | (refine chkBI ?_; kernel_rfl)
    | exact (fun _ => True.intro)
    | exact True.intro
    | exact (fun h => h)
    | exact rfl
    | decide
    | exact (fun _ => by decide)
    | exact (show (_ : Int) ≠ _ by decide)
    | fail
  refine Exists.intro _ (And.intro (c148 b (by omega)) ?_)
  rw [trimR_dec]
  rcases Nat.eq_zero_or_pos (dec b) with h0 | h0
  · rw [h0, enc_zero, Nat.gcd_zero_right]
    repeat' first
      | apply And.intro
      | exact (fun h => Bool.noConfusion h)
      | (refine chkI ?_; kernel_rfl)
      | (refine chkBI ?_; kernel_rfl)
      | exact (fun _ => True.intro)
      | exact True.intro
      | exact (fun h => h)
      | exact rfl
      | decide
      | exact (fun _ => by decide)
      | exact (show (_ : Int) ≠ _ by decide)
      | fail
    refine Exists.intro _ (And.intro (c148 a (by omega)) ?_)
    rw [trimR_dec]
    repeat' first
      | apply And.intro
      | exact (fun h => Bool.noConfusion h)
      | (refine chkI ?_; kernel_rfl)
      | (refine chkBI ?_; kernel_rfl)
      | exact (fun _ => True.intro)
      | exact True.intro
      | exact (fun h => h)
      | exact rfl
      | decide
      | exact (fun _ => by decide)
      | exact (show (_ : Int) ≠ _ by decide)
      | fail
  · rw [enc_pos h0]
    repeat' first
      | apply And.intro
      | exact (fun h => Bool.noConfusion h)
      | (refine chkI ?_; kernel_rfl)
      | (refine chkBI ?_; kernel_rfl)
      | exact (fun _ => True.intro)
      | exact True.intro
      | exact (fun h => h)
      | exact rfl
      | decide
      | exact (fun _ => by decide)
      | exact (show (_ : Int) ≠ _ by decide)
      | fail
    refine Exists.intro _ (And.intro (c156 a (by omega) hA) ?_)
    repeat' first
      | apply And.intro
      | exact (fun h => Bool.noConfusion h)
      | (refine chkI ?_; kernel_rfl)
      | (refine chkBI ?_; kernel_rfl)
      | exact (fun _ => True.intro)
      | exact True.intro
      | exact (fun h => h)
      | exact rfl
      | decide
      | exact (fun _ => by decide)
      | exact (show (_ : Int) ≠ _ by decide)
      | fail
    refine Exists.intro _ (And.intro (c156 b (by omega) hB) ?_)
    repeat' first
      | apply And.intro
      | exact (fun h => Bool.noConfusion h)
      | (refine chkI ?_; kernel_rfl)
      | (refine chkBI ?_; kernel_rfl)
      | exact (fun _ => True.intro)
      | exact True.intro
      | exact (fun h => h)
      | exact rfl
      | decide
      | exact (fun _ => by decide)
      | exact (show (_ : Int) ≠ _ by decide)
      | fail
    exact VC.forget 0 [5, 7] (Nat.zero_le _) (loop96 _ (dec a) (dec b) _ _ (Nat.le_refl _) hA hB rfl rfl)

end Vm
end Go.Proofs.YtdbpcmpkpbamhaaGreatDoor

/- Walks: integers. -/
namespace Go.Proofs.YtdbpcmpkpbamhaaGreatDoor
set_option linter.unusedVariables false
set_option linter.unusedSimpArgs false
set_option maxRecDepth 100000
namespace Vm
open Go

/-- An integer in canonical form. -/
abbrev mkI (neg : Bool) (n : Nat) : AV := .agg [.val (.bool neg), str (enc n)]
abbrev int (z : Int) : AV := mkI (decide (z < 0)) z.natAbs
/-- Short enough for every length in the arithmetic. -/
def sm (n : Nat) : Prop := (enc n).length < 2 ^ 30
theorem sm_len {n : Nat} (h : sm n) : (enc n).length < 2 ^ 30 := h
theorem sm_64 {n : Nat} (h : n < 2 ^ 64) : sm n := by
  have : (enc n).length ≤ 8 := enc_length_le (by rw [p256]; exact h)
  unfold sm; omega

theorem c91' (neg : Bool) (n : Nat) : PureC Tryz.prog 91 [.val (.bool neg), str (enc n)] (mkI (neg && n != 0) n) := by
  have := c91 neg (enc n)
  rw [enc_isEmpty] at this
  exact this

theorem c90' (neg : Bool) (n : Nat) (h : sm n) : PureC Tryz.prog 90 [mkI neg n] (mkI (neg && n != 0) n) := by
  have := sm_len h
  have := c90 neg (enc n) (by omega)
  rw [trimR_enc, enc_isEmpty] at this
  exact this

theorem bs_enc_empty (n : Nat) : ((bs (enc n)) == (⟨#[]⟩ : ByteArray)) = (n == 0) := by
  rw [← enc_isEmpty]
  cases enc n <;> rfl

theorem s88 : Setting Tryz.prog tys (fi 88 Tryz.f88) := setting (by kernel_rfl) (by kernel_rfl)
theorem s89 : Setting Tryz.prog tys (fi 89 Tryz.f89) := setting (by kernel_rfl) (by kernel_rfl)
theorem s40 : Setting Tryz.prog tys (fi 40 Tryz.f40) := setting (by kernel_rfl) (by kernel_rfl)
/-- integer.Sign -/
theorem c88 (neg : Bool) (n : Nat) (h : sm n) : PureC Tryz.prog 88 [mkI neg n] (i64 (if n = 0 then 0 else if neg then -1 else 1)) := by
  refine pureC_of_vc s88 rfl (Nat.le_of_ble_eq_true rfl) rfl ?_
  refine vc_at s88 [] 100 ?_
  rcases Nat.eq_zero_or_pos n with h0 | h0
  · subst h0
    repeat' first
      | apply And.intro
      | exact (fun h => Bool.noConfusion h)
      | (refine chkI ?_; kernel_rfl)
      | (refine chkBI ?_; kernel_rfl)
      | exact (fun _ => True.intro)
      | exact True.intro
      | exact (fun h => h)
      | exact rfl
      | decide
      | exact (fun _ => by decide)
      | exact (show (_ : Int) ≠ _ by decide)
      | fail
    refine Exists.intro _ (And.intro (c90' neg 0 h) ?_)
    rw [show (neg && (0 : Nat) != 0) = false by simp]
    repeat' first
      | apply And.intro
      | exact (fun h => Bool.noConfusion h)
      | (refine chkI ?_; kernel_rfl)
      | (refine chkBI ?_; kernel_rfl)
      | exact (fun _ => True.intro)
      | exact True.intro
      | exact (fun h => h)
      | exact rfl
      | decide
      | exact (fun _ => by decide)
      | exact (show (_ : Int) ≠ _ by decide)
      | fail
  · rw [if_neg (by omega)]
    repeat' first
      | apply And.intro
      | exact (fun h => Bool.noConfusion h)
      | (refine chkI ?_; kernel_rfl)
      | (refine chkBI ?_; kernel_rfl)
      | exact (fun _ => True.intro)
      | exact True.intro
      | exact (fun h => h)
      | exact rfl
      | decide
      | exact (fun _ => by decide)
      | exact (show (_ : Int) ≠ _ by decide)
      | fail
    refine Exists.intro _ (And.intro (c90' neg n h) ?_)
    rw [show (neg && n != 0) = neg by cases neg <;> simp; omega]
    cases neg with
    | true =>
      repeat' first
        | apply And.intro
        | exact (fun h => Bool.noConfusion h)
        | (refine chkI ?_; kernel_rfl)
        | (refine chkBI ?_; kernel_rfl)
        | exact (fun _ => True.intro)
        | exact True.intro
        | exact (fun h => h)
        | exact rfl
        | decide
        | exact (fun _ => by decide)
        | exact (show (_ : Int) ≠ _ by decide)
        | fail
    | false =>
      repeat' first
        | apply And.intro
        | exact (fun h => Bool.noConfusion h)
        | (refine chkI ?_; kernel_rfl)
        | (refine chkBI ?_; kernel_rfl)
        | exact (fun _ => True.intro)
        | exact True.intro
        | exact (fun h => h)
        | exact rfl
        | decide
        | exact (fun _ => by decide)
        | exact (show (_ : Int) ≠ _ by decide)
        | fail
      rw [bs_enc_empty, show (!(n == 0)) = true by simp; omega]
      repeat' first
        | apply And.intro
        | exact (fun h => Bool.noConfusion h)
        | (refine chkI ?_; kernel_rfl)
        | (refine chkBI ?_; kernel_rfl)
        | exact (fun _ => True.intro)
        | exact True.intro
        | exact (fun h => h)
        | exact rfl
        | decide
        | exact (fun _ => by decide)
        | exact (show (_ : Int) ≠ _ by decide)
        | fail

/-- integer.Neg -/
theorem c89 (neg : Bool) (n : Nat) (h : sm n) : PureC Tryz.prog 89 [mkI neg n] (mkI (!(neg && n != 0) && n != 0) n) := by
  refine pureC_of_vc s89 rfl (Nat.le_of_ble_eq_true rfl) rfl ?_
  refine vc_at s89 [] 100 ?_
  repeat' first
    | apply And.intro
    | exact (fun h => Bool.noConfusion h)
    | (refine chkI ?_; kernel_rfl)
    | (refine chkBI ?_; kernel_rfl)
    | exact (fun _ => True.intro)
    | exact True.intro
    | exact (fun h => h)
    | exact rfl
    | decide
    | exact (fun _ => by decide)
    | exact (show (_ : Int) ≠ _ by decide)
    | fail
  refine Exists.intro _ (And.intro (c90' neg n h) ?_)
  repeat' first
    | apply And.intro
    | exact (fun h => Bool.noConfusion h)
    | (refine chkI ?_; kernel_rfl)
    | (refine chkBI ?_; kernel_rfl)
    | exact (fun _ => True.intro)
    | exact True.intro
    | exact (fun h => h)
    | exact rfl
    | decide
    | exact (fun _ => by decide)
    | exact (show (_ : Int) ≠ _ by decide)
    | fail
  refine Exists.intro _ (And.intro (c91' _ n) ?_)
  repeat' first
    | apply And.intro
    | exact (fun h => Bool.noConfusion h)
    | (refine chkI ?_; kernel_rfl)
    | (refine chkBI ?_; kernel_rfl)
    | exact (fun _ => True.intro)
    | exact True.intro
    | exact (fun h => h)
    | exact rfl
    | decide
    | exact (fun _ => by decide)
    | exact (show (_ : Int) ≠ _ by decide)
    | fail

/-- integer.FromInt64 -/
theorem c40 (z : Int) (h1 : -9223372036854775808 ≤ z) (h2 : z ≤ 9223372036854775807) : PureC Tryz.prog 40 [i64 z] (int z) := by
  refine pureC_of_vc s40 rfl (Nat.le_of_ble_eq_true rfl) rfl ?_
  refine vc_at s40 [] 100 ?_
  repeat' first
    | apply And.intro
    | exact (fun h => Bool.noConfusion h)
    | (refine chkI ?_; kernel_rfl)
    | (refine chkBI ?_; kernel_rfl)
    | exact (fun _ => True.intro)
    | exact True.intro
    | exact (fun h => h)
    | exact rfl
    | decide
    | exact (fun _ => by decide)
    | exact (show (_ : Int) ≠ _ by decide)
    | fail
  conv => whnf
  split
  · rename_i hc
    have hz : z < 0 := by simpa using hc
    have e : IntKind.u64.wrap (IntKind.u64.wrap (0 - (z + 1)) + 1) = (z.natAbs : Int) := by
      rw [wrapI_u64, wrapI_u64]; omega
    have hd : decide (z < 0) = true := by simpa using hz
    repeat' first
      | apply And.intro
      | exact (fun h => Bool.noConfusion h)
      | (refine chkI ?_; kernel_rfl)
      | (refine chkBI ?_; kernel_rfl)
      | exact (fun _ => True.intro)
      | exact True.intro
      | exact (fun h => h)
      | exact rfl
      | decide
      | exact (fun _ => by decide)
      | exact (show (_ : Int) ≠ _ by decide)
      | fail
    all_goals first
      | omega
      | (simp only [imp, i64ok, sz, List.length_map, List.length_cons, List.length_nil] <;> omega)
      | skip
    refine Exists.intro _ (And.intro (pc (c95 z.natAbs (by omega)) ?_) ?_)
    · show [AV.val (.int .u64 (IntKind.u64.wrap (IntKind.u64.wrap (0 - (z + 1)) + 1)))] = _
      rw [e]
    repeat' first
      | apply And.intro
      | exact (fun h => Bool.noConfusion h)
      | (refine chkI ?_; kernel_rfl)
      | (refine chkBI ?_; kernel_rfl)
      | exact (fun _ => True.intro)
      | exact True.intro
      | exact (fun h => h)
      | exact rfl
      | decide
      | exact (fun _ => by decide)
      | exact (show (_ : Int) ≠ _ by decide)
      | fail
    refine Exists.intro _ (And.intro (c91' true z.natAbs) ?_)
    rw [show (true && z.natAbs != 0) = true by simp; omega]
    repeat' first
      | apply And.intro
      | exact (fun h => Bool.noConfusion h)
      | (refine chkI ?_; kernel_rfl)
      | (refine chkBI ?_; kernel_rfl)
      | exact (fun _ => True.intro)
      | exact True.intro
      | exact (fun h => h)
      | exact rfl
      | decide
      | exact (fun _ => by decide)
      | exact (show (_ : Int) ≠ _ by decide)
      | fail
    show AV.agg [.val (.bool true), str (enc z.natAbs)] = AV.agg [.val (.bool (decide (z < 0))), str (enc z.natAbs)]
    rw [hd]
  · rename_i hc
    have hz : ¬ z < 0 := by simpa using hc
    have e : IntKind.u64.wrap z = (z.natAbs : Int) := by
      rw [wrapI_u64]; omega
    have hd : decide (z < 0) = false := by simpa using hz
    repeat' first
      | apply And.intro
      | exact (fun h => Bool.noConfusion h)
      | (refine chkI ?_; kernel_rfl)
      | (refine chkBI ?_; kernel_rfl)
      | exact (fun _ => True.intro)
      | exact True.intro
      | exact (fun h => h)
      | exact rfl
      | decide
      | exact (fun _ => by decide)
      | exact (show (_ : Int) ≠ _ by decide)
      | fail
    refine Exists.intro _ (And.intro (pc (c95 z.natAbs (by omega)) ?_) ?_)
    · show [AV.val (.int .u64 (IntKind.u64.wrap z))] = _
      rw [e]
    repeat' first
      | apply And.intro
      | exact (fun h => Bool.noConfusion h)
      | (refine chkI ?_; kernel_rfl)
      | (refine chkBI ?_; kernel_rfl)
      | exact (fun _ => True.intro)
      | exact True.intro
      | exact (fun h => h)
      | exact rfl
      | decide
      | exact (fun _ => by decide)
      | exact (show (_ : Int) ≠ _ by decide)
      | fail
    refine Exists.intro _ (And.intro (c91' false z.natAbs) ?_)
    repeat' first
      | apply And.intro
      | exact (fun h => Bool.noConfusion h)
      | (refine chkI ?_; kernel_rfl)
      | (refine chkBI ?_; kernel_rfl)
      | exact (fun _ => True.intro)
      | exact True.intro
      | exact (fun h => h)
      | exact rfl
      | decide
      | exact (fun _ => by decide)
      | exact (show (_ : Int) ≠ _ by decide)
      | fail
    show AV.agg [.val (.bool false), str (enc z.natAbs)] = AV.agg [.val (.bool (decide (z < 0))), str (enc z.natAbs)]
    rw [hd]

theorem neg_ok (z : Int) : (decide (z < 0) && z.natAbs != 0) = decide (z < 0) := by
  by_cases h : z < 0 <;> simp [h]; omega

theorem c90i (z : Int) (h : sm z.natAbs) : PureC Tryz.prog 90 [int z] (int z) := by
  have := c90' (decide (z < 0)) z.natAbs h
  rw [neg_ok] at this
  exact this

end Vm
end Go.Proofs.YtdbpcmpkpbamhaaGreatDoor

/- Walks: sums and products of integers. -/
namespace Go.Proofs.YtdbpcmpkpbamhaaGreatDoor
set_option linter.unusedVariables false
set_option linter.unusedSimpArgs false
set_option maxRecDepth 100000
namespace Vm
open Go

theorem s37 : Setting Tryz.prog tys (fi 37 Tryz.f37) := setting (by kernel_rfl) (by kernel_rfl)
theorem s86 : Setting Tryz.prog tys (fi 86 Tryz.f86) := setting (by kernel_rfl) (by kernel_rfl)
theorem s149 : Setting Tryz.prog tys (fi 149 Tryz.f149) := setting (by kernel_rfl) (by kernel_rfl)
theorem s85 : Setting Tryz.prog tys (fi 85 Tryz.f85) := setting (by kernel_rfl) (by kernel_rfl)
/-- integer.Mul -/
theorem c86 (x y : Int) (hx : sm x.natAbs) (hy : sm y.natAbs) : PureC Tryz.prog 86 [int x, int y] (int (x * y)) := by
  have lx := sm_len hx
  have ly := sm_len hy
  refine pureC_of_vc s86 rfl (Nat.le_of_ble_eq_true rfl) rfl ?_
  refine vc_at s86 [] 100 ?_
  repeat' first
    | apply And.intro
    | exact (fun h => Bool.noConfusion h)
    | (refine chkI ?_; kernel_rfl)
    | (refine chkBI ?_; kernel_rfl)
    | exact (fun _ => True.intro)
    | exact True.intro
    | exact (fun h => h)
    | exact rfl
    | decide
    | exact (fun _ => by decide)
    | exact (show (_ : Int) ≠ _ by decide)
    | fail
  refine Exists.intro _ (And.intro (c90i x hx) ?_)
  repeat' first
    | apply And.intro
    | exact (fun h => Bool.noConfusion h)
    | (refine chkI ?_; kernel_rfl)
    | (refine chkBI ?_; kernel_rfl)
    | exact (fun _ => True.intro)
    | exact True.intro
    | exact (fun h => h)
    | exact rfl
    | decide
    | exact (fun _ => by decide)
    | exact (show (_ : Int) ≠ _ by decide)
    | fail
  refine Exists.intro _ (And.intro (c90i y hy) ?_)
  repeat' first
    | apply And.intro
    | exact (fun h => Bool.noConfusion h)
    | (refine chkI ?_; kernel_rfl)
    | (refine chkBI ?_; kernel_rfl)
    | exact (fun _ => True.intro)
    | exact True.intro
    | exact (fun h => h)
    | exact rfl
    | decide
    | exact (fun _ => by decide)
    | exact (show (_ : Int) ≠ _ by decide)
    | fail
  refine Exists.intro _ (And.intro (c150 (enc x.natAbs) (enc y.natAbs) (by omega) (by omega)) ?_)
  rw [dec_enc, dec_enc]
  repeat' first
    | apply And.intro
    | exact (fun h => Bool.noConfusion h)
    | (refine chkI ?_; kernel_rfl)
    | (refine chkBI ?_; kernel_rfl)
    | exact (fun _ => True.intro)
    | exact True.intro
    | exact (fun h => h)
    | exact rfl
    | decide
    | exact (fun _ => by decide)
    | exact (show (_ : Int) ≠ _ by decide)
    | fail
  refine Exists.intro _ (And.intro (c91' _ (x.natAbs * y.natAbs)) ?_)
  repeat' first
    | apply And.intro
    | exact (fun h => Bool.noConfusion h)
    | (refine chkI ?_; kernel_rfl)
    | (refine chkBI ?_; kernel_rfl)
    | exact (fun _ => True.intro)
    | exact True.intro
    | exact (fun h => h)
    | exact rfl
    | decide
    | exact (fun _ => by decide)
    | exact (show (_ : Int) ≠ _ by decide)
    | fail
  have hr : ((!(decide (x < 0) == decide (y < 0))) && (x.natAbs * y.natAbs) != 0) = decide (x * y < 0) := by
    rcases Int.lt_trichotomy x 0 with h | h | h <;> rcases Int.lt_trichotomy y 0 with h' | h' | h'
    all_goals first
      | (subst h; simp)
      | (subst h'; simp)
      | skip
    · have := Int.mul_pos_of_neg_of_neg h h'; simp [h, h']; omega
    · have := Int.mul_neg_of_neg_of_pos h h'; rw [decide_eq_true h, decide_eq_false (show ¬ y < 0 by omega), decide_eq_true this, show ((x.natAbs * y.natAbs) != 0) = true from bne_iff_ne.2 (Nat.mul_ne_zero (by omega) (by omega))]; rfl
    · have := Int.mul_neg_of_pos_of_neg h h'; rw [decide_eq_true h', decide_eq_false (show ¬ x < 0 by omega), decide_eq_true this, show ((x.natAbs * y.natAbs) != 0) = true from bne_iff_ne.2 (Nat.mul_ne_zero (by omega) (by omega))]; rfl
    · have := Int.mul_pos h h'; simp [show ¬ x < 0 by omega, show ¬ y < 0 by omega]; omega
  show AV.agg [.val (.bool ((!(decide (x < 0) == decide (y < 0))) && (x.natAbs * y.natAbs) != 0)), str (enc (x.natAbs * y.natAbs))] = AV.agg [.val (.bool (decide (x * y < 0))), str (enc (x * y).natAbs)]
  rw [hr, Int.natAbs_mul]

/-- integer.Add -/
theorem c37 (x y : Int) (hx : sm x.natAbs) (hy : sm y.natAbs) : PureC Tryz.prog 37 [int x, int y] (int (x + y)) := by
  have lx := sm_len hx
  have ly := sm_len hy
  refine pureC_of_vc s37 rfl (Nat.le_of_ble_eq_true rfl) rfl ?_
  refine vc_at s37 [] 100 ?_
  repeat' first
    | apply And.intro
    | exact (fun h => Bool.noConfusion h)
    | (refine chkI ?_; kernel_rfl)
    | (refine chkBI ?_; kernel_rfl)
    | exact (fun _ => True.intro)
    | exact True.intro
    | exact (fun h => h)
    | exact rfl
    | decide
    | exact (fun _ => by decide)
    | exact (show (_ : Int) ≠ _ by decide)
    | fail
  refine Exists.intro _ (And.intro (c90i x hx) ?_)
  repeat' first
    | apply And.intro
    | exact (fun h => Bool.noConfusion h)
    | (refine chkI ?_; kernel_rfl)
    | (refine chkBI ?_; kernel_rfl)
    | exact (fun _ => True.intro)
    | exact True.intro
    | exact (fun h => h)
    | exact rfl
    | decide
    | exact (fun _ => by decide)
    | exact (show (_ : Int) ≠ _ by decide)
    | fail
  refine Exists.intro _ (And.intro (c90i y hy) ?_)
  repeat' first
    | apply And.intro
    | exact (fun h => Bool.noConfusion h)
    | (refine chkI ?_; kernel_rfl)
    | (refine chkBI ?_; kernel_rfl)
    | exact (fun _ => True.intro)
    | exact True.intro
    | exact (fun h => h)
    | exact rfl
    | decide
    | exact (fun _ => by decide)
    | exact (show (_ : Int) ≠ _ by decide)
    | fail
  conv => whnf
  split
  · rename_i hc
    have hc : decide (x < 0) = decide (y < 0) := by simpa using hc
    have hi : x < 0 ↔ y < 0 := by simpa using hc
    repeat' first
      | apply And.intro
      | exact (fun h => Bool.noConfusion h)
      | (refine chkI ?_; kernel_rfl)
      | (refine chkBI ?_; kernel_rfl)
      | exact (fun _ => True.intro)
      | exact True.intro
      | exact (fun h => h)
      | exact rfl
      | decide
      | exact (fun _ => by decide)
      | exact (show (_ : Int) ≠ _ by decide)
      | fail
    refine Exists.intro _ (And.intro (c92 (enc x.natAbs) (enc y.natAbs) (by omega) (by omega)) ?_)
    rw [dec_enc, dec_enc]
    repeat' first
      | apply And.intro
      | exact (fun h => Bool.noConfusion h)
      | (refine chkI ?_; kernel_rfl)
      | (refine chkBI ?_; kernel_rfl)
      | exact (fun _ => True.intro)
      | exact True.intro
      | exact (fun h => h)
      | exact rfl
      | decide
      | exact (fun _ => by decide)
      | exact (show (_ : Int) ≠ _ by decide)
      | fail
    refine Exists.intro _ (And.intro (c91' _ (x.natAbs + y.natAbs)) ?_)
    repeat' first
      | apply And.intro
      | exact (fun h => Bool.noConfusion h)
      | (refine chkI ?_; kernel_rfl)
      | (refine chkBI ?_; kernel_rfl)
      | exact (fun _ => True.intro)
      | exact True.intro
      | exact (fun h => h)
      | exact rfl
      | decide
      | exact (fun _ => by decide)
      | exact (show (_ : Int) ≠ _ by decide)
      | fail
    have e1 : (x + y).natAbs = x.natAbs + y.natAbs := by
      by_cases h : x < 0 <;> by_cases h' : y < 0 <;> simp [h, h'] at hc <;> omega
    have e2 : (decide (x < 0) && (x.natAbs + y.natAbs) != 0) = decide (x + y < 0) := by
      rw [Bool.eq_iff_iff]; simp only [Bool.and_eq_true, decide_eq_true_eq, bne_iff_ne, ne_eq]; omega
    show AV.agg [.val (.bool (decide (x < 0) && (x.natAbs + y.natAbs) != 0)), str (enc (x.natAbs + y.natAbs))] = AV.agg [.val (.bool (decide (x + y < 0))), str (enc (x + y).natAbs)]
    rw [e1, e2]
  · rename_i hc
    have hc : decide (x < 0) ≠ decide (y < 0) := by simpa using hc
    have hi : ¬ (x < 0 ↔ y < 0) := fun h => hc (by simp [h])
    rcases Nat.lt_or_ge x.natAbs y.natAbs with hlt | hge
    · repeat' first
        | apply And.intro
        | exact (fun h => Bool.noConfusion h)
        | (refine chkI ?_; kernel_rfl)
        | (refine chkBI ?_; kernel_rfl)
        | exact (fun _ => True.intro)
        | exact True.intro
        | exact (fun h => h)
        | exact rfl
        | decide
        | exact (fun _ => by decide)
        | exact (show (_ : Int) ≠ _ by decide)
        | fail
      refine Exists.intro _ (And.intro (c93' (enc x.natAbs) (enc y.natAbs) (by omega) (by omega) (by rw [dec_enc, dec_enc]; exact hlt)) ?_)
      repeat' first
        | apply And.intro
        | exact (fun h => Bool.noConfusion h)
        | (refine chkI ?_; kernel_rfl)
        | (refine chkBI ?_; kernel_rfl)
        | exact (fun _ => True.intro)
        | exact True.intro
        | exact (fun h => h)
        | exact rfl
        | decide
        | exact (fun _ => by decide)
        | exact (show (_ : Int) ≠ _ by decide)
        | fail
      refine Exists.intro _ (And.intro (c93 (enc y.natAbs) (enc x.natAbs) (by omega) (by omega) (by rw [dec_enc, dec_enc]; omega)) ?_)
      rw [dec_enc, dec_enc]
      repeat' first
        | apply And.intro
        | exact (fun h => Bool.noConfusion h)
        | (refine chkI ?_; kernel_rfl)
        | (refine chkBI ?_; kernel_rfl)
        | exact (fun _ => True.intro)
        | exact True.intro
        | exact (fun h => h)
        | exact rfl
        | decide
        | exact (fun _ => by decide)
        | exact (show (_ : Int) ≠ _ by decide)
        | fail
      refine Exists.intro _ (And.intro (c91' _ (y.natAbs - x.natAbs)) ?_)
      repeat' first
        | apply And.intro
        | exact (fun h => Bool.noConfusion h)
        | (refine chkI ?_; kernel_rfl)
        | (refine chkBI ?_; kernel_rfl)
        | exact (fun _ => True.intro)
        | exact True.intro
        | exact (fun h => h)
        | exact rfl
        | decide
        | exact (fun _ => by decide)
        | exact (show (_ : Int) ≠ _ by decide)
        | fail
      have e1 : (x + y).natAbs = y.natAbs - x.natAbs := by
        by_cases h : x < 0 <;> by_cases h' : y < 0 <;> simp [h, h'] at hc <;> omega
      have e2 : (decide (y < 0) && (y.natAbs - x.natAbs) != 0) = decide (x + y < 0) := by
        rw [Bool.eq_iff_iff]; simp only [Bool.and_eq_true, decide_eq_true_eq, bne_iff_ne, ne_eq]; omega
      show AV.agg [.val (.bool (decide (y < 0) && (y.natAbs - x.natAbs) != 0)), str (enc (y.natAbs - x.natAbs))] = AV.agg [.val (.bool (decide (x + y < 0))), str (enc (x + y).natAbs)]
      rw [e1, e2]
    · repeat' first
        | apply And.intro
        | exact (fun h => Bool.noConfusion h)
        | (refine chkI ?_; kernel_rfl)
        | (refine chkBI ?_; kernel_rfl)
        | exact (fun _ => True.intro)
        | exact True.intro
        | exact (fun h => h)
        | exact rfl
        | decide
        | exact (fun _ => by decide)
        | exact (show (_ : Int) ≠ _ by decide)
        | fail
      refine Exists.intro _ (And.intro (c93 (enc x.natAbs) (enc y.natAbs) (by omega) (by omega) (by rw [dec_enc, dec_enc]; exact hge)) ?_)
      rw [dec_enc, dec_enc]
      repeat' first
        | apply And.intro
        | exact (fun h => Bool.noConfusion h)
        | (refine chkI ?_; kernel_rfl)
        | (refine chkBI ?_; kernel_rfl)
        | exact (fun _ => True.intro)
        | exact True.intro
        | exact (fun h => h)
        | exact rfl
        | decide
        | exact (fun _ => by decide)
        | exact (show (_ : Int) ≠ _ by decide)
        | fail
      refine Exists.intro _ (And.intro (c91' _ (x.natAbs - y.natAbs)) ?_)
      repeat' first
        | apply And.intro
        | exact (fun h => Bool.noConfusion h)
        | (refine chkI ?_; kernel_rfl)
        | (refine chkBI ?_; kernel_rfl)
        | exact (fun _ => True.intro)
        | exact True.intro
        | exact (fun h => h)
        | exact rfl
        | decide
        | exact (fun _ => by decide)
        | exact (show (_ : Int) ≠ _ by decide)
        | fail
      have e1 : (x + y).natAbs = x.natAbs - y.natAbs := by
        by_cases h : x < 0 <;> by_cases h' : y < 0 <;> simp [h, h'] at hc <;> omega
      have e2 : (decide (x < 0) && (x.natAbs - y.natAbs) != 0) = decide (x + y < 0) := by
        rw [Bool.eq_iff_iff]; simp only [Bool.and_eq_true, decide_eq_true_eq, bne_iff_ne, ne_eq]; omega
      show AV.agg [.val (.bool (decide (x < 0) && (x.natAbs - y.natAbs) != 0)), str (enc (x.natAbs - y.natAbs))] = AV.agg [.val (.bool (decide (x + y < 0))), str (enc (x + y).natAbs)]
      rw [e1, e2]

theorem c89i (z : Int) (h : sm z.natAbs) : PureC Tryz.prog 89 [int z] (int (-z)) := by
  have := c89 (decide (z < 0)) z.natAbs h
  rw [neg_ok] at this
  have e : (!decide (z < 0) && z.natAbs != 0) = decide (-z < 0) := by
    rw [Bool.eq_iff_iff]; simp only [Bool.and_eq_true, Bool.not_eq_true', decide_eq_true_eq, decide_eq_false_iff_not, bne_iff_ne, ne_eq]; omega
  rw [e] at this
  show PureC Tryz.prog 89 [int z] (mkI (decide (-z < 0)) (-z).natAbs)
  rw [Int.natAbs_neg]
  exact this

/-- integer.Sub -/
theorem c149 (x y : Int) (hx : sm x.natAbs) (hy : sm y.natAbs) : PureC Tryz.prog 149 [int x, int y] (int (x - y)) := by
  refine pureC_of_vc s149 rfl (Nat.le_of_ble_eq_true rfl) rfl ?_
  refine vc_at s149 [] 100 ?_
  repeat' first
    | apply And.intro
    | exact (fun h => Bool.noConfusion h)
    | (refine chkI ?_; kernel_rfl)
    | (refine chkBI ?_; kernel_rfl)
    | exact (fun _ => True.intro)
    | exact True.intro
    | exact (fun h => h)
    | exact rfl
    | decide
    | exact (fun _ => by decide)
    | exact (show (_ : Int) ≠ _ by decide)
    | fail
  refine Exists.intro _ (And.intro (c89i y hy) ?_)
  repeat' first
    | apply And.intro
    | exact (fun h => Bool.noConfusion h)
    | (refine chkI ?_; kernel_rfl)
    | (refine chkBI ?_; kernel_rfl)
    | exact (fun _ => True.intro)
    | exact True.intro
    | exact (fun h => h)
    | exact rfl
    | decide
    | exact (fun _ => by decide)
    | exact (show (_ : Int) ≠ _ by decide)
    | fail
  refine Exists.intro _ (And.intro (c37 x (-y) hx (by rw [Int.natAbs_neg]; exact hy)) ?_)
  repeat' first
    | apply And.intro
    | exact (fun h => Bool.noConfusion h)
    | (refine chkI ?_; kernel_rfl)
    | (refine chkBI ?_; kernel_rfl)
    | exact (fun _ => True.intro)
    | exact True.intro
    | exact (fun h => h)
    | exact rfl
    | decide
    | exact (fun _ => by decide)
    | exact (show (_ : Int) ≠ _ by decide)
    | fail
  all_goals trace_state

theorem c88i (z : Int) (h : sm z.natAbs) : PureC Tryz.prog 88 [int z] (i64 z.sign) := by
  have := c88 (decide (z < 0)) z.natAbs h
  have e : (if z.natAbs = 0 then (0 : Int) else if decide (z < 0) = true then -1 else 1) = z.sign := by
    rcases Int.lt_trichotomy z 0 with h | h | h
    · rw [if_neg (by omega), if_pos (by simpa using h), Int.sign_eq_neg_one_of_neg h]
    · subst h; rfl
    · rw [if_neg (by omega), if_neg (by simp; omega), Int.sign_eq_one_of_pos h]
  rw [e] at this
  exact this

theorem sm_mono {m n : Nat} (h : m ≤ n) (hn : sm n) : sm m := Nat.lt_of_le_of_lt (enc_len_mono h) hn

/-- integer.Cmp -/
theorem c85 (x y : Int) (hx : sm x.natAbs) (hy : sm y.natAbs) (hxy : sm (x - y).natAbs) : PureC Tryz.prog 85 [int x, int y] (i64 (x - y).sign) := by
  refine pureC_of_vc s85 rfl (Nat.le_of_ble_eq_true rfl) rfl ?_
  refine vc_at s85 [] 100 ?_
  repeat' first
    | apply And.intro
    | exact (fun h => Bool.noConfusion h)
    | (refine chkI ?_; kernel_rfl)
    | (refine chkBI ?_; kernel_rfl)
    | exact (fun _ => True.intro)
    | exact True.intro
    | exact (fun h => h)
    | exact rfl
    | decide
    | exact (fun _ => by decide)
    | exact (show (_ : Int) ≠ _ by decide)
    | fail
  refine Exists.intro _ (And.intro (c149 x y hx hy) ?_)
  repeat' first
    | apply And.intro
    | exact (fun h => Bool.noConfusion h)
    | (refine chkI ?_; kernel_rfl)
    | (refine chkBI ?_; kernel_rfl)
    | exact (fun _ => True.intro)
    | exact True.intro
    | exact (fun h => h)
    | exact rfl
    | decide
    | exact (fun _ => by decide)
    | exact (show (_ : Int) ≠ _ by decide)
    | fail
  refine Exists.intro _ (And.intro (c88i (x - y) hxy) ?_)
  repeat' first
    | apply And.intro
    | exact (fun h => Bool.noConfusion h)
    | (refine chkI ?_; kernel_rfl)
    | (refine chkBI ?_; kernel_rfl)
    | exact (fun _ => True.intro)
    | exact True.intro
    | exact (fun h => h)
    | exact rfl
    | decide
    | exact (fun _ => by decide)
    | exact (show (_ : Int) ≠ _ by decide)
    | fail

theorem s94 : Setting Tryz.prog tys (fi 94 Tryz.f94) := setting (by kernel_rfl) (by kernel_rfl)
/-- integer.Div by a positive number of one limb. -/
theorem c94 (x y : Int) (hx : sm x.natAbs) (hy0 : 0 < y) (hy : y < 2 ^ 32) : PureC Tryz.prog 94 [int x, int y] (.tup [int (x / y), int (x % y), .val (.bool true)]) := by
  have hys : sm y.natAbs := sm_64 (by omega)
  have lx := sm_len hx
  have ly := sm_len hys
  have hyn : (y.natAbs : Int) = y := by omega
  have hd := Nat.div_add_mod x.natAbs y.natAbs
  have hm := Nat.mod_lt x.natAbs (show 0 < y.natAbs by omega)
  have hlen1 : (enc (x.natAbs / y.natAbs)).length < 2 ^ 30 := sm_mono (Nat.div_le_self _ _) hx
  have hlen2 : (enc (x.natAbs % y.natAbs)).length < 2 ^ 30 := sm_mono (Nat.le_of_lt hm) hys
  have hxn : x = (x.natAbs : Int) ∨ x = -(x.natAbs : Int) := by omega
  refine pureC_of_vc s94 rfl (Nat.le_of_ble_eq_true rfl) rfl ?_
  refine vc_at s94 [] 100 ?_
  repeat' first
    | apply And.intro
    | exact (fun h => Bool.noConfusion h)
    | (refine chkI ?_; kernel_rfl)
    | (refine chkBI ?_; kernel_rfl)
    | exact (fun _ => True.intro)
    | exact True.intro
    | exact (fun h => h)
    | exact rfl
    | decide
    | exact (fun _ => by decide)
    | exact (show (_ : Int) ≠ _ by decide)
    | fail
  refine Exists.intro _ (And.intro (c90i x hx) ?_)
  repeat' first
    | apply And.intro
    | exact (fun h => Bool.noConfusion h)
    | (refine chkI ?_; kernel_rfl)
    | (refine chkBI ?_; kernel_rfl)
    | exact (fun _ => True.intro)
    | exact True.intro
    | exact (fun h => h)
    | exact rfl
    | decide
    | exact (fun _ => by decide)
    | exact (show (_ : Int) ≠ _ by decide)
    | fail
  refine Exists.intro _ (And.intro (c90i y hys) ?_)
  repeat' first
    | apply And.intro
    | exact (fun h => Bool.noConfusion h)
    | (refine chkI ?_; kernel_rfl)
    | (refine chkBI ?_; kernel_rfl)
    | exact (fun _ => True.intro)
    | exact True.intro
    | exact (fun h => h)
    | exact rfl
    | decide
    | exact (fun _ => by decide)
    | exact (show (_ : Int) ≠ _ by decide)
    | fail
  refine Exists.intro _ (And.intro (c98 (enc x.natAbs) (enc y.natAbs) (by omega) (by omega) (by rw [dec_enc]; omega) (by rw [dec_enc]; omega)) ?_)
  rw [dec_enc, dec_enc]
  repeat' first
    | apply And.intro
    | exact (fun h => Bool.noConfusion h)
    | (refine chkI ?_; kernel_rfl)
    | (refine chkBI ?_; kernel_rfl)
    | exact (fun _ => True.intro)
    | exact True.intro
    | exact (fun h => h)
    | exact rfl
    | decide
    | exact (fun _ => by decide)
    | exact (show (_ : Int) ≠ _ by decide)
    | fail
  rw [bs_enc_empty]
  generalize hq : x.natAbs / y.natAbs = q at *
  generalize hr : x.natAbs % y.natAbs = r at *
  have hYq : ((y.natAbs * q : Nat) : Int) = y * (q : Int) := by rw [Int.natCast_mul, hyn]
  conv => whnf
  split
  · rename_i hc
    have hneg : x < 0 ∧ r ≠ 0 := by simpa using hc
    have hu : x / y = -((q : Int) + 1) ∧ x % y = y - (r : Int) := by
      refine (Int.ediv_emod_unique hy0).2 ⟨?_, by omega, by omega⟩
      rw [Int.mul_neg, Int.mul_add]; omega
    repeat' first
      | apply And.intro
      | exact (fun h => Bool.noConfusion h)
      | (refine chkI ?_; kernel_rfl)
      | (refine chkBI ?_; kernel_rfl)
      | exact (fun _ => True.intro)
      | exact True.intro
      | exact (fun h => h)
      | exact rfl
      | decide
      | exact (fun _ => by decide)
      | exact (show (_ : Int) ≠ _ by decide)
      | fail
    refine Exists.intro _ (And.intro (c95 1 (by omega)) ?_)
    repeat' first
      | apply And.intro
      | exact (fun h => Bool.noConfusion h)
      | (refine chkI ?_; kernel_rfl)
      | (refine chkBI ?_; kernel_rfl)
      | exact (fun _ => True.intro)
      | exact True.intro
      | exact (fun h => h)
      | exact rfl
      | decide
      | exact (fun _ => by decide)
      | exact (show (_ : Int) ≠ _ by decide)
      | fail
    refine Exists.intro _ (And.intro (c92 (enc q) (enc 1) (by omega) (by decide)) ?_)
    rw [dec_enc, dec_enc]
    repeat' first
      | apply And.intro
      | exact (fun h => Bool.noConfusion h)
      | (refine chkI ?_; kernel_rfl)
      | (refine chkBI ?_; kernel_rfl)
      | exact (fun _ => True.intro)
      | exact True.intro
      | exact (fun h => h)
      | exact rfl
      | decide
      | exact (fun _ => by decide)
      | exact (show (_ : Int) ≠ _ by decide)
      | fail
    refine Exists.intro _ (And.intro (c148 (enc y.natAbs) (by omega)) ?_)
    rw [trimR_enc]
    repeat' first
      | apply And.intro
      | exact (fun h => Bool.noConfusion h)
      | (refine chkI ?_; kernel_rfl)
      | (refine chkBI ?_; kernel_rfl)
      | exact (fun _ => True.intro)
      | exact True.intro
      | exact (fun h => h)
      | exact rfl
      | decide
      | exact (fun _ => by decide)
      | exact (show (_ : Int) ≠ _ by decide)
      | fail
    refine Exists.intro _ (And.intro (c93 (enc y.natAbs) (enc r) (by omega) (by omega) (by rw [dec_enc, dec_enc]; omega)) ?_)
    rw [dec_enc, dec_enc]
    repeat' first
      | apply And.intro
      | exact (fun h => Bool.noConfusion h)
      | (refine chkI ?_; kernel_rfl)
      | (refine chkBI ?_; kernel_rfl)
      | exact (fun _ => True.intro)
      | exact True.intro
      | exact (fun h => h)
      | exact rfl
      | decide
      | exact (fun _ => by decide)
      | exact (show (_ : Int) ≠ _ by decide)
      | fail
    refine Exists.intro _ (And.intro (c91' _ (q + 1)) ?_)
    repeat' first
      | apply And.intro
      | exact (fun h => Bool.noConfusion h)
      | (refine chkI ?_; kernel_rfl)
      | (refine chkBI ?_; kernel_rfl)
      | exact (fun _ => True.intro)
      | exact True.intro
      | exact (fun h => h)
      | exact rfl
      | decide
      | exact (fun _ => by decide)
      | exact (show (_ : Int) ≠ _ by decide)
      | fail
    refine Exists.intro _ (And.intro (c91' false (y.natAbs - r)) ?_)
    repeat' first
      | apply And.intro
      | exact (fun h => Bool.noConfusion h)
      | (refine chkI ?_; kernel_rfl)
      | (refine chkBI ?_; kernel_rfl)
      | exact (fun _ => True.intro)
      | exact True.intro
      | exact (fun h => h)
      | exact rfl
      | decide
      | exact (fun _ => by decide)
      | exact (show (_ : Int) ≠ _ by decide)
      | fail
    have e1 : ((decide (x < 0) != decide (y < 0)) && (q + 1) != 0) = decide (x / y < 0) := by
      rw [hu.1, decide_eq_true hneg.1, decide_eq_false (show ¬ y < 0 by omega), decide_eq_true (show -((q : Int) + 1) < 0 by omega)]; simp
    have e2 : (x / y).natAbs = q + 1 := by rw [hu.1]; omega
    have e3 : (x % y).natAbs = y.natAbs - r := by rw [hu.2]; omega
    have e4 : decide (x % y < 0) = false := by rw [hu.2]; simp; omega
    show AV.tup [.agg [.val (.bool ((decide (x < 0) != decide (y < 0)) && (q + 1) != 0)), str (enc (q + 1))], .agg [.val (.bool false), str (enc (y.natAbs - r))], .val (.bool true)] = AV.tup [.agg [.val (.bool (decide (x / y < 0))), str (enc (x / y).natAbs)], .agg [.val (.bool (decide (x % y < 0))), str (enc (x % y).natAbs)], .val (.bool true)]
    rw [e1, e2, e3, e4]
  · rename_i hc
    have hneg : ¬ (x < 0 ∧ r ≠ 0) := by simpa using hc
    have hu : x / y = (if x < 0 then -(q : Int) else q) ∧ x % y = (r : Int) := by
      refine (Int.ediv_emod_unique hy0).2 ⟨?_, by omega, by omega⟩
      split
      · rw [Int.mul_neg]; omega
      · omega
    repeat' first
      | apply And.intro
      | exact (fun h => Bool.noConfusion h)
      | (refine chkI ?_; kernel_rfl)
      | (refine chkBI ?_; kernel_rfl)
      | exact (fun _ => True.intro)
      | exact True.intro
      | exact (fun h => h)
      | exact rfl
      | decide
      | exact (fun _ => by decide)
      | exact (show (_ : Int) ≠ _ by decide)
      | fail
    refine Exists.intro _ (And.intro (c91' _ q) ?_)
    repeat' first
      | apply And.intro
      | exact (fun h => Bool.noConfusion h)
      | (refine chkI ?_; kernel_rfl)
      | (refine chkBI ?_; kernel_rfl)
      | exact (fun _ => True.intro)
      | exact True.intro
      | exact (fun h => h)
      | exact rfl
      | decide
      | exact (fun _ => by decide)
      | exact (show (_ : Int) ≠ _ by decide)
      | fail
    refine Exists.intro _ (And.intro (c91' false r) ?_)
    repeat' first
      | apply And.intro
      | exact (fun h => Bool.noConfusion h)
      | (refine chkI ?_; kernel_rfl)
      | (refine chkBI ?_; kernel_rfl)
      | exact (fun _ => True.intro)
      | exact True.intro
      | exact (fun h => h)
      | exact rfl
      | decide
      | exact (fun _ => by decide)
      | exact (show (_ : Int) ≠ _ by decide)
      | fail
    have e1 : ((decide (x < 0) != decide (y < 0)) && q != 0) = decide (x / y < 0) := by
      rw [hu.1, decide_eq_false (show ¬ y < 0 by omega)]
      rw [Bool.eq_iff_iff]; simp only [Bool.and_eq_true, bne_iff_ne, ne_eq, decide_eq_true_eq, decide_eq_false_iff_not]
      split
      · rename_i h; simp [h]; omega
      · rename_i h; simp [h]
    have e2 : (x / y).natAbs = q := by rw [hu.1]; split <;> omega
    have e3 : (x % y).natAbs = r := by rw [hu.2]; omega
    have e4 : decide (x % y < 0) = false := by rw [hu.2]; simp
    show AV.tup [.agg [.val (.bool ((decide (x < 0) != decide (y < 0)) && q != 0)), str (enc q)], .agg [.val (.bool false), str (enc r)], .val (.bool true)] = AV.tup [.agg [.val (.bool (decide (x / y < 0))), str (enc (x / y).natAbs)], .agg [.val (.bool (decide (x % y < 0))), str (enc (x % y).natAbs)], .val (.bool true)]
    rw [e1, e2, e3, e4]

end Vm
end Go.Proofs.YtdbpcmpkpbamhaaGreatDoor

/- Rational numbers as bytes: plain Lean, no program in sight. -/
namespace Go.Proofs.YtdbpcmpkpbamhaaGreatDoor
set_option linter.unusedVariables false
namespace Vm
open Go

def encD (d : Nat) : List UInt8 := if d = 1 then [] else enc d
abbrev ratS (neg : Bool) (num den : List UInt8) : AV := .agg [.val (.bool neg), str num, str den]
/-- A rational number in canonical form. -/
abbrev rat (q : Rat) : AV := ratS (decide (q.num < 0)) (enc q.num.natAbs) (encD q.den)

def numI (neg : Bool) (num : List UInt8) : Int := if neg then -(dec num : Int) else dec num
def denN (den : List UInt8) : Nat := if dec den = 0 then 1 else dec den
/-- What a rational number says that need not be in canonical form. -/
def valQ (neg : Bool) (num den : List UInt8) : Rat := Rat.divInt (numI neg num) (denN den)

theorem denN_pos (den : List UInt8) : 0 < denN den := by unfold denN; split <;> omega
theorem denN_ne (den : List UInt8) : ((denN den : Nat) : Int) ≠ 0 := by have := denN_pos den; omega
theorem numI_abs (neg : Bool) (num : List UInt8) : (numI neg num).natAbs = dec num := by unfold numI; split <;> omega
theorem numI_neg (neg : Bool) (num : List UInt8) : decide (numI neg num < 0) = (neg && dec num != 0) := by
  rw [Bool.eq_iff_iff]
  unfold numI
  cases neg <;> simp <;> omega

theorem denN_encD {d : Nat} (h : 0 < d) : denN (encD d) = d := by
  unfold denN encD
  split
  · rename_i h1; rw [if_pos (by rfl)]; exact h1.symm
  · rw [dec_enc, if_neg (by omega)]

theorem numI_enc (z : Int) : numI (decide (z < 0)) (enc z.natAbs) = z := by
  unfold numI; rw [dec_enc]; split
  · rename_i h; simp at h; omega
  · rename_i h; simp at h; omega

theorem valQ_rat (q : Rat) : valQ (decide (q.num < 0)) (enc q.num.natAbs) (encD q.den) = q := by
  unfold valQ
  rw [numI_enc, denN_encD q.den_pos, Rat.num_divInt_den]

theorem mk_abs (n d : Int) : (Rat.divInt n d).num.natAbs = if d = 0 then 0 else n.natAbs / Nat.gcd n.natAbs d.natAbs := by
  rw [Rat.num_divInt]
  by_cases hd : d = 0
  · subst hd; simp
  · rw [if_neg hd]
    have hg : (d.gcd n : Int) ∣ n := Int.gcd_dvd_right d n
    obtain ⟨m, hm⟩ := hg
    have hpos : 0 < d.gcd n := Int.gcd_pos_of_ne_zero_left n hd
    have e1 : d.sign * n / (d.gcd n : Int) = d.sign * m := by
      rw [show d.sign * n = (d.gcd n : Int) * (d.sign * m) by rw [← Int.mul_assoc, Int.mul_comm _ d.sign, Int.mul_assoc, ← hm]]
      exact Int.mul_ediv_cancel_left _ (by omega)
    rw [e1, Int.natAbs_mul, Int.natAbs_sign_of_ne_zero hd, Nat.one_mul]
    have e2 : Nat.gcd n.natAbs d.natAbs = d.gcd n := by rw [Nat.gcd_comm]; rfl
    have e3 : n.natAbs = d.gcd n * m.natAbs := by
      have := congrArg Int.natAbs hm
      rw [Int.natAbs_mul] at this
      simpa using this
    rw [e2, e3, Nat.mul_div_cancel_left _ hpos]

theorem mk_den (n d : Int) : (Rat.divInt n d).den = if d = 0 then 1 else d.natAbs / Nat.gcd n.natAbs d.natAbs := by
  rw [Rat.den_divInt, show d.gcd n = Nat.gcd n.natAbs d.natAbs by rw [Nat.gcd_comm]; rfl]

theorem mk_neg {n d : Int} (hn : n ≠ 0) (hd : d ≠ 0) : decide ((Rat.divInt n d).num < 0) = (decide (n < 0) != decide (d < 0)) := by
  rw [Rat.num_divInt]
  have hg : (d.gcd n : Int) ∣ n := Int.gcd_dvd_right d n
  obtain ⟨m, hm⟩ := hg
  have hpos : 0 < d.gcd n := Int.gcd_pos_of_ne_zero_left n hd
  have e1 : d.sign * n / (d.gcd n : Int) = d.sign * m := by
    rw [show d.sign * n = (d.gcd n : Int) * (d.sign * m) by rw [← Int.mul_assoc, Int.mul_comm _ d.sign, Int.mul_assoc, ← hm]]
    exact Int.mul_ediv_cancel_left _ (by omega)
  rw [e1]
  have hmn : n < 0 ↔ m < 0 := by
    have hgp : (0 : Int) < d.gcd n := by omega
    generalize (d.gcd n : Int) = g at hm hgp
    subst hm
    constructor
    · intro h
      rcases Int.lt_or_le m 0 with h' | h'
      · exact h'
      · have := Int.mul_nonneg (Int.le_of_lt hgp) h'; omega
    · intro h; exact Int.mul_neg_of_pos_of_neg hgp h
  have hm0 : m ≠ 0 := fun e => hn (by rw [hm, e]; simp)
  rw [Bool.eq_iff_iff]
  rcases Int.lt_trichotomy d 0 with h | h | h
  · rw [Int.sign_eq_neg_one_of_neg h]
    simp [hmn, h]; omega
  · exact absurd h hd
  · rw [Int.sign_eq_one_of_pos h]
    have : ¬ d < 0 := by omega
    simp [hmn, this]

theorem rat_inj {p q : Rat} : decide (p.num < 0) = decide (q.num < 0) → enc p.num.natAbs = enc q.num.natAbs → encD p.den = encD q.den → p = q := by
  intro h1 h2 h3
  have e2 := enc_inj h2
  have e3 : p.den = q.den := by
    have := denN_encD p.den_pos
    rw [h3, denN_encD q.den_pos] at this
    exact this.symm
  refine Rat.ext ?_ e3
  have : (p.num < 0) ↔ (q.num < 0) := by simpa using h1
  omega

end Vm
end Go.Proofs.YtdbpcmpkpbamhaaGreatDoor
