/- Walks: differences. -/
import Derived.Test.YtdbpcmpkpbamhaaGreatDoorMi
namespace Go.Proofs.YtdbpcmpkpbamhaaGreatDoor
set_option linter.unusedVariables false
set_option linter.unusedSimpArgs false
set_option maxRecDepth 100000
namespace Vm
open Go

theorem s93 : Setting Tryz.prog tys (fi 93 Tryz.f93) := setting (by kernel_rfl) (by kernel_rfl)
theorem loop93 (X Y mx my : Nat) (hx : X < 2 ^ (32 * mx)) (hy : Y < 2 ^ (32 * my)) (hm : my ≤ mx) (hmx : mx < 2 ^ 39) (hXY : Y ≤ X) : ∀ (n i : Nat) (elems : List AV) (xs ys : List AV) (len : Nat) (vc vi vn : Value), mx - i ≤ n → i ≤ mx → elems = limbsOf mx ((X - Y) % 2 ^ (32 * i)) → xs = limbsOf mx X → ys = limbsOf my Y → len = mx → vc = .int .u32 (brw X Y i : Int) → vi = .int .i64 (i : Int) → vn = .int .i64 (mx : Int) →
    VC Tryz.prog (fi 93 Tryz.f93) [0, 0, 1, 0, 1, 1, 1, 1, 1] ⟨[(6, .sl (some false) none 1 xs), (7, .sl (some false) none 1 ys), (8, .ref 0 0 len none 0 1), (9, .val vc), (24, .val vn), (25, .val vi)], [.row elems 1 0]⟩ (Gives (.tup [str (enc (X - Y)), .val (.bool true)]))
  | n, i, _, _, _, _, _, _, _, hn, hi, rfl, rfl, rfl, rfl, rfl, rfl, rfl => by
    refine vc_at s93 [[0, 0, 1, 0, 1, 1, 1, 1, 1]] 100 ?_
    repeat' first
      | apply And.intro
      | exact (fun h => Bool.noConfusion h)
      | (refine chkI ?_; kernel_rfl)
      | (refine chkBI ?_; kernel_rfl)
      | exact (fun _ => True.intro)
      | exact True.intro
      | exact (fun h => h)
      | exact rfl
      | decide
      | exact (fun _ => by decide)
      | exact (show (_ : Int) ≠ _ by decide)
      | fail
    conv => whnf
    split
    · rename_i hc
      have hlt : i < mx := by simpa using hc
      repeat' first
        | apply And.intro
        | exact (fun h => Bool.noConfusion h)
        | (refine chkI ?_; kernel_rfl)
        | (refine chkBI ?_; kernel_rfl)
        | exact (fun _ => True.intro)
        | exact True.intro
        | exact (fun h => h)
        | exact rfl
        | decide
        | exact (fun _ => by decide)
        | exact (show (_ : Int) ≠ _ by decide)
        | fail
      conv => whnf
      split
      · rename_i hc2
        have hlt2 : i < my := by simp [limbsOf_len] at hc2; omega
        repeat' first
          | apply And.intro
          | exact (fun h => Bool.noConfusion h)
          | (refine chkI ?_; kernel_rfl)
          | (refine chkBI ?_; kernel_rfl)
          | exact (fun _ => True.intro)
          | exact True.intro
          | exact (fun h => h)
          | exact rfl
          | decide
          | exact (fun _ => by decide)
          | exact (show (_ : Int) ≠ _ by decide)
          | fail
        apply Exists.intro (u32 (limb Y i))
        apply And.intro
        · exact ⟨Int.natCast_nonneg _, limbsOf_get hlt2, rfl⟩
        repeat' first
          | apply And.intro
          | exact (fun h => Bool.noConfusion h)
          | (refine chkI ?_; kernel_rfl)
          | (refine chkBI ?_; kernel_rfl)
          | exact (fun _ => True.intro)
          | exact True.intro
          | exact (fun h => h)
          | exact rfl
          | decide
          | exact (fun _ => by decide)
          | exact (show (_ : Int) ≠ _ by decide)
          | fail
        apply Exists.intro (u32 (limb X i))
        apply And.intro
        · exact ⟨Int.natCast_nonneg _, limbsOf_get hlt, rfl⟩
        repeat' first
          | apply And.intro
          | exact (fun h => Bool.noConfusion h)
          | (refine chkI ?_; kernel_rfl)
          | (refine chkBI ?_; kernel_rfl)
          | exact (fun _ => True.intro)
          | exact True.intro
          | exact (fun h => h)
          | exact rfl
          | decide
          | exact (fun _ => by decide)
          | exact (show (_ : Int) ≠ _ by decide)
          | fail
        refine Exists.intro _ (And.intro (c155 (limb X i) (limb Y i) (brw X Y i) (limb_lt _ _) (limb_lt _ _) (brw_le _ _ _)) ?_)
        repeat' first
          | apply And.intro
          | exact (fun h => Bool.noConfusion h)
          | (refine chkI ?_; kernel_rfl)
          | (refine chkBI ?_; kernel_rfl)
          | exact (fun _ => True.intro)
          | exact True.intro
          | exact (fun h => h)
          | exact rfl
          | decide
          | exact (fun _ => by decide)
          | exact (show (_ : Int) ≠ _ by decide)
          | fail
        all_goals first
          | omega
          | (simp only [imp, i64ok, sz, List.length_map, List.length_cons, List.length_nil] <;> omega)
          | skip
        apply Exists.intro (u32 (limb ((X - Y) % 2 ^ (32 * i)) i))
        apply And.intro
        · exact ⟨rfl, by simpa using limbsOf_get (show i < mx by omega), Nat.le_refl _⟩
        repeat' first
          | apply And.intro
          | exact (fun h => Bool.noConfusion h)
          | (refine chkI ?_; kernel_rfl)
          | (refine chkBI ?_; kernel_rfl)
          | exact (fun _ => True.intro)
          | exact True.intro
          | exact (fun h => h)
          | exact rfl
          | decide
          | exact (fun _ => by decide)
          | exact (show (_ : Int) ≠ _ by decide)
          | fail
        all_goals first
          | omega
          | (simp only [imp, i64ok, sz, List.length_map, List.length_cons, List.length_nil] <;> omega)
          | skip
        refine VC.forget 1 [6, 7, 8, 9, 24, 25] (Nat.zero_le _) (loop93 X Y mx my hx hy hm hmx hXY (n - 1) (i + 1) _ _ _ _ _ _ _ (by omega) hlt ?_ rfl rfl rfl ?_ ?_ rfl)
        · rw [Nat.zero_add, Int.toNat_natCast]
          refine limbs_set _ _ _ _ (by omega) (fun j hj => ?_) _ ?_
          · rw [limb_mod, limb_mod]
            by_cases h : j < i
            · rw [if_pos h, if_pos (by omega)]
            · rw [if_neg h, if_neg (by omega)]
          · show AV.val (.int .u32 (((limb X i + 2 ^ 32 - limb Y i - brw X Y i) % 2 ^ 32 : Nat) : Int)) = _
            rw [limb_mod, if_pos (Nat.lt_succ_self i), limb_sub hXY]
        · show Value.int .u32 (((if limb X i < limb Y i + brw X Y i then 1 else 0) : Nat) : Int) = _
          rw [brw_succ]
        · show Value.int .i64 ((i : Int) + 1) = _
          simp
      · rename_i hc2
        have hle : my ≤ i := by simp [limbsOf_len] at hc2; omega
        have hz : limb Y i = 0 := limb_zero (Nat.lt_of_lt_of_le hy (Nat.pow_le_pow_right (by omega) (by omega)))
        repeat' first
          | apply And.intro
          | exact (fun h => Bool.noConfusion h)
          | (refine chkI ?_; kernel_rfl)
          | (refine chkBI ?_; kernel_rfl)
          | exact (fun _ => True.intro)
          | exact True.intro
          | exact (fun h => h)
          | exact rfl
          | decide
          | exact (fun _ => by decide)
          | exact (show (_ : Int) ≠ _ by decide)
          | fail
        apply Exists.intro (u32 (limb X i))
        apply And.intro
        · exact ⟨Int.natCast_nonneg _, limbsOf_get hlt, rfl⟩
        repeat' first
          | apply And.intro
          | exact (fun h => Bool.noConfusion h)
          | (refine chkI ?_; kernel_rfl)
          | (refine chkBI ?_; kernel_rfl)
          | exact (fun _ => True.intro)
          | exact True.intro
          | exact (fun h => h)
          | exact rfl
          | decide
          | exact (fun _ => by decide)
          | exact (show (_ : Int) ≠ _ by decide)
          | fail
        refine Exists.intro _ (And.intro (c155 (limb X i) 0 (brw X Y i) (limb_lt _ _) (by omega) (brw_le _ _ _)) ?_)
        repeat' first
          | apply And.intro
          | exact (fun h => Bool.noConfusion h)
          | (refine chkI ?_; kernel_rfl)
          | (refine chkBI ?_; kernel_rfl)
          | exact (fun _ => True.intro)
          | exact True.intro
          | exact (fun h => h)
          | exact rfl
          | decide
          | exact (fun _ => by decide)
          | exact (show (_ : Int) ≠ _ by decide)
          | fail
        all_goals first
          | omega
          | (simp only [imp, i64ok, sz, List.length_map, List.length_cons, List.length_nil] <;> omega)
          | skip
        apply Exists.intro (u32 (limb ((X - Y) % 2 ^ (32 * i)) i))
        apply And.intro
        · exact ⟨rfl, by simpa using limbsOf_get (show i < mx by omega), Nat.le_refl _⟩
        repeat' first
          | apply And.intro
          | exact (fun h => Bool.noConfusion h)
          | (refine chkI ?_; kernel_rfl)
          | (refine chkBI ?_; kernel_rfl)
          | exact (fun _ => True.intro)
          | exact True.intro
          | exact (fun h => h)
          | exact rfl
          | decide
          | exact (fun _ => by decide)
          | exact (show (_ : Int) ≠ _ by decide)
          | fail
        all_goals first
          | omega
          | (simp only [imp, i64ok, sz, List.length_map, List.length_cons, List.length_nil] <;> omega)
          | skip
        refine VC.forget 1 [6, 7, 8, 9, 24, 25] (Nat.zero_le _) (loop93 X Y mx my hx hy hm hmx hXY (n - 1) (i + 1) _ _ _ _ _ _ _ (by omega) hlt ?_ rfl rfl rfl ?_ ?_ rfl)
        · rw [Nat.zero_add, Int.toNat_natCast]
          refine limbs_set _ _ _ _ (by omega) (fun j hj => ?_) _ ?_
          · rw [limb_mod, limb_mod]
            by_cases h : j < i
            · rw [if_pos h, if_pos (by omega)]
            · rw [if_neg h, if_neg (by omega)]
          · show AV.val (.int .u32 (((limb X i + 2 ^ 32 - 0 - brw X Y i) % 2 ^ 32 : Nat) : Int)) = _
            rw [limb_mod, if_pos (Nat.lt_succ_self i), limb_sub hXY, hz]
        · show Value.int .u32 (((if limb X i < 0 + brw X Y i then 1 else 0) : Nat) : Int) = _
          rw [brw_succ, hz]
        · show Value.int .i64 ((i : Int) + 1) = _
          simp
    · rename_i hc
      have hi' : i = mx := by simp at hc; omega
      subst hi'
      have hD : (X - Y) % 2 ^ (32 * i) = X - Y := Nat.mod_eq_of_lt (by omega)
      repeat' first
        | apply And.intro
        | exact (fun h => Bool.noConfusion h)
        | (refine chkI ?_; kernel_rfl)
        | (refine chkBI ?_; kernel_rfl)
        | exact (fun _ => True.intro)
        | exact True.intro
        | exact (fun h => h)
        | exact rfl
        | decide
        | exact (fun _ => by decide)
        | exact (show (_ : Int) ≠ _ by decide)
        | fail
      refine Exists.intro _ (And.intro (pc (c153' i (X - Y) (some false) none (by omega) (by omega)) ?_) ?_)
      · show [AV.sl (some false) none 1 ((List.drop 0 (limbsOf i ((X - Y) % 2 ^ (32 * i)))).take i)] = _
        rw [hD, List.drop_zero, List.take_of_length_le (by rw [limbsOf_len]; omega)]
      repeat' first
        | apply And.intro
        | exact (fun h => Bool.noConfusion h)
        | (refine chkI ?_; kernel_rfl)
        | (refine chkBI ?_; kernel_rfl)
        | exact (fun _ => True.intro)
        | exact True.intro
        | exact (fun h => h)
        | exact rfl
        | decide
        | exact (fun _ => by decide)
        | exact (show (_ : Int) ≠ _ by decide)
        | fail

theorem c93 (a b : List UInt8) (ha : a.length < 2 ^ 39) (hb : b.length < 2 ^ 39) (h : dec b ≤ dec a) : PureC Tryz.prog 93 [str a, str b] (.tup [str (enc (dec a - dec b)), .val (.bool true)]) := by
  have h1 := nl_dec a
  have h2 := nl_dec b
  have l1 := limbsOf_len (nl (dec a)) (dec a)
  have l2 := limbsOf_len (nl (dec b)) (dec b)
  have hz : ∀ (m n : Nat), List.replicate (((m : Int))).toNat (u32 0) = limbsOf m (n % 2 ^ (32 * 0)) := fun m n => by
    rw [Int.toNat_natCast, limbs_zero]; simp [Nat.mod_one]
  have hc0 : ∀ x y, Value.int .u32 (0 : Int) = Value.int .u32 (brw x y 0 : Int) := fun x y => by simp [brw_zero]
  have hle : nl (dec b) ≤ nl (dec a) := by
    rcases Nat.lt_or_ge (nl (dec a)) (nl (dec b)) with h3 | h3
    · have := nl_mono h3; omega
    · exact h3
  have hcmp : ¬ cmpN (dec a) (dec b) < 0 := by
    unfold cmpN; rw [if_neg (by omega)]; split <;> omega
  refine pureC_of_vc s93 rfl (Nat.le_of_ble_eq_true rfl) rfl ?_
  refine vc_at s93 [] 100 ?_
  repeat' first
    | apply And.intro
    | exact (fun h => Bool.noConfusion h)
    | (refine chkI ?_; kernel_rfl)
    | (refine chkBI ?_; kernel_rfl)
    | exact (fun _ => True.intro)
    | exact True.intro
    | exact (fun h => h)
    | exact rfl
    | decide
    | exact (fun _ => by decide)
    | exact (show (_ : Int) ≠ _ by decide)
    | fail
  refine Exists.intro _ (And.intro (c154 a b (by omega) (by omega)) ?_)
  repeat' first
    | apply And.intro
    | exact (fun h => Bool.noConfusion h)
    | (refine chkI ?_; kernel_rfl)
    | (refine chkBI ?_; kernel_rfl)
    | exact (fun _ => True.intro)
    | exact True.intro
    | exact (fun h => h)
    | exact rfl
    | decide
    | exact (fun _ => by decide)
    | exact (show (_ : Int) ≠ _ by decide)
    | fail
  conv => whnf
  split
  · rename_i hlt
    exact absurd (by simpa using hlt) hcmp
  · repeat' first
      | apply And.intro
      | exact (fun h => Bool.noConfusion h)
      | (refine chkI ?_; kernel_rfl)
      | (refine chkBI ?_; kernel_rfl)
      | exact (fun _ => True.intro)
      | exact True.intro
      | exact (fun h => h)
      | exact rfl
      | decide
      | exact (fun _ => by decide)
      | exact (show (_ : Int) ≠ _ by decide)
      | fail
    refine Exists.intro _ (And.intro (c151 a (by omega)) ?_)
    repeat' first
      | apply And.intro
      | exact (fun h => Bool.noConfusion h)
      | (refine chkI ?_; kernel_rfl)
      | (refine chkBI ?_; kernel_rfl)
      | exact (fun _ => True.intro)
      | exact True.intro
      | exact (fun h => h)
      | exact rfl
      | decide
      | exact (fun _ => by decide)
      | exact (show (_ : Int) ≠ _ by decide)
      | fail
    refine Exists.intro _ (And.intro (c151 b (by omega)) ?_)
    repeat' first
      | apply And.intro
      | exact (fun h => Bool.noConfusion h)
      | (refine chkI ?_; kernel_rfl)
      | (refine chkBI ?_; kernel_rfl)
      | exact (fun _ => True.intro)
      | exact True.intro
      | exact (fun h => h)
      | exact rfl
      | decide
      | exact (fun _ => by decide)
      | exact (show (_ : Int) ≠ _ by decide)
      | fail
    all_goals rw [l1]
    all_goals first
      | omega
      | (simp only [imp, i64ok, sz, List.length_map, List.length_cons, List.length_nil] <;> omega)
      | skip
    exact VC.forget 1 [6, 7, 8, 9, 24, 25] (Nat.zero_le _) (loop93 (dec a) (dec b) (nl (dec a)) (nl (dec b)) (lt_nl _) (lt_nl _) hle (by omega) h _ 0 _ _ _ _ _ _ _ (Nat.le_refl _) (Nat.zero_le _) (hz _ _) rfl rfl (Int.toNat_natCast _) (hc0 _ _) rfl rfl)

theorem c93' (a b : List UInt8) (ha : a.length < 2 ^ 39) (hb : b.length < 2 ^ 39) (h : dec a < dec b) : PureC Tryz.prog 93 [str a, str b] (.tup [str [], .val (.bool false)]) := by
  refine pureC_of_vc s93 rfl (Nat.le_of_ble_eq_true rfl) rfl ?_
  refine vc_at s93 [] 100 ?_
  have hcmp := cmpN_lt h
  repeat' first
    | apply And.intro
    | exact (fun h => Bool.noConfusion h)
    | (refine chkI ?_; kernel_rfl)
    | (refine chkBI ?_; kernel_rfl)
    | exact (fun _ => True.intro)
    | exact True.intro
    | exact (fun h => h)
    | exact rfl
    | decide
    | exact (fun _ => by decide)
    | exact (show (_ : Int) ≠ _ by decide)
    | fail
  refine Exists.intro _ (And.intro (c154 a b (by omega) (by omega)) ?_)
  rw [hcmp]
  repeat' first
    | apply And.intro
    | exact (fun h => Bool.noConfusion h)
    | (refine chkI ?_; kernel_rfl)
    | (refine chkBI ?_; kernel_rfl)
    | exact (fun _ => True.intro)
    | exact True.intro
    | exact (fun h => h)
    | exact rfl
    | decide
    | exact (fun _ => by decide)
    | exact (show (_ : Int) ≠ _ by decide)
    | fail

end Vm
end Go.Proofs.YtdbpcmpkpbamhaaGreatDoor

/- Products of numbers, limb by limb: plain Lean. -/
namespace Go.Proofs.YtdbpcmpkpbamhaaGreatDoor
set_option linter.unusedVariables false
namespace Vm
open Go

/-- A row of a product: what is summed up to limb k of Y, on top of A, with limb i of X. -/
def rowSum (A a Y i k : Nat) : Nat := A + 2 ^ (32 * i) * (a * (Y % 2 ^ (32 * k)))
def rowCarry (A a Y i k : Nat) : Nat := (A % 2 ^ (32 * (i + k)) + 2 ^ (32 * i) * (a * (Y % 2 ^ (32 * k)))) / 2 ^ (32 * (i + k))

theorem pow_ik (i k : Nat) : 2 ^ (32 * (i + k)) = 2 ^ (32 * i) * 2 ^ (32 * k) := by rw [Nat.mul_add, Nat.pow_add]

theorem rowSum_zero (A a Y i : Nat) : rowSum A a Y i 0 = A := by simp [rowSum, Nat.mod_one]
theorem rowCarry_zero (A a Y i : Nat) : rowCarry A a Y i 0 = 0 := by
  unfold rowCarry
  simp only [Nat.mul_zero, Nat.pow_zero, Nat.mod_one, Nat.add_zero]
  exact Nat.div_eq_of_lt (Nat.mod_lt _ (Nat.two_pow_pos _))

theorem rowSum_succ (A a Y i k : Nat) : rowSum A a Y i (k + 1) = rowSum A a Y i k + 2 ^ (32 * (i + k)) * (a * limb Y k) := by
  unfold rowSum
  rw [mod_succ_limb, pow_ik, Nat.mul_add, Nat.mul_add, Nat.add_assoc]
  congr 2
  rw [Nat.mul_assoc, Nat.mul_left_comm a]

theorem rowCarry_succ (A a Y i k : Nat) : rowCarry A a Y i (k + 1) = (a * limb Y k + limb A (i + k) + rowCarry A a Y i k) / 2 ^ 32 := by
  unfold rowCarry
  have e1 : 2 ^ (32 * (i + (k + 1))) = 2 ^ (32 * (i + k)) * 2 ^ 32 := by rw [← Nat.pow_add]; congr 1
  rw [show i + (k + 1) = (i + k) + 1 by omega, mod_succ_limb A (i + k), mod_succ_limb Y k]
  have e2 : 2 ^ (32 * i) * (a * (Y % 2 ^ (32 * k) + 2 ^ (32 * k) * limb Y k)) = 2 ^ (32 * i) * (a * (Y % 2 ^ (32 * k))) + 2 ^ (32 * (i + k)) * (a * limb Y k) := by
    rw [pow_ik, Nat.mul_add, Nat.mul_add, Nat.mul_assoc, Nat.mul_left_comm a]
  rw [e2]
  have e3 : A % 2 ^ (32 * (i + k)) + 2 ^ (32 * (i + k)) * limb A (i + k) + (2 ^ (32 * i) * (a * (Y % 2 ^ (32 * k))) + 2 ^ (32 * (i + k)) * (a * limb Y k)) =
      (A % 2 ^ (32 * (i + k)) + 2 ^ (32 * i) * (a * (Y % 2 ^ (32 * k)))) + 2 ^ (32 * (i + k)) * (a * limb Y k + limb A (i + k)) := by
    rw [Nat.mul_add (2 ^ (32 * (i + k))) (a * limb Y k) (limb A (i + k))]; omega
  rw [e3, show 32 * (i + k + 1) = 32 * (i + k) + 32 by omega, Nat.pow_add, ← Nat.div_div_eq_div_mul, Nat.add_mul_div_left _ _ (Nat.two_pow_pos _), Nat.add_comm]

theorem rowCarry_lt {A a Y i k : Nat} (ha : a < 2 ^ 32) : rowCarry A a Y i k < 2 ^ 32 := by
  induction k with
  | zero => rw [rowCarry_zero]; omega
  | succ k ih =>
    rw [rowCarry_succ]
    have h1 := limb_lt Y k
    have h2 := limb_lt A (i + k)
    have h3 : a * limb Y k ≤ (2 ^ 32 - 1) * (2 ^ 32 - 1) := Nat.mul_le_mul (by omega) (by omega)
    generalize rowCarry A a Y i k = c at *
    omega

theorem row_lt {A a Y i k : Nat} (ha : a < 2 ^ 32) : a * limb Y k + limb A (i + k) + rowCarry A a Y i k < 2 ^ 64 := by
  have h0 := rowCarry_lt (A := A) (Y := Y) (i := i) (k := k) ha
  have h1 := limb_lt Y k
  have h2 := limb_lt A (i + k)
  have h3 : a * limb Y k ≤ (2 ^ 32 - 1) * (2 ^ 32 - 1) := Nat.mul_le_mul (by omega) (by omega)
  generalize rowCarry A a Y i k = c at *
  omega

/-- The limb that a step of a row writes. -/
theorem row_limb (A a Y i k : Nat) : limb (rowSum A a Y i (k + 1)) (i + k) = (a * limb Y k + limb A (i + k) + rowCarry A a Y i k) % 2 ^ 32 := by
  have hp := Nat.two_pow_pos (32 * (i + k))
  rw [rowSum_succ]
  have e : rowSum A a Y i k / 2 ^ (32 * (i + k)) = A / 2 ^ (32 * (i + k)) + rowCarry A a Y i k := by
    unfold rowSum rowCarry
    have h1 := Nat.div_add_mod A (2 ^ (32 * (i + k)))
    have : A + 2 ^ (32 * i) * (a * (Y % 2 ^ (32 * k))) = (A % 2 ^ (32 * (i + k)) + 2 ^ (32 * i) * (a * (Y % 2 ^ (32 * k)))) + 2 ^ (32 * (i + k)) * (A / 2 ^ (32 * (i + k))) := by omega
    conv => lhs; rw [this]
    rw [Nat.add_mul_div_left _ _ hp, Nat.add_comm]
  unfold limb
  rw [Nat.add_mul_div_left _ _ hp, e]
  generalize Y / 2 ^ (32 * k) % 2 ^ 32 = y
  generalize A / 2 ^ (32 * (i + k)) = q
  generalize rowCarry A a Y i k = c
  generalize a * y = z
  omega

theorem row_low (A a Y i k j : Nat) (h : j < i + k) : limb (rowSum A a Y i (k + 1)) j = limb (rowSum A a Y i k) j := by
  rw [rowSum_succ]
  have := limb_low (D := rowSum A a Y i k) (x := a * limb Y k) (i := 4 * (i + k)) (j := j) (by omega)
  rw [p256, show 8 * (4 * (i + k)) = 32 * (i + k) by omega] at this
  exact this

/-- The limbs of a row under way. -/
def rowLimb (A a Y i k j : Nat) : Nat := if j < i + k then limb (rowSum A a Y i k) j else limb A j

theorem rowLimb_zero {A a Y i j : Nat} : rowLimb A a Y i 0 j = limb A j := by
  unfold rowLimb; rw [rowSum_zero]; split <;> rfl

theorem rowLimb_at (A a Y i k : Nat) : rowLimb A a Y i (k + 1) (i + k) = (a * limb Y k + limb A (i + k) + rowCarry A a Y i k) % 2 ^ 32 := by
  unfold rowLimb; rw [if_pos (by omega), row_limb]
theorem rowLimb_ne {A a Y i k j : Nat} (h : j ≠ i + k) : rowLimb A a Y i (k + 1) j = rowLimb A a Y i k j := by
  unfold rowLimb
  by_cases h1 : j < i + k
  · rw [if_pos h1, if_pos (by omega), row_low _ _ _ _ _ _ h1]
  · rw [if_neg h1, if_neg (by omega)]

/-- A row at its end. -/
theorem row_end {X Y i my : Nat} (hY : Y < 2 ^ (32 * my)) : X % 2 ^ (32 * (i + 1)) * Y = rowSum (X % 2 ^ (32 * i) * Y) (limb X i) Y i my := by
  unfold rowSum
  rw [mod_succ_limb, Nat.mod_eq_of_lt hY, Nat.add_mul, Nat.mul_assoc]

theorem row_last {X Y i my : Nat} (hY : Y < 2 ^ (32 * my)) : limb (X % 2 ^ (32 * (i + 1)) * Y) (i + my) = rowCarry (X % 2 ^ (32 * i) * Y) (limb X i) Y i my ∧ limb (X % 2 ^ (32 * i) * Y) (i + my) = 0 := by
  have hA : X % 2 ^ (32 * i) * Y < 2 ^ (32 * (i + my)) := by
    rw [pow_ik]
    have h1 := Nat.mod_lt X (Nat.two_pow_pos (32 * i))
    exact Nat.mul_lt_mul'' h1 hY
  refine ⟨?_, limb_zero hA⟩
  rw [row_end hY]
  have hc := rowCarry_lt (A := X % 2 ^ (32 * i) * Y) (Y := Y) (i := i) (k := my) (limb_lt X i)
  unfold rowCarry at hc ⊢
  rw [Nat.mod_eq_of_lt hA] at hc ⊢
  unfold limb rowSum
  exact Nat.mod_eq_of_lt hc

end Vm
end Go.Proofs.YtdbpcmpkpbamhaaGreatDoor

/- Walks: products. -/
namespace Go.Proofs.YtdbpcmpkpbamhaaGreatDoor
set_option linter.unusedVariables false
set_option linter.unusedSimpArgs false
set_option maxRecDepth 100000
namespace Vm
open Go

def rowOf (m : Nat) (f : Nat → Nat) : List AV := (List.range m).map fun j => u32 (f j)
theorem rowOf_limbs (m n : Nat) : rowOf m (limb n) = limbsOf m n := rfl
theorem rowOf_len (m : Nat) (f : Nat → Nat) : (rowOf m f).length = m := by simp [rowOf]
theorem rowOf_get {m : Nat} {f : Nat → Nat} {j : Nat} (h : j < m) : (rowOf m f)[j]? = some (u32 (f j)) := by
  simp only [rowOf, List.getElem?_map]; rw [List.getElem?_range h]; rfl
theorem rowOf_set (m : Nat) (f g : Nat → Nat) (q : Nat) (hq : q < m) (h : ∀ j, j ≠ q → g j = f j) (y : AV) (hy : y = u32 (g q)) : (rowOf m f).set q y = rowOf m g := by
  subst hy
  apply List.ext_getElem?
  intro j
  rw [List.getElem?_set]
  by_cases hj : q = j
  · subst hj; simp [rowOf, hq]
  · rw [if_neg hj]
    by_cases hm : j < m
    · rw [rowOf_get hm, rowOf_get hm, h j (Ne.symm hj)]
    · rw [List.getElem?_eq_none (by simpa [rowOf] using hm), List.getElem?_eq_none (by simpa [rowOf] using hm)]

theorem s150 : Setting Tryz.prog tys (fi 150 Tryz.f150) := setting (by kernel_rfl) (by kernel_rfl)
abbrev out150 : List Nat := [0, 0, 1, 0, 1, 1, 1]
abbrev in150 : List Nat := [0, 0, 1, 0, 1, 1, 0, 0, 1, 1, 0, 0, 1, 0, 1, 1, 1]

theorem inner150 (X Y mx my i : Nat) (hx : X < 2 ^ (32 * mx)) (hy : Y < 2 ^ (32 * my)) (hmx : mx < 2 ^ 38) (hmy : my < 2 ^ 38) (hi : i < mx) (Q : AV → List Blk → Prop)
    (hnext : ∀ (elems : List AV) (vi : Value), elems = limbsOf (mx + my) (X % 2 ^ (32 * (i + 1)) * Y) → vi = .int .i64 ((i + 1 : Nat) : Int) →
      VC Tryz.prog (fi 150 Tryz.f150) out150 ⟨[(5, .sl (some false) none 1 (limbsOf mx X)), (6, .sl (some false) none 1 (limbsOf my Y)), (7, .ref 0 0 (mx + my) none 0 1), (23, i64 mx), (24, .val vi)], [.row elems 1 0]⟩ Q) :
    ∀ (n k : Nat) (elems : List AV) (vc vk : Value), my - k ≤ n → k ≤ my → elems = rowOf (mx + my) (rowLimb (X % 2 ^ (32 * i) * Y) (limb X i) Y i k) → vc = .int .u64 (rowCarry (X % 2 ^ (32 * i) * Y) (limb X i) Y i k : Int) → vk = .int .i64 (k : Int) →
    VC Tryz.prog (fi 150 Tryz.f150) in150 ⟨[(5, .sl (some false) none 1 (limbsOf mx X)), (6, .sl (some false) none 1 (limbsOf my Y)), (7, .ref 0 0 (mx + my) none 0 1), (8, i64 i), (9, .val vc), (23, i64 mx), (24, i64 i), (28, i64 my), (29, .val vk)], [.row elems 1 0]⟩ Q
  | n, k, _, _, _, hn, hk, rfl, rfl, rfl => by
    refine vc_at s150 [out150, in150] 100 ?_
    repeat' first
      | apply And.intro
      | exact (fun h => Bool.noConfusion h)
      | (refine chkI ?_; kernel_rfl)
      | (refine chkBI ?_; kernel_rfl)
      | exact (fun _ => True.intro)
      | exact True.intro
      | exact (fun h => h)
      | exact rfl
      | decide
      | exact (fun _ => by decide)
      | exact (show (_ : Int) ≠ _ by decide)
      | fail
    conv => whnf
    split
    · rename_i hc
      have hlt : k < my := by simpa using hc
      repeat' first
        | apply And.intro
        | exact (fun h => Bool.noConfusion h)
        | (refine chkI ?_; kernel_rfl)
        | (refine chkBI ?_; kernel_rfl)
        | exact (fun _ => True.intro)
        | exact True.intro
        | exact (fun h => h)
        | exact rfl
        | decide
        | exact (fun _ => by decide)
        | exact (show (_ : Int) ≠ _ by decide)
        | fail
      apply Exists.intro (u32 (limb X i))
      apply And.intro
      · exact ⟨Int.natCast_nonneg _, limbsOf_get hi, rfl⟩
      repeat' first
        | apply And.intro
        | exact (fun h => Bool.noConfusion h)
        | (refine chkI ?_; kernel_rfl)
        | (refine chkBI ?_; kernel_rfl)
        | exact (fun _ => True.intro)
        | exact True.intro
        | exact (fun h => h)
        | exact rfl
        | decide
        | exact (fun _ => by decide)
        | exact (show (_ : Int) ≠ _ by decide)
        | fail
      apply Exists.intro (u32 (limb Y k))
      apply And.intro
      · exact ⟨Int.natCast_nonneg _, limbsOf_get hlt, rfl⟩
      repeat' first
        | apply And.intro
        | exact (fun h => Bool.noConfusion h)
        | (refine chkI ?_; kernel_rfl)
        | (refine chkBI ?_; kernel_rfl)
        | exact (fun _ => True.intro)
        | exact True.intro
        | exact (fun h => h)
        | exact rfl
        | decide
        | exact (fun _ => by decide)
        | exact (show (_ : Int) ≠ _ by decide)
        | fail
      all_goals first
        | omega
        | (simp only [imp, i64ok, sz, List.length_map, List.length_cons, List.length_nil] <;> omega)
        | skip
      have hold : rowLimb (X % 2 ^ (32 * i) * Y) (limb X i) Y i k (i + k) = limb (X % 2 ^ (32 * i) * Y) (i + k) := by unfold rowLimb; rw [if_neg (by omega)]
      have hidx : ((i : Int) + (k : Int)).toNat = i + k := by omega
      have hget : (rowOf (mx + my) (rowLimb (X % 2 ^ (32 * i) * Y) (limb X i) Y i k))[0 + ((i : Int) + (k : Int)).toNat]? = some (u32 (limb (X % 2 ^ (32 * i) * Y) (i + k))) := by
        rw [Nat.zero_add, hidx, rowOf_get (by omega), hold]
      apply Exists.intro (u32 (limb (X % 2 ^ (32 * i) * Y) (i + k)))
      apply And.intro
      · exact ⟨rfl, hget⟩
      repeat' first
        | apply And.intro
        | exact (fun h => Bool.noConfusion h)
        | (refine chkI ?_; kernel_rfl)
        | (refine chkBI ?_; kernel_rfl)
        | exact (fun _ => True.intro)
        | exact True.intro
        | exact (fun h => h)
        | exact rfl
        | decide
        | exact (fun _ => by decide)
        | exact (show (_ : Int) ≠ _ by decide)
        | fail
      all_goals first
        | omega
        | (simp only [imp, i64ok, sz, List.length_map, List.length_cons, List.length_nil] <;> omega)
        | skip
      apply Exists.intro (u32 (limb (X % 2 ^ (32 * i) * Y) (i + k)))
      apply And.intro
      · exact ⟨rfl, hget, Nat.le_refl _⟩
      repeat' first
        | apply And.intro
        | exact (fun h => Bool.noConfusion h)
        | (refine chkI ?_; kernel_rfl)
        | (refine chkBI ?_; kernel_rfl)
        | exact (fun _ => True.intro)
        | exact True.intro
        | exact (fun h => h)
        | exact rfl
        | decide
        | exact (fun _ => by decide)
        | exact (show (_ : Int) ≠ _ by decide)
        | fail
      all_goals first
        | omega
        | (simp only [imp, i64ok, sz, List.length_map, List.length_cons, List.length_nil] <;> omega)
        | skip
      have hlt64 := row_lt (A := X % 2 ^ (32 * i) * Y) (Y := Y) (i := i) (k := k) (limb_lt X i)
      have hE : IntKind.u64.wrap (IntKind.u64.wrap (IntKind.u64.wrap (IntKind.u64.wrap (limb X i : Int) * IntKind.u64.wrap (limb Y k : Int)) + IntKind.u64.wrap (limb (X % 2 ^ (32 * i) * Y) (i + k) : Int)) + (rowCarry (X % 2 ^ (32 * i) * Y) (limb X i) Y i k : Int)) =
          ((limb X i * limb Y k + limb (X % 2 ^ (32 * i) * Y) (i + k) + rowCarry (X % 2 ^ (32 * i) * Y) (limb X i) Y i k : Nat) : Int) := by
        have h1 := limb_lt X i
        have h2 := limb_lt Y k
        have h3 := limb_lt (X % 2 ^ (32 * i) * Y) (i + k)
        rw [wrap_u64, wrap_u64, wrap_u64, Nat.mod_eq_of_lt (by omega), Nat.mod_eq_of_lt (by omega), Nat.mod_eq_of_lt (by omega), ← Int.natCast_mul, wrap_u64, ← Int.natCast_add, wrap_u64, ← Int.natCast_add, wrap_u64, Nat.mod_eq_of_lt (a := limb X i * limb Y k) (by omega), Nat.mod_eq_of_lt (a := limb X i * limb Y k + _) (by omega), Nat.mod_eq_of_lt hlt64]
      refine VC.forget 1 [5, 6, 7, 8, 9, 23, 24, 28, 29] (Nat.zero_le _) (inner150 X Y mx my i hx hy hmx hmy hi Q hnext (n - 1) (k + 1) _ _ _ (by omega) hlt ?_ ?_ ?_)
      · rw [Nat.zero_add, hidx]
        refine rowOf_set _ _ _ _ (by omega) (fun j hj => rowLimb_ne hj) _ ?_
        show AV.val (.int .u32 (IntKind.u32.wrap (IntKind.u64.wrap (IntKind.u64.wrap (IntKind.u64.wrap (IntKind.u64.wrap (limb X i : Int) * IntKind.u64.wrap (limb Y k : Int)) + IntKind.u64.wrap (limb (X % 2 ^ (32 * i) * Y) (i + k) : Int)) + (rowCarry (X % 2 ^ (32 * i) * Y) (limb X i) Y i k : Int))))) = _
        rw [hE, wrap_u32, rowLimb_at]
      · show Value.int .u64 ((IntKind.u64.wrap (IntKind.u64.wrap (IntKind.u64.wrap (IntKind.u64.wrap (limb X i : Int) * IntKind.u64.wrap (limb Y k : Int)) + IntKind.u64.wrap (limb (X % 2 ^ (32 * i) * Y) (i + k) : Int)) + (rowCarry (X % 2 ^ (32 * i) * Y) (limb X i) Y i k : Int))).fdiv (2 ^ 32)) = _
        rw [hE, shr_nat, rowCarry_succ]
      · show Value.int .i64 ((k : Int) + 1) = _
        simp
    · rename_i hc
      have hk' : k = my := by simp at hc; omega
      subst hk'
      have hl := limbsOf_len k Y
      obtain ⟨q1, q2⟩ := row_last (X := X) (i := i) hy
      have hidx : ((i : Int) + (k : Int)).toNat = i + k := by omega
      repeat' first
        | apply And.intro
        | exact (fun h => Bool.noConfusion h)
        | (refine chkI ?_; kernel_rfl)
        | (refine chkBI ?_; kernel_rfl)
        | exact (fun _ => True.intro)
        | exact True.intro
        | exact (fun h => h)
        | exact rfl
        | decide
        | exact (fun _ => by decide)
        | exact (show (_ : Int) ≠ _ by decide)
        | fail
      all_goals (try rw [hl])
      all_goals first
        | omega
        | (simp only [imp, i64ok, sz, List.length_map, List.length_cons, List.length_nil] <;> omega)
        | skip
      apply Exists.intro (u32 (limb (X % 2 ^ (32 * i) * Y) (i + k)))
      apply And.intro
      · refine ⟨rfl, ?_, Nat.le_refl _⟩
        rw [Nat.zero_add, hidx, rowOf_get (by omega)]
        unfold rowLimb; rw [if_neg (by omega)]
      repeat' first
        | apply And.intro
        | exact (fun h => Bool.noConfusion h)
        | (refine chkI ?_; kernel_rfl)
        | (refine chkBI ?_; kernel_rfl)
        | exact (fun _ => True.intro)
        | exact True.intro
        | exact (fun h => h)
        | exact rfl
        | decide
        | exact (fun _ => by decide)
        | exact (show (_ : Int) ≠ _ by decide)
        | fail
      all_goals first
        | omega
        | (simp only [imp, i64ok, sz, List.length_map, List.length_cons, List.length_nil] <;> omega)
        | skip
      refine VC.forget 1 [5, 6, 7, 23, 24] (Nat.zero_le _) (hnext _ _ ?_ ?_)
      · rw [Nat.zero_add, hidx, ← rowOf_limbs]
        refine rowOf_set _ _ _ _ (by omega) (fun j hj => ?_) _ ?_
        · unfold rowLimb
          by_cases h : j < i + k
          · rw [if_pos h, row_end hy]
          · rw [if_neg h]
            have hA : X % 2 ^ (32 * i) * Y < 2 ^ (32 * (i + k)) := by
              rw [pow_ik]; exact Nat.mul_lt_mul'' (Nat.mod_lt X (Nat.two_pow_pos _)) hy
            have hB : X % 2 ^ (32 * (i + 1)) * Y < 2 ^ (32 * (i + 1 + k)) := by
              rw [pow_ik (i + 1) k]; exact Nat.mul_lt_mul'' (Nat.mod_lt X (Nat.two_pow_pos _)) hy
            rw [limb_zero (Nat.lt_of_lt_of_le hA (Nat.pow_le_pow_right (by omega) (by omega))), limb_zero (Nat.lt_of_lt_of_le hB (Nat.pow_le_pow_right (by omega) (by omega)))]
        · show AV.val (.int .u32 (IntKind.u32.wrap (rowCarry (X % 2 ^ (32 * i) * Y) (limb X i) Y i k : Int))) = _
          rw [q1, wrap_u32, Nat.mod_eq_of_lt (rowCarry_lt (limb_lt _ _))]
      · show Value.int .i64 ((i : Int) + 1) = _
        simp

theorem outer150 (X Y mx my : Nat) (hx : X < 2 ^ (32 * mx)) (hy : Y < 2 ^ (32 * my)) (hmx : mx < 2 ^ 38) (hmy : my < 2 ^ 38) : ∀ (n i : Nat) (elems : List AV) (len : Nat) (vn vi : Value), mx - i ≤ n → i ≤ mx → elems = limbsOf (mx + my) (X % 2 ^ (32 * i) * Y) → len = mx + my → vn = .int .i64 (mx : Int) → vi = .int .i64 (i : Int) →
    VC Tryz.prog (fi 150 Tryz.f150) out150 ⟨[(5, .sl (some false) none 1 (limbsOf mx X)), (6, .sl (some false) none 1 (limbsOf my Y)), (7, .ref 0 0 len none 0 1), (23, .val vn), (24, .val vi)], [.row elems 1 0]⟩ (Gives (str (enc (X * Y))))
  | 0, i, _, _, _, _, hn, hi, rfl, rfl, rfl, rfl => by
    have hi' : i = mx := by omega
    subst hi'
    have hX : X % 2 ^ (32 * i) = X := Nat.mod_eq_of_lt hx
    refine vc_at s150 [out150] 100 ?_
    repeat' first
      | apply And.intro
      | exact (fun h => Bool.noConfusion h)
      | (refine chkI ?_; kernel_rfl)
      | (refine chkBI ?_; kernel_rfl)
      | exact (fun _ => True.intro)
      | exact True.intro
      | exact (fun h => h)
      | exact rfl
      | decide
      | exact (fun _ => by decide)
      | exact (show (_ : Int) ≠ _ by decide)
      | fail
    conv => whnf
    split
    · rename_i hc; simp at hc
    · repeat' first
        | apply And.intro
        | exact (fun h => Bool.noConfusion h)
        | (refine chkI ?_; kernel_rfl)
        | (refine chkBI ?_; kernel_rfl)
        | exact (fun _ => True.intro)
        | exact True.intro
        | exact (fun h => h)
        | exact rfl
        | decide
        | exact (fun _ => by decide)
        | exact (show (_ : Int) ≠ _ by decide)
        | fail
      have hXY : X * Y < 2 ^ (32 * (i + my)) := by rw [pow_ik]; exact Nat.mul_lt_mul'' hx hy
      refine Exists.intro _ (And.intro (pc (c153' (i + my) (X * Y) (some false) none (by omega) hXY) ?_) ?_)
      · show [AV.sl (some false) none 1 ((List.drop 0 (limbsOf (i + my) (X % 2 ^ (32 * i) * Y))).take (i + my))] = _
        rw [hX, List.drop_zero, List.take_of_length_le (by rw [limbsOf_len]; omega)]
      repeat' first
        | apply And.intro
        | exact (fun h => Bool.noConfusion h)
        | (refine chkI ?_; kernel_rfl)
        | (refine chkBI ?_; kernel_rfl)
        | exact (fun _ => True.intro)
        | exact True.intro
        | exact (fun h => h)
        | exact rfl
        | decide
        | exact (fun _ => by decide)
        | exact (show (_ : Int) ≠ _ by decide)
        | fail
  | n + 1, i, _, _, _, _, hn, hi, rfl, rfl, rfl, rfl => by
    rcases Nat.lt_or_ge i mx with hlt | hge
    · refine vc_at s150 [out150] 100 ?_
      repeat' first
        | apply And.intro
        | exact (fun h => Bool.noConfusion h)
        | (refine chkI ?_; kernel_rfl)
        | (refine chkBI ?_; kernel_rfl)
        | exact (fun _ => True.intro)
        | exact True.intro
        | exact (fun h => h)
        | exact rfl
        | decide
        | exact (fun _ => by decide)
        | exact (show (_ : Int) ≠ _ by decide)
        | fail
      conv => whnf
      split
      · repeat' first
          | apply And.intro
          | exact (fun h => Bool.noConfusion h)
          | (refine chkI ?_; kernel_rfl)
          | (refine chkBI ?_; kernel_rfl)
          | exact (fun _ => True.intro)
          | exact True.intro
          | exact (fun h => h)
          | exact rfl
          | decide
          | exact (fun _ => by decide)
          | exact (show (_ : Int) ≠ _ by decide)
          | fail
        have hl := limbsOf_len my Y
        rw [hl]
        exact VC.forget 1 [5, 6, 7, 8, 9, 23, 24, 28, 29] (Nat.zero_le _) (inner150 X Y mx my i hx hy hmx hmy hlt _ (fun elems vi he hv => outer150 X Y mx my hx hy hmx hmy n (i + 1) _ _ _ _ (by omega) hlt he rfl rfl hv) my 0 (limbsOf (mx + my) (X % 2 ^ (32 * i) * Y)) (.int .u64 0) (.int .i64 0) (by omega) (Nat.zero_le _)
          (by rw [← rowOf_limbs]; unfold rowOf; congr 1; funext j; rw [rowLimb_zero]) (by rw [rowCarry_zero]; rfl) rfl)
      · rename_i hc; simp at hc; omega
    · exact outer150 X Y mx my hx hy hmx hmy 0 i _ _ _ _ (by omega) hi rfl rfl rfl rfl

theorem c150 (a b : List UInt8) (ha : a.length < 2 ^ 38) (hb : b.length < 2 ^ 38) : PureC Tryz.prog 150 [str a, str b] (str (enc (dec a * dec b))) := by
  have h1 := nl_dec a
  have h2 := nl_dec b
  have l1 := limbsOf_len (nl (dec a)) (dec a)
  have l2 := limbsOf_len (nl (dec b)) (dec b)
  have hz : ∀ m n : Nat, ∀ N, List.replicate (((m : Int)) + (n : Int)).toNat (u32 0) = limbsOf (m + n) (N % 2 ^ (32 * 0) * dec b) := fun m n N => by
    rw [show ((m : Int) + (n : Int)).toNat = m + n by omega, limbs_zero]; simp [Nat.mod_one]
  refine pureC_of_vc s150 rfl (Nat.le_of_ble_eq_true rfl) rfl ?_
  refine vc_at s150 [] 100 ?_
  repeat' first
    | apply And.intro
    | exact (fun h => Bool.noConfusion h)
    | (refine chkI ?_; kernel_rfl)
    | (refine chkBI ?_; kernel_rfl)
    | exact (fun _ => True.intro)
    | exact True.intro
    | exact (fun h => h)
    | exact rfl
    | decide
    | exact (fun _ => by decide)
    | exact (show (_ : Int) ≠ _ by decide)
    | fail
  refine Exists.intro _ (And.intro (c151 a (by omega)) ?_)
  repeat' first
    | apply And.intro
    | exact (fun h => Bool.noConfusion h)
    | (refine chkI ?_; kernel_rfl)
    | (refine chkBI ?_; kernel_rfl)
    | exact (fun _ => True.intro)
    | exact True.intro
    | exact (fun h => h)
    | exact rfl
    | decide
    | exact (fun _ => by decide)
    | exact (show (_ : Int) ≠ _ by decide)
    | fail
  refine Exists.intro _ (And.intro (c151 b (by omega)) ?_)
  repeat' first
    | apply And.intro
    | exact (fun h => Bool.noConfusion h)
    | (refine chkI ?_; kernel_rfl)
    | (refine chkBI ?_; kernel_rfl)
    | exact (fun _ => True.intro)
    | exact True.intro
    | exact (fun h => h)
    | exact rfl
    | decide
    | exact (fun _ => by decide)
    | exact (show (_ : Int) ≠ _ by decide)
    | fail
  all_goals rw [l1]
  all_goals (try rw [l2])
  all_goals first
    | omega
    | (simp only [imp, i64ok, sz, List.length_map, List.length_cons, List.length_nil] <;> omega)
    | skip
  exact VC.forget 1 [5, 6, 7, 23, 24] (Nat.zero_le _) (outer150 (dec a) (dec b) (nl (dec a)) (nl (dec b)) (lt_nl _) (lt_nl _) (by omega) (by omega) _ 0 _ _ _ _ (Nat.le_refl _) (Nat.zero_le _) (hz _ _ _) (by omega) rfl rfl)

end Vm
end Go.Proofs.YtdbpcmpkpbamhaaGreatDoor

/- Walks: quotients by one limb. -/
namespace Go.Proofs.YtdbpcmpkpbamhaaGreatDoor
set_option linter.unusedVariables false
set_option linter.unusedSimpArgs false
set_option maxRecDepth 100000
namespace Vm
open Go

theorem s206 : Setting Tryz.prog tys (fi 206 Tryz.f206) := setting (by kernel_rfl) (by kernel_rfl)
theorem tdiv_nat (a b : Nat) : (a : Int).tdiv (b : Int) = ((a / b : Nat) : Int) := by
  rw [Int.tdiv_eq_ediv_of_nonneg (Int.natCast_nonneg _)]; rfl
theorem tmod_nat (a b : Nat) : (a : Int).tmod (b : Int) = ((a % b : Nat) : Int) := by
  rw [Int.tmod_eq_emod_of_nonneg (Int.natCast_nonneg _)]; rfl

/-- bits.Div32 -/
theorem c206 (hi lo y : Nat) (h1 : hi < y) (h2 : lo < 2 ^ 32) (h3 : y < 2 ^ 32) : PureC Tryz.prog 206 [u32 hi, u32 lo, u32 y] (.tup [u32 ((hi * 2 ^ 32 + lo) / y), u32 ((hi * 2 ^ 32 + lo) % y)]) := by
  have ey : IntKind.u64.wrap (y : Int) = (y : Int) := by rw [wrap_u64, Nat.mod_eq_of_lt (by omega)]
  have el : IntKind.u64.wrap (lo : Int) = (lo : Int) := by rw [wrap_u64, Nat.mod_eq_of_lt (by omega)]
  have eh : IntKind.u64.wrap (IntKind.u64.wrap (hi : Int) * 2 ^ 32) = ((hi * 2 ^ 32 : Nat) : Int) := by
    rw [wrap_u64, Nat.mod_eq_of_lt (by omega)]
    have : (hi : Int) * 2 ^ 32 = ((hi * 2 ^ 32 : Nat) : Int) := by simp
    rw [this, wrap_u64, Nat.mod_eq_of_lt (by omega)]
  have eo : bitsOf .or .u64 (IntKind.u64.wrap (IntKind.u64.wrap (hi : Int) * 2 ^ 32)) (IntKind.u64.wrap (lo : Int)) = ((hi * 2 ^ 32 + lo : Nat) : Int) := by
    rw [eh, el, or_u64 (by omega) (by omega), Nat.mul_comm, ← Nat.two_pow_add_eq_or_of_lt h2]
  have hq : (hi * 2 ^ 32 + lo) / y < 2 ^ 32 := by
    rw [Nat.div_lt_iff_lt_mul (by omega)]
    have : hi * 2 ^ 32 + 2 ^ 32 ≤ y * 2 ^ 32 := by rw [← Nat.succ_mul]; exact Nat.mul_le_mul_right _ h1
    rw [Nat.mul_comm (2 ^ 32)]; omega
  have hr : (hi * 2 ^ 32 + lo) % y < y := Nat.mod_lt _ (by omega)
  refine pureC_of_vc s206 rfl (Nat.le_of_ble_eq_true rfl) rfl ?_
  refine vc_at s206 [] 100 ?_
  repeat' first
    | apply And.intro
    | exact (fun h => Bool.noConfusion h)
    | (refine chkI ?_; kernel_rfl)
    | (refine chkBI ?_; kernel_rfl)
    | exact (fun _ => True.intro)
    | exact True.intro
    | exact (fun h => h)
    | exact rfl
    | decide
    | exact (fun _ => by decide)
    | exact (show (_ : Int) ≠ _ by decide)
    | fail
  conv => whnf
  split
  · rename_i hc
    simp at hc; omega
  · repeat' first
      | apply And.intro
      | exact (fun h => Bool.noConfusion h)
      | (refine chkI ?_; kernel_rfl)
      | (refine chkBI ?_; kernel_rfl)
      | exact (fun _ => True.intro)
      | exact True.intro
      | exact (fun h => h)
      | exact rfl
      | decide
      | exact (fun _ => by decide)
      | exact (show (_ : Int) ≠ _ by decide)
      | fail
    all_goals first
      | omega
      | (simp only [imp, i64ok, sz, List.length_map, List.length_cons, List.length_nil] <;> omega)
      | skip
    all_goals first
      | (show IntKind.u64.wrap (y : Int) ≠ 0; rw [ey]; omega)
      | skip
    show AV.tup [.val (.int .u32 (IntKind.u32.wrap (IntKind.u64.wrap ((bitsOf .or .u64 (IntKind.u64.wrap (IntKind.u64.wrap (hi : Int) * 2 ^ 32)) (IntKind.u64.wrap (lo : Int))).tdiv (IntKind.u64.wrap (y : Int)))))), .val (.int .u32 (IntKind.u32.wrap ((bitsOf .or .u64 (IntKind.u64.wrap (IntKind.u64.wrap (hi : Int) * 2 ^ 32)) (IntKind.u64.wrap (lo : Int))).tmod (IntKind.u64.wrap (y : Int)))))] = _
    rw [eo, ey, tdiv_nat, tmod_nat, wrap_u64, wrap_u32, wrap_u32, Nat.mod_eq_of_lt (a := (hi * 2 ^ 32 + lo) / y) (by omega), Nat.mod_eq_of_lt (a := (hi * 2 ^ 32 + lo) / y) hq, Nat.mod_eq_of_lt (a := (hi * 2 ^ 32 + lo) % y) (by omega)]

theorem short_step (N d k : Nat) (hd : 0 < d) (hd2 : d < 2 ^ 32) : (N / 2 ^ (32 * (k + 1)) % d * 2 ^ 32 + limb N k) / d = limb (N / d) k ∧ (N / 2 ^ (32 * (k + 1)) % d * 2 ^ 32 + limb N k) % d = N / 2 ^ (32 * k) % d := by
  have e : N / 2 ^ (32 * k) = N / 2 ^ (32 * (k + 1)) * 2 ^ 32 + limb N k := by
    unfold limb
    rw [show 32 * (k + 1) = 32 * k + 32 by omega, Nat.pow_add, ← Nat.div_div_eq_div_mul]
    omega
  have el : limb (N / d) k = N / 2 ^ (32 * k) / d % 2 ^ 32 := by
    unfold limb; rw [Nat.div_div_eq_div_mul, Nat.div_div_eq_div_mul, Nat.mul_comm]
  have hl := limb_lt N k
  rw [el, e]
  generalize N / 2 ^ (32 * (k + 1)) = T
  generalize limb N k = x at *
  have h1 := Nat.div_add_mod T d
  have hr := Nat.mod_lt T hd
  generalize T / d = q at *
  generalize T % d = r at *
  have e2 : T * 2 ^ 32 + x = (r * 2 ^ 32 + x) + d * (q * 2 ^ 32) := by
    rw [← h1, Nat.add_mul, Nat.mul_assoc]; omega
  rw [e2, Nat.add_mul_div_left _ _ hd, Nat.add_mul_mod_self_left, Nat.add_mul_mod_self_right]
  refine ⟨?_, rfl⟩
  rw [Nat.mod_eq_of_lt]
  rw [Nat.div_lt_iff_lt_mul hd]
  have : r * 2 ^ 32 + 2 ^ 32 ≤ d * 2 ^ 32 := by rw [← Nat.succ_mul]; exact Nat.mul_le_mul_right _ hr
  rw [Nat.mul_comm (2 ^ 32)]; omega

theorem s157 : Setting Tryz.prog tys (fi 157 Tryz.f157) := setting (by kernel_rfl) (by kernel_rfl)
theorem loop157 (N m d : Nat) (nl : Option Bool) (cp : Option Nat) (hm : m < 2 ^ 39) (hd : 0 < d) (hd2 : d < 2 ^ 32) : ∀ (n i : Nat) (elems : List AV) (len : Nat) (vr vn vi : Value), m - i ≤ n → i ≤ m → elems = rowOf m (fun j => if m - i ≤ j then limb (N / d) j else 0) → len = m → vr = .int .u32 ((N / 2 ^ (32 * (m - i)) % d : Nat) : Int) → vn = .int .i64 (m : Int) → vi = .int .i64 (i : Int) →
    VC Tryz.prog (fi 157 Tryz.f157) [0, 0, 1, 0, 1, 1, 1] ⟨[(0, .sl nl cp 1 (limbsOf m N)), (1, u32 d), (6, .ref 0 0 len none 0 1), (7, .val vr), (14, .val vn), (15, .val vi)], [.row elems 1 0]⟩ (Gives (.tup [.sl (some false) none 1 (limbsOf m (N / d)), u32 (N % d)]))
  | n, i, _, _, _, _, _, hn, hi, rfl, rfl, rfl, rfl, rfl => by
    have hl := limbsOf_len m N
    refine vc_at s157 [[0, 0, 1, 0, 1, 1, 1]] 100 ?_
    repeat' first
      | apply And.intro
      | exact (fun h => Bool.noConfusion h)
      | (refine chkI ?_; kernel_rfl)
      | (refine chkBI ?_; kernel_rfl)
      | exact (fun _ => True.intro)
      | exact True.intro
      | exact (fun h => h)
      | exact rfl
      | decide
      | exact (fun _ => by decide)
      | exact (show (_ : Int) ≠ _ by decide)
      | fail
    conv => whnf
    split
    · rename_i hc
      have hlt : i < m := by simpa using hc
      have hidx : ((m : Int) - 1 - (i : Int)).toNat = m - 1 - i := by omega
      obtain ⟨q1, q2⟩ := short_step N d (m - 1 - i) hd hd2
      rw [show m - 1 - i + 1 = m - i by omega] at q1 q2
      repeat' first
        | apply And.intro
        | exact (fun h => Bool.noConfusion h)
        | (refine chkI ?_; kernel_rfl)
        | (refine chkBI ?_; kernel_rfl)
        | exact (fun _ => True.intro)
        | exact True.intro
        | exact (fun h => h)
        | exact rfl
        | decide
        | exact (fun _ => by decide)
        | exact (show (_ : Int) ≠ _ by decide)
        | fail
      all_goals (try rw [hl])
      all_goals first
        | omega
        | (simp only [imp, i64ok, sz, List.length_map, List.length_cons, List.length_nil] <;> omega)
        | skip
      apply Exists.intro (u32 (limb N (m - 1 - i)))
      apply And.intro
      · exact ⟨by omega, by rw [hidx]; exact limbsOf_get (by omega), rfl⟩
      repeat' first
        | apply And.intro
        | exact (fun h => Bool.noConfusion h)
        | (refine chkI ?_; kernel_rfl)
        | (refine chkBI ?_; kernel_rfl)
        | exact (fun _ => True.intro)
        | exact True.intro
        | exact (fun h => h)
        | exact rfl
        | decide
        | exact (fun _ => by decide)
        | exact (show (_ : Int) ≠ _ by decide)
        | fail
      refine Exists.intro _ (And.intro (c206 (N / 2 ^ (32 * (m - i)) % d) (limb N (m - 1 - i)) d (Nat.mod_lt _ hd) (limb_lt _ _) hd2) ?_)
      rw [q1, q2]
      repeat' first
        | apply And.intro
        | exact (fun h => Bool.noConfusion h)
        | (refine chkI ?_; kernel_rfl)
        | (refine chkBI ?_; kernel_rfl)
        | exact (fun _ => True.intro)
        | exact True.intro
        | exact (fun h => h)
        | exact rfl
        | decide
        | exact (fun _ => by decide)
        | exact (show (_ : Int) ≠ _ by decide)
        | fail
      all_goals first
        | omega
        | (simp only [imp, i64ok, sz, List.length_map, List.length_cons, List.length_nil] <;> omega)
        | skip
      apply Exists.intro (u32 0)
      apply And.intro
      · refine ⟨rfl, ?_, Nat.le_refl _⟩
        rw [Nat.zero_add, hidx, rowOf_get (by omega), if_neg (by omega)]
      repeat' first
        | apply And.intro
        | exact (fun h => Bool.noConfusion h)
        | (refine chkI ?_; kernel_rfl)
        | (refine chkBI ?_; kernel_rfl)
        | exact (fun _ => True.intro)
        | exact True.intro
        | exact (fun h => h)
        | exact rfl
        | decide
        | exact (fun _ => by decide)
        | exact (show (_ : Int) ≠ _ by decide)
        | fail
      all_goals first
        | omega
        | (simp only [imp, i64ok, sz, List.length_map, List.length_cons, List.length_nil] <;> omega)
        | skip
      refine VC.forget 1 [0, 1, 6, 7, 14, 15] (Nat.zero_le _) (loop157 N m d nl cp hm hd hd2 (n - 1) (i + 1) _ _ _ _ _ (by omega) hlt ?_ rfl ?_ rfl ?_)
      · rw [Nat.zero_add, hidx]
        refine rowOf_set _ _ _ _ (by omega) (fun j hj => ?_) _ ?_
        · by_cases h : m - i ≤ j
          · rw [if_pos h, if_pos (by omega)]
          · rw [if_neg h, if_neg (by omega)]
        · rw [if_pos (by omega)]; rfl
      · rw [show m - (i + 1) = m - 1 - i by omega]
      · show Value.int .i64 ((i : Int) + 1) = _
        simp
    · rename_i hc
      have hi' : i = m := by simp at hc; omega
      subst hi'
      repeat' first
        | apply And.intro
        | exact (fun h => Bool.noConfusion h)
        | (refine chkI ?_; kernel_rfl)
        | (refine chkBI ?_; kernel_rfl)
        | exact (fun _ => True.intro)
        | exact True.intro
        | exact (fun h => h)
        | exact rfl
        | decide
        | exact (fun _ => by decide)
        | exact (show (_ : Int) ≠ _ by decide)
        | fail
      show AV.tup [.sl (some false) none 1 ((List.drop 0 (rowOf i (fun j => if i - i ≤ j then limb (N / d) j else 0))).take i), u32 (N / 2 ^ (32 * (i - i)) % d)] = _
      rw [List.drop_zero, List.take_of_length_le (by rw [rowOf_len]; omega)]
      simp only [Nat.sub_self, Nat.zero_le, if_true, Nat.mul_zero, Nat.pow_zero, Nat.div_one]
      rfl

/-- nat.short -/
theorem c157 (N m d : Nat) (nl : Option Bool) (cp : Option Nat) (hm : m < 2 ^ 39) (hN : N < 2 ^ (32 * m)) (hd : 0 < d) (hd2 : d < 2 ^ 32) : PureC Tryz.prog 157 [.sl nl cp 1 (limbsOf m N), u32 d] (.tup [.sl (some false) none 1 (limbsOf m (N / d)), u32 (N % d)]) := by
  have hl := limbsOf_len m N
  refine pureC_of_vc s157 rfl (Nat.le_of_ble_eq_true rfl) rfl ?_
  refine vc_at s157 [] 100 ?_
  repeat' first
    | apply And.intro
    | exact (fun h => Bool.noConfusion h)
    | (refine chkI ?_; kernel_rfl)
    | (refine chkBI ?_; kernel_rfl)
    | exact (fun _ => True.intro)
    | exact True.intro
    | exact (fun h => h)
    | exact rfl
    | decide
    | exact (fun _ => by decide)
    | exact (show (_ : Int) ≠ _ by decide)
    | fail
  all_goals (try rw [hl])
  all_goals first
    | omega
    | (simp only [imp, i64ok, sz, List.length_map, List.length_cons, List.length_nil] <;> omega)
    | skip
  refine VC.forget 1 [0, 1, 6, 7, 14, 15] (Nat.zero_le _) (loop157 N m d nl cp hm hd hd2 _ 0 _ _ _ _ _ (Nat.le_refl _) (Nat.zero_le _) ?_ (Int.toNat_natCast _) ?_ rfl rfl)
  · show List.replicate ((m : Int)).toNat (u32 0) = _
    rw [Int.toNat_natCast]
    apply List.ext_getElem?
    intro j
    by_cases h : j < m
    · rw [rowOf_get h, if_neg (by omega)]; simp [h]
    · rw [List.getElem?_eq_none (by simpa using h), List.getElem?_eq_none (by simpa [rowOf_len] using h)]
  · rw [Nat.sub_zero, Nat.div_eq_of_lt hN, Nat.zero_mod]; rfl

end Vm
end Go.Proofs.YtdbpcmpkpbamhaaGreatDoor
