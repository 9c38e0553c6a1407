/-
  Plain numbers: the masks and mixtures of package word are the reference's.
-/
import Derived.Test.YtnipbkplobpnhaaWordC
namespace Go.Proofs.Ytnipbkplobpnhaa
open Go.RowKit

/-- a number of bytes, the lowest first -/
def joinN (f : Nat → Nat) : Nat → Nat
  | 0 => 0
  | k + 1 => 2 ^ (8 * k) * f k + joinN f k
theorem joinN_lt (f : Nat → Nat) (hf : ∀ i, f i < 256) (k : Nat) : joinN f k < 2 ^ (8 * k) := by
  induction k with
  | zero => simp [joinN]
  | succ k ih =>
    have h1 := hf k
    have e : 2 ^ (8 * (k + 1)) = 2 ^ (8 * k) * 256 := by rw [Nat.mul_add, Nat.pow_add]
    rw [e]
    have : 2 ^ (8 * k) * f k ≤ 2 ^ (8 * k) * 255 := Nat.mul_le_mul_left _ (by omega)
    simp only [joinN]
    omega
theorem joinN_bit (f : Nat → Nat) (hf : ∀ i, f i < 256) (k j : Nat) : (joinN f k).testBit j = (decide (j < 8 * k) && (f (j / 8)).testBit (j % 8)) := by
  induction k with
  | zero => simp [joinN]
  | succ k ih =>
    simp only [joinN]
    rw [Nat.testBit_two_pow_mul_add _ (joinN_lt f hf k), ih]
    by_cases h : j < 8 * k
    · have : j < 8 * (k + 1) := by omega
      simp [h, this]
    · by_cases h2 : j < 8 * (k + 1)
      · have e1 : j / 8 = k := by omega
        have e2 : j - 8 * k = j % 8 := by omega
        simp [h, h2, e1, e2]
      · have : (f k).testBit (j - 8 * k) = false := Nat.testBit_lt_two_pow (Nat.lt_of_lt_of_le (hf k) (by
          have : 8 ≤ j - 8 * k := by omega
          exact Nat.pow_le_pow_right (n := 2) (by decide) this))
        simp [h, h2, this]
theorem joinN_congr (f g : Nat → Nat) (k : Nat) (h : ∀ i, i < k → f i = g i) : joinN f k = joinN g k := by
  induction k with
  | zero => rfl
  | succ k ih => simp only [joinN, h k (by omega), ih (fun i hi => h i (by omega))]
def byteN (x i : Nat) : Nat := x / 256 ^ i % 256
theorem byteN_lt (x i : Nat) : byteN x i < 256 := Nat.mod_lt _ (by decide)
theorem joinN_bytes (x k : Nat) : joinN (byteN x) k = x % 256 ^ k := by
  induction k with
  | zero => simp [joinN, Nat.mod_one]
  | succ k ih =>
    simp only [joinN, ih, byteN]
    rw [Nat.pow_mul, show 2 ^ 8 = 256 from rfl, Nat.pow_succ, Nat.mod_mul, Nat.add_comm]
theorem bt_cast (x : Nat) (i : Nat) : bt (x : Int) i = (byteN x i : Nat) := by
  unfold bt byteN
  rw [Int.natCast_emod, Int.natCast_ediv, Int.natCast_pow]
  rfl
theorem wideTo_cast (m : Int) (k : Nat) : wideTo m k = (joinN (fun i => if nm m i then 255 else 0) k : Nat) := by
  induction k with
  | zero => rfl
  | succ k ih =>
    simp only [wideTo, joinN, ih]
    have e : ((2 ^ (8 * k) : Nat) : Int) = 256 ^ k := by rw [Nat.pow_mul, Int.natCast_pow]; rfl
    rw [Int.natCast_add, Int.natCast_mul, e]
    split <;> simp <;> omega
theorem join8_cast (f : Nat → Nat) : join8 (fun i => (f i : Int)) = (joinN f 8 : Nat) := by
  simp only [join8, joinN]
  omega
theorem mask_bit (c : Bool) (j : Nat) : (if c = true then 255 else 0 : Nat).testBit (j % 8) = c := by
  have : j % 8 = 0 ∨ j % 8 = 1 ∨ j % 8 = 2 ∨ j % 8 = 3 ∨ j % 8 = 4 ∨ j % 8 = 5 ∨ j % 8 = 6 ∨ j % 8 = 7 := by omega
  rcases this with h | h | h | h | h | h | h | h <;> rw [h] <;> cases c <;> rfl
theorem mix_nat (A B : Nat) (hA : A < 2 ^ 64) (hB : B < 2 ^ 64) (c : Nat → Bool) :
    (A &&& (18446744073709551615 - joinN (fun i => if c i then 255 else 0) 8)) ||| (B &&& joinN (fun i => if c i then 255 else 0) 8) = joinN (fun i => if c i then byteN B i else byteN A i) 8 := by
  have hc : ∀ i, (if c i = true then 255 else 0 : Nat) < 256 := fun i => by split <;> decide
  have hd : ∀ i, (if c i = true then byteN B i else byteN A i) < 256 := fun i => by split <;> exact byteN_lt _ _
  have eA : A = joinN (byteN A) 8 := by rw [joinN_bytes]; exact (Nat.mod_eq_of_lt hA).symm
  have eB : B = joinN (byteN B) 8 := by rw [joinN_bytes]; exact (Nat.mod_eq_of_lt hB).symm
  have hlt := joinN_lt (fun i => if c i = true then 255 else 0) hc 8
  apply Nat.eq_of_testBit_eq
  intro j
  have e1 : 18446744073709551615 - joinN (fun i => if c i then 255 else 0) 8 = 2 ^ 64 - (joinN (fun i => if c i then 255 else 0) 8 + 1) := by omega
  rw [Nat.testBit_or, Nat.testBit_and, Nat.testBit_and, e1, Nat.testBit_two_pow_sub_succ hlt, joinN_bit _ hc, joinN_bit _ hd, mask_bit]
  rw [show A.testBit j = (joinN (byteN A) 8).testBit j from by rw [← eA], show B.testBit j = (joinN (byteN B) 8).testBit j from by rw [← eB], joinN_bit _ (byteN_lt A), joinN_bit _ (byteN_lt B)]
  by_cases h : j < 64
  · have h2 : j < 8 * 8 := h
    cases c (j / 8) <;> simp [h, h2]
  · have h2 : ¬ j < 8 * 8 := h
    simp [h, h2]
/-- Mix, as the program reckons it, is the reference's -/
theorem mix_same (a b m : Int) (h0 : 0 ≤ a) (h1 : a ≤ 18446744073709551615) (g0 : 0 ≤ b) (g1 : b ≤ 18446744073709551615) :
    bits .or .u64 (bits .andNot .u64 a (wideTo m 8)) (bits .and .u64 b (wideTo m 8)) = join8 (mxb a b m 8) := by
  have hw := wideTo_bd m 8
  rw [show (256 : Int) ^ 8 = 18446744073709551616 from by decide] at hw
  obtain ⟨A, rfl⟩ := Int.eq_ofNat_of_zero_le h0
  obtain ⟨B, rfl⟩ := Int.eq_ofNat_of_zero_le g0
  have hj : join8 (mxb A B m 8) = join8 (fun i => ((if nm m i then byteN B i else byteN A i : Nat) : Int)) := by
    have : ∀ i, i < 8 → mxb A B m 8 i = ((if nm m i then byteN B i else byteN A i : Nat) : Int) := fun i hi => by
      unfold mxb
      cases nm m i <;> simp [hi, bt_cast]
    simp only [join8]
    rw [this 0 (by omega), this 1 (by omega), this 2 (by omega), this 3 (by omega), this 4 (by omega), this 5 (by omega), this 6 (by omega), this 7 (by omega)]
  rw [hj, join8_cast]
  have h1' : A < 18446744073709551616 := by omega
  have g1' : B < 18446744073709551616 := by omega
  rw [wideTo_cast] at hw ⊢
  have hw' : joinN (fun i => if nm m i = true then 255 else 0) 8 < 18446744073709551616 := by omega
  rw [u64_andNot_nat _ _ h1' hw', u64_and_nat _ _ g1' hw']
  rw [u64_or_nat _ _ (Nat.lt_of_le_of_lt Nat.and_le_left h1') (Nat.lt_of_le_of_lt Nat.and_le_left g1')]
  rw [mix_nat A B h1' g1']
theorem bt_xor (a b : Int) (k : Nat) (h0 : 0 ≤ a) (h1 : a ≤ 18446744073709551615) (g0 : 0 ≤ b) (g1 : b ≤ 18446744073709551615) : bt (bits .xor .u64 a b) k = 0 ↔ bt a k = bt b k := by
  obtain ⟨A, rfl⟩ := Int.eq_ofNat_of_zero_le h0
  obtain ⟨B, rfl⟩ := Int.eq_ofNat_of_zero_le g0
  rw [u64_xor_nat A B (by omega) (by omega), bt_cast, bt_cast, bt_cast]
  have e : byteN (A ^^^ B) k = byteN A k ^^^ byteN B k := by
    unfold byteN
    rw [show (256 : Nat) ^ k = 2 ^ (8 * k) from by rw [Nat.pow_mul], show (256 : Nat) = 2 ^ 8 from rfl, Nat.xor_div_two_pow, Nat.xor_mod_two_pow]
  rw [e]
  constructor
  · intro h
    have h' : byteN A k ^^^ byteN B k = 0 := by omega
    have h2 : byteN A k ^^^ (byteN A k ^^^ byteN B k) = byteN A k ^^^ 0 := by rw [h']
    rw [← Nat.xor_assoc, Nat.xor_self, Nat.zero_xor, Nat.xor_zero] at h2
    omega
  · intro h
    have h' : byteN A k = byteN B k := by omega
    rw [h', Nat.xor_self]
    rfl
theorem unl_same (a b : Int) (h0 : 0 ≤ a) (h1 : a ≤ 18446744073709551615) (g0 : 0 ≤ b) (g1 : b ≤ 18446744073709551615) (k : Nat) : unlTo (bits .xor .u64 a b) k = rUnl a b k := by
  induction k with
  | zero => rfl
  | succ k ih =>
    simp only [unlTo, rUnl, ih, bt_xor a b k h0 h1 g0 g1]
/-- bit i of a mask made of bits -/
theorem rUnl_nm (a b : Int) (k i : Nat) (hi : i < k) : nm (rUnl a b k) i = !decide (bt a i = bt b i) := by
  induction k with
  | zero => omega
  | succ k ih =>
    have hb := rUnl_bd a b k
    have hp := pow2_pos k
    by_cases e : i = k
    · subst e
      unfold nm
      simp only [rUnl]
      by_cases h : bt a i = bt b i
      · rw [if_pos h, Int.add_zero, Int.ediv_eq_zero_of_lt hb.1 hb.2]
        simp [h]
      · rw [if_neg h]
        have : (rUnl a b i + 2 ^ i) / 2 ^ i = 1 := by
          rw [Int.add_ediv_of_dvd_right (Int.dvd_refl _), Int.ediv_eq_zero_of_lt hb.1 hb.2, Int.ediv_self (by omega)]
          rfl
        rw [this]
        simp [h]
    · have hik : i < k := by omega
      rw [← ih hik]
      unfold nm
      simp only [rUnl]
      by_cases h : bt a k = bt b k
      · rw [if_pos h, Int.add_zero]
      · rw [if_neg h]
        have e2 : (2 : Int) ^ k = 2 ^ i * (2 * 2 ^ (k - i - 1)) := by
          rw [← Int.pow_succ', ← Int.pow_add]
          congr 1
          omega
        have hq := pow2_pos i
        rw [e2, Int.add_mul_ediv_left _ _ (by omega), Int.add_mul_emod_self_left]
theorem join8_bt (x : Int) (h0 : 0 ≤ x) (h1 : x ≤ 18446744073709551615) : join8 (bt x) = x := by
  obtain ⟨A, rfl⟩ := Int.eq_ofNat_of_zero_le h0
  have : bt (A : Int) = fun i => ((byteN A i : Nat) : Int) := funext fun i => bt_cast A i
  rw [this, join8_cast, joinN_bytes, Nat.mod_eq_of_lt (by have : (256 : Nat) ^ 8 = 18446744073709551616 := by decide
                                                          omega)]
theorem join8_congr (f g : Nat → Int) (h : ∀ i, i < 8 → f i = g i) : join8 f = join8 g := by
  simp only [join8]
  rw [h 0 (by omega), h 1 (by omega), h 2 (by omega), h 3 (by omega), h 4 (by omega), h 5 (by omega), h 6 (by omega), h 7 (by omega)]
/-- mixed by the mask of what is unlike the one is the other -/
theorem mix_unlike (a b : Int) (g0 : 0 ≤ b) (g1 : b ≤ 18446744073709551615) : join8 (mxb a b (rUnl a b 8) 8) = b := by
  rw [join8_congr _ (bt b), join8_bt b g0 g1]
  intro i hi
  unfold mxb
  rw [rUnl_nm a b 8 i hi]
  by_cases h : bt a i = bt b i
  · simp [h]
  · simp [h, hi]
/-- the mask of bits is all ones mixed into 0 -/
theorem wide_same (m : Int) : wideTo m 8 = join8 (mxb 0 18446744073709551615 m 8) := by
  rw [wideTo_cast, ← join8_cast]
  apply join8_congr
  intro i hi
  have h : i = 0 ∨ i = 1 ∨ i = 2 ∨ i = 3 ∨ i = 4 ∨ i = 5 ∨ i = 6 ∨ i = 7 := by omega
  unfold mxb
  rcases h with rfl | rfl | rfl | rfl | rfl | rfl | rfl | rfl <;> cases nm m _ <;> simp [bt]
end Go.Proofs.Ytnipbkplobpnhaa
