/-
  The reference's Get.
-/
import Derived.Test.YtnipbkplobpnhaaWordH
namespace Go.Proofs.Ytnipbkplobpnhaa
open Go.RowKit

/-- what the reference gathers of bits in t steps, from the highest one down -/
def accTo (f : Nat → Int) (m : Nat) : Nat → Int
  | 0 => 0
  | t + 1 => accTo f m t * 2 + f (m - 1 - t)
theorem accTo_bd (f : Nat → Int) (hf : ∀ i, 0 ≤ f i ∧ f i ≤ 1) (m t : Nat) : 0 ≤ accTo f m t ∧ accTo f m t < 2 ^ t := by
  induction t with
  | zero => simp [accTo]
  | succ t ih =>
    have h := hf (m - 1 - t)
    have hp := pow2_pos t
    simp only [accTo]
    rw [Int.pow_succ]
    omega
theorem bitN_bd (xs : List Int) (j : Int) : 0 ≤ bitN xs j ∧ bitN xs j ≤ 1 := by
  unfold bitN
  split <;> omega
theorem pow2_le64 (t : Nat) (h : t ≤ 63) : (2 : Int) ^ t ≤ 9223372036854775808 := by
  have : (2 : Nat) ^ t ≤ 2 ^ 63 := Nat.pow_le_pow_right (by decide) h
  have h2 : ((2 ^ t : Nat) : Int) ≤ ((2 ^ 63 : Nat) : Int) := by exact_mod_cast this
  rw [Int.natCast_pow] at h2
  exact h2

set_option maxHeartbeats 1000000 in
theorem refGet_acc (A : Option Addr) (k b0 n m i : Nat) (xs : List Int) (c : Int) (w : World) (hn : n = xs.length) (lx : n ≤ maxLen)
    (hx : Reads w b0 A (xs.map (Value.int .u64))) (hxb : ∀ x ∈ xs, 0 ≤ x ∧ x ≤ 18446744073709551615) (hc : okC c = true) (hm : wd c = m) (hm1 : 1 ≤ m) (hi : i ≤ 1099511627776) :
    Calls Try.prog 23 #[.slice A n k, .int .i64 c, .int .i64 i] w fun e w' => e = .returned (.int .u64 (accTo (fun j => bitN xs ((i * m + j : Nat) : Int)) m m)) ∧ w = w' := by
  have hr : rwd c = m := by rw [okC_rwd c hc, hm]
  have hm2 : m ≤ 64 := by have := wd_bd c; omega
  have HR := hide hr
  have hmul : i * m ≤ 70368744177664 := Nat.le_trans (Nat.mul_le_mul hi hm2) (by decide)
  have hmz : (0 : Int) ≤ (i : Int) * (m : Int) ∧ (i : Int) * (m : Int) ≤ 70368744177664 := by
    have : ((i * m : Nat) : Int) = (i : Int) * (m : Int) := Int.natCast_mul _ _
    omega
  have hca : ∀ j : Nat, ((i : Int) * (m : Int) + (j : Int)) = ((i * m + j : Nat) : Int) := fun j => by rw [Int.natCast_add, Int.natCast_mul]
  have HCA := hide hca
  have HB := hide hxb
  have HX := hide hx
  have HN := hide hn
  obtain ⟨f, hf⟩ : ∃ f : Nat → Int, ∀ j, bitN xs ((i * m + j : Nat) : Int) = f j := ⟨_, fun _ => rfl⟩
  rw [show (fun j => bitN xs ((i * m + j : Nat) : Int)) = f from funext hf]
  have hfb : ∀ j, 0 ≤ f j ∧ f j ≤ 1 := fun j => by rw [← hf]; exact bitN_bd _ _
  have hbb := fun t => accTo_bd f hfb m t
  have HF := hide hf
  have HFB := hide hfb
  have HBB := hide hbb
  clear hr hm hc hca hxb hx hn hbb hf hfb
  obtain ⟨hmz0, hmz1⟩ := hmz
  go_enter Try.func23, Try.ntmps23
  go_wp2_with fail
  refine (refWidth_any c _).mono ?_
  rintro e w1 ⟨rfl, rfl⟩
  rw [HR.out]
  go_wp2_with fail
  go_loop [8, 9] (fun v j => ∃ t : Nat, t ≤ m ∧ j = .int .i64 ((m : Int) - 1 - t) ∧ v = .int .u64 (accTo f m t)) (fun _ j => (intOf j + 1).toNat)
  case atStart => exact ⟨0, by omega, by go_num, rfl⟩
  case round =>
    obtain ⟨t, ht, rfl, rfl⟩ := hrel
    have hb := HBB.out t
    by_cases hlt : t < m
    · have hp := pow2_le64 t (by omega)
      have hbit := HFB.out (m - 1 - t)
      have e1 : ((i : Int) * (m : Int) + ((m : Int) - 1 - t)) = ((i * m + (m - 1 - t) : Nat) : Int) := by
        rw [← HCA.out]
        omega
      have E1 := hide e1
      clear e1
      go_wp2_with fail
      rw [E1.out]
      refine (bit_any A k b0 n xs _ _ HN.out HX.out HB.out lx ⟨by omega, by omega⟩).mono ?_
      rintro e w1 ⟨rfl, rfl⟩
      rw [HF.out]
      go_wp2_with fail
      go_round
      case rel => exact ⟨t + 1, by omega, by go_num, rfl⟩
      case measure => simp [intOf]; omega
    · have hkn : t = m := by omega
      subst hkn
      go_wp2_with fail
      go_ret
      exact ⟨rfl, rfl⟩
theorem accTo_congr (f g : Nat → Int) (m : Nat) (h : ∀ j, j < m → f j = g j) (t : Nat) (ht : t ≤ m) : accTo f m t = accTo g m t := by
  induction t with
  | zero => rfl
  | succ t ih => simp only [accTo, ih (by omega), h (m - 1 - t) (by omega)]
theorem accTo_zero (m t : Nat) : accTo (fun _ => 0) m t = 0 := by
  induction t with
  | zero => rfl
  | succ t ih => simp only [accTo, ih]; rfl
theorem accTo_bits (y : Int) (m t : Nat) (ht : t ≤ m) : accTo (fun j => y / 2 ^ j % 2) m t = y / 2 ^ (m - t) % 2 ^ t := by
  induction t with
  | zero => simp [accTo]
  | succ t ih =>
    simp only [accTo, ih (by omega)]
    have e : m - t = (m - 1 - t) + 1 := by omega
    rw [e, ← div_two y (m - 1 - t), show m - (t + 1) = m - 1 - t from by omega]
    generalize y / 2 ^ (m - 1 - t) = z
    have h1 := Int.mul_ediv_add_emod z 2
    have hp := pow2_pos t
    rw [Int.pow_succ]
    have h2 : z % (2 ^ t * 2) = (z / 2 % 2 ^ t) * 2 + z % 2 := by
      generalize (2 : Int) ^ t = p at *
      have h3 := Int.mul_ediv_add_emod (z / 2) p
      have h4 := Int.emod_nonneg (z / 2) (show p ≠ 0 by omega)
      have h5 := Int.emod_lt_of_pos (z / 2) hp
      have h6 : z = ((z / 2 % p) * 2 + z % 2) + (p * 2) * (z / 2 / p) := by
        rw [Int.mul_assoc, Int.mul_comm 2, ← Int.mul_assoc]
        omega
      conv => lhs; rw [h6]
      rw [Int.add_mul_emod_self_left, Int.emod_eq_of_lt (by omega) (by omega)]
    omega
theorem getN_acc (xs : List Int) (c : Int) (i m : Nat) (hc : okC c = true) (hm : wd c = m) (hm1 : 1 ≤ m) (hi : i ≤ 1099511627776) :
    accTo (fun j => bitN xs ((i * m + j : Nat) : Int)) m m = getN xs c i := by
  have hm5 : m = 1 ∨ m = 8 ∨ m = 16 ∨ m = 32 ∨ m = 64 := by
    rcases okC_true hc with rfl | rfl | rfl | rfl | rfl | rfl <;> simp [wd] at hm <;> omega
  have hal : i * m % 64 + m ≤ 64 := by rcases hm5 with rfl | rfl | rfl | rfl | rfl <;> omega
  have e2 : ((i : Int) * (m : Int) / 64).toNat = i * m / 64 := by rw [← Int.natCast_mul]; omega
  have e3 : ((i : Int) * (m : Int) % 64).toNat = i * m % 64 := by rw [← Int.natCast_mul]; omega
  by_cases hlt : i * m / 64 < xs.length
  · have h1 : getN xs c i = xs.getD (i * m / 64) 0 / 2 ^ (i * m % 64) % 2 ^ m := by
      unfold getN
      rw [hm, if_pos ⟨hc, by omega, by omega, by omega, by rw [← Int.natCast_mul]; omega⟩, e2, e3]
      rfl
    rw [h1, accTo_congr _ (fun j => (xs.getD (i * m / 64) 0 / 2 ^ (i * m % 64)) / 2 ^ j % 2) m _ m (Nat.le_refl _), accTo_bits _ m m (Nat.le_refl _)]
    · simp
    · intro j hj
      have e4 : (i * m + j) / 64 = i * m / 64 := by omega
      have e5 : (i * m + j) % 64 = i * m % 64 + j := by omega
      have e6 : (((i * m + j : Nat) : Int) / 64).toNat = i * m / 64 := by rw [← e4]; omega
      have e7 : (((i * m + j : Nat) : Int) % 64).toNat = i * m % 64 + j := by rw [← e5]; omega
      unfold bitN
      rw [if_pos ⟨by omega, by omega⟩, e6, e7, Int.ediv_ediv_of_nonneg (Int.le_of_lt (pow2_pos _)), ← Int.pow_add]
  · rw [getN_no xs c i (by
      rintro ⟨_, _, _, _, h5⟩
      rw [hm, ← Int.natCast_mul] at h5
      omega), accTo_congr _ (fun _ => 0) m _ m (Nat.le_refl _), accTo_zero]
    intro j hj
    unfold bitN
    rw [if_neg (by omega)]

set_option maxHeartbeats 1000000 in
theorem refGet_any (A : Option Addr) (k b0 n : Nat) (xs : List Int) (c i : Int) (w : World) (hn : n = xs.length) (lx : n ≤ maxLen)
    (hx : Reads w b0 A (xs.map (Value.int .u64))) (hxb : ∀ x ∈ xs, 0 ≤ x ∧ x ≤ 18446744073709551615) :
    Calls Try.prog 23 #[.slice A n k, .int .i64 c, .int .i64 i] w fun e w' => e = .returned (.int .u64 (getN xs c i)) ∧ w = w' := by
  by_cases h : rwd c < 1 ∨ i < 0 ∨ 1099511627776 < i
  · have e0 : getN xs c i = 0 := getN_no xs c i (by
      rintro ⟨h1, h2, h3, h4, _⟩
      have h5 := okC_rwd c h1
      have h6 := wd_bd c
      omega)
    have E0 := hide e0
    generalize hr : rwd c = r at *
    have HR := hide hr
    clear e0 hr hx hxb hn
    by_cases h1 : r < 1
    · clear h
      go_enter Try.func23, Try.ntmps23
      go_wp2_with fail
      refine (refWidth_any c _).mono ?_
      rintro e w1 ⟨rfl, rfl⟩
      rw [HR.out]
      go_wp2_with fail
      go_ret
      rw [E0.out]
      exact ⟨rfl, rfl⟩
    · have h2 : i < 0 ∨ 1099511627776 < i := by omega
      clear h
      rcases h2 with h2 | h2
      all_goals
        go_enter Try.func23, Try.ntmps23
        go_wp2_with fail
        refine (refWidth_any c _).mono ?_
        rintro e w1 ⟨rfl, rfl⟩
        rw [HR.out]
        go_wp2_with fail
        go_ret
        rw [E0.out]
        exact ⟨rfl, rfl⟩
  · have h1 : ¬ rwd c < 1 := fun e => h (.inl e)
    have hc : okC c = true := by
      cases e : okC c
      · rw [rwd_neg c e] at h1; omega
      · rfl
    have h2 : 0 ≤ i := by have : ¬ i < 0 := fun e => h (.inr (.inl e)); omega
    have h3 : i ≤ 1099511627776 := by have : ¬ 1099511627776 < i := fun e => h (.inr (.inr e)); omega
    obtain ⟨j, rfl⟩ := Int.eq_ofNat_of_zero_le h2
    obtain ⟨m, hm⟩ := Int.eq_ofNat_of_zero_le (wd_bd c).1
    rw [okC_rwd c hc] at h1
    rw [← getN_acc xs c j m hc hm (by omega) (by omega)]
    exact refGet_acc A k b0 n m j xs c w hn lx hx hxb hc hm (by omega) (by omega)
end Go.Proofs.Ytnipbkplobpnhaa
