/-
  Put of the reference: the walk.
-/
import Derived.Test.YtnipbkplobpnhaaWordQ
namespace Go.Proofs.Ytnipbkplobpnhaa
open Go.RowKit

theorem shl_small (x : Int) (m k : Nat) (h : x < 2 ^ m) (h0 : 0 ≤ x) (hk : k + m ≤ 64) : 0 ≤ x * 2 ^ k ∧ x * 2 ^ k ≤ 18446744073709551615 := by
  have hp := pow2_pos k
  have hpq : (2 : Int) ^ m * 2 ^ k ≤ 18446744073709551616 := by
    rw [← Int.pow_add]
    have : (2 : Nat) ^ (m + k) ≤ 2 ^ 64 := Nat.pow_le_pow_right (by decide) (by omega)
    have h2 : ((2 ^ (m + k) : Nat) : Int) ≤ ((2 ^ 64 : Nat) : Int) := by exact_mod_cast this
    rw [Int.natCast_pow] at h2
    exact h2
  generalize (2 : Int) ^ k = p at *
  generalize (2 : Int) ^ m = q at *
  have h1 : 0 ≤ x * p := Int.mul_nonneg h0 (by omega)
  have h2 : x * p ≤ (q - 1) * p := Int.mul_le_mul_of_nonneg_right (by omega) (by omega)
  rw [Int.sub_mul] at h2
  omega
/-- a number is added to its word -/
theorem put_plain (c : Int) (xs : List Int) (m r t : Nat) (hm : wd c = m) (h0 : m ≠ 0) (hxb : ∀ x ∈ xs, 0 ≤ x ∧ x ≤ 18446744073709551615) (hr : r = (xs.length * m + 63) / 64) (ht : t < xs.length)
    (hf : (xs.take t).all (fitsN c) = true) (hft : fitsN c xs[t] = true) :
    0 ≤ (putTo xs m r t).getD (t * m / 64) 0 ∧ (putTo xs m r t).getD (t * m / 64) 0 + xs.getD t 0 * 2 ^ (t * m % 64) ≤ 18446744073709551615 := by
  have hm5 := code_width c m hm h0
  have hx : xs.getD t 0 = xs[t] := by rw [List.getD_eq_getElem?_getD, List.getElem?_eq_getElem (by omega)]; rfl
  have hxt := hxb _ (List.getElem_mem ht)
  have hxlt := fitsN_lt c _ m hm hft hxt.1
  have hxs : ∀ i, i < t + 1 → 0 ≤ xs.getD i 0 ∧ xs.getD i 0 < 2 ^ m := fun i hi => by
    by_cases e : i = t
    · subst e; rw [hx]; exact ⟨hxt.1, hxlt⟩
    · exact ⟨(getD_bd xs hxb i).1, fitsN_lt c _ m hm (take_fits c xs t (by omega) hf i (by omega)) (getD_bd xs hxb i).1⟩
  have hW := (putTo_inv xs m r hm5 (t + 1) (by omega) hxs (by omega) t (by omega)).1 (t * m / 64)
  have hW2 := (putTo_inv xs m r hm5 (t + 1) (by omega) hxs (by omega) (t + 1) (by omega)).1 (t * m / 64)
  have hlt := idx_lt t m xs.length r ht h0 hr
  simp only [putTo, h0, if_false] at hW2
  rw [List.getD_eq_getElem?_getD, List.getElem?_set, if_pos rfl, if_pos (by rw [putTo_len]; exact hlt), Option.getD_some] at hW2
  refine ⟨hW.1, ?_⟩
  have : (2 : Nat) ^ (min 64 ((t + 1) * m - 64 * (t * m / 64))) ≤ 2 ^ 64 := Nat.pow_le_pow_right (by decide) (by omega)
  have h2 : ((2 ^ (min 64 ((t + 1) * m - 64 * (t * m / 64))) : Nat) : Int) ≤ ((2 ^ 64 : Nat) : Int) := by exact_mod_cast this
  rw [Int.natCast_pow] at h2
  have h3 := Int.lt_of_lt_of_le hW2.2 h2
  have h4 : ((2 ^ 64 : Nat) : Int) = 18446744073709551616 := by decide
  omega

set_option maxHeartbeats 2000000 in
theorem refPut_any (A : Option Addr) (k b0 n : Nat) (xs : List Int) (c : Int) (w : World) (hn : n = xs.length) (lx : n ≤ 1099511627776)
    (hx : Reads w b0 A (xs.map (Value.int .u64))) (hb0 : b0 ≤ w.heap.size) (hxb : ∀ x ∈ xs, 0 ≤ x ∧ x ≤ 18446744073709551615) :
    Calls Try.prog 18 #[.int .i64 c, .slice A n k] w (PutPost c xs w) := by
  subst hn
  cases hc : okC c
  · have hp : putOk c xs = false := by unfold putOk; rw [hc]; rfl
    have HP := hide hp
    have HC := hide (rwd_neg c hc)
    clear hp hc
    go_enter Try.func18, Try.ntmps18
    go_wp2_with fail
    refine (refWidth_any c _).mono ?_
    rintro e w1 ⟨rfl, rfl⟩
    rw [HC.out]
    go_wp2_with fail
    go_ret2
    exact ⟨Below.refl _ _, .inl ⟨HP.out, rfl⟩⟩
  · obtain ⟨m, hm⟩ := Int.eq_ofNat_of_zero_le (wd_bd c).1
    have hm64 := (wd_bd c).2
    rw [hm] at hm64
    obtain ⟨r, hr⟩ : ∃ r, r = (xs.length * m + 63) / 64 := ⟨_, rfl⟩
    have hroom := roomN_eq c xs.length m hc hm lx
    rw [← hr] at hroom
    have hmul : xs.length * m ≤ 70368744177664 := Nat.le_trans (Nat.mul_le_mul lx (show m ≤ 64 by omega)) (by decide)
    have hr17 : r ≤ 1099511627776 := by
      have : xs.length * m ≤ 1099511627776 * 64 := Nat.mul_le_mul lx (show m ≤ 64 by omega)
      omega
    have hmk := run_make_words r (by omega)
    have hmneg : decide ((m : Int) < 0) = false := by simp
    have HR := hide hroom
    have HM := hide hm
    have HC := hide hc
    have HRW := hide ((okC_rwd c hc).trans hm)
    have HRR := hide hr
    clear hroom hm hc hr
    go_enter Try.func18, Try.ntmps18
    go_wp2_with fail
    refine (refWidth_any c _).mono ?_
    rintro e w1 ⟨rfl, rfl⟩
    rw [HRW.out]
    go_wp2_with fail
    refine (refRoom_any c _ _).mono ?_
    rintro e w2 ⟨rfl, rfl⟩
    rw [HR.out]
    go_wp2_with fail
    go_loopw [8] (fun i wr => ∃ t : Nat, t ≤ xs.length ∧ i = .int .i64 t ∧ Hid ((xs.take t).all (fitsN c) = true) ∧ Blk wr w.heap.size 22 ((putTo xs m r t).map (Value.int .u64)).toArray ∧ Below w.heap.size w wr) (fun i _ => xs.length - (intOf i).toNat)
    case atStart => exact ⟨0, by omega, rfl, by exact rfl, by have := Blk.new w 22 ((List.replicate r (0 : Int)).map (Value.int .u64)).toArray; simpa [putTo] using this, (Below.refl _ _).alloc (Nat.le_refl _) _⟩
    case round =>
      obtain ⟨t, ht, rfl, hft, hblk, hbe⟩ := hrel
      have hbw : Below w.heap.size w wr := hbe
      have hxw := hx.below hbw hb0
      by_cases hlt : t < xs.length
      · obtain ⟨bx, ox, rfl, hbx, cx⟩ := hxw.intAt hlt
        have hb := hxb _ (List.getElem_mem hlt)
        cases hf : fitsN c xs[t]
        · have HF := hide hf
          clear hf
          go_wp2_with fail
          refine (refFits_any c _ hb.1 hb.2 _).mono ?_
          rintro e w3 ⟨rfl, rfl⟩
          rw [HF.out]
          go_wp2_with fail
          go_ret2
          refine ⟨hbw, .inl ⟨?_, rfl⟩⟩
          unfold putOk
          rw [HC.out, Bool.true_and, List.all_eq_false]
          exact ⟨_, List.getElem_mem hlt, by rw [HF.out]; simp⟩
        · have HF := hide hf
          clear hf
          go_wp2_with fail
          refine (refFits_any c _ hb.1 hb.2 _).mono ?_
          rintro e w3 ⟨rfl, rfl⟩
          rw [HF.out]
          have hblk3 := hblk
          by_cases hm0 : m = 0
          · have hmp : decide (0 < m) = false := by simp; omega
            have hz0 : (0 : Int) ≤ (t : Int) * (m : Int) := by rw [← Int.natCast_mul]; omega
            have hz1 : (t : Int) * (m : Int) ≤ 0 := by rw [← Int.natCast_mul, hm0]; simp
            have hm0' : m ≤ 0 := by omega
            have HM0 := hide hm0
            clear hm0
            go_wp2_with fail
            go_loop [9, 10] (fun v i => v = .int .u64 xs[t] ∧ i = .int .i64 0) (fun _ i => 0 - (intOf i).toNat)
            case atStart => exact ⟨rfl, rfl⟩
            case round =>
              obtain ⟨rfl, rfl⟩ := hrel
              go_wp2_with fail
              go_roundw
              case rel =>
                have hall : (xs.take (t + 1)).all (fitsN c) = true := by
                  have h4 := hft.out
                  rw [List.take_succ_eq_append_getElem hlt, List.all_append, h4]
                  simp [HF.out]
                refine ⟨t + 1, by omega, by go_num, hall, ?_, hbe⟩
                have h6 : putTo xs m r (t + 1) = putTo xs m r t := by simp only [putTo, HM0.out, if_true]
                rw [h6]
                exact hblk3
              case measure => simp [intOf]; omega
          · have hmp : decide (0 < m) = true := by simp; omega
            have hidx : t * m / 64 < r := idx_lt t m xs.length r hlt hm0 HRR.out
            have co := hblk3.intAt (i := t * m / 64) (by rw [putTo_len]; exact hidx)
            have fo := hblk3.frozen (t * m / 64)
            have hz0 : (0 : Int) ≤ (t : Int) * (m : Int) := by rw [← Int.natCast_mul]; omega
            have hz1 : (t : Int) * (m : Int) ≤ 70368744177664 := by
              have h3 : t * m ≤ xs.length * m := Nat.mul_le_mul_right _ ht
              rw [← Int.natCast_mul]
              omega
            go_wp2_with fail
            have hxt := hxb _ (List.getElem_mem hlt)
            have hal : t * m % 64 + m ≤ 64 := by have := code_width c m HM.out hm0; rcases this with rfl | rfl | rfl | rfl | rfl <;> omega
            have hxlt := fitsN_lt c _ m HM.out HF.out hxt.1
            have hpl := put_plain c xs m r t HM.out hm0 hxb HRR.out hlt hft.out HF.out
            have HPL := hide hpl
            have HXLT := hide hxlt
            clear hpl hxlt
            have hs1 : IntKind.i64.wrap ((t : Int) * (m : Int)) = (t : Int) * (m : Int) := IntWalk.i64_in _ ⟨by omega, by omega⟩
            go_loop [9, 10] (fun v i => ∃ k : Nat, k ≤ t * m % 64 ∧ i = .int .i64 k ∧ v = .int .u64 (xs[t] * 2 ^ k)) (fun _ i => t * m % 64 - (intOf i).toNat)
            case atStart => exact ⟨0, by omega, rfl, by simp⟩
            case round =>
              obtain ⟨k, hk, rfl, rfl⟩ := hrel
              have hsm := shl_small xs[t] m k HXLT.out hxt.1 (by omega)
              have hsm0 := hsm.1
              have hsm1 := hsm.2
              clear hsm
              by_cases hk2 : k < t * m % 64
              · have hsm2 := shl_small xs[t] m (k + 1) HXLT.out hxt.1 (by omega)
                rw [Int.pow_succ, ← Int.mul_assoc] at hsm2
                have hsm3 := hsm2.2
                clear hsm2
                have hk3 : (k : Int) < (t : Int) * (m : Int) % 64 := by rw [← Int.natCast_mul]; omega
                go_wp2_with fail
                go_round
                case rel => exact ⟨k + 1, by omega, by go_num, by rw [Int.pow_succ, ← Int.mul_assoc]⟩
                case measure => simp [intOf]; omega
              · have hke : k = t * m % 64 := by omega
                subst hke
                have hk3 : ¬ ((t * m % 64 : Nat) : Int) < (t : Int) * (m : Int) % 64 := by rw [← Int.natCast_mul]; omega
                go_wp2_with fail
                go_roundw
                case rel =>
                  have hall : (xs.take (t + 1)).all (fitsN c) = true := by
                    have h4 := hft.out
                    rw [List.take_succ_eq_append_getElem hlt, List.all_append, h4]
                    simp [HF.out]
                  refine ⟨t + 1, by omega, by go_num, hall, ?_, hbe.setCell (Nat.le_refl _) _⟩
                  have hx9 : xs.getD t 0 = xs[t] := by rw [List.getD_eq_getElem?_getD, List.getElem?_eq_getElem (by omega)]; rfl
                  have hp9 := HPL.out
                  have h5 := hblk3.setInt (t * m / 64) ((putTo xs m r t).getD (t * m / 64) 0 + xs.getD t 0 * 2 ^ (t * m % 64))
                  simp only [putTo, hm0, if_false]
                  rw [hx9] at hp9 h5 ⊢
                  rw [← List.getD_eq_getElem?_getD, IntWalk.u64_in _ ⟨by omega, hp9.2⟩]
                  exact h5
                case measure => simp [intOf]; omega
      · have hte : t = xs.length := by omega
        subst hte
        go_wp2_with fail
        go_ret2
        refine ⟨hbw, .inr ⟨?_, w.heap.size, m, r, HM.out, HRR.out, Nat.le_refl _, rfl, hblk⟩⟩
        · unfold putOk
          have h4 := hft.out
          rw [List.take_of_length_le (Nat.le_refl _)] at h4
          rw [HC.out, h4]
          rfl
end Go.Proofs.Ytnipbkplobpnhaa
