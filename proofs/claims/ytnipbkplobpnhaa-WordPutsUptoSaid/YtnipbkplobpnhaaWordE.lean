/-
  The reference's Fits; Room of both.
-/
import Derived.Test.YtnipbkplobpnhaaWordD
namespace Go.Proofs.Ytnipbkplobpnhaa
open Go.RowKit

theorem okC_rwd (c : Int) (h : okC c = true) : rwd c = wd c := by unfold rwd; rw [if_pos h]
theorem rwd_neg (c : Int) (h : okC c = false) : rwd c = -1 := by unfold rwd; rw [h]; rfl
theorem wd_bd (c : Int) : 0 ≤ wd c ∧ wd c ≤ 64 := by
  unfold wd
  repeat' split
  all_goals omega
theorem div_two (n : Int) (k : Nat) : n / 2 ^ k / 2 = n / 2 ^ (k + 1) := by
  rw [Int.ediv_ediv_of_nonneg (Int.le_of_lt (pow2_pos k))]
  rfl

set_option maxHeartbeats 1000000 in
theorem refFits_any (c n : Int) (h0 : 0 ≤ n) (h1 : n ≤ 18446744073709551615) (w : World) :
    Calls Try.prog 25 #[.int .i64 c, .int .u64 n] w fun e w' => e = .returned (.bool (fitsN c n)) ∧ w = w' := by
  cases hc : okC c
  · have e1 : fitsN c n = false := by unfold fitsN; rw [hc]; rfl
    have E1 := hide e1
    have HC := hide (rwd_neg c hc)
    clear e1 hc
    go_enter Try.func25, Try.ntmps25
    go_wp2_with fail
    refine (refWidth_any c _).mono ?_
    rintro e w1 ⟨rfl, rfl⟩
    rw [HC.out]
    go_wp2_with fail
    go_ret
    rw [E1.out]
    exact ⟨rfl, rfl⟩
  · have HC := hide hc
    have HR := hide (okC_rwd c hc)
    have hwd := wd_bd c
    obtain ⟨m, hm⟩ := Int.eq_ofNat_of_zero_le hwd.1
    have HM := hide hm
    rw [hm] at hwd
    clear hc hm
    go_enter Try.func25, Try.ntmps25
    go_wp2_with fail
    refine (refWidth_any c _).mono ?_
    rintro e w1 ⟨rfl, rfl⟩
    rw [HR.out, HM.out]
    go_wp2_with fail
    go_loop [1, 6] (fun v i => ∃ k : Nat, k ≤ m ∧ i = .int .i64 k ∧ v = .int .u64 (n / 2 ^ k)) (fun _ i => m - (intOf i).toNat)
    case atStart => exact ⟨0, by omega, rfl, by simp⟩
    case round =>
      obtain ⟨k, hk, rfl, rfl⟩ := hrel
      have hd0 : 0 ≤ n / 2 ^ k := Int.ediv_nonneg h0 (Int.le_of_lt (pow2_pos k))
      have hd1 : n / 2 ^ k ≤ 18446744073709551615 := Int.le_trans (Int.ediv_le_self _ h0) h1
      by_cases hlt : k < m
      · go_wp2
        go_round
        case rel => exact ⟨k + 1, by omega, by go_num, by rw [div_two]⟩
        case measure => simp [intOf]; omega
      · have hkn : k = m := by omega
        subst hkn
        go_wp2
        go_ret
        exact ⟨ret_bool (by simp [fitsN, HC.out, HM.out]), rfl⟩

/-- how many words numbers take -/
def roomN (c n : Int) : Int := if okC c = true ∧ 0 ≤ n ∧ n ≤ 1099511627776 then (n * wd c + 63) / 64 else 0
set_option maxHeartbeats 2000000 in
theorem room_any (c n : Int) (w : World) :
    Calls Try.prog 26 #[.int .i64 c, .int .i64 n] w fun e w' => e = .returned (.int .i64 (roomN c n)) ∧ Below w.heap.size w w' := by
  cases hc : okC c
  · have e1 : roomN c n = 0 := by unfold roomN; rw [hc]; simp
    have E1 := hide e1
    have HC := hide hc
    clear e1 hc
    go_enter Try.func26, Try.ntmps26
    go_wp2_with fail
    refine (width_any c _).mono ?_
    rintro e w1 ⟨rfl, hb1⟩
    rw [HC.out]
    go_wp2_with fail
    go_ret
    rw [E1.out]
    exact ⟨rfl, hb1⟩
  · by_cases hn : 0 ≤ n ∧ n ≤ 1099511627776
    · obtain ⟨n0, n1⟩ := hn
      rcases okC_true hc with rfl | rfl | rfl | rfl | rfl | rfl
      all_goals
        go_enter Try.func26, Try.ntmps26
        go_wp2_with fail
        refine (width_any _ _).mono ?_
        rintro e w1 ⟨rfl, hb1⟩
        simp only [wd, okC]
        go_wp2_with fail
        go_ret
        exact ⟨ret_int (by simp [roomN, okC, wd, n0, n1]), hb1⟩
    · have e1 : roomN c n = 0 := by unfold roomN; rw [if_neg (by omega)]
      have E1 := hide e1
      have HC := hide hc
      have hn' : n < 0 ∨ 1099511627776 < n := by omega
      clear e1 hc hn
      rcases hn' with hn' | hn'
      all_goals
        go_enter Try.func26, Try.ntmps26
        go_wp2_with fail
        refine (width_any c _).mono ?_
        rintro e w1 ⟨rfl, hb1⟩
        rw [HC.out]
        go_wp2_with fail
        go_ret
        rw [E1.out]
        exact ⟨rfl, hb1⟩

set_option maxHeartbeats 2000000 in
theorem refRoom_any (c n : Int) (w : World) :
    Calls Try.prog 27 #[.int .i64 c, .int .i64 n] w fun e w' => e = .returned (.int .i64 (roomN c n)) ∧ w = w' := by
  cases hc : okC c
  · have e1 : roomN c n = 0 := by unfold roomN; rw [hc]; simp
    have E1 := hide e1
    have HC := hide (rwd_neg c hc)
    clear e1 hc
    go_enter Try.func27, Try.ntmps27
    go_wp2_with fail
    refine (refWidth_any c _).mono ?_
    rintro e w1 ⟨rfl, rfl⟩
    rw [HC.out]
    go_wp2_with fail
    go_ret
    rw [E1.out]
    exact ⟨rfl, rfl⟩
  · by_cases hn : 0 ≤ n ∧ n ≤ 1099511627776
    · obtain ⟨n0, n1⟩ := hn
      rcases okC_true hc with rfl | rfl | rfl | rfl | rfl | rfl
      all_goals
        go_enter Try.func27, Try.ntmps27
        go_wp2_with fail
        refine (refWidth_any _ _).mono ?_
        rintro e w1 ⟨rfl, rfl⟩
        rw [okC_rwd _ hc]
        simp only [wd]
        go_wp2_with (go_at_call 22; refine (refWidth_any _ _).mono ?_; rintro e w1 ⟨rfl, rfl⟩; rw [okC_rwd _ hc]; simp only [wd])
        all_goals go_ret
        all_goals exact ⟨ret_int (by simp [roomN, okC, wd, n0, n1]; try omega), rfl⟩
    · have e1 : roomN c n = 0 := by unfold roomN; rw [if_neg (by omega)]
      have E1 := hide e1
      have hn' : n < 0 ∨ 1099511627776 < n := by omega
      clear e1 hn
      rcases okC_true hc with rfl | rfl | rfl | rfl | rfl | rfl
      all_goals rcases hn' with hn' | hn'
      all_goals
        go_enter Try.func27, Try.ntmps27
        go_wp2_with fail
        refine (refWidth_any _ _).mono ?_
        rintro e w1 ⟨rfl, rfl⟩
        rw [okC_rwd _ hc]
        simp only [wd]
        go_wp2_with fail
        go_ret
        rw [E1.out]
        exact ⟨rfl, rfl⟩
end Go.Proofs.Ytnipbkplobpnhaa
