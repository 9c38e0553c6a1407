/-
  Same, SameBytes; Get of both.
-/
import Derived.Test.YtnipbkplobpnhaaWordE
namespace Go.Proofs.Ytnipbkplobpnhaa
open Go.RowKit

set_option maxHeartbeats 400000 in
theorem same_any (A B : Option Addr) (c d b0 n m : Nat) (xs ys : List Int) (w : World) (hn : n = xs.length) (hm : m = ys.length)
   (hx : Reads w b0 A (xs.map (Value.int .u64))) (hy : Reads w b0 B (ys.map (Value.int .u64)))
   (lx : n ≤ maxLen) (ly : m ≤ maxLen) :
    Calls Try.prog 19 #[.slice A n c, .slice B m d] w fun e w' => e = .returned (.bool (xs == ys)) ∧ ∃ k, w' = w.drewN k := by
  subst hn hm
  unfold maxLen at lx ly
  by_cases hl : xs.length = ys.length
  · have hl' : ((xs.length : Int) != (ys.length : Int)) = false := by rw [hl]; simp
    have HL := Lib.hid hl
    clear hl
    go_enter Try.func19, Try.ntmps19
    go_wp2
    go_loopw [5] (fun i wr => ∃ k : Nat, k ≤ xs.length ∧ i = .int .i64 k ∧ Hid (xs.take k = ys.take k) ∧ ∃ m, wr = w.drewN m) (fun i _ => xs.length - (intOf i).toNat)
    case atStart => exact ⟨0, by omega, rfl, by exact rfl, 0, rfl⟩
    case round =>
      obtain ⟨k, hk, rfl, he, m, rfl⟩ := hrel
      by_cases hlt : k < xs.length
      · have hlt2 : k < ys.length := by rw [← HL.out]; exact hlt
        obtain ⟨bx, ox, rfl, _, cx⟩ := hx.intAt hlt
        obtain ⟨bY, oy, rfl, _, cy⟩ := hy.intAt hlt2
        go_wp2
        go_quiet (fail)
        go_wp2
        · have ht : (xs[k] != ys[k]) = true := by assumption
          go_ret
          refine ⟨ret_bool ?_, m + nq, by first | rfl | rw [World.drewN_drewN]⟩
          have hne : xs ≠ ys := fun e => by subst e; simp at ht
          simp [hne]
        · go_roundw
          case rel =>
            have ht : (xs[k] != ys[k]) = false := by assumption
            have he2 : xs[k] = ys[k] := by simpa using ht
            refine ⟨k + 1, by omega, by go_num, ?_, _, rfl⟩
            have h1 := he.out
            show xs.take (k + 1) = ys.take (k + 1)
            rw [List.take_succ_eq_append_getElem hlt, List.take_succ_eq_append_getElem hlt2, h1, he2]
          case measure => simp [intOf]; omega
      · go_wp2
        go_ret
        refine ⟨ret_bool ?_, _, rfl⟩
        have h1 := he.out
        rw [List.take_of_length_le (by omega), List.take_of_length_le (by have := HL.out; omega)] at h1
        simp [h1]
  · have hl' : ((xs.length : Int) != (ys.length : Int)) = true := by rw [bne_iff_ne]; omega
    go_enter Try.func19, Try.ntmps19
    go_wp2
    go_ret
    exact ⟨ret_bool (by simp; intro h; exact absurd (by rw [h]) hl), 0, rfl⟩

/-- a bit of words; 0: it is not there -/
def bitN (xs : List Int) (at_ : Int) : Int := if 0 ≤ at_ ∧ at_ / 64 < xs.length then xs.getD (at_ / 64).toNat 0 / 2 ^ (at_ % 64).toNat % 2 else 0
set_option maxHeartbeats 1000000 in
theorem bit_any (A : Option Addr) (c b0 n : Nat) (xs : List Int) (at_ : Int) (w : World) (hn : n = xs.length)
   (hx : Reads w b0 A (xs.map (Value.int .u64))) (hxb : ∀ x ∈ xs, 0 ≤ x ∧ x ≤ 18446744073709551615) (lx : n ≤ maxLen) (ha : -9223372036854775808 ≤ at_ ∧ at_ ≤ 9223372036854775807) :
    Calls Try.prog 36 #[.slice A n c, .int .i64 at_] w fun e w' => e = .returned (.int .u64 (bitN xs at_)) ∧ w = w' := by
  subst hn
  unfold maxLen at lx
  obtain ⟨ha1, ha2⟩ := ha
  by_cases h1 : at_ < 0
  · have e1 : bitN xs at_ = 0 := by unfold bitN; rw [if_neg (by omega)]
    rw [e1]
    clear e1
    go_enter Try.func36, Try.ntmps36
    go_wp2
    go_ret
    exact ⟨rfl, rfl⟩
  · by_cases h2 : at_ / 64 < xs.length
    · obtain ⟨m, rfl⟩ := Int.eq_ofNat_of_zero_le (show 0 ≤ at_ by omega)
      have hlt : m / 64 < xs.length := by omega
      obtain ⟨bx, ox, rfl, _, cx⟩ := hx.intAt hlt
      have hb := hxb _ (List.getElem_mem hlt)
      have e1 : bitN xs m = xs[m / 64] / 2 ^ (m % 64) % 2 := by
        unfold bitN
        have e2 : ((m : Int) / 64).toNat = m / 64 := by omega
        have e3 : ((m : Int) % 64).toNat = m % 64 := by omega
        rw [if_pos ⟨by omega, h2⟩, e2, e3, List.getD_eq_getElem?_getD, List.getElem?_eq_getElem hlt]
        rfl
      have E1 := hide e1
      have HB := hide hxb
      clear e1 hxb
      generalize xs[m / 64] = x at *
      go_enter Try.func36, Try.ntmps36
      go_wp2
      go_loop [5, 6] (fun v i => ∃ k : Nat, k ≤ m % 64 ∧ i = .int .i64 k ∧ v = .int .u64 (x / 2 ^ k)) (fun _ i => m % 64 - (intOf i).toNat)
      case atStart => exact ⟨0, by omega, rfl, by simp⟩
      case round =>
        obtain ⟨k, hk, rfl, rfl⟩ := hrel
        have hd0 : 0 ≤ x / 2 ^ k := Int.ediv_nonneg hb.1 (Int.le_of_lt (pow2_pos k))
        have hd1 : x / 2 ^ k ≤ 18446744073709551615 := Int.le_trans (Int.ediv_le_self _ hb.1) hb.2
        by_cases hlt2 : k < m % 64
        · go_wp2
          go_round
          case rel => exact ⟨k + 1, by omega, by go_num, by rw [div_two]⟩
          case measure => simp [intOf]; omega
        · have hkn : k = m % 64 := by omega
          subst hkn
          go_wp2
          go_ret
          exact ⟨ret_int E1.out.symm, rfl⟩
    · have e1 : bitN xs at_ = 0 := by unfold bitN; rw [if_neg (by omega)]
      rw [e1]
      clear e1
      go_enter Try.func36, Try.ntmps36
      go_wp2
      go_ret
      exact ⟨rfl, rfl⟩
end Go.Proofs.Ytnipbkplobpnhaa
