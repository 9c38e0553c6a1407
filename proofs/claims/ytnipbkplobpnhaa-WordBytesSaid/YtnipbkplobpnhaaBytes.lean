/-
  The walk of the law on a word's bytes.
-/
import Derived.Test.YtnipbkplobpnhaaWordW
import Derived.Test.YtnipbkplobpnhaaArr
import Derived.Deep.RegionWith
import Derived.Deep.RegionHeld3
namespace Go.Proofs.Ytnipbkplobpnhaa
open Go.RowKit

theorem of_bt (x : Int) (x0 : 0 ≤ x) (x1 : x ≤ 18446744073709551615) (w : World) :
    Calls Try.prog 16 #[.agg #[.int .u8 (bt x 0), .int .u8 (bt x 1), .int .u8 (bt x 2), .int .u8 (bt x 3), .int .u8 (bt x 4), .int .u8 (bt x 5), .int .u8 (bt x 6), .int .u8 (bt x 7)]] w fun e w' => e = .returned (.int .u64 x) ∧ Below w.heap.size w w' := by
  have h := of_any (bt x 0) (bt x 1) (bt x 2) (bt x 3) (bt x 4) (bt x 5) (bt x 6) (bt x 7) ⟨bt_nonneg x 0, bt_le x 0⟩ ⟨bt_nonneg x 1, bt_le x 1⟩ ⟨bt_nonneg x 2, bt_le x 2⟩ ⟨bt_nonneg x 3, bt_le x 3⟩ ⟨bt_nonneg x 4, bt_le x 4⟩ ⟨bt_nonneg x 5, bt_le x 5⟩ ⟨bt_nonneg x 6, bt_le x 6⟩ ⟨bt_nonneg x 7, bt_le x 7⟩ w
  have hj : bt x 0 + 256 * bt x 1 + 65536 * bt x 2 + 16777216 * bt x 3 + 4294967296 * bt x 4 + 1099511627776 * bt x 5 + 281474976710656 * bt x 6 + 72057594037927936 * bt x 7 = x := join8_bt x x0 x1
  rw [hj] at h
  exact h

set_option maxHeartbeats 2000000 in
theorem wordBytes_walk (x : Int) (hx : 0 ≤ x ∧ x ≤ 18446744073709551615) (w : World) :
    Calls Try.prog 4 #[.int .u64 x] w fun e w' => e = .returned (.bool true) ∧ Below w.heap.size w w' := by
  obtain ⟨x0, x1⟩ := hx
  have heq : ∀ W, (Op.equalIn 10000 28 (.agg #[.int .u8 (bt x 0), .int .u8 (bt x 1), .int .u8 (bt x 2), .int .u8 (bt x 3), .int .u8 (bt x 4), .int .u8 (bt x 5), .int .u8 (bt x 6), .int .u8 (bt x 7)]) (.agg #[.int .u8 (bt x 0), .int .u8 (bt x 1), .int .u8 (bt x 2), .int .u8 (bt x 3), .int .u8 (bt x 4), .int .u8 (bt x 5), .int .u8 (bt x 6), .int .u8 (bt x 7)])).run Try.prog W = .ok true W := fun W => by
    obtain ⟨i0, hi, hz0, hz1, hz2⟩ := info_parts infoByte
    have h := run_equalIn_ints W 9998 Try.underlying28 hi hz1 Try.underlying5 isAggByte [bt x 0, bt x 1, bt x 2, bt x 3, bt x 4, bt x 5, bt x 6, bt x 7] [bt x 0, bt x 1, bt x 2, bt x 3, bt x 4, bt x 5, bt x 6, bt x 7] rfl rfl
    simpa using h
  go_enter Try.func4, Try.ntmps4
  go_wp2_with fail
  refine (bytes_any x x0 x1 _).mono ?_
  rintro e w1 ⟨rfl, h1⟩
  go_wp2_with fail
  go_region_with (first | (go_at_call 15; refine (refBytes_any x x0 x1 _).mono ?_; rintro e w2 ⟨rfl, h2⟩; have hc2 := (bcell h2).1) | (go_at_call 16; refine (of_bt x x0 x1 _).mono ?_; rintro e w3 ⟨rfl, h3⟩; have hc3 := (bcell h3).1) | (go_at_call 13; refine (awake_any _).mono ?_; rintro e w4 ⟨rfl, h4⟩))
  all_goals
    go_wp2_with fail
    go_ret
    refine ⟨rfl, ?_⟩
    exact below_step ((Below.refl _ _).trans h1) (((((Below.refl _ _).alloc (Nat.le_refl _) _).drew.trans (h2.mono (by simp))).trans (h3.mono (by have := h2.size; simp at this; omega))).trans (h4.mono (by have := h2.size; have := h3.size; simp at *; omega)))
end Go.Proofs.Ytnipbkplobpnhaa
