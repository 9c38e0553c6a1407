/-
  Noughts and runs.
-/
import Derived.Test.YtfmdnglcmbgpcaaPkA
namespace Go.Proofs.Ytfmdnglcmbgpcaa
open Go.RowKit Go.Proofs.Ytfmdnglcmbgpcaa.Pk

set_option maxHeartbeats 1000000 in
theorem noughts_any (x : Int) (h0 : 0 ≤ x) (h1 : x ≤ 18446744073709551615) (w : World) :
    Calls Try.prog 31 #[.int .u64 x] w fun e w' => e = .returned (.int .i64 (zs x 8 : Nat)) ∧ Below w.heap.size w w' := by
  go_enter Try.func31, Try.ntmps31
  go_wp2_with fail
  refine (bytes_any x h0 h1 _).mono ?_
  rintro e w1 ⟨rfl, hb1⟩
  go_wp2_with fail
  go_loop [3, 8] (fun v i => ∃ k : Nat, k ≤ 8 ∧ i = .int .i64 k ∧ v = .int .i64 (zs x k : Nat)) (fun _ i => 8 - (intOf i).toNat)
  case atStart => exact ⟨0, by omega, rfl, rfl⟩
  case round =>
    obtain ⟨k, hk, rfl, rfl⟩ := hrel
    have hz := zs_le x k
    by_cases hlt : k < 8
    · have hidx : ∀ w, (Instr.index 39 (.agg #[.int .u8 (bt x 0), .int .u8 (bt x 1), .int .u8 (bt x 2), .int .u8 (bt x 3), .int .u8 (bt x 4), .int .u8 (bt x 5), .int .u8 (bt x 6), .int .u8 (bt x 7)]) (.int .i64 (k : Int))).run Try.prog w = .ok (.int .u8 (bt x k)) w :=
        fun w => indexBytes _ k hlt _ (arr8_get (fun i => .int .u8 (bt x i)) k hlt) w
      go_wp2
      · go_round
        case rel =>
          have ht : (bt x k == 0) = true := by assumption
          have hne : bt x k = 0 := by simpa using ht
          exact ⟨k + 1, by omega, by go_num, by simp [zs, hne]⟩
        case measure => simp [intOf]; omega
      · go_round
        case rel =>
          have ht : (bt x k == 0) = false := by assumption
          have hne : bt x k ≠ 0 := by simpa using ht
          exact ⟨k + 1, by omega, by go_num, by simp [zs, hne]⟩
        case measure => simp [intOf]; omega
    · have hkn : k = 8 := by omega
      subst hkn
      go_wp2_with fail
      go_ret
      exact ⟨rfl, hb1⟩

set_option maxHeartbeats 1000000 in
theorem refNoughts_any (x : Int) (h0 : 0 ≤ x) (h1 : x ≤ 18446744073709551615) (w : World) :
    Calls Try.prog 23 #[.int .u64 x] w fun e w' => e = .returned (.int .i64 (zs x 8 : Nat)) ∧ Below w.heap.size w w' := by
  go_enter Try.func23, Try.ntmps23
  go_wp2_with fail
  refine (refBytes_any x h0 h1 _).mono ?_
  rintro e w1 ⟨rfl, hb1⟩
  go_wp2_with fail
  go_loopw [3, 5] (fun v i wr => ∃ k : Nat, k ≤ 8 ∧ i = .int .i64 k ∧ v = .int .i64 (zs x k : Nat) ∧ Blk wr w1.heap.size 39 (arrI (bt x)) ∧ Below w1.heap.size w1 wr) (fun _ i _ => 8 - (intOf i).toNat)
  case atStart => exact ⟨0, by omega, rfl, rfl, Blk.new _ _ _, (Below.refl _ _).alloc (Nat.le_refl _) _⟩
  case round =>
    obtain ⟨k, hk, rfl, rfl, hbx, hbe⟩ := hrel
    have hz := zs_le x k
    by_cases hlt : k < 8
    · have cx : wr.cell? ⟨w1.heap.size, k, none⟩ = some (.int .u8 (bt x k)) := by rw [hbx.cell]; exact arrI_get _ k hlt
      go_wp2
      · go_roundw
        case rel =>
          have ht : (bt x k == 0) = true := by assumption
          have hne : bt x k = 0 := by simpa using ht
          exact ⟨k + 1, by omega, by go_num, by simp [zs, hne], hbx, hbe⟩
        case measure => simp [intOf]; omega
      · go_roundw
        case rel =>
          have ht : (bt x k == 0) = false := by assumption
          have hne : bt x k ≠ 0 := by simpa using ht
          exact ⟨k + 1, by omega, by go_num, by simp [zs, hne], hbx, hbe⟩
        case measure => simp [intOf]; omega
    · have hkn : k = 8 := by omega
      subst hkn
      go_wp2_with fail
      go_ret
      exact ⟨rfl, below_step hb1 hbe⟩

theorem none_any (x : Int) (w : World) :
    Calls Try.prog 18 #[.int .u64 x] w fun e w' => e = .returned (.bool (isZ x)) ∧ Below w.heap.size w w' := by
  go_enter Try.func18, Try.ntmps18
  go_wp2_with fail
  go_ret
  exact ⟨rfl, Below.refl _ _⟩
theorem full_any (x : Int) (h0 : 0 ≤ x) (h1 : x ≤ 18446744073709551615) (w : World) :
    Calls Try.prog 19 #[.int .u64 x] w fun e w' => e = .returned (.bool (isF x)) ∧ Below w.heap.size w w' := by
  go_enter Try.func19, Try.ntmps19
  go_wp2_with fail
  refine (noughts_any x h0 h1 _).mono ?_
  rintro e w1 ⟨rfl, hb1⟩
  go_wp2_with fail
  go_ret
  refine ⟨?_, hb1⟩
  have : isF x = decide (((zs x 8 : Nat) : Int) ≤ 1) := by unfold isF; rw [decide_eq_decide]; omega
  rw [this]
  rfl
end Go.Proofs.Ytfmdnglcmbgpcaa
