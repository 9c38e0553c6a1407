/-
  What package word and its reference do with one word: its bytes, the word of eight bytes.
-/
import Derived.Test.YtnipbkplobpnhaaLib
namespace Go.Proofs.Ytnipbkplobpnhaa
open Go.RowKit

theorem isAggByte (w : World) : (isAgg 5).run Try.prog w = .ok false w := by kernel_rfl
theorem infoByte : (Try.prog.info? 5).map (fun i => (i.zero, i.size, i.bytes)) = some (some (.int .u8 0), 1, 1) := by kernel_rfl
theorem infoWord : (Try.prog.info? 22).map (fun i => (i.zero, i.size, i.bytes)) = some (some (.int .u64 0), 1, 8) := by kernel_rfl
theorem infoInt : (Try.prog.info? 3).map (fun i => (i.zero, i.size, i.bytes)) = some (some (.int .i64 0), 1, 8) := by kernel_rfl
theorem indexBytes (cs : Array Value) (j : Nat) (hj : j < 8) (v : Value) (hv : cs[j]? = some v) (w : World) :
    (Instr.index 28 (.agg cs) (.int .i64 (j : Int))).run Try.prog w = .ok v w := by
  obtain ⟨i0, hi, hz0, hz1, hz2⟩ := info_parts infoByte
  exact run_index_agg Try.underlying28 hi hz1 isAggByte cs .i64 j hj v hv w

/-- two numbers whose bits lie apart -/
theorem or_join (i : Nat) (m x y : Int) (hm : m = 2 ^ i) (hx : 0 ≤ x) (hxm : x < m) (hx2 : x < 18446744073709551616) (hy : 0 ≤ y) (hy2 : y < 18446744073709551616) (hd : y % m = 0) :
    bits .or .u64 x y = x + y := by
  rw [u64_or x y hx hx2 hy hy2, Nat.or_comm, nat_join i y.toNat x.toNat]
  · omega
  · subst hm
    have : ((y.toNat % 2 ^ i : Nat) : Int) = 0 := by
      rw [Int.natCast_emod, Int.toNat_of_nonneg hy]
      simpa using hd
    exact_mod_cast this
  · subst hm
    have : ((x.toNat : Nat) : Int) < ((2 ^ i : Nat) : Int) := by
      rw [Int.toNat_of_nonneg hx]
      simpa using hxm
    exact_mod_cast this
theorem or_eight (b0 b1 b2 b3 b4 b5 b6 b7 : Int) (h0 : 0 ≤ b0 ∧ b0 ≤ 255) (h1 : 0 ≤ b1 ∧ b1 ≤ 255) (h2 : 0 ≤ b2 ∧ b2 ≤ 255) (h3 : 0 ≤ b3 ∧ b3 ≤ 255) (h4 : 0 ≤ b4 ∧ b4 ≤ 255) (h5 : 0 ≤ b5 ∧ b5 ≤ 255) (h6 : 0 ≤ b6 ∧ b6 ≤ 255) (h7 : 0 ≤ b7 ∧ b7 ≤ 255) :
    bits .or .u64 (bits .or .u64 (bits .or .u64 (bits .or .u64 (bits .or .u64 (bits .or .u64 (bits .or .u64 (bits .or .u64 0 b0) (b1 * 256)) (b2 * 65536)) (b3 * 16777216)) (b4 * 4294967296)) (b5 * 1099511627776)) (b6 * 281474976710656)) (b7 * 72057594037927936) =
    b0 + 256 * b1 + 65536 * b2 + 16777216 * b3 + 4294967296 * b4 + 1099511627776 * b5 + 281474976710656 * b6 + 72057594037927936 * b7 := by
  rw [or_join 0 1 0 b0 (by decide) (by omega) (by omega) (by omega) (by omega) (by omega) (by omega)]
  rw [or_join 8 256 _ (b1 * 256) (by decide) (by omega) (by omega) (by omega) (by omega) (by omega) (by omega)]
  rw [or_join 16 65536 _ (b2 * 65536) (by decide) (by omega) (by omega) (by omega) (by omega) (by omega) (by omega)]
  rw [or_join 24 16777216 _ (b3 * 16777216) (by decide) (by omega) (by omega) (by omega) (by omega) (by omega) (by omega)]
  rw [or_join 32 4294967296 _ (b4 * 4294967296) (by decide) (by omega) (by omega) (by omega) (by omega) (by omega) (by omega)]
  rw [or_join 40 1099511627776 _ (b5 * 1099511627776) (by decide) (by omega) (by omega) (by omega) (by omega) (by omega) (by omega)]
  rw [or_join 48 281474976710656 _ (b6 * 281474976710656) (by decide) (by omega) (by omega) (by omega) (by omega) (by omega) (by omega)]
  rw [or_join 56 72057594037927936 _ (b7 * 72057594037927936) (by decide) (by omega) (by omega) (by omega) (by omega) (by omega) (by omega)]
  omega

/-- byte i of a word -/
def bt (x : Int) (i : Nat) : Int := x / 256 ^ i % 256
theorem bt_nonneg (x : Int) (i : Nat) : 0 ≤ bt x i := by unfold bt; omega
theorem bt_le (x : Int) (i : Nat) : bt x i ≤ 255 := by unfold bt; omega

set_option maxHeartbeats 1000000 in
theorem bytes_any (x : Int) (h0 : 0 ≤ x) (h1 : x ≤ 18446744073709551615) (w : World)  :
    Calls Try.prog 14 #[.int .u64 x] w fun e w' => e = .returned (.agg #[.int .u8 (bt x 0), .int .u8 (bt x 1), .int .u8 (bt x 2), .int .u8 (bt x 3), .int .u8 (bt x 4), .int .u8 (bt x 5), .int .u8 (bt x 6), .int .u8 (bt x 7)]) ∧ Below w.heap.size w w' := by
  go_enter Try.func14, Try.ntmps14
  go_wp2
  go_rounds 9
  go_returns
  refine ⟨?_, by go_grown⟩
  have e7 : x / 72057594037927936 % 256 = x / 72057594037927936 := by omega
  simp [bt, e7]

set_option maxHeartbeats 1000000 in
theorem refBytes_any (x : Int) (h0 : 0 ≤ x) (h1 : x ≤ 18446744073709551615) (w : World)  :
    Calls Try.prog 15 #[.int .u64 x] w fun e w' => e = .returned (.agg #[.int .u8 (bt x 0), .int .u8 (bt x 1), .int .u8 (bt x 2), .int .u8 (bt x 3), .int .u8 (bt x 4), .int .u8 (bt x 5), .int .u8 (bt x 6), .int .u8 (bt x 7)]) ∧ Below w.heap.size w w' := by
  go_enter Try.func15, Try.ntmps15
  go_wp2
  go_rounds 9
  go_returns
  refine ⟨?_, by go_grown⟩
  have e2 : x / 256 / 256 = x / 65536 := by omega
  have e3 : x / 65536 / 256 = x / 16777216 := by omega
  have e4 : x / 16777216 / 256 = x / 4294967296 := by omega
  have e5 : x / 4294967296 / 256 = x / 1099511627776 := by omega
  have e6 : x / 1099511627776 / 256 = x / 281474976710656 := by omega
  have e7 : x / 281474976710656 / 256 = x / 72057594037927936 := by omega
  simp [bt, e2, e3, e4, e5, e6, e7]

set_option maxHeartbeats 1000000 in
theorem of_any (b0 b1 b2 b3 b4 b5 b6 b7 : Int) (h0 : 0 ≤ b0 ∧ b0 ≤ 255) (h1 : 0 ≤ b1 ∧ b1 ≤ 255) (h2 : 0 ≤ b2 ∧ b2 ≤ 255) (h3 : 0 ≤ b3 ∧ b3 ≤ 255) (h4 : 0 ≤ b4 ∧ b4 ≤ 255) (h5 : 0 ≤ b5 ∧ b5 ≤ 255) (h6 : 0 ≤ b6 ∧ b6 ≤ 255) (h7 : 0 ≤ b7 ∧ b7 ≤ 255) (w : World)  :
    Calls Try.prog 16 #[.agg #[.int .u8 b0, .int .u8 b1, .int .u8 b2, .int .u8 b3, .int .u8 b4, .int .u8 b5, .int .u8 b6, .int .u8 b7]] w fun e w' => e = .returned (.int .u64 (b0 + 256 * b1 + 65536 * b2 + 16777216 * b3 + 4294967296 * b4 + 1099511627776 * b5 + 281474976710656 * b6 + 72057594037927936 * b7)) ∧ Below w.heap.size w w' := by
  have i0 : ∀ w, (Instr.index 28 (.agg #[.int .u8 b0, .int .u8 b1, .int .u8 b2, .int .u8 b3, .int .u8 b4, .int .u8 b5, .int .u8 b6, .int .u8 b7]) (.int .i64 0)).run Try.prog w = .ok (.int .u8 b0) w := fun w => indexBytes _ 0 (by omega) _ rfl w
  have i1 : ∀ w, (Instr.index 28 (.agg #[.int .u8 b0, .int .u8 b1, .int .u8 b2, .int .u8 b3, .int .u8 b4, .int .u8 b5, .int .u8 b6, .int .u8 b7]) (.int .i64 1)).run Try.prog w = .ok (.int .u8 b1) w := fun w => indexBytes _ 1 (by omega) _ rfl w
  have i2 : ∀ w, (Instr.index 28 (.agg #[.int .u8 b0, .int .u8 b1, .int .u8 b2, .int .u8 b3, .int .u8 b4, .int .u8 b5, .int .u8 b6, .int .u8 b7]) (.int .i64 2)).run Try.prog w = .ok (.int .u8 b2) w := fun w => indexBytes _ 2 (by omega) _ rfl w
  have i3 : ∀ w, (Instr.index 28 (.agg #[.int .u8 b0, .int .u8 b1, .int .u8 b2, .int .u8 b3, .int .u8 b4, .int .u8 b5, .int .u8 b6, .int .u8 b7]) (.int .i64 3)).run Try.prog w = .ok (.int .u8 b3) w := fun w => indexBytes _ 3 (by omega) _ rfl w
  have i4 : ∀ w, (Instr.index 28 (.agg #[.int .u8 b0, .int .u8 b1, .int .u8 b2, .int .u8 b3, .int .u8 b4, .int .u8 b5, .int .u8 b6, .int .u8 b7]) (.int .i64 4)).run Try.prog w = .ok (.int .u8 b4) w := fun w => indexBytes _ 4 (by omega) _ rfl w
  have i5 : ∀ w, (Instr.index 28 (.agg #[.int .u8 b0, .int .u8 b1, .int .u8 b2, .int .u8 b3, .int .u8 b4, .int .u8 b5, .int .u8 b6, .int .u8 b7]) (.int .i64 5)).run Try.prog w = .ok (.int .u8 b5) w := fun w => indexBytes _ 5 (by omega) _ rfl w
  have i6 : ∀ w, (Instr.index 28 (.agg #[.int .u8 b0, .int .u8 b1, .int .u8 b2, .int .u8 b3, .int .u8 b4, .int .u8 b5, .int .u8 b6, .int .u8 b7]) (.int .i64 6)).run Try.prog w = .ok (.int .u8 b6) w := fun w => indexBytes _ 6 (by omega) _ rfl w
  have i7 : ∀ w, (Instr.index 28 (.agg #[.int .u8 b0, .int .u8 b1, .int .u8 b2, .int .u8 b3, .int .u8 b4, .int .u8 b5, .int .u8 b6, .int .u8 b7]) (.int .i64 7)).run Try.prog w = .ok (.int .u8 b7) w := fun w => indexBytes _ 7 (by omega) _ rfl w
  go_enter Try.func16, Try.ntmps16
  go_wp2
  go_rounds 9
  go_returns
  exact ⟨ret_int (or_eight _ _ _ _ _ _ _ _ h0 h1 h2 h3 h4 h5 h6 h7), by go_grown⟩

end Go.Proofs.Ytnipbkplobpnhaa
