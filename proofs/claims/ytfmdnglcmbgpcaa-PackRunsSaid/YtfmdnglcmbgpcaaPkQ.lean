/-
  The walk of PackRuns.
-/
import Derived.Test.YtfmdnglcmbgpcaaPkM
import Derived.Test.YtfmdnglcmbgpcaaPkN
namespace Go.Proofs.Ytfmdnglcmbgpcaa
open Go.RowKit Go.Proofs.Ytfmdnglcmbgpcaa.Pk

theorem and_mask (n : Int) (k : Nat) (hk : k ≤ 62) : bits .and .i64 n (2 ^ k - 1 : Nat) = n % (2 ^ k : Nat) := by
  have hp : 2 ^ k ≤ 2 ^ 62 := Nat.pow_le_pow_right (by decide) hk
  have hp0 : 0 < 2 ^ k := Nat.two_pow_pos k
  have h1 : (BitVec.ofInt 64 ((2 ^ k - 1 : Nat) : Int)).toNat = 2 ^ k - 1 := by
    rw [BitVec.toNat_ofInt]
    omega
  show IntKind.i64.wrap ((BitVec.ofInt 64 n &&& BitVec.ofInt 64 ((2 ^ k - 1 : Nat) : Int)).toNat : Int) = _
  rw [BitVec.toNat_and, h1, Nat.and_two_pow_sub_one_eq_mod, BitVec.toNat_ofInt, IntKind.wrap_i64, Int.natCast_emod]
  have h2 : (((n % ((2 ^ 64 : Nat) : Int)).toNat : Nat) : Int) = n % ((2 ^ 64 : Nat) : Int) := by omega
  rw [h2]
  have h3 : n % ((2 ^ 64 : Nat) : Int) % ((2 ^ k : Nat) : Int) = n % ((2 ^ k : Nat) : Int) := by
    apply Int.emod_emod_of_dvd
    exact Int.natCast_dvd_natCast.2 (Nat.pow_dvd_pow 2 (by omega))
  rw [h3]
  have h4 : 0 ≤ n % ((2 ^ k : Nat) : Int) := Int.emod_nonneg _ (by omega)
  have h5 : n % ((2 ^ k : Nat) : Int) < ((2 ^ k : Nat) : Int) := Int.emod_lt_of_pos _ (by omega)
  omega

theorem u64s_zero (n : Nat) : u64s (List.replicate n 0) := fun x hx => by
  rw [(List.mem_replicate.1 hx).2]
  decide
set_option maxHeartbeats 4000000 in
theorem runs_walk (n : Int) (w : World) (hn : -9223372036854775808 ≤ n ∧ n ≤ 9223372036854775807) :
    Calls Try.prog 6 #[.int .i64 n] w fun e w' => e = .returned (.bool true) ∧ Below w.heap.size w w' := by
  obtain ⟨i0, hi, hz0, hz1, hz2⟩ := info_parts infoWord
  have hmask : bits .and .i64 n 1023 = n % 1024 := and_mask n 10 (by omega)
  obtain ⟨m, hm⟩ : ∃ m : Nat, n % 1024 = (m : Int) := ⟨(n % 1024).toNat, by omega⟩
  have hm10 : m < 1024 := by omega
  rw [hm] at hmask
  have hmk : ∀ W : World, (Instr.makeSlice 22 (.int .i64 (m : Int)) (.int .i64 (m : Int))).run Try.prog W = .ok (.slice (some ⟨W.heap.size, 0, none⟩) m m) (W.alloc (.cells (madeCells #[.int .u64 0] m) 38)) := fun W => by
    have h := run_make (P := Try.prog) W 22 38 i0 (.int .u64 0) Try.underlying22 hi hz0 .i64 .i64 (m : Int) (m : Int) (by omega) (by omega) (by rw [hz2]; omega) (by omega)
    rw [Int.toNat_natCast] at h
    simpa [hz1, Value.cells] using h
  clear hm
  have HM : Hid (Reads (w.alloc (.cells (madeCells #[.int .u64 0] m) 38)) (w.alloc (.cells (madeCells #[.int .u64 0] m) 38)).heap.size (some ⟨w.heap.size, 0, none⟩) ((List.replicate m (0 : Int)).map (Value.int .u64))) :=
    Reads.of_lit (by simp) fun j u hu => by
      rw [Nat.zero_add, (Blk.new w _ _).cell, ← Array.getElem?_toList, toList_madeCells_one]
      simpa using hu
  have hb0 : Below w.heap.size w (w.alloc (.cells (madeCells #[.int .u64 0] m) 38)) := (Below.refl _ _).alloc (Nat.le_refl _) _
  have HRL := hide (runs_len m)
  go_enter Try.func6, Try.ntmps6
  go_wp2_with fail
  generalize (w.alloc (.cells (madeCells #[.int .u64 0] m) 38)) = w0 at *
  refine (pack_any _ m m w0.heap.size (List.replicate m 0) _ (List.length_replicate ..).symm HM.out (Nat.le_refl _) (by omega) (Nat.le_refl _) (by unfold maxLen; omega) (u64s_zero m)).mono ?_
  rintro e w1 ⟨hb1, A1, n1, c1, rfl, hn1, -, -, -, hr1⟩
  have hn1' : n1 = 2 * ((m + 255) / 256) := by rw [hn1]; exact HRL.out
  have hq : Int.tdiv ((m : Int) + 255) 256 = (((m + 255) / 256 : Nat) : Int) := by
    rw [Int.tdiv_eq_ediv_of_nonneg (by omega)]
    omega
  have hn1i : (n1 : Int) = 2 * (((m + 255) / 256 : Nat) : Int) := by omega
  have hq2 : (m + 255) / 256 ≤ 5 := by omega
  have hW1 := below_step hb0 hb1
  clear hn1 hr1 HRL hn1'
  generalize (m + 255) / 256 = g at *
  have hbq : ((n1 : Int) == 2 * (g : Int)) = true := by simpa using hn1i
  go_wp2_with fail
  refine (awake_any _).mono ?_
  rintro e w9 ⟨rfl, hb9⟩
  go_wp2_with fail
  go_ret
  exact ⟨rfl, below_step hW1 hb9⟩
end Go.Proofs.Ytfmdnglcmbgpcaa
