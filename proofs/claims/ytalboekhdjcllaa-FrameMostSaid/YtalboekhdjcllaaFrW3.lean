/-
  The walk of the law on how many segments there are.
-/
import Derived.Test.YtalboekhdjcllaaFrW1
namespace Go.Proofs.Ytalboekhdjcllaa
open Go.RowKit

theorem and_mask (n : Int) (k : Nat) (hk : k ≤ 62) : bits .and .i64 n (2 ^ k - 1 : Nat) = n % (2 ^ k : Nat) := by
  have hp : 2 ^ k ≤ 2 ^ 62 := Nat.pow_le_pow_right (by decide) hk
  have hp0 : 0 < 2 ^ k := Nat.two_pow_pos k
  have h1 : (BitVec.ofInt 64 ((2 ^ k - 1 : Nat) : Int)).toNat = 2 ^ k - 1 := by
    rw [BitVec.toNat_ofInt]
    omega
  show IntKind.i64.wrap ((BitVec.ofInt 64 n &&& BitVec.ofInt 64 ((2 ^ k - 1 : Nat) : Int)).toNat : Int) = _
  rw [BitVec.toNat_and, h1, Nat.and_two_pow_sub_one_eq_mod, BitVec.toNat_ofInt, IntKind.wrap_i64, Int.natCast_emod]
  have h2 : (((n % ((2 ^ 64 : Nat) : Int)).toNat : Nat) : Int) = n % ((2 ^ 64 : Nat) : Int) := by omega
  rw [h2]
  have h3 : n % ((2 ^ 64 : Nat) : Int) % ((2 ^ k : Nat) : Int) = n % ((2 ^ k : Nat) : Int) := by
    apply Int.emod_emod_of_dvd
    exact Int.natCast_dvd_natCast.2 (Nat.pow_dvd_pow 2 (by omega))
  rw [h3]
  have h4 : 0 ≤ n % ((2 ^ k : Nat) : Int) := Int.emod_nonneg _ (by omega)
  have h5 : n % ((2 ^ k : Nat) : Int) < ((2 ^ k : Nat) : Int) := Int.emod_lt_of_pos _ (by omega)
  omega

theorem segs_made (w : World) (m : Nat) : SegsAt (w.alloc (.cells (madeCells #[.slice none 0 0] m) 38)) (w.alloc (.cells (madeCells #[.slice none 0 0] m) 38)).heap.size (some ⟨w.heap.size, 0, none⟩) (List.replicate m (.slice none 0 0)) (List.replicate m []) := by
  refine ⟨Reads.of_lit (by simp) fun j u hu => ?_, by simp, fun i h1 h2 => ?_⟩
  · rw [Nat.zero_add, (Blk.new w _ _).cell]
    rw [List.getElem?_replicate] at hu
    split at hu
    · rename_i hj
      injection hu with hu
      subst hu
      simp [madeCells, hj, Nat.mod_one]
    · cases hu
  · rw [List.getElem_replicate, List.getElem_replicate]
    exact ⟨none, 0, 0, rfl, rfl, Reads.none_, fun x hx => by simp at hx, by omega⟩

theorem ok_made (m : Nat) : okSegs (List.replicate m []) = (decide (1 ≤ m) && decide (m ≤ 16)) := by
  unfold okSegs
  rw [List.length_replicate]
  have : ((List.replicate m ([] : List Int)).all fun x => decide (x.length ≤ 65536)) = true := by
    rw [List.all_eq_true]
    intro x hx
    rw [(List.mem_replicate.1 hx).2]
    decide
  rw [this, Bool.and_true]

set_option maxHeartbeats 4000000 in
theorem most_walk (n : Int) (hn : -9223372036854775808 ≤ n ∧ n ≤ 9223372036854775807) (w : World) :
    Calls Try.prog 5 #[.int .i64 n] w fun e w' => e = .returned (.bool true) ∧ Below w.heap.size w w' := by
  obtain ⟨i0, hi, hz0, hz1, hz2⟩ := info_parts infoSlice
  have hmask : bits .and .i64 n 31 = n % 32 := and_mask n 5 (by omega)
  obtain ⟨m, hm⟩ : ∃ m : Nat, n % 32 = (m : Int) := ⟨(n % 32).toNat, by omega⟩
  have hm32 : m < 32 := by omega
  rw [hm] at hmask
  have hmk : ∀ W : World, (Instr.makeSlice 22 (.int .i64 m) (.int .i64 m)).run Try.prog W = .ok (.slice (some ⟨W.heap.size, 0, none⟩) m m) (W.alloc (.cells (madeCells #[.slice none 0 0] m) 38)) := fun W => by
    have h := run_make (P := Try.prog) W 22 38 i0 (.slice none 0 0) Try.underlying22 hi hz0 .i64 .i64 (m : Int) (m : Int) (by omega) (by omega) (by rw [hz2]; omega) (by omega)
    simpa [hz1, Value.cells] using h
  have HOK := hide (ok_made m)
  clear hm
  have hdec : (decide (1 ≤ m) && decide (m ≤ 16)) = true ∨ (decide (1 ≤ m) && decide (m ≤ 16)) = false := by cases (decide (1 ≤ m) && decide (m ≤ 16)) <;> simp
  go_enter Try.func5, Try.ntmps5
  go_wp2_with fail
  have hb0 : Below w.heap.size w (w.alloc (.cells (madeCells #[.slice none 0 0] m) 38)) := (Below.refl _ _).alloc (Nat.le_refl _) _
  have HS0 := hide (segs_made w m)
  generalize (w.alloc (.cells (madeCells #[.slice none 0 0] m) 38)) = w0 at *
  refine (frame_any _ m m w0.heap.size _ (List.replicate m []) _ (by simp) HS0.out (Nat.le_refl _) (by unfold maxLen; omega)).mono ?_
  intro e w1 hp
  by_cases hc : 1 ≤ m ∧ m ≤ 16
  · obtain ⟨hc1, hc2⟩ := hc
    obtain ⟨h1, A2, n2, c2, rfl, -, -, -, -⟩ := hp.yes (by rw [HOK.out]; simp [hc1, hc2])
    have h11 := hb0.trans (h1.mono hb0.size)
    clear hp
    go_wp2_with fail
    refine (awake_any _).mono ?_
    rintro e w8 ⟨rfl, h8⟩
    go_wp2_with fail
    go_ret
    exact ⟨rfl, below_step h11 h8⟩
  · have hok : okSegs (List.replicate m []) = false := by
      rw [HOK.out]
      by_cases h : 1 ≤ m
      · simp [h]; omega
      · simp [h]
    obtain ⟨h1, rfl⟩ := hp.no hok
    have h11 := hb0.trans (h1.mono hb0.size)
    have hcc : (m : Int) < 1 ∨ (16 < (m : Int) ∧ decide ((m : Int) ≤ 16) = false) := by
      by_cases h : (m : Int) < 1
      · exact .inl h
      · have h2 : 16 < (m : Int) := by omega
        exact .inr ⟨h2, by simp; omega⟩
    clear hp hok hc
    rcases hcc with hcc | ⟨hcc, hd⟩
    all_goals
      go_wp2_with fail
      refine (awake_any _).mono ?_
      rintro e w8 ⟨rfl, h8⟩
      go_wp2_with fail
      go_ret
      exact ⟨rfl, below_step h11 h8⟩
end Go.Proofs.Ytalboekhdjcllaa
