/-
  The walk of LcsKeeps.
-/
import Derived.Test.YtpahgpmhnpfnhaaLcsQ
import Derived.Test.YtpahgpmhnpfnhaaLcsP
import Derived.Laws.StructEq
import Derived.Laws.Cover2
namespace Go.Proofs.Ytpahgpmhnpfnhaa
open Go.RowKit Go.Proofs.Ytpahgpmhnpfnhaa.Lcs Go.Proofs.Ytpahgpmhnpfnhaa.Scr

theorem eqThree (a b c : Int) (w : World) : (Op.equalIn 10000 38 (.agg #[.int .i64 a, .int .i64 b, .int .i64 c]) (.agg #[.int .i64 a, .int .i64 b, .int .i64 c])).run Try.prog w = .ok true w := by
  have u3 := Try.underlying3
  have a3 : ∀ w, (isAgg 3).run Try.prog w = .ok false w := fun w => by kernel_rfl
  have z3 : ∀ w, (sizeOf 3).run Try.prog w = .ok 1 w := fun w => by kernel_rfl
  rw [show (10000 : Nat) = 9999 + 1 from rfl, Op.equalIn]
  simp only [Sem.run_bind, run_underlying Try.underlying38, Result.andThen_ok]
  simp only [Std.Legacy.Range.forIn_eq_forIn_range', Std.Legacy.Range.size, Nat.sub_zero, Nat.add_sub_cancel, Nat.div_one, List.range'_succ, List.range'_zero, List.forIn_cons, List.forIn_nil]
  go_simp
theorem idxThree (a b c : Int) (w : World) : (Instr.index 38 (.agg #[.int .i64 a, .int .i64 b, .int .i64 c]) (.int .i64 0)).run Try.prog w = .ok (.int .i64 a) w := by
  obtain ⟨i0, hi, hz0, hz1, hz2⟩ := info_parts infoInt
  have isAggI : ∀ w, (isAgg 3).run Try.prog w = .ok false w := fun w => by kernel_rfl
  exact run_index_agg Try.underlying38 hi hz1 isAggI _ .i64 0 (by simp) _ rfl w

set_option maxHeartbeats 4000000 in
theorem keeps_walk (A : Option Addr) (n0 c : Nat) (a0 : List Int) (B : Option Addr) (m0 d : Nat) (b0 : List Int) (w : World) (hn0 : n0 = a0.length) (hc0 : n0 ≤ c) (hcm : c ≤ maxLen)
    (ha0 : Reads w w.heap.size A (a0.map (Value.int .i64))) (_h1 : ∀ x ∈ a0, -9223372036854775808 ≤ x ∧ x ≤ 9223372036854775807) (_h2 : n0 * 8 ≤ 140737488351232)
    (hm0 : m0 = b0.length) (hd0 : m0 ≤ d) (hdm : d ≤ maxLen)
    (hb0 : Reads w w.heap.size B (b0.map (Value.int .i64))) (_h3 : ∀ x ∈ b0, -9223372036854775808 ≤ x ∧ x ≤ 9223372036854775807) (_h4 : m0 * 8 ≤ 140737488351232) :
    Calls Try.prog 6 #[.slice A n0 c, .slice B m0 d] w fun e w' => e = .returned (.bool true) ∧ Below w.heap.size w w' := by
  obtain ⟨n, hn⟩ : ∃ n, (if n0 > 90 then 90 else n0) = n := ⟨_, rfl⟩
  obtain ⟨m, hm⟩ : ∃ m, (if m0 > 90 then 90 else m0) = m := ⟨_, rfl⟩
  obtain ⟨hnl, HA⟩ := ints_list A n0 a0 w _ hn0 ha0
  obtain ⟨hml, HB⟩ := ints_list B m0 b0 w _ hm0 hb0
  rw [hn] at hnl
  rw [hm] at hml
  generalize a0.take 90 = a at *
  generalize b0.take 90 = b at *
  have hn90 : n ≤ 90 ∧ n ≤ c := by rw [← hn]; split <;> omega
  have hm90 : m ≤ 90 ∧ m ≤ d := by rw [← hm]; split <;> omega
  have hlm0 : n0 ≤ maxLen := Nat.le_trans hc0 hcm
  have hlm1 : m0 ≤ maxLen := Nat.le_trans hd0 hdm
  have HLL := hide (diffL_len a b (by omega))
  have HLS := hide (diffL_len a a (by omega))
  have HF1 : Hid ((farT a b : Int) ≤ 180) := by show _ ≤ _; unfold farT; omega
  have HF2 : Hid ((farT a a : Int) ≤ 0) := by show _ ≤ _; rw [far_self]; decide
  have HL1 := hide (diff_leads a b (by omega))
  have HL2 := hide (diff_leads a a (by omega))
  have HK1 : Hid (countsS (diffL a b) = .agg #[.int .i64 (C (Lcs.mt a b) n m : Nat), .int .i64 (sum (cnt 1) (diffL a b)), .int .i64 (sum (cnt 2) (diffL a b))]) := by
    show _ = _
    unfold countsS
    rw [diff_kept a b (by omega), ← hnl, ← hml]
  have HK2 : Hid (countsS (diffL a a) = .agg #[.int .i64 (n : Nat), .int .i64 0, .int .i64 0]) := by
    show _ = _
    obtain ⟨s1, s2, s3⟩ := diff_self a (by omega)
    unfold countsS
    rw [s1, s2, s3, ← hnl]
  have HFN := hide hn
  have HFM := hide hm
  have HN := hide hnl
  have HM := hide hml
  clear hn hm hnl hml ha0 hb0 hn0 hm0 _h1 _h3
  obtain ⟨T, hT⟩ : ∃ T, C (Lcs.mt a b) n m = T := ⟨_, rfl⟩
  rw [hT] at HK1
  have HT := hide hT
  clear hT
  generalize sum (cnt 1) (diffL a b) = X1 at *
  generalize sum (cnt 2) (diffL a b) = X2 at *
  go_enter Try.func6, Try.ntmps6
  go_wp2_with fail
  refine (few_any A n0 c _ hlm0 hc0).mono ?_
  rintro e w1 ⟨rfl, rfl⟩
  rw [HFN.out]
  go_wp2_with fail
  refine (few_any B m0 d _ hlm1 hd0).mono ?_
  rintro e w1 ⟨rfl, rfl⟩
  rw [HFM.out]
  go_wp2_with fail
  refine (diff_any A n c a B m d b 180 w.heap.size _ HN.out HM.out HA.out HB.out (Nat.le_refl _) (by omega) (by omega) hn90.2 hcm hm90.2 hdm (by decide)).mono ?_
  intro e w1 hP
  obtain ⟨A1, n1, c1, rfl, hn1, hc1, -, R1, hb1⟩ := hP.got HF1.out
  have HN1 := hide hn1
  have HA := rd_step HA hb1
  have HB := rd_step HB hb1
  have hn1' : n1 ≤ 1000 := by rw [hn1]; exact HLL.out
  have hW := hb1
  clear hP hn1 hb1
  go_wp2_with fail
  refine (diff_any A n c a A n c a 0 w1.heap.size _ HN.out HN.out HA.out HA.out (Nat.le_refl _) (by omega) (by omega) hn90.2 hcm hn90.2 hcm (by decide)).mono ?_
  intro e w2 hP
  obtain ⟨A2, n2, c2, rfl, hn2, hc2, -, R2, hb2⟩ := hP.got HF2.out
  have HN2 := hide hn2
  have R1 := rd_step R1 hb2
  have HA := rd_step HA hb2
  have HB := rd_step HB hb2
  have hW := below_step hW hb2
  have hn2' : n2 ≤ 1000 := by rw [hn2]; exact HLS.out
  clear hP hn2 hb2
  go_wp2_with fail
  refine (leads_any A1 n1 c1 w2.heap.size (diffL a b) A n c a B m d b _ HN1.out R1.out HN.out HA.out HM.out HB.out (Nat.le_refl _) (by omega) hn90.2 hcm hm90.2 hdm).mono ?_
  rintro e w3 ⟨rfl, hb3⟩
  rw [HL1.out]
  have R1 := rd_step R1 hb3
  have R2 := rd_step R2 hb3
  have HA := rd_step HA hb3
  have HB := rd_step HB hb3
  have hW := below_step hW hb3
  clear hb3
  go_wp2_with fail
  refine (leads_any A2 n2 c2 w3.heap.size (diffL a a) A n c a A n c a _ HN2.out R2.out HN.out HA.out HN.out HA.out (Nat.le_refl _) (by omega) hn90.2 hcm hn90.2 hcm).mono ?_
  rintro e w4 ⟨rfl, hb4⟩
  rw [HL2.out]
  have R1 := rd_step R1 hb4
  have R2 := rd_step R2 hb4
  have HA := rd_step HA hb4
  have HB := rd_step HB hb4
  have hW := below_step hW hb4
  clear hb4
  have hix := idxThree (T : Int) X1 X2
  have heq := eqThree (n : Int) 0 0
  go_wp2_with fail
  refine (counts_any A1 n1 c1 w4.heap.size (diffL a b) _ HN1.out R1.out (Nat.le_refl _) (by omega)).mono ?_
  rintro e w5 ⟨rfl, hb5⟩
  rw [HK1.out]
  have R2 := rd_step R2 hb5
  have HA := rd_step HA hb5
  have HB := rd_step HB hb5
  have hW := below_step hW hb5
  clear hb5
  go_wp2_with fail
  refine (refCommon_any A n c a B m d b w5.heap.size _ HN.out HM.out HA.out HB.out (Nat.le_refl _) (by omega) (by omega)).mono ?_
  rintro e w6 ⟨rfl, hb6⟩
  rw [HT.out]
  have R2 := rd_step R2 hb6
  have hW := below_step hW hb6
  clear hb6
  go_wp2_with fail
  refine (counts_any A2 n2 c2 w6.heap.size (diffL a a) _ HN2.out R2.out (Nat.le_refl _) (by omega)).mono ?_
  rintro e w7 ⟨rfl, hb7⟩
  rw [HK2.out]
  have hW := below_step hW hb7
  clear hb7
  go_wp2_with fail
  refine (awake_any _).mono ?_
  rintro e w8 ⟨rfl, hb8⟩
  have hW := below_step hW hb8
  clear hb8
  go_wp2_with fail
  go_ret
  exact ⟨rfl, hW⟩
end Go.Proofs.Ytpahgpmhnpfnhaa
