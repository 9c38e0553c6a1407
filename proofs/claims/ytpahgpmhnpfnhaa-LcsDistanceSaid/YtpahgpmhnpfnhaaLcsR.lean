/-
  The walk of LcsDistance.
-/
import Derived.Test.YtpahgpmhnpfnhaaLcsK
import Derived.Test.YtpahgpmhnpfnhaaLcsO
namespace Go.Proofs.Ytpahgpmhnpfnhaa
open Go.RowKit Go.Proofs.Ytpahgpmhnpfnhaa.Lcs Go.Proofs.Ytpahgpmhnpfnhaa.Scr

set_option maxHeartbeats 4000000 in
theorem distance_walk (A : Option Addr) (n0 c : Nat) (a0 : List Int) (B : Option Addr) (m0 d : Nat) (b0 : List Int) (most : Int) (w : World) (hn0 : n0 = a0.length) (hc0 : n0 ≤ c) (hcm : c ≤ maxLen)
    (ha0 : Reads w w.heap.size A (a0.map (Value.int .i64))) (_h1 : ∀ x ∈ a0, -9223372036854775808 ≤ x ∧ x ≤ 9223372036854775807) (_h2 : n0 * 8 ≤ 140737488351232)
    (hm0 : m0 = b0.length) (hd0 : m0 ≤ d) (hdm : d ≤ maxLen)
    (hb0 : Reads w w.heap.size B (b0.map (Value.int .i64))) (_h3 : ∀ x ∈ b0, -9223372036854775808 ≤ x ∧ x ≤ 9223372036854775807) (_h4 : m0 * 8 ≤ 140737488351232)
    (hmo : -9223372036854775808 ≤ most ∧ most ≤ 9223372036854775807) :
    Calls Try.prog 4 #[.slice A n0 c, .slice B m0 d, .int .i64 most] w fun e w' => e = .returned (.bool true) ∧ Below w.heap.size w w' := by
  obtain ⟨n, hn⟩ : ∃ n, (if n0 > 90 then 90 else n0) = n := ⟨_, rfl⟩
  obtain ⟨m, hm⟩ : ∃ m, (if m0 > 90 then 90 else m0) = m := ⟨_, rfl⟩
  obtain ⟨hnl, HA⟩ := ints_list A n0 a0 w _ hn0 ha0
  obtain ⟨hml, HB⟩ := ints_list B m0 b0 w _ hm0 hb0
  rw [hn] at hnl
  rw [hm] at hml
  generalize a0.take 90 = a at *
  generalize b0.take 90 = b at *
  have hn90 : n ≤ 90 ∧ n ≤ c := by rw [← hn]; split <;> omega
  have hm90 : m ≤ 90 ∧ m ≤ d := by rw [← hm]; split <;> omega
  have hlm0 : n0 ≤ maxLen := Nat.le_trans hc0 hcm
  have hlm1 : m0 ≤ maxLen := Nat.le_trans hd0 hdm
  have kn := C_le_i (Lcs.mt a b) n m
  have km := C_le_j (Lcs.mt a b) n m
  obtain ⟨T, hT⟩ : ∃ T, C (Lcs.mt a b) n m = T := ⟨_, rfl⟩
  obtain ⟨F, hF⟩ : ∃ F, n + m - 2 * T = F := ⟨_, rfl⟩
  have HT := hide hT
  have HF : Hid (n + m - 2 * T = F) := hF
  rw [hT] at kn km
  have HFI : Hid ((n : Int) + (m : Int) - 2 * (T : Int) = (F : Int)) := by show _ = _; omega
  have HFN := hide hn
  have HFM := hide hm
  have HN := hide hnl
  have HM := hide hml
  clear hn hm hnl hml ha0 hb0 hn0 hm0 _h1 _h3 hT hF
  go_enter Try.func4, Try.ntmps4
  go_wp2_with fail
  refine (few_any A n0 c _ hlm0 hc0).mono ?_
  rintro e w1 ⟨rfl, rfl⟩
  rw [HFN.out]
  go_wp2_with fail
  refine (few_any B m0 d _ hlm1 hd0).mono ?_
  rintro e w1 ⟨rfl, rfl⟩
  rw [HFM.out]
  go_wp2_with fail
  refine (refCommon_any A n c a B m d b w.heap.size _ HN.out HM.out HA.out HB.out (Nat.le_refl _) (by omega) (by omega)).mono ?_
  rintro e w1 ⟨rfl, hb1⟩
  rw [HT.out]
  have hW := hb1
  have HA := rd_step HA hb1
  have HB := rd_step HB hb1
  clear hb1
  go_wp2_with fail
  refine (distance_any A n c a B m d b most w1.heap.size _ HN.out HM.out HA.out HB.out (Nat.le_refl _) (by omega) (by omega) hmo).mono ?_
  rintro e w2 ⟨rfl, hb2⟩
  have hW := below_step hW hb2
  have HA := rd_step HA hb2
  have HB := rd_step HB hb2
  clear hb2
  rw [HT.out, HF.out]
  unfold distV
  by_cases hle : (F : Int) ≤ most
  · rw [if_pos hle]
    have hle2 : (n : Int) + (m : Int) - 2 * (T : Int) ≤ most := by have := HFI.out; omega
    clear hle
    go_wp2_with fail
    refine (common_any A n c a B m d b w2.heap.size _ HN.out HM.out HA.out HB.out (Nat.le_refl _) (by omega) (by omega)).mono ?_
    rintro e w3 ⟨rfl, hb3⟩
    have hW := below_step hW hb3
    clear hb3
    rw [HT.out]
    have hFI := HFI.out
    go_wp2_with fail
    refine (awake_any _).mono ?_
    rintro e w5 ⟨rfl, hb5⟩
    have hW := below_step hW hb5
    clear hb5
    go_wp2_with fail
    go_ret
    exact ⟨rfl, hW⟩
  · rw [if_neg hle]
    have hle2 : decide ((n : Int) + (m : Int) - 2 * (T : Int) ≤ most) = false := decide_eq_false (by have := HFI.out; omega)
    clear hle
    go_wp2_with fail
    refine (common_any A n c a B m d b w2.heap.size _ HN.out HM.out HA.out HB.out (Nat.le_refl _) (by omega) (by omega)).mono ?_
    rintro e w3 ⟨rfl, hb3⟩
    have hW := below_step hW hb3
    clear hb3
    rw [HT.out]
    go_wp2_with fail
    refine (awake_any _).mono ?_
    rintro e w5 ⟨rfl, hb5⟩
    have hW := below_step hW hb5
    clear hb5
    go_wp2_with fail
    go_ret
    exact ⟨rfl, hW⟩
end Go.Proofs.Ytpahgpmhnpfnhaa
