/-
  The walk of LcsDiffs.
-/
import Derived.Test.YtpahgpmhnpfnhaaLcsN
import Derived.Test.YtpahgpmhnpfnhaaLcsO
namespace Go.Proofs.Ytpahgpmhnpfnhaa
open Go.RowKit Go.Proofs.Ytpahgpmhnpfnhaa.Lcs Go.Proofs.Ytpahgpmhnpfnhaa.Scr

theorem nrm_len (l : List Step) : (nrm l).length ≤ 3 * l.length + 3 := by
  have h1 := runS_bd l
  have h2 := h1.len
  unfold nrm fin
  rw [List.length_append, List.length_append, List.length_append]
  have := fl_len 0 (runS l).K
  have := fl_len 1 (runS l).D
  have := fl_len 2 (runS l).I
  omega
theorem rowsS_len (J : Nat → Nat) (n : Nat) : (rowsS J n).length ≤ 2 * n := by
  induction n with
  | zero => simp [rowsS]
  | succ n ih =>
    rw [rowsS_succ, List.length_append]
    have : (rowS (J n) (J (n + 1))).length ≤ 2 := by unfold rowS; split <;> simp
    omega
theorem diffL_len (a b : List Int) (ha : a.length ≤ 90) : (diffL a b).length ≤ 1000 := by
  have h1 := nrm_len (wayS (Jof (Lcs.mt a b) a.length b.length) a.length b.length)
  have h2 := rowsS_len (Jof (Lcs.mt a b) a.length b.length) a.length
  unfold diffL
  have h3 : (wayS (Jof (Lcs.mt a b) a.length b.length) a.length b.length).length = (rowsS (Jof (Lcs.mt a b) a.length b.length) a.length).length + 1 := by
    unfold wayS
    rw [List.length_append]
    rfl
  omega
theorem reads_none (w : World) (b0 : Nat) : Reads w b0 none (stepCells []) := fun j u h => by simp [stepCells] at h
set_option maxHeartbeats 4000000 in
theorem diffs_walk (A : Option Addr) (n0 c : Nat) (a0 : List Int) (B : Option Addr) (m0 d : Nat) (b0 : List Int) (most : Int) (w : World) (hn0 : n0 = a0.length) (hc0 : n0 ≤ c) (hcm : c ≤ maxLen)
    (ha0 : Reads w w.heap.size A (a0.map (Value.int .i64))) (_h1 : ∀ x ∈ a0, -9223372036854775808 ≤ x ∧ x ≤ 9223372036854775807) (_h2 : n0 * 8 ≤ 140737488351232)
    (hm0 : m0 = b0.length) (hd0 : m0 ≤ d) (hdm : d ≤ maxLen)
    (hb0 : Reads w w.heap.size B (b0.map (Value.int .i64))) (_h3 : ∀ x ∈ b0, -9223372036854775808 ≤ x ∧ x ≤ 9223372036854775807) (_h4 : m0 * 8 ≤ 140737488351232)
    (hmo : -9223372036854775808 ≤ most ∧ most ≤ 9223372036854775807) :
    Calls Try.prog 3 #[.slice A n0 c, .slice B m0 d, .int .i64 most] w fun e w' => e = .returned (.bool true) ∧ Below w.heap.size w w' := by
  obtain ⟨n, hn⟩ : ∃ n, (if n0 > 90 then 90 else n0) = n := ⟨_, rfl⟩
  obtain ⟨m, hm⟩ : ∃ m, (if m0 > 90 then 90 else m0) = m := ⟨_, rfl⟩
  obtain ⟨hnl, HA⟩ := ints_list A n0 a0 w _ hn0 ha0
  obtain ⟨hml, HB⟩ := ints_list B m0 b0 w _ hm0 hb0
  rw [hn] at hnl
  rw [hm] at hml
  generalize a0.take 90 = a at *
  generalize b0.take 90 = b at *
  have hn90 : n ≤ 90 ∧ n ≤ c := by rw [← hn]; split <;> omega
  have hm90 : m ≤ 90 ∧ m ≤ d := by rw [← hm]; split <;> omega
  have hlm0 : n0 ≤ maxLen := Nat.le_trans hc0 hcm
  have hlm1 : m0 ≤ maxLen := Nat.le_trans hd0 hdm
  have HLL := hide (diffL_len a b (by omega))
  have HFN := hide hn
  have HFM := hide hm
  have HN := hide hnl
  have HM := hide hml
  clear hn hm hnl hml ha0 hb0 hn0 hm0 _h1 _h3
  go_enter Try.func3, Try.ntmps3
  go_wp2_with fail
  refine (few_any A n0 c _ hlm0 hc0).mono ?_
  rintro e w1 ⟨rfl, rfl⟩
  rw [HFN.out]
  go_wp2_with fail
  refine (few_any B m0 d _ hlm1 hd0).mono ?_
  rintro e w1 ⟨rfl, rfl⟩
  rw [HFM.out]
  go_wp2_with fail
  refine (diff_any A n c a B m d b most w.heap.size _ HN.out HM.out HA.out HB.out (Nat.le_refl _) (by omega) (by omega) hn90.2 hcm hm90.2 hdm hmo).mono ?_
  intro e w1 hP
  by_cases hle : (farT a b : Int) ≤ most
  · obtain ⟨A1, n1, c1, rfl, hn1, hc1, -, R1, hb1⟩ := hP.got hle
    have HLE := hide hle
    have HN1 := hide hn1
    have HA := rd_step HA hb1
    have HB := rd_step HB hb1
    have hn1' : n1 ≤ 1000 := by rw [hn1]; exact HLL.out
    clear hP hle hn1
    go_wp2_with fail
    refine (refDiff_any A n c a B m d b most w1.heap.size _ HN.out HM.out HA.out HB.out (Nat.le_refl _) (by omega) (by omega) hmo).mono ?_
    intro e w2 hP
    obtain ⟨A2, n2, c2, rfl, hn2, hc2, -, R2, hb2⟩ := hP.got HLE.out
    have HN2 := hide hn2
    have R1 := rd_step R1 hb2
    have hW := below_step hb1 hb2
    have hn2' : n2 ≤ 1000 := by rw [hn2]; exact HLL.out
    clear hP hn2 hb1 hb2
    go_wp2_with fail
    refine (theirs_any A1 n1 c1 w2.heap.size (diffL a b) _ HN1.out R1.out (Nat.le_refl _) (by omega)).mono ?_
    rintro e w3 ⟨hb3, v3, rfl, ho3⟩
    obtain ⟨A3, n3, c3, rfl, hn3, hc3, -, hr3⟩ := stepsReads ho3
    have HN3 := hide hn3
    have R3 := hide hr3
    have R2 := rd_step R2 hb3
    have hW := below_step hW hb3
    have hn3' : n3 ≤ 1000 := by rw [hn3]; exact HLL.out
    have hmx : 1000 ≤ maxLen := by decide
    clear hr3 hn3 ho3 hb3
    go_wp2_with fail
    refine (sameS_bel A3 A2 c3 c2 w3.heap.size n3 n2 (diffL a b) _ HN3.out HN2.out R3.out R2.out (by omega) (by omega)).mono ?_
    rintro e w4 ⟨rfl, hb4⟩
    have hW := below_step hW hb4
    clear hb4
    go_wp2_with fail
    refine (awake_any _).mono ?_
    rintro e w5 ⟨rfl, hb5⟩
    have hW := below_step hW hb5
    clear hb5
    go_wp2_with fail
    go_ret
    exact ⟨rfl, hW⟩
  · obtain ⟨rfl, hb1⟩ := hP.not hle
    have HLE : Hid (¬ (farT a b : Int) ≤ most) := hle
    have HA := rd_step HA hb1
    have HB := rd_step HB hb1
    clear hP hle
    go_wp2_with fail
    refine (refDiff_any A n c a B m d b most w1.heap.size _ HN.out HM.out HA.out HB.out (Nat.le_refl _) (by omega) (by omega) hmo).mono ?_
    intro e w2 hP
    obtain ⟨rfl, hb2⟩ := hP.not (by have := HLE.out; omega)
    have hW := below_step hb1 hb2
    clear hP hb1 hb2
    go_wp2_with fail
    refine (theirs_any none 0 0 w2.heap.size [] _ rfl (reads_none _ _) (Nat.le_refl _) (by omega)).mono ?_
    rintro e w3 ⟨hb3, v3, rfl, ho3⟩
    obtain ⟨A3, n3, c3, rfl, hn3, hc3, -, hr3⟩ := stepsReads ho3
    have hn3' : n3 = 0 := hn3
    subst hn3'
    have R3 := hide hr3
    have hW := below_step hW hb3
    clear hr3 hn3 ho3 hb3
    go_wp2_with fail
    refine (sameS_bel A3 none c3 0 w3.heap.size 0 0 [] _ rfl rfl R3.out (reads_none _ _) (by decide) (by decide)).mono ?_
    rintro e w4 ⟨rfl, hb4⟩
    have hW := below_step hW hb4
    clear hb4
    go_wp2_with fail
    refine (awake_any _).mono ?_
    rintro e w5 ⟨rfl, hb5⟩
    have hW := below_step hW hb5
    clear hb5
    go_wp2_with fail
    go_ret
    exact ⟨rfl, hW⟩
end Go.Proofs.Ytpahgpmhnpfnhaa
