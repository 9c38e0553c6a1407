/-
  The walk of LcsNoMore.
-/
import Derived.Test.YtpahgpmhnpfnhaaLcsT
import Derived.Test.YtpahgpmhnpfnhaaLcsU
import Derived.Test.YtpahgpmhnpfnhaaScrO
namespace Go.Proofs.Ytpahgpmhnpfnhaa
open Go.ChangeShapes Go.WideShapes Go.ChangeAt Go.RowKit Go.Deep Go.Proofs.Ytpahgpmhnpfnhaa.Lcs Go.Proofs.Ytpahgpmhnpfnhaa.Scr

section
variable {H : Type} {enc : TypeId × Value → H} {W : World}
theorem open_steps_sz {cs : List Value} {y : DataW H × List MemPlace} (h : Opens enc Try.prog W 27 cs y) :
    ∃ A n c l, cs = [.slice A n c] ∧ n = l.length ∧ Reads W W.heap.size A (stepCells l) ∧ n ≤ 8796093021952 := by
  obtain ⟨A, n, c, l, e, hn, hx, _, _⟩ := open_steps h
  obtain ⟨A', n', c', e', _, _, _, hb, _⟩ := h.elems (C := 2) Try.underlying27 (by kernel_rfl) (by decide)
  rw [e] at e'
  injection e' with e' _
  injection e' with _ e2 _
  subst e2
  rw [show Try.prog.bytesOf 50 = 16 from by kernel_rfl] at hb
  simp only [reachBytes] at hb
  exact ⟨A, n, c, l, e, hn, hx, by omega⟩
end

set_option maxHeartbeats 4000000 in
theorem noMore_walk (Al : Option Addr) (nl cl : Nat) (l : List Step) (A : Option Addr) (n0 c : Nat) (a0 : List Int) (B : Option Addr) (m0 d : Nat) (b0 : List Int) (w : World)
    (hnl0 : nl = l.length) (hxl : Reads w w.heap.size Al (stepCells l)) (hlb : nl ≤ 8796093021952) (hn0 : n0 = a0.length) (hc0 : n0 ≤ c) (hcm : c ≤ maxLen)
    (ha0 : Reads w w.heap.size A (a0.map (Value.int .i64))) (_h1 : ∀ x ∈ a0, -9223372036854775808 ≤ x ∧ x ≤ 9223372036854775807) (_h2 : n0 * 8 ≤ 140737488351232)
    (hm0 : m0 = b0.length) (hd0 : m0 ≤ d) (hdm : d ≤ maxLen)
    (hb0 : Reads w w.heap.size B (b0.map (Value.int .i64))) (_h3 : ∀ x ∈ b0, -9223372036854775808 ≤ x ∧ x ≤ 9223372036854775807) (_h4 : m0 * 8 ≤ 140737488351232) :
    Calls Try.prog 5 #[.slice Al nl cl, .slice A n0 c, .slice B m0 d] w fun e w' => e = .returned (.bool true) ∧ Below w.heap.size w w' := by
  obtain ⟨n, hn⟩ : ∃ n, (if n0 > 90 then 90 else n0) = n := ⟨_, rfl⟩
  obtain ⟨m, hm⟩ : ∃ m, (if m0 > 90 then 90 else m0) = m := ⟨_, rfl⟩
  obtain ⟨hnl, HA⟩ := ints_list A n0 a0 w _ hn0 ha0
  obtain ⟨hml, HB⟩ := ints_list B m0 b0 w _ hm0 hb0
  rw [hn] at hnl
  rw [hm] at hml
  generalize a0.take 90 = a at *
  generalize b0.take 90 = b at *
  have hn90 : n ≤ 90 ∧ n ≤ c := by rw [← hn]; split <;> omega
  have hm90 : m ≤ 90 ∧ m ≤ d := by rw [← hm]; split <;> omega
  have hlm0 : n0 ≤ maxLen := Nat.le_trans hc0 hcm
  have hlm1 : m0 ≤ maxLen := Nat.le_trans hd0 hdm
  have HLL := hide (diffL_len a b (by omega))
  have HF1 : Hid ((farT a b : Int) ≤ 180) := by show _ ≤ _; unfold farT; omega
  have HNM : Hid (leadsS l a b = true → sum (cnt 0) l ≤ (C (Lcs.mt a b) n m : Nat)) := fun h => by
    have := no_more l a b h
    rwa [← hnl, ← hml] at this
  have HK1 : Hid (countsS (diffL a b) = .agg #[.int .i64 (C (Lcs.mt a b) n m : Nat), .int .i64 (sum (cnt 1) (diffL a b)), .int .i64 (sum (cnt 2) (diffL a b))]) := by
    show _ = _
    unfold countsS
    rw [diff_kept a b (by omega), ← hnl, ← hml]
  have HK2 : Hid (countsS l = .agg #[.int .i64 (sum (cnt 0) l), .int .i64 (sum (cnt 1) l), .int .i64 (sum (cnt 2) l)]) := rfl
  have HFN := hide hn
  have HFM := hide hm
  have HN := hide hnl
  have HM := hide hml
  have HNL := hide hnl0
  have HL : Hid (Reads w w.heap.size Al (stepCells l)) := hxl
  clear hn hm hnl hml ha0 hb0 hn0 hm0 _h1 _h3 hnl0 hxl
  generalize C (Lcs.mt a b) n m = T at *
  generalize sum (cnt 1) (diffL a b) = X1 at *
  generalize sum (cnt 2) (diffL a b) = X2 at *
  generalize sum (cnt 0) l = Y0 at *
  generalize sum (cnt 1) l = Y1 at *
  generalize sum (cnt 2) l = Y2 at *
  go_enter Try.func5, Try.ntmps5
  go_wp2_with fail
  refine (few_any A n0 c _ hlm0 hc0).mono ?_
  rintro e w1 ⟨rfl, rfl⟩
  rw [HFN.out]
  go_wp2_with fail
  refine (few_any B m0 d _ hlm1 hd0).mono ?_
  rintro e w1 ⟨rfl, rfl⟩
  rw [HFM.out]
  go_wp2_with fail
  refine (refLeads_any Al nl cl w.heap.size l A n c a B m d b _ HNL.out HL.out HN.out HA.out HM.out HB.out (Nat.le_refl _) hlb (by omega) (by omega)).mono ?_
  rintro e w1 ⟨rfl, hb1⟩
  have HL := rd_step HL hb1
  have HA := rd_step HA hb1
  have HB := rd_step HB hb1
  have hW := hb1
  clear hb1
  cases hld : leadsS l a b
  · clear hld
    go_wp2_with fail
    refine (awake_any _).mono ?_
    rintro e w5 ⟨rfl, hb5⟩
    have hW := below_step hW hb5
    clear hb5
    go_wp2_with fail
    go_ret
    exact ⟨rfl, hW⟩
  · have hle : Y0 ≤ (T : Int) := HNM.out hld
    clear hld
    go_wp2_with fail
    refine (diff_any A n c a B m d b 180 w1.heap.size _ HN.out HM.out HA.out HB.out (Nat.le_refl _) (by omega) (by omega) hn90.2 hcm hm90.2 hdm (by decide)).mono ?_
    intro e w2 hP
    obtain ⟨A1, n1, c1, rfl, hn1, hc1, -, R1, hb2⟩ := hP.got HF1.out
    have HN1 := hide hn1
    have HL := rd_step HL hb2
    have hn1' : n1 ≤ 1000 := by rw [hn1]; exact HLL.out
    have hW := below_step hW hb2
    clear hP hn1 hb2 HA HB
    go_wp2_with fail
    refine (mine_any Al nl cl w2.heap.size l _ HNL.out HL.out (Nat.le_refl _) hlb).mono ?_
    rintro e w3 ⟨hb3, v3, rfl, ho3⟩
    obtain ⟨A3, n3, c3, rfl, hn3, hc3, -, hr3⟩ := stepsReads ho3
    rw [← HNL.out] at hn3
    subst hn3
    have R3 := hide hr3
    have R1 := rd_step R1 hb3
    have hW := below_step hW hb3
    clear hr3 ho3 hb3 HL
    go_wp2_with fail
    refine (counts_any A3 n3 c3 w3.heap.size l _ HNL.out R3.out (Nat.le_refl _) hlb).mono ?_
    rintro e w4 ⟨rfl, hb4⟩
    rw [HK2.out]
    have R1 := rd_step R1 hb4
    have hW := below_step hW hb4
    have hix := idxThree Y0 Y1 Y2
    clear hb4 R3
    go_wp2_with fail
    refine (counts_any A1 n1 c1 w4.heap.size (diffL a b) _ HN1.out R1.out (Nat.le_refl _) (by omega)).mono ?_
    rintro e w5 ⟨rfl, hb5⟩
    rw [HK1.out]
    have hW := below_step hW hb5
    have hix2 := idxThree (T : Int) X1 X2
    clear hb5 R1
    go_wp2_with fail
    refine (awake_any _).mono ?_
    rintro e w6 ⟨rfl, hb6⟩
    have hW := below_step hW hb6
    clear hb6
    go_wp2_with fail
    go_ret
    exact ⟨rfl, hW⟩
end Go.Proofs.Ytpahgpmhnpfnhaa
