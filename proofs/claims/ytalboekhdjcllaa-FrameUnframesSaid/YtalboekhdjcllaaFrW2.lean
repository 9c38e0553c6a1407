/-
  The walk of the law on Unframe.
-/
import Derived.Test.YtalboekhdjcllaaFrW1
namespace Go.Proofs.Ytalboekhdjcllaa
open Go.RowKit

theorem unfErr_bd (bs : List Int) : 0 ≤ unfErr bs ∧ unfErr bs ≤ 6 := by
  have hh : 0 ≤ headErr bs ∧ headErr bs ≤ 6 := by
    unfold headErr
    by_cases h1 : bs.length < 4
    · rw [if_pos h1]; decide
    rw [if_neg h1]
    by_cases h2 : nSegs bs > 16
    · rw [if_pos h2]; decide
    rw [if_neg h2]
    by_cases h3 : bs.length < 4 + 4 * nSegs bs + padN (nSegs bs)
    · rw [if_pos h3]; decide
    rw [if_neg h3]
    cases anyBig bs (nSegs bs) <;> cases anyPad bs (nSegs bs) (padN (nSegs bs)) <;> decide
  unfold unfErr
  by_cases h : headErr bs ≠ 0
  · rw [if_pos h]; exact hh
  rw [if_neg h]
  by_cases h6 : bs.length < offN bs (nSegs bs) (nSegs bs)
  · rw [if_pos h6]; decide
  rw [if_neg h6]
  by_cases h7 : offN bs (nSegs bs) (nSegs bs) < bs.length
  · rw [if_pos h7]; decide
  rw [if_neg h7]; decide

set_option maxHeartbeats 4000000 in
theorem unframes_walk (A : Option Addr) (n c : Nat) (bs : List Int) (w : World)
    (hn : n = bs.length) (hnc : n ≤ c) (hc : c ≤ maxLen) (hr : Reads w w.heap.size A (bs.map (Value.int .u8))) (hw : ∀ x ∈ bs, 0 ≤ x ∧ x ≤ 255) (hs : n * 1 ≤ 140737488351232) :
    Calls Try.prog 4 #[.slice A n c] w fun e w' => e = .returned (.bool true) ∧ Below w.heap.size w w' := by
  have HR : Hid (∀ w1, Below w.heap.size w w1 → Reads w1 w.heap.size A (bs.map (Value.int .u8))) := fun w1 h => hr.below h (Nat.le_refl _)
  have HN := hide hn
  have HW := hide hw
  have h47 : n ≤ 140737488351232 := by omega
  by_cases hz : unfErr bs = 0
  · have HZ := hide hz
    obtain ⟨q, hq⟩ : ∃ q, nSegs bs = q := ⟨_, rfl⟩
    obtain ⟨ls, hl⟩ : ∃ ls, segsOf bs q q = ls := ⟨_, rfl⟩
    have hok := unf_ok hw hz
    have hfb := unf_frame hw hz
    have hsl := segsOf_len bs q q
    have hq1 := (unf_parts hz).2.1
    rw [hq] at hq1
    rw [hq, hl] at hok hfb
    rw [hl] at hsl
    have hq2 : q ≤ maxLen := by unfold maxLen; omega
    have HOK := hide hok
    have HFB := hide hfb
    have HSL := hide hsl.symm
    have HQ := hide hq
    have HL := hide hl
    clear hn hr hw hz hok hfb hsl hq hl
    go_enter Try.func4, Try.ntmps4
    go_wp2_with fail
    refine (unframe_any A n c w.heap.size bs _ HN.out (HR.out _ (Below.refl _ _)) (Nat.le_refl _) HW.out hnc hc h47).mono ?_
    intro e w1 hp
    obtain ⟨h1, A2, vs2, c2, rfl, hs2⟩ := hp.yesq HZ.out HQ.out HL.out
    have HS2 := hide hs2
    clear hp hs2
    go_wp2_with fail
    refine (refUnframe_any A n c w.heap.size bs _ HN.out (HR.out _ h1) h1.size HW.out hnc hc h47).mono ?_
    intro e w2 hp
    obtain ⟨h2, A3, vs3, c3, rfl, hs3⟩ := hp.yesq HZ.out HQ.out HL.out
    have h12 := below_step h1 h2
    have HS3 := hide hs3
    have HS2' := hide ((HS2.out.below h2 (Nat.le_refl _)).more h2.size)
    clear hp hs3
    go_wp2_with fail
    refine (segsSame_any A2 A3 q q c2 c3 w2.heap.size vs2 vs3 ls ls _ HSL.out HSL.out HS2'.out HS3.out hq2 hq2).mono ?_
    rintro e w4 ⟨rfl, k4, rfl⟩
    rw [beq_self_eq_true]
    go_wp2_with fail
    have h13 : Below w.heap.size w (w2.drewN k4) := below_drewN h12 _
    have HS4 : Hid (SegsAt (w2.drewN k4) (w2.drewN k4).heap.size A2 vs2 ls) := HS2'.out.drewN k4
    generalize w2.drewN k4 = w4 at *
    refine (frame_any A2 q c2 w4.heap.size vs2 ls _ HSL.out HS4.out (Nat.le_refl _) hq2).mono ?_
    intro e w5 hp
    obtain ⟨h5, A5, n5, c5, rfl, hn5, hnc5, hc5, hr5⟩ := hp.yes HOK.out
    have h15 := below_step h13 h5
    rw [HFB.out] at hn5 hr5
    have HN5 := hide hn5
    have R5 := hide hr5
    clear hn5 hr5 hp
    go_wp2_with fail
    refine (sameBytes_any A5 A c5 c w5.heap.size n5 n bs bs _ HN5.out HN.out R5.out ((HR.out _ h15).more h15.size) (by omega) (by omega)).mono ?_
    rintro e w6 ⟨rfl, k6, rfl⟩
    rw [beq_self_eq_true]
    go_wp2_with fail
    refine (awake_any _).mono ?_
    rintro e w8 ⟨rfl, h8⟩
    go_wp2_with fail
    go_ret
    exact ⟨rfl, below_step (below_drewN h15 _) h8⟩
  · have HZ := hide hz
    have HB := hide (unfErr_bd bs)
    clear hn hr hw hz
    go_enter Try.func4, Try.ntmps4
    go_wp2_with fail
    refine (unframe_any A n c w.heap.size bs _ HN.out (HR.out _ (Below.refl _ _)) (Nat.le_refl _) HW.out hnc hc h47).mono ?_
    intro e w1 hp
    obtain ⟨h1, rfl⟩ := hp.no HZ.out
    clear hp
    go_wp2_with fail
    refine (refUnframe_any A n c w.heap.size bs _ HN.out (HR.out _ h1) h1.size HW.out hnc hc h47).mono ?_
    intro e w2 hp
    obtain ⟨h2, rfl⟩ := hp.no HZ.out
    have h12 := below_step h1 h2
    clear hp
    have hb0 := HB.out.1
    have hb1 := HB.out.2
    have hne : (unfErr bs != 0) = true := by simpa using HZ.out
    generalize unfErr bs = er at *
    go_wp2_with fail
    refine (segsSame_any none none 0 0 0 0 w2.heap.size [] [] [] [] _ rfl rfl (SegsAt.nil _ _) (SegsAt.nil _ _) (by decide) (by decide)).mono ?_
    rintro e w4 ⟨rfl, k4, rfl⟩
    rw [beq_self_eq_true]
    go_wp2_with fail
    refine (awake_any _).mono ?_
    rintro e w8 ⟨rfl, h8⟩
    go_wp2_with fail
    go_ret
    exact ⟨rfl, below_step (below_drewN h12 _) h8⟩
end Go.Proofs.Ytalboekhdjcllaa
