/-
  Both have the same.
-/
import Derived.Test.YtipgobmnpheikaaSlotG
namespace Go.Proofs.Ytipgobmnpheikaa
open Go.RowKit

set_option maxHeartbeats 4000000 in
theorem sameSlots_any (gs gr : Nat) (st : Nat → Option (List Int)) (w : World) (hs : SlotsAt w gs 49 st) (hr : SlotsAt w gr 30 st) :
    Calls Try.prog 8 #[.pointer (some ⟨gs, 0, none⟩), .pointer (some ⟨gr, 0, none⟩)] w fun e w' => e = .returned (.bool true) ∧ Below w.heap.size w w' := by
  have hfl := fullS_len st 16
  go_enter Try.func8, Try.ntmps8
  go_wp2_with fail
  refine (slotFull_any gs _ st _ hs).mono ?_
  rintro e w1 ⟨hb1, A1, n1, c1, rfl, hn1, hm1, hr1⟩
  have hrr1 := hr.below hb1
  have HN1 := hide hn1
  clear hn1
  go_wp2_with fail
  refine (refFull_any gr _ st _ hrr1).mono ?_
  rintro e w2 ⟨hb2, A2, n2, c2, rfl, hn2, hm2, hr2⟩
  have HN2 := hide hn2
  clear hn2
  have hr12 := (hr1.below hb2 (Nat.le_refl _)).more hb2.size
  go_wp2_with fail
  refine (sameInts_any A1 A2 c1 c2 w2.heap.size n1 n2 (fullS st 16) (fullS st 16) _ HN1.out HN2.out hr12 hr2 hm1 hm2).mono ?_
  rintro e w3 ⟨rfl, q, rfl⟩
  rw [show (fullS st 16 == fullS st 16) = true from by simp]
  have hb12 := below_step hb1 hb2
  go_wp2_with fail
  go_loopw [5] (fun i wr => ∃ k : Nat, k ≤ 18 ∧ i = .int .i64 ((k : Int) - 1) ∧ Below w.heap.size w wr) (fun i _ => (17 - intOf i).toNat)
  case atStart => exact ⟨0, by omega, rfl, below_drewN hb12 _⟩
  case round =>
    obtain ⟨k, hk, rfl, hbe⟩ := hrel
    have hsw := hs.below hbe
    have hrw := hr.below hbe
    by_cases hlt : k < 18
    · cases h : inB ((k : Int) - 1) && (st ((k : Int) - 1).toNat).isSome
      · have H := hide h
        obtain ⟨sl, hblk, hsl, hok⟩ := hsw
        obtain ⟨sl', hblk', hsl', hok'⟩ := hrw
        have hsw : SlotsAt wr gs 49 st := ⟨sl, hblk, hsl, hok⟩
        have HSW := hide hsw
        have H0 := hide hok
        have H1 := hide hok'
        have H2 := hide hsl
        have H3 := hide hsl'
        clear h hok hok' hsl hsl' hsw
        go_wp2_with fail
        refine (slotGet_any gs _ st _ _ HSW.out).mono ?_
        rintro e w4 ⟨hb4, h4⟩
        rcases h4 with ⟨_, rfl⟩ | ⟨h4, _⟩
        · have hbk := hblk.below hb4 hblk.lt
          have hbk' := hblk'.below hb4 hblk'.lt
          go_wp2_with (first | (go_at_call 14; refine (has_any gs _ sl _ _ _ hbk).mono ?_; rintro e w5 ⟨rfl, rfl⟩; rw [H.out]) | (go_at_call 20; refine (refHas_any gr _ sl' _ _ _ hbk').mono ?_; rintro e w5 ⟨rfl, rfl⟩; rw [H.out]))
          go_roundw
          case rel => exact ⟨k + 1, by omega, by go_num, below_step hbe hb4⟩
          case measure => simp [intOf]; omega
        · rw [H.out] at h4
          cases h4
      · have hin := of_decide_eq_true ((Bool.and_eq_true _ _).mp h).1
        obtain ⟨j, rfl⟩ : ∃ j, k = j + 1 := ⟨k - 1, by omega⟩
        have ej : ((j + 1 : Nat) : Int) - 1 = (j : Int) := by omega
        rw [ej] at h hin ⊢
        rw [Int.toNat_natCast] at h
        have hj16 : j < 16 := by omega
        obtain ⟨sl, hblk, hsl, hok⟩ := hsw
        obtain ⟨sl', hblk', hsl', hok'⟩ := hrw
        obtain ⟨ys, hys⟩ := Option.isSome_iff_exists.1 ((Bool.and_eq_true _ _).mp h).2
        obtain ⟨B, m, d, hv, hm, hB, hrB, h8⟩ := hok' j ys hys
        have hsw : SlotsAt wr gs 49 st := ⟨sl, hblk, hsl, hok⟩
        have cr : wr.cell? ⟨gr, j, none⟩ = some (.slice B m d) := by rw [hblk'.cell, slotCells_sl _ _ j hj16, hv]
        have HSW := hide hsw
        have H := hide h
        have H0 := hide hok
        have H1 := hide hok'
        have H2 := hide hsl
        have H3 := hide hsl'
        have HY := hide hys
        have HM := hide hm
        have HB := hide hB
        have HV := hide hv
        have HEJ := hide ej
        clear h hok hok' hsl hsl' hsw hys hm hB hv ej hin
        go_wp2_with fail
        refine (slotGet_any gs _ st _ _ HSW.out).mono ?_
        rintro e w4 ⟨hb4, h4⟩
        rcases h4 with ⟨h4, _⟩ | ⟨_, xs, A', n, c, hst, hn, rfl, hmx, hrd⟩
        · rw [Int.toNat_natCast, H.out] at h4
          cases h4
        · have hxy : xs = ys := by
            rw [Int.toNat_natCast, HY.out] at hst
            injection hst with hst
            exact hst.symm
          subst hxy
          have hbk := hblk.below hb4 hblk.lt
          have hbk' := hblk'.below hb4 hblk'.lt
          have cr4 : w4.cell? ⟨gr, j, none⟩ = some (.slice B m d) := (hb4.cell (p := ⟨gr, j, none⟩) hblk'.lt).trans cr
          have hrB4 := (hrB.below hb4 (Nat.le_refl _)).more hb4.size
          have HN := hide hn
          have HST := hide hst
          clear hn hst
          have hm8 : m ≤ maxLen := by unfold maxLen; omega
          go_wp2_with (first | (go_at_call 14; refine (has_any gs _ sl _ _ _ hbk).mono ?_; rintro e w5 ⟨rfl, rfl⟩; rw [Int.toNat_natCast, H.out]) | (go_at_call 20; refine (refHas_any gr 30 sl' (fun i => (st i).isSome) _ _ (by first | exact hbk' | exact hbk'.drewN _)).mono ?_; rintro e w5 ⟨rfl, rfl⟩; rw [Int.toNat_natCast, H.out]) | (go_at_call 21; refine (same_any A' B c d w4.heap.size n m xs xs _ HN.out HM.out hrd hrB4 hmx hm8).mono ?_; rintro e w5 ⟨rfl, q5, rfl⟩; rw [show (xs == xs) = true from by simp]))
          go_roundw
          case rel => exact ⟨j + 1 + 1, by omega, by go_num, below_drewN (below_step hbe hb4) _⟩
          case measure => simp [intOf]; omega
    · have hke : k = 18 := by omega
      subst hke
      go_wp2_with fail
      go_ret
      exact ⟨rfl, hbe⟩
end Go.Proofs.Ytipgobmnpheikaa
