/-
  The walk of the law on Frame.
-/
import Derived.Test.YtalboekhdjcllaaFrH
namespace Go.Proofs.Ytalboekhdjcllaa
open Go.RowKit

set_option maxHeartbeats 4000000 in
theorem frames_walk (A : Option Addr) (n c : Nat) (vs : List Value) (ls : List (List Int)) (w : World) (hn : n = ls.length) (hs : SegsAt w w.heap.size A vs ls) (hm : n ≤ maxLen) :
    Calls Try.prog 3 #[.slice A n c] w fun e w' => e = .returned (.bool true) ∧ Below w.heap.size w w' := by
  have HS : Hid (∀ w1, Below w.heap.size w w1 → SegsAt w1 w.heap.size A vs ls) := fun w1 h => hs.below h (Nat.le_refl _)
  have HN := hide hn
  have HW := hide hs.bds
  by_cases hok : okSegs ls = true
  · have HOK := hide hok
    have hfb := frame_bd ls hok
    have HFE := hide (frame_err hok)
    have HFN : Hid (nSegs (frameB ls) = n) := (frame_n hok).trans hn.symm
    have HFS : Hid (segsOf (frameB ls) n n = ls) := by
      show _ = _
      rw [hn]
      exact frame_segs hok HW.out
    have HFB := hide hfb.2
    have hfl := hfb.1
    clear hn hs hok hfb
    go_enter Try.func3, Try.ntmps3
    go_wp2_with fail
    refine (frame_any A n c w.heap.size vs ls _ HN.out (HS.out _ (Below.refl _ _)) (Nat.le_refl _) hm).mono ?_
    intro e w1 hp
    obtain ⟨h1, A2, n2, c2, rfl, hn2, hnc2, hc2, hr2⟩ := hp.yes HOK.out
    have HN2 := hide hn2
    have R2 := hide hr2
    rw [← hn2] at hfl
    clear hn2 hr2 hp
    go_wp2_with fail
    refine (refFrame_any A n c w.heap.size vs ls _ HN.out (HS.out _ h1) h1.size hm).mono ?_
    intro e w2 hp
    obtain ⟨h2, A3, n3, c3, rfl, hn3, hnc3, hc3, hr3⟩ := hp.yes HOK.out
    have h12 := below_step h1 h2
    have HN3 := hide hn3
    have R3 := hide hr3
    have R2' := hide ((R2.out.below h2 (Nat.le_refl _)).more h2.size)
    clear hn3 hr3 hp
    go_wp2_with fail
    refine (sameBytes_any A2 A3 c2 c3 w2.heap.size n2 n3 (frameB ls) (frameB ls) _ HN2.out HN3.out R2'.out R3.out (by omega) (by omega)).mono ?_
    rintro e w4 ⟨rfl, k4, rfl⟩
    rw [beq_self_eq_true]
    go_wp2_with fail
    have h13 : Below w.heap.size w (w2.drewN k4) := below_drewN h12 _
    have R4 : Hid (Reads (w2.drewN k4) (w2.drewN k4).heap.size A2 ((frameB ls).map (Value.int .u8))) := R2'.out.drewN k4
    generalize w2.drewN k4 = w4 at *
    refine (unframe_any A2 n2 c2 w4.heap.size (frameB ls) _ HN2.out R4.out (Nat.le_refl _) HFB.out hnc2 hc2 (by omega)).mono ?_
    intro e w5 hp
    obtain ⟨h5, A5, vs5, c5, rfl, hs5⟩ := hp.yesq HFE.out HFN.out HFS.out
    have h15 := below_step h13 h5
    have HS5 := hide hs5
    clear hs5 hp
    go_wp2_with fail
    refine (segsSame_any A5 A n n c5 c w5.heap.size vs5 vs ls ls _ HN.out HN.out HS5.out ((HS.out _ h15).more h15.size) hm hm).mono ?_
    rintro e w6 ⟨rfl, k6, rfl⟩
    rw [beq_self_eq_true]
    go_wp2_with fail
    refine (awake_any _).mono ?_
    rintro e w8 ⟨rfl, h8⟩
    go_wp2_with fail
    go_ret
    exact ⟨rfl, below_step (below_drewN h15 _) h8⟩
  · have hok : okSegs ls = false := by simpa using hok
    have HOK := hide hok
    clear hn hs hok
    go_enter Try.func3, Try.ntmps3
    go_wp2_with fail
    refine (frame_any A n c w.heap.size vs ls _ HN.out (HS.out _ (Below.refl _ _)) (Nat.le_refl _) hm).mono ?_
    intro e w1 hp
    obtain ⟨h1, rfl⟩ := hp.no HOK.out
    clear hp
    go_wp2_with fail
    refine (refFrame_any A n c w.heap.size vs ls _ HN.out (HS.out _ h1) h1.size hm).mono ?_
    intro e w2 hp
    obtain ⟨h2, rfl⟩ := hp.no HOK.out
    have h12 := below_step h1 h2
    clear hp
    go_wp2_with fail
    refine (sameBytes_any none none 0 0 w2.heap.size 0 0 [] [] _ rfl rfl Reads.none_ Reads.none_ (by decide) (by decide)).mono ?_
    rintro e w4 ⟨rfl, k4, rfl⟩
    rw [beq_self_eq_true]
    go_wp2_with fail
    refine (awake_any _).mono ?_
    rintro e w8 ⟨rfl, h8⟩
    go_wp2_with fail
    go_ret
    exact ⟨rfl, below_step (below_drewN h12 _) h8⟩
end Go.Proofs.Ytalboekhdjcllaa
