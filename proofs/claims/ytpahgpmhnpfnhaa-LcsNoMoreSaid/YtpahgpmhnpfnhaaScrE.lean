/-
  Sizes of the reference; Counts.
-/
import Derived.Test.YtpahgpmhnpfnhaaScrD
namespace Go.Proofs.Ytpahgpmhnpfnhaa
open Go.RowKit Go.Proofs.Ytpahgpmhnpfnhaa.Scr

set_option maxHeartbeats 2000000 in
theorem refSizes_any (A : Option Addr) (n c b0 : Nat) (l : List Step) (w : World) (hn : n = l.length) (hx : Reads w b0 A (stepCells l)) (hb0 : b0 ≤ w.heap.size) (hs : n ≤ 8796093021952) :
    Calls Try.prog 27 #[.slice A n c] w fun e w' => e = .returned (sizesS l) ∧ Below w.heap.size w w' := by
  have HX := hide hx
  have HN := hide hn
  clear hx hn
  go_enter Try.func27, Try.ntmps27
  go_wp2_with fail
  go_loopw [5, 6, 7] (fun x y i wr => ∃ (q : Nat) (p r : Int), q ≤ n ∧ i = .int .i64 q ∧ x = .int .i64 p ∧ y = .int .i64 r ∧ 0 ≤ p ∧ p ≤ 1048576 * q ∧ 0 ≤ r ∧ r ≤ 1048576 * q ∧ Hid (allOk (l.take q) = true ∧ p = sum ahdN (l.take q) ∧ r = sum bhdN (l.take q)) ∧ Below w.heap.size w wr) (fun _ _ i _ => n - (intOf i).toNat)
  case atStart => exact ⟨0, 0, 0, by omega, rfl, rfl, rfl, by omega, by omega, by omega, by omega, ⟨rfl, rfl, rfl⟩, Below.refl _ _⟩
  case round =>
    obtain ⟨q, p, r, hq, rfl, rfl, rfl, hp0, hp1, hr0, hr1, hS, hbe⟩ := hrel
    by_cases hlt : q < n
    · have hl1 : q < l.length := by rw [← HN.out]; exact hlt
      obtain ⟨bx, ox, rfl, hbx, c0, c1⟩ := (HX.out.below hbe hb0).stepAt hl1
      have HA := hide (allOk_take l q hl1)
      have HH := hide (fun (h : okS l[q] = false) => allOk_hit l q hl1 h)
      have HS1 := hide (sum_take ahdN l q hl1)
      have HS2 := hide (sum_take bhdN l q hl1)
      have HB := hide (fun (h : okS l[q] = true) => ahd_bd l[q] h)
      generalize l[q] = s at *
      obtain ⟨s1, s2⟩ := s
      simp only at c0 c1
      have hbr : bx < wr.heap.size := by have := hbe.size; omega
      go_wp2_with fail
      refine (refRight_any s1 s2 _).mono ?_
      rintro e w1 ⟨rfl, hb1⟩
      have hbe1 : Below w.heap.size w w1 := hbe.trans (hb1.mono hbe.size)
      have d0 := (hb1.cell (p := ⟨bx, ox + q * 2, none⟩) hbr).trans c0
      have d1 := (hb1.cell (p := ⟨bx, ox + q * 2 + 1, none⟩) hbr).trans c1
      cases hok : okS (s1, s2)
      · have HOK := hide hok
        clear hok
        have HF := hide (HH.out HOK.out)
        go_wp2_with fail
        go_ret3
        refine ⟨?_, hbe1⟩
        unfold sizesS
        rw [HF.out]
        rfl
      · have hb := (okS_iff _).1 hok
        simp only at hb
        have hbb := HB.out hok
        have HOK := hide hok
        clear hok c0 c1
        rw [HOK.out, Bool.and_true] at HA
        rcases (show s1 = 0 ∨ s1 = 1 ∨ s1 = 2 by omega) with rfl | rfl | rfl
        all_goals
          go_wp2_with fail
          go_roundw
          case rel =>
            refine ⟨q + 1, _, _, by omega, by go_num, rfl, rfl, by omega, by omega, by omega, by omega, ⟨by rw [HA.out]; exact hS.out.1, ?_, ?_⟩, hbe1⟩
            · rw [HS1.out, ← hS.out.2.1]
              simp [ahdN]
            · rw [HS2.out, ← hS.out.2.2]
              simp [bhdN]
          case measure => simp [intOf]; omega
    · have hqe : q = n := by omega
      subst hqe
      go_wp2_with fail
      go_ret3
      refine ⟨?_, hbe⟩
      obtain ⟨h1, h2, h3⟩ := hS.out
      rw [show l.take q = l from List.take_of_length_le (by rw [HN.out]; exact Nat.le_refl _)] at h1 h2 h3
      unfold sizesS
      rw [h1, ← h2, ← h3]
      rfl

def countsS (l : List Step) : Value := .agg #[.int .i64 (sum (cnt 0) l), .int .i64 (sum (cnt 1) l), .int .i64 (sum (cnt 2) l)]

set_option maxHeartbeats 2000000 in
theorem counts_any (A : Option Addr) (n c b0 : Nat) (l : List Step) (w : World) (hn : n = l.length) (hx : Reads w b0 A (stepCells l)) (hb0 : b0 ≤ w.heap.size) (hs : n ≤ 8796093021952) :
    Calls Try.prog 17 #[.slice A n c] w fun e w' => e = .returned (countsS l) ∧ Below w.heap.size w w' := by
  have HX := hide hx
  have HN := hide hn
  clear hx hn
  go_enter Try.func17, Try.ntmps17
  go_wp2_with fail
  go_loopw [8] (fun i wr => ∃ (q : Nat) (x y z : Int), q ≤ n ∧ i = .int .i64 q ∧ 0 ≤ x ∧ x ≤ 1048576 * q ∧ 0 ≤ y ∧ y ≤ 1048576 * q ∧ 0 ≤ z ∧ z ≤ 1048576 * q ∧ Hid (x = sum (cnt 0) (l.take q) ∧ y = sum (cnt 1) (l.take q) ∧ z = sum (cnt 2) (l.take q)) ∧ Blk wr (w.heap.size + 1) 38 #[.int .i64 x, .int .i64 y, .int .i64 z] ∧ Blk wr w.heap.size 38 #[.int .i64 0, .int .i64 0, .int .i64 0] ∧ Below w.heap.size w wr) (fun i _ => n - (intOf i).toNat)
  case atStart =>
    refine ⟨0, 0, 0, 0, by omega, rfl, by omega, by omega, by omega, by omega, by omega, by omega, ⟨rfl, rfl, rfl⟩, ?_, ?_, ((Below.refl _ _).alloc (Nat.le_refl _) _).alloc (by simp) _⟩
    · have := Blk.new (w.alloc (.cells #[.int .i64 0, .int .i64 0, .int .i64 0] 38)) 38 #[.int .i64 0, .int .i64 0, .int .i64 0]
      simpa using this
    · exact (Blk.new w 38 #[.int .i64 0, .int .i64 0, .int .i64 0]).alloc _
  case round =>
    obtain ⟨q, x, y, z, hq, rfl, hx0, hx1, hy0, hy1, hz0, hz1, hS, hblk, hblk0, hbe⟩ := hrel
    by_cases hlt : q < n
    · have hl1 : q < l.length := by rw [← HN.out]; exact hlt
      obtain ⟨bx, ox, rfl, hbx, c0, c1⟩ := (HX.out.below hbe hb0).stepAt hl1
      have HS1 := hide (sum_take (cnt 0) l q hl1)
      have HS2 := hide (sum_take (cnt 1) l q hl1)
      have HS3 := hide (sum_take (cnt 2) l q hl1)
      generalize l[q] = s at *
      obtain ⟨s1, s2⟩ := s
      simp only at c0 c1
      have hgs := hblk.lt
      have HBLK := hide hblk
      have HBLK0 := hide hblk0
      clear hblk hblk0
      go_wp2_with fail
      refine (right_any s1 s2 _).mono ?_
      rintro e w1 ⟨rfl, hb1⟩
      have hb1' : Below wr.heap.size wr w1 := ((Below.refl wr.heap.size wr).alloc (Nat.le_refl _) _).trans (hb1.mono (by simp))
      have hbe1 : Below w.heap.size w w1 := below_step hbe hb1'
      have d0 : w1.cell? ⟨wr.heap.size, 0, none⟩ = some (.int .i64 s1) := (hb1.cell (p := ⟨wr.heap.size, 0, none⟩) (by simp)).trans (by simp [go_sem])
      have d1 : w1.cell? ⟨wr.heap.size, 1, none⟩ = some (.int .i64 s2) := (hb1.cell (p := ⟨wr.heap.size, 1, none⟩) (by simp)).trans (by simp [go_sem])
      have HB1 := hide (HBLK.out.below hb1' hgs)
      have HB0 := hide (HBLK0.out.below hb1' (by omega))
      cases hok : okS (s1, s2)
      · have z0 : ∀ k, cnt k (s1, s2) = 0 := fun k => by unfold cnt; rw [hok]; simp
        have HZ := hide z0
        clear hok z0
        go_wp2_with fail
        go_roundw
        case rel =>
          refine ⟨q + 1, x, y, z, by omega, by go_num, by omega, by omega, by omega, by omega, by omega, by omega, ⟨?_, ?_, ?_⟩, HB1.out, HB0.out, hbe1⟩
          · rw [HS1.out, ← hS.out.1, HZ.out, Int.add_zero]
          · rw [HS2.out, ← hS.out.2.1, HZ.out, Int.add_zero]
          · rw [HS3.out, ← hS.out.2.2, HZ.out, Int.add_zero]
        case measure => simp [intOf]; omega
      · have hb := (okS_iff _).1 hok
        simp only at hb
        have HOK := hide hok
        clear hok
        have e0 := HB1.out.cell 0
        have e1 := HB1.out.cell 1
        have e2 := HB1.out.cell 2
        have e3 := HB1.out.frozen 0
        have e4 := HB1.out.frozen 1
        have e5 := HB1.out.frozen 2
        simp at e0 e1 e2
        rcases (show s1 = 0 ∨ s1 = 1 ∨ s1 = 2 by omega) with rfl | rfl | rfl
        · go_wp2_with fail
          go_region
          go_wp2_with fail
          go_roundw
          case rel =>
            refine ⟨q + 1, x + s2, y, z, by omega, by go_num, by omega, by omega, by omega, by omega, by omega, by omega, ⟨?_, ?_, ?_⟩, ?_, (HB0.out.far (by simp) _).drew, (hbe1.setCell (by simp) _).drew⟩
            · rw [HS1.out, ← hS.out.1]; simp [cnt, HOK.out]
            · rw [HS2.out, ← hS.out.2.1]; simp [cnt, HOK.out]
            · rw [HS3.out, ← hS.out.2.2]; simp [cnt, HOK.out]
            · have := (HB1.out.set_ 0 (.int .i64 (x + s2))).drew
              simpa using this
          case measure => simp [intOf]; omega
        · go_wp2_with fail
          go_region
          go_wp2_with fail
          go_roundw
          case rel =>
            refine ⟨q + 1, x, y + s2, z, by omega, by go_num, by omega, by omega, by omega, by omega, by omega, by omega, ⟨?_, ?_, ?_⟩, ?_, (HB0.out.far (by simp) _).drew, (hbe1.setCell (by simp) _).drew⟩
            · rw [HS1.out, ← hS.out.1]; simp [cnt, HOK.out]
            · rw [HS2.out, ← hS.out.2.1]; simp [cnt, HOK.out]
            · rw [HS3.out, ← hS.out.2.2]; simp [cnt, HOK.out]
            · have := (HB1.out.set_ 1 (.int .i64 (y + s2))).drew
              simpa using this
          case measure => simp [intOf]; omega
        · go_wp2_with fail
          go_region
          go_wp2_with fail
          go_roundw
          case rel =>
            refine ⟨q + 1, x, y, z + s2, by omega, by go_num, by omega, by omega, by omega, by omega, by omega, by omega, ⟨?_, ?_, ?_⟩, ?_, (HB0.out.far (by simp) _).drew, (hbe1.setCell (by simp) _).drew⟩
            · rw [HS1.out, ← hS.out.1]; simp [cnt, HOK.out]
            · rw [HS2.out, ← hS.out.2.1]; simp [cnt, HOK.out]
            · rw [HS3.out, ← hS.out.2.2]; simp [cnt, HOK.out]
            · have := (HB1.out.set_ 2 (.int .i64 (z + s2))).drew
              simpa using this
          case measure => simp [intOf]; omega
    · have hqe : q = n := by omega
      subst hqe
      have e0 := hblk.cell 0
      have e1 := hblk.cell 1
      have e2 := hblk.cell 2
      have e3 := hblk0.frozen 0
      have e4 := hblk0.frozen 1
      have e5 := hblk0.frozen 2
      have e6 := hblk0.cell 0
      have e7 := hblk0.cell 1
      have e8 := hblk0.cell 2
      simp at e0 e1 e2 e6 e7 e8
      clear hblk hblk0
      go_wp2_with fail
      obtain ⟨h1, h2, h3⟩ := hS.out
      rw [show l.take q = l from List.take_of_length_le (by rw [HN.out]; exact Nat.le_refl _)] at h1 h2 h3
      refine bodyPost_ret (v := .agg #[.int .i64 x, .int .i64 y, .int .i64 z]) (by simp [results, Try.results17, go_sem, e6, e7, e8]) rfl ⟨?_, ((hbe.setCell (by simp) _).setCell (by simp) _).setCell (by simp) _⟩
      unfold countsS
      rw [← h1, ← h2, ← h3]
end Go.Proofs.Ytpahgpmhnpfnhaa
