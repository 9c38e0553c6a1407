/-
  The walk of the law on what stands at a path.
-/
import Derived.Test.YtmlmmajdeclpoaaPthW
import Derived.Test.YtmlmmajdeclpoaaPthH
import Derived.Test.YtmlmmajdeclpoaaPthF
namespace Go.Proofs.Ytmlmmajdeclpoaa
open Go.RowKit

set_option maxRecDepth 100000 in
set_option maxHeartbeats 8000000 in
theorem gets_walk (t : T) (v : Tv) (L : Option Addr) (n c : Nat) (l : List Step) (w : World) (ht : TreeAt w (fun b => b < w.heap.size) t v) (hn : n = l.length) (hx : Reads w w.heap.size L (stepCells l)) (hnc : n ≤ c) (hcm : c ≤ maxLen) :
    Calls Try.prog 3 #[v.val, .slice L n c] w fun e w' => e = .returned (.bool true) ∧ Below w.heap.size w w' := by
  obtain ⟨k, A, n', c', K, m, d⟩ := v
  have lx : n ≤ maxLen := Nat.le_trans hnc hcm
  have hb1 : Below w.heap.size w (w.alloc (.cells #[.int .i64 k, .slice A n' c', .slice K m d] 25)) := (Below.refl _ _).alloc (Nat.le_refl _) _
  have hB1 := Blk.new w 25 #[.int .i64 k, .slice A n' c', .slice K m d]
  have HT : Hid (∀ W, Below w.heap.size w W → TreeAt W (fun b => b < w.heap.size) t ⟨k, A, n', c', K, m, d⟩ ∧ (∀ b, (fun b => b < w.heap.size) b → b < W.heap.size)) := fun W hW => ⟨ht.bel hW (fun b hb => hb), fun b hb => Nat.lt_of_lt_of_le hb hW.size⟩
  have HX : Hid (∀ W, Below w.heap.size w W → Reads W w.heap.size L (stepCells l)) := fun W hW => hx.below hW (Nat.le_refl _)
  have HN := hide hn
  clear ht hx hn
  have HFEW : Hid (∀ W, Below w.heap.size w W → Calls Try.prog 5 #[.agg #[.int .i64 k, .slice A n' c', .slice K m d]] W (BoolPost W)) := fun W hW => few_any t ⟨k, A, n', c', K, m, d⟩ _ W (HT.out W hW).1 (HT.out W hW).2
  have HRT : Hid (∀ W, Below w.heap.size w W → Calls Try.prog 6 #[.agg #[.int .i64 k, .slice A n' c', .slice K m d], .int .i64 64] W (RightPost t W)) := fun W hW => right_any _ t ⟨k, A, n', c', K, m, d⟩ _ 64 W (Nat.le_refl _) (HT.out W hW).1 (HT.out W hW).2 (by decide) (by decide)
  have HGET : Hid (∀ W, Below w.heap.size w W → Calls Try.prog 8 #[.agg #[.int .i64 k, .slice A n' c', .slice K m d], .slice L n c] W fun e w' => ∃ k9 A9 n9 c9 K9 m9 d9, e = .returned (.tuple #[.agg #[.int .i64 k9, .slice A9 n9 c9, .slice K9 m9 d9], .bool (getP t l).2]) ∧ TreeAt w' (fun b => W.heap.size ≤ b ∧ b < w'.heap.size) (getP t l).1 ⟨k9, A9, n9, c9, K9, m9, d9⟩ ∧ Below W.heap.size W w') := fun W hW => by
    refine (get_any t ⟨k, A, n', c', K, m, d⟩ _ L n c w.heap.size l W (HT.out W hW).1 (HT.out W hW).2 HN.out (HX.out W hW) hW.size lx).mono ?_
    rintro e w' ⟨⟨k9, A9, n9, c9, K9, m9, d9⟩, rfl, h1, h2⟩
    exact ⟨k9, A9, n9, c9, K9, m9, d9, rfl, h1, h2⟩
  have HREF : Hid (Rt t → ∀ W, Below w.heap.size w W → Calls Try.prog 9 #[.agg #[.int .i64 k, .slice A n' c', .slice K m d], .slice L n c] W fun e w' => ∃ k9 A9 n9 c9 K9 m9 d9, e = .returned (.tuple #[.agg #[.int .i64 k9, .slice A9 n9 c9, .slice K9 m9 d9], .bool (getP t l).2]) ∧ TreeAt w' (fun b => W.heap.size ≤ b ∧ b < w'.heap.size) (getP t l).1 ⟨k9, A9, n9, c9, K9, m9, d9⟩ ∧ Below W.heap.size W w') := fun hR W hW => by
    refine (refGet_any l t ⟨k, A, n', c', K, m, d⟩ _ L n c w.heap.size W hR (HT.out W hW).1 (HT.out W hW).2 HN.out (HX.out W hW) hW.size hnc hcm).mono ?_
    rintro e w' ⟨⟨k9, A9, n9, c9, K9, m9, d9⟩, rfl, h1, h2⟩
    exact ⟨k9, A9, n9, c9, K9, m9, d9, rfl, h1, h2⟩
  show Calls _ _ #[.agg #[.int .i64 k, .slice A n' c', .slice K m d], _] _ _
  clear lx hnc hcm
  go_enter Try.func3, Try.ntmps3
  go_upto_region 1 with fail
  generalize w.alloc (.cells #[.int .i64 k, .slice A n' c', .slice K m d] 25) = w1 at *
  have c0 := hB1.cell 0
  have c1 := hB1.cell 1
  have c2 := hB1.cell 2
  simp at c0 c1 c2
  go_wp2_with fail
  refine (HFEW.out w1 hb1).mono ?_
  rintro e w2 ⟨b1, rfl, hb2⟩
  have hbe2 := hb1.trans (hb2.mono hb1.size)
  have hB2 := hB1.below hb2 hB1.lt
  clear c0 c1 c2
  have c0 := hB2.cell 0
  have c1 := hB2.cell 1
  have c2 := hB2.cell 2
  simp at c0 c1 c2
  cases b1
  · go_wp2_with fail
    refine (awake_any _).mono ?_
    rintro e w9 ⟨rfl, hb9⟩
    go_wp2_with fail
    go_ret
    exact ⟨rfl, hbe2.trans (hb9.mono hbe2.size)⟩
  · go_wp2_with fail
    refine (HRT.out w2 hbe2).mono ?_
    rintro e w3 ⟨b2, rfl, hRT, hb3⟩
    have hbe3 := hbe2.trans (hb3.mono hbe2.size)
    have hB3 := hB2.below hb3 hB2.lt
    clear c0 c1 c2
    have c0 := hB3.cell 0
    have c1 := hB3.cell 1
    have c2 := hB3.cell 2
    simp at c0 c1 c2
    cases b2
    · clear hRT
      go_wp2_with fail
      refine (awake_any _).mono ?_
      rintro e w9 ⟨rfl, hb9⟩
      go_wp2_with fail
      go_ret
      exact ⟨rfl, hbe3.trans (hb9.mono hbe3.size)⟩
    · have HRF := hide (HREF.out (hRT rfl))
      have HSM : Hid (∀ (W : World) (x y : Tv), TreeAt W (fun b => b < W.heap.size) (getP t l).1 x → TreeAt W (fun b => b < W.heap.size) (getP t l).1 y → Calls Try.prog 10 #[x.val, y.val] W fun e w' => e = .returned (.bool true) ∧ Below W.heap.size W w') := fun W x y hx hy => sameT_any _ _ x y _ W (Nat.le_refl _) hx hy (fun b hb => hb)
      clear hRT HREF
      generalize getP t l = r at *
      obtain ⟨rt, rb⟩ := r
      simp only at HGET HRF HSM
      have HG2 := hide (HGET.out w3 hbe3)
      clear HGET
      go_wp2_with fail
      refine HG2.out.mono ?_
      rintro e w4 ⟨k4, A4, n4, c4, K4, m4, d4, rfl, hT4, hb4⟩
      have HT4 := hide hT4
      clear hT4 c0 c1 c2 HG2
      go_upto_region 4 with fail
      have hs4 := hb4.size
      have hbe4 : Below w.heap.size w (w4.alloc (.cells #[.int .i64 k4, .slice A4 n4 c4, .slice K4 m4 d4] 25)) := (hbe3.trans (hb4.mono hbe3.size)).alloc (by have := hbe3.size; omega) _
      have hBa := Blk.new w4 25 #[.int .i64 k4, .slice A4 n4 c4, .slice K4 m4 d4]
      have hB4 := (hB3.below hb4 hB3.lt).alloc (.cells #[.int .i64 k4, .slice A4 n4 c4, .slice K4 m4 d4] 25)
      have HT4' : Hid (TreeAt (w4.alloc (.cells #[.int .i64 k4, .slice A4 n4 c4, .slice K4 m4 d4] 25)) (fun b => b < w4.heap.size) rt ⟨k4, A4, n4, c4, K4, m4, d4⟩) := (HT4.out.bel ((Below.refl w4.heap.size w4).alloc (Nat.le_refl _) _) (fun b hb => hb.2)).mono (fun b hb => hb.2)
      have HSA : Hid ((w4.alloc (.cells #[.int .i64 k4, .slice A4 n4 c4, .slice K4 m4 d4] 25)).heap.size = w4.heap.size + 1) := by show _ = _; simp
      generalize (w4.alloc (.cells #[.int .i64 k4, .slice A4 n4 c4, .slice K4 m4 d4] 25)) = wa at *
      generalize w4.heap.size = ga at *
      clear HT4
      have c0 := hB4.cell 0
      have c1 := hB4.cell 1
      have c2 := hB4.cell 2
      simp at c0 c1 c2
      have HG2 := hide (HRF.out wa hbe4)
      clear HRF
      go_wp2_with fail
      refine HG2.out.mono ?_
      rintro e w5 ⟨k5, A5, n5, c5, K5, m5, d5, rfl, hT5, hb5⟩
      have HT5 := hide hT5
      clear hT5 c0 c1 c2 HG2
      go_upto_region 5 with fail
      have hs5 := hb5.size
      have hbe5 : Below w.heap.size w (w5.alloc (.cells #[.int .i64 k5, .slice A5 n5 c5, .slice K5 m5 d5] 25)) := (hbe4.trans (hb5.mono hbe4.size)).alloc (by have := hbe4.size; omega) _
      have hBb := Blk.new w5 25 #[.int .i64 k5, .slice A5 n5 c5, .slice K5 m5 d5]
      have hBa5 := (hBa.below hb5 (by have := HSA.out; omega)).alloc (.cells #[.int .i64 k5, .slice A5 n5 c5, .slice K5 m5 d5] 25)
      have HT5' : Hid (TreeAt (w5.alloc (.cells #[.int .i64 k5, .slice A5 n5 c5, .slice K5 m5 d5] 25)) (fun b => b < (w5.alloc (.cells #[.int .i64 k5, .slice A5 n5 c5, .slice K5 m5 d5] 25)).heap.size) rt ⟨k5, A5, n5, c5, K5, m5, d5⟩) := (HT5.out.bel ((Below.refl w5.heap.size w5).alloc (Nat.le_refl _) _) (fun b hb => hb.2)).mono (fun b hb => by have := hb.2; rw [World.size_alloc]; omega)
      have HT45 : Hid (TreeAt (w5.alloc (.cells #[.int .i64 k5, .slice A5 n5 c5, .slice K5 m5 d5] 25)) (fun b => b < (w5.alloc (.cells #[.int .i64 k5, .slice A5 n5 c5, .slice K5 m5 d5] 25)).heap.size) rt ⟨k4, A4, n4, c4, K4, m4, d4⟩) := (HT4'.out.bel (hb5.alloc hb5.size _) (fun b hb => by have hb' : b < ga := hb; have := HSA.out; omega)).mono (fun b hb => by have hb' : b < ga := hb; have := HSA.out; rw [World.size_alloc]; omega)
      generalize (w5.alloc (.cells #[.int .i64 k5, .slice A5 n5 c5, .slice K5 m5 d5] 25)) = wb at *
      generalize w5.heap.size = gb at *
      have a0 := hBa5.cell 0
      have a1 := hBa5.cell 1
      have a2 := hBa5.cell 2
      have b0 := hBb.cell 0
      have b1 := hBb.cell 1
      have b2 := hBb.cell 2
      simp at a0 a1 a2 b0 b1 b2
      have HSS : Hid (Calls Try.prog 10 #[.agg #[.int .i64 k4, .slice A4 n4 c4, .slice K4 m4 d4], .agg #[.int .i64 k5, .slice A5 n5 c5, .slice K5 m5 d5]] wb fun e w' => e = .returned (.bool true) ∧ Below wb.heap.size wb w') := HSM.out wb ⟨k4, A4, n4, c4, K4, m4, d4⟩ ⟨k5, A5, n5, c5, K5, m5, d5⟩ HT45.out HT5'.out
      have fb : (rb == rb) = true := by simp
      go_wp2_with fail
      refine HSS.out.mono ?_
      rintro e w6 ⟨rfl, hb6⟩
      have hbe6 := hbe5.trans (hb6.mono hbe5.size)
      go_wp2_with fail
      refine (awake_any _).mono ?_
      rintro e w9 ⟨rfl, hb9⟩
      go_wp2_with fail
      go_ret
      exact ⟨rfl, hbe6.trans (hb9.mono hbe6.size)⟩
end Go.Proofs.Ytmlmmajdeclpoaa
