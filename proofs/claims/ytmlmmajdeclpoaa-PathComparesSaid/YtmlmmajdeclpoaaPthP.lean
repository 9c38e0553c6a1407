/-
  The walk of the law on paths' order.
-/
import Derived.Test.YtmlmmajdeclpoaaPthW
namespace Go.Proofs.Ytmlmmajdeclpoaa
open Go.RowKit
set_option maxHeartbeats 4000000 in
theorem compares_zero (A : Option Addr) (n c : Nat) (l : List Step) (B : Option Addr) (m d : Nat) (k : List Step) (w : World) (hn : n = l.length) (hx : Reads w w.heap.size A (stepCells l)) (hc : n ≤ c) (hcm : c ≤ maxLen) (hm : m = k.length) (hy : Reads w w.heap.size B (stepCells k)) (hd : m ≤ d) (hdm : d ≤ maxLen) (h : cmpP l k = 0) :
    Calls Try.prog 4 #[.slice A n c, .slice B m d] w fun e w' => e = .returned (.bool true) ∧ Below w.heap.size w w' := by
  have H1 : Hid (cmpP l k = 0) := h
  have H2 : Hid (cmpP k l = 0) := by show _ = _; rw [cmpP_turn, h]; (try rfl)
  have H3 : Hid ((l == k) = true) := by
    show _ = _
    have hz := cmpP_zero l k
    rw [h] at hz
    simpa using hz.1 rfl
  have HN := hide hn
  have HM := hide hm
  have HX := hide hx
  have HY := hide hy
  have lx : n ≤ maxLen := Nat.le_trans hc hcm
  have ly : m ≤ maxLen := Nat.le_trans hd hdm
  clear hn hm hx hy h
  go_enter Try.func4, Try.ntmps4
  go_wp2_with fail
  refine (cmp_any A B n m c d w.heap.size l k _ HN.out HM.out HX.out HY.out (Nat.le_refl _) lx ly).mono ?_
  rintro e w1 ⟨rfl, hb1⟩
  rw [H1.out]
  go_wp2_with fail
  refine (refCmp_any A B n m c d w.heap.size l k _ HN.out HM.out (HX.out.below hb1 (Nat.le_refl _)) (HY.out.below hb1 (Nat.le_refl _)) lx ly).mono ?_
  rintro e w2 ⟨rfl, q, rfl⟩
  have hb2 := below_drewN hb1 q
  rw [H1.out]
  go_wp2_with fail
  refine (cmp_any B A m n d c w.heap.size k l _ HM.out HN.out (HY.out.below hb2 (Nat.le_refl _)) (HX.out.below hb2 (Nat.le_refl _)) hb2.size ly lx).mono ?_
  rintro e w3 ⟨rfl, hb3⟩
  have hb4 := below_step hb2 hb3
  rw [H2.out]
  go_wp2_with fail
  refine (sameS_any A B c d w.heap.size n m l k _ HN.out HM.out (HX.out.below hb4 (Nat.le_refl _)) (HY.out.below hb4 (Nat.le_refl _)) lx ly).mono ?_
  rintro e w5 ⟨rfl, q5, rfl⟩
  have hb5 := below_drewN hb4 q5
  rw [H3.out]
  go_wp2_with fail
  refine (awake_any _).mono ?_
  rintro e w6 ⟨rfl, hb6⟩
  have hb7 := below_step hb5 hb6
  go_wp2_with fail
  go_ret
  exact ⟨rfl, hb7⟩
set_option maxHeartbeats 4000000 in
theorem compares_less (A : Option Addr) (n c : Nat) (l : List Step) (B : Option Addr) (m d : Nat) (k : List Step) (w : World) (hn : n = l.length) (hx : Reads w w.heap.size A (stepCells l)) (hc : n ≤ c) (hcm : c ≤ maxLen) (hm : m = k.length) (hy : Reads w w.heap.size B (stepCells k)) (hd : m ≤ d) (hdm : d ≤ maxLen) (h : cmpP l k = -1) :
    Calls Try.prog 4 #[.slice A n c, .slice B m d] w fun e w' => e = .returned (.bool true) ∧ Below w.heap.size w w' := by
  have H1 : Hid (cmpP l k = -1) := h
  have H2 : Hid (cmpP k l = 1) := by show _ = _; rw [cmpP_turn, h]; (try rfl)
  have H3 : Hid ((l == k) = false) := by
    show _ = _
    have hz := cmpP_zero l k
    rw [h] at hz
    apply Bool.eq_false_iff.2
    intro h2
    have h3 : l = k := by simpa using h2
    exact absurd (hz.2 h3) (by decide)
  have HN := hide hn
  have HM := hide hm
  have HX := hide hx
  have HY := hide hy
  have lx : n ≤ maxLen := Nat.le_trans hc hcm
  have ly : m ≤ maxLen := Nat.le_trans hd hdm
  clear hn hm hx hy h
  go_enter Try.func4, Try.ntmps4
  go_wp2_with fail
  refine (cmp_any A B n m c d w.heap.size l k _ HN.out HM.out HX.out HY.out (Nat.le_refl _) lx ly).mono ?_
  rintro e w1 ⟨rfl, hb1⟩
  rw [H1.out]
  go_wp2_with fail
  refine (refCmp_any A B n m c d w.heap.size l k _ HN.out HM.out (HX.out.below hb1 (Nat.le_refl _)) (HY.out.below hb1 (Nat.le_refl _)) lx ly).mono ?_
  rintro e w2 ⟨rfl, q, rfl⟩
  have hb2 := below_drewN hb1 q
  rw [H1.out]
  go_wp2_with fail
  refine (cmp_any B A m n d c w.heap.size k l _ HM.out HN.out (HY.out.below hb2 (Nat.le_refl _)) (HX.out.below hb2 (Nat.le_refl _)) hb2.size ly lx).mono ?_
  rintro e w3 ⟨rfl, hb3⟩
  have hb4 := below_step hb2 hb3
  rw [H2.out]
  go_wp2_with fail
  refine (sameS_any A B c d w.heap.size n m l k _ HN.out HM.out (HX.out.below hb4 (Nat.le_refl _)) (HY.out.below hb4 (Nat.le_refl _)) lx ly).mono ?_
  rintro e w5 ⟨rfl, q5, rfl⟩
  have hb5 := below_drewN hb4 q5
  rw [H3.out]
  go_wp2_with fail
  refine (awake_any _).mono ?_
  rintro e w6 ⟨rfl, hb6⟩
  have hb7 := below_step hb5 hb6
  go_wp2_with fail
  go_ret
  exact ⟨rfl, hb7⟩
set_option maxHeartbeats 4000000 in
theorem compares_more (A : Option Addr) (n c : Nat) (l : List Step) (B : Option Addr) (m d : Nat) (k : List Step) (w : World) (hn : n = l.length) (hx : Reads w w.heap.size A (stepCells l)) (hc : n ≤ c) (hcm : c ≤ maxLen) (hm : m = k.length) (hy : Reads w w.heap.size B (stepCells k)) (hd : m ≤ d) (hdm : d ≤ maxLen) (h : cmpP l k = 1) :
    Calls Try.prog 4 #[.slice A n c, .slice B m d] w fun e w' => e = .returned (.bool true) ∧ Below w.heap.size w w' := by
  have H1 : Hid (cmpP l k = 1) := h
  have H2 : Hid (cmpP k l = -1) := by show _ = _; rw [cmpP_turn, h]; (try rfl)
  have H3 : Hid ((l == k) = false) := by
    show _ = _
    have hz := cmpP_zero l k
    rw [h] at hz
    apply Bool.eq_false_iff.2
    intro h2
    have h3 : l = k := by simpa using h2
    exact absurd (hz.2 h3) (by decide)
  have HN := hide hn
  have HM := hide hm
  have HX := hide hx
  have HY := hide hy
  have lx : n ≤ maxLen := Nat.le_trans hc hcm
  have ly : m ≤ maxLen := Nat.le_trans hd hdm
  clear hn hm hx hy h
  go_enter Try.func4, Try.ntmps4
  go_wp2_with fail
  refine (cmp_any A B n m c d w.heap.size l k _ HN.out HM.out HX.out HY.out (Nat.le_refl _) lx ly).mono ?_
  rintro e w1 ⟨rfl, hb1⟩
  rw [H1.out]
  go_wp2_with fail
  refine (refCmp_any A B n m c d w.heap.size l k _ HN.out HM.out (HX.out.below hb1 (Nat.le_refl _)) (HY.out.below hb1 (Nat.le_refl _)) lx ly).mono ?_
  rintro e w2 ⟨rfl, q, rfl⟩
  have hb2 := below_drewN hb1 q
  rw [H1.out]
  go_wp2_with fail
  refine (cmp_any B A m n d c w.heap.size k l _ HM.out HN.out (HY.out.below hb2 (Nat.le_refl _)) (HX.out.below hb2 (Nat.le_refl _)) hb2.size ly lx).mono ?_
  rintro e w3 ⟨rfl, hb3⟩
  have hb4 := below_step hb2 hb3
  rw [H2.out]
  go_wp2_with fail
  refine (sameS_any A B c d w.heap.size n m l k _ HN.out HM.out (HX.out.below hb4 (Nat.le_refl _)) (HY.out.below hb4 (Nat.le_refl _)) lx ly).mono ?_
  rintro e w5 ⟨rfl, q5, rfl⟩
  have hb5 := below_drewN hb4 q5
  rw [H3.out]
  go_wp2_with fail
  refine (awake_any _).mono ?_
  rintro e w6 ⟨rfl, hb6⟩
  have hb7 := below_step hb5 hb6
  go_wp2_with fail
  go_ret
  exact ⟨rfl, hb7⟩

theorem compares_walk (A : Option Addr) (n c : Nat) (l : List Step) (B : Option Addr) (m d : Nat) (k : List Step) (w : World) (hn : n = l.length) (hx : Reads w w.heap.size A (stepCells l)) (hc : n ≤ c) (hcm : c ≤ maxLen) (hm : m = k.length) (hy : Reads w w.heap.size B (stepCells k)) (hd : m ≤ d) (hdm : d ≤ maxLen) :
    Calls Try.prog 4 #[.slice A n c, .slice B m d] w fun e w' => e = .returned (.bool true) ∧ Below w.heap.size w w' := by
  rcases cmpP_bd l k with h | h | h
  · exact compares_zero A n c l B m d k w hn hx hc hcm hm hy hd hdm h
  · exact compares_less A n c l B m d k w hn hx hc hcm hm hy hd hdm h
  · exact compares_more A n c l B m d k w hn hx hc hcm hm hy hd hdm h
end Go.Proofs.Ytmlmmajdeclpoaa
