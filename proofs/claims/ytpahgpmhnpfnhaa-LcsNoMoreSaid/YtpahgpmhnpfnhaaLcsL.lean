/-
  Diff of package lcs and of the reference.
-/
import Derived.Test.YtpahgpmhnpfnhaaLcsK
import Derived.Test.YtpahgpmhnpfnhaaLcsG
import Derived.Test.YtpahgpmhnpfnhaaLcsH
namespace Go.Proofs.Ytpahgpmhnpfnhaa
open Go.RowKit Go.Proofs.Ytpahgpmhnpfnhaa.Lcs Go.Proofs.Ytpahgpmhnpfnhaa.Scr

/-- the script of two lists -/
def diffL (a b : List Int) : List Step := nrm (wayS (Jof (Lcs.mt a b) a.length b.length) a.length b.length)
def farT (a b : List Int) : Nat := a.length + b.length - 2 * C (Lcs.mt a b) a.length b.length
def DiffPost (ty : TypeId) (a b : List Int) (most : Int) (w : World) (e : Ending) (w' : World) : Prop :=
  Below w.heap.size w w' ∧ (((farT a b : Int) ≤ most ∧ ∃ v, e = .returned (.tuple #[v, .bool true]) ∧ w'.ownsRow w.heap.size ty 2 v (diffL a b).length (stepCells (diffL a b))) ∨
    (most < (farT a b : Int) ∧ e = .returned (.tuple #[.slice none 0 0, .bool false])))
theorem find_diff (a b : List Int) (ha : a.length ≤ 1048576) : nrm (findL cutS (a.length + 1) a b) = diffL a b :=
  (find_way cutS (a.length + 1) a b _ (by omega) (by omega) ha (fun a' b' h J' hJ hh => cutS_is a' b' h J' hJ hh) (Jof_is _ _ _)).nrm

set_option maxHeartbeats 4000000 in
theorem diff_any (A : Option Addr) (n c : Nat) (a : List Int) (B : Option Addr) (m d : Nat) (b : List Int) (most : Int) (b0 : Nat) (w : World) (hn : n = a.length) (hm : m = b.length)
    (ha : Reads w b0 A (a.map (Value.int .i64))) (hb : Reads w b0 B (b.map (Value.int .i64))) (hb0 : b0 ≤ w.heap.size) (hnl : n ≤ 10000) (hml : m ≤ 10000) (hnc : n ≤ c) (hc : c ≤ maxLen) (hmd : m ≤ d) (hd : d ≤ maxLen) (hmo : -9223372036854775808 ≤ most ∧ most ≤ 9223372036854775807) :
    Calls Try.prog 8 #[.slice A n c, .slice B m d, .int .i64 most] w (DiffPost 52 a b most w) := by
  have HA := hide ha
  have HB := hide hb
  have HN := hide hn
  have HM := hide hm
  have HT : Hid (n + m - 2 * C (Lcs.mt a b) n m = farT a b) := by show _ = _; unfold farT; rw [← hn, ← hm]
  have HFD := hide (find_diff a b (by omega))
  have HFL : Hid ((findL cutS (a.length + 1) a b).length ≤ 300000) := by
    show _ ≤ _
    have := findL_len cutS (a.length + 1) a b
    omega
  have HIN : Hid (∀ w1 : World, Below w.heap.size w w1 → FAt (w1.alloc (.cells #[.slice none 0 0] 45)) w1.heap.size w1.heap.size [] (.slice none 0 0)) := fun w1 _ => ⟨Blk.new w1 _ _, World.ownsRow_nil _ _ _ _⟩
  clear ha hb hn hm
  by_cases hle : (farT a b : Int) ≤ most
  · have HD : Hid (distV (n + m - 2 * C (Lcs.mt a b) n m) most = .tuple #[.int .i64 (farT a b : Nat), .bool true]) := by
      show _ = _
      rw [HT.out]
      unfold distV
      rw [if_pos hle]
    have HLE := hide hle
    clear hle
    generalize hFT : farT a b = T at *
    have HFT := hide hFT
    clear hFT
    go_enter Try.func8, Try.ntmps8
    go_wp2_with fail
    refine (distance_any A n c a B m d b most b0 _ HN.out HM.out HA.out HB.out hb0 (by omega) (by omega) hmo).mono ?_
    rintro e w1 ⟨rfl, hb1⟩
    rw [HD.out]
    have HF1 := hide (HIN.out w1 hb1)
    have hbA : Below w1.heap.size w1 (w1.alloc (.cells #[.slice none 0 0] 45)) := (Below.refl _ _).alloc (Nat.le_refl _) _
    have hW1 := below_step hb1 hbA
    go_wp2_with fail
    have hbz := hbA.size
    generalize (w1.alloc (.cells #[.slice none 0 0] 45)) = w2 at *
    refine (find_any w1.heap.size w1.heap.size b0 (Nat.le_refl _) (Nat.le_trans hb0 hb1.size) (n + 1) [] _ A n c a B m d b _ (by omega) (by omega) HF1.out hbz (by simp; omega) HN.out (HA.out.below hW1 hb0) hnc hc (by omega) HM.out (HB.out.below hW1 hb0) hmd hd (by omega)).mono ?_
    rintro e w3 ⟨rfl, v3, hf3, hb3⟩
    rw [HN.out, List.nil_append] at hf3
    have hW3 : Below w.heap.size w w3 := hW1.trans (hb3.mono hb1.size)
    have c0 := hf3.1.cell 0
    simp at c0
    obtain ⟨A4, n4, c4, rfl, hn4, hc4, -, hr4⟩ := stepsReads hf3.2
    have HN4 := hide hn4
    have HR4 := hide hr4
    have hn4' : n4 ≤ 300000 := by rw [hn4]; exact HFL.out
    clear hf3 hn4 hr4
    go_wp2_with fail
    refine (normal_any A4 n4 c4 w3.heap.size _ _ HN4.out HR4.out (Nat.le_refl _) hn4').mono ?_
    rintro e w4 ⟨hb4, v4, rfl, ho4⟩
    rw [HFD.out] at ho4
    have HO4 := hide ho4
    clear ho4
    go_wp2_with fail
    go_ret2
    exact ⟨below_step hW3 hb4, .inl ⟨by rw [HFT.out]; exact HLE.out, _, rfl, ownsRow_base HO4.out hW3.size⟩⟩
  · have HD : Hid (distV (n + m - 2 * C (Lcs.mt a b) n m) most = .tuple #[.int .i64 0, .bool false]) := by
      show _ = _
      rw [HT.out]
      unfold distV
      rw [if_neg hle]
    have HLT : Hid (most < (farT a b : Int)) := by show _ < _; omega
    clear hle
    generalize hFT : farT a b = T at *
    have HFT := hide hFT
    clear hFT
    go_enter Try.func8, Try.ntmps8
    go_wp2_with fail
    refine (distance_any A n c a B m d b most b0 _ HN.out HM.out HA.out HB.out hb0 (by omega) (by omega) hmo).mono ?_
    rintro e w1 ⟨rfl, hb1⟩
    rw [HD.out]
    go_wp2_with fail
    go_ret2
    exact ⟨hb1, .inr ⟨by rw [HFT.out]; exact HLT.out, rfl⟩⟩
end Go.Proofs.Ytpahgpmhnpfnhaa
