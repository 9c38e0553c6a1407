/-
  Nil slots have nothing, and take nothing.
-/
import Derived.Test.YtipgobmnpheikaaSlotJ
namespace Go.Proofs.Ytipgobmnpheikaa
open Go.RowKit

theorem get_nil (i : Int) (w : World) :
    Calls Try.prog 11 #[.pointer none, .int .i64 i] w fun e w' => e = .returned (.tuple #[.slice none 0 0, .int .i64 15]) ∧ w = w' := by
  go_enter Try.func11, Try.ntmps11
  go_wp2_with fail
  refine (has_nil i _).mono ?_
  rintro e w1 ⟨rfl, rfl⟩
  go_wp2_with fail
  go_ret2
  exact ⟨rfl, rfl⟩
theorem drop_nil (i : Int) (w : World) :
    Calls Try.prog 13 #[.pointer none, .int .i64 i] w fun e w' => e = .returned (.int .i64 15) ∧ w = w' := by
  go_enter Try.func13, Try.ntmps13
  go_wp2_with fail
  refine (has_nil i _).mono ?_
  rintro e w1 ⟨rfl, rfl⟩
  go_wp2_with fail
  go_ret
  exact ⟨rfl, rfl⟩
theorem twin_nil (w : World) :
    Calls Try.prog 10 #[.pointer none] w fun e w' => e = .returned (.pointer none) ∧ w = w' := by
  go_enter Try.func10, Try.ntmps10
  go_wp2_with fail
  go_ret
  exact ⟨rfl, rfl⟩
theorem full_nil (w : World) :
    Calls Try.prog 15 #[.pointer none] w fun e w' => e = .returned (.slice none 0 0) ∧ w = w' := by
  go_enter Try.func15, Try.ntmps15
  go_wp2_with fail
  go_loopw [3, 5] (fun v i wr => ∃ k : Nat, k ≤ 16 ∧ v = .slice none 0 0 ∧ i = .int .i64 k ∧ wr = w) (fun _ i _ => 16 - (intOf i).toNat)
  case atStart => exact ⟨0, by omega, rfl, rfl, rfl⟩
  case round =>
    obtain ⟨k, hk, rfl, rfl, rfl⟩ := hrel
    by_cases hlt : k < 16
    · go_wp2_with fail
      refine (has_nil k _).mono ?_
      rintro e w1 ⟨rfl, rfl⟩
      go_wp2_with fail
      go_roundw
      case rel => exact ⟨k + 1, by omega, rfl, by go_num, by first | trivial | rfl⟩
      case measure => simp [intOf]; omega
    · go_wp2_with fail
      go_ret
      exact ⟨rfl, rfl⟩
theorem all_none (ats : List Int) : ats.all (inP none) = decide (ats.length = 0) := by
  cases ats with
  | nil => rfl
  | cons x r => simp [inP]
theorem put_nil (A L : Option Addr) (n c m d b0 : Nat) (ats : List Int) (w : World)
    (hn : n = ats.length) (ha : Reads w b0 A (ats.map (Value.int .i64))) (hb0 : b0 ≤ w.heap.size) (ln : n ≤ maxLen) (lm : m ≤ maxLen) (r : Int) (hr : r = if n ≠ m then 2 else if n = 0 then 0 else 15) :
    Calls Try.prog 12 #[.pointer none, .slice A n c, .slice L m d] w fun e w' => e = .returned (.int .i64 r) ∧ Below w.heap.size w w' := by
  have HN := hide hn
  have HA := hide (all_none ats)
  rw [← hn] at HA
  clear hn
  by_cases hnm : n = m
  · subst hnm
    by_cases h0 : n = 0
    · subst h0
      obtain rfl : r = 0 := by rw [hr]; simp
      clear hr
      go_enter Try.func12, Try.ntmps12
      go_wp2_with fail
      refine (contains_any none w.heap.size A _ c b0 ats _ HN.out (by simp [go_sem]) (ha.alloc hb0 _) ln).mono ?_
      rintro e w1 ⟨rfl, rfl⟩
      rw [HA.out]
      go_wp2_with fail
      go_loopw [19] (fun i wr => i = .int .i64 0 ∧ Below w.heap.size w wr) (fun _ _ => 1)
      case atStart => exact ⟨rfl, (Below.refl _ _).alloc (Nat.le_refl _) _⟩
      case round =>
        obtain ⟨rfl, hbe⟩ := hrel
        go_wp2_with fail
        go_ret
        exact ⟨rfl, hbe⟩
    · have hd : decide (n = 0) = false := by simp [h0]
      obtain rfl : r = 15 := by rw [hr, if_neg (by simp), if_neg h0]
      clear hr
      have HD := hide hd
      clear hd
      go_enter Try.func12, Try.ntmps12
      go_wp2_with fail
      refine (contains_any none w.heap.size A _ c b0 ats _ HN.out (by simp [go_sem]) (ha.alloc hb0 _) ln).mono ?_
      rintro e w1 ⟨rfl, rfl⟩
      rw [HA.out, HD.out]
      go_wp2_with fail
      go_ret
      exact ⟨rfl, (Below.refl _ _).alloc (Nat.le_refl _) _⟩
  · obtain rfl : r = 2 := by rw [hr, if_pos hnm]
    clear hr
    have hq : ((n : Int) != (m : Int)) = true := by simp; omega
    go_enter Try.func12, Try.ntmps12
    go_wp2_with fail
    go_ret
    exact ⟨rfl, (Below.refl _ _).alloc (Nat.le_refl _) _⟩

set_option maxHeartbeats 4000000 in
theorem none_walk (x : Deed) (w : World) (hx : x.Ok w w.heap.size) :
    Calls Try.prog 5 #[x.val] w fun e w' => e = .returned (.bool true) ∧ Below w.heap.size w w' := by
  obtain ⟨k, i, A, n, c, L, m, d, ats, vs, ls⟩ := x
  obtain ⟨hn, hm, ha, hl, hv, ln, lm⟩ := hx
  simp only at hn hm ha hl hv ln lm
  have HN := hide hn
  have HA := hide ha
  clear hn hm ha hl hv
  unfold Deed.val
  simp only
  have hal : Below w.heap.size w (w.alloc (.cells #[.int .i64 k, .int .i64 i, .slice A n c, .slice L m d] 35)) := (Below.refl _ _).alloc (Nat.le_refl _) _
  by_cases hnm : n = m
  · by_cases h0 : n = 0
    · skip
      subst hnm
      subst h0
      go_enter Try.func5, Try.ntmps5
      go_wp2_with fail
      refine (get_nil i _).mono ?_
      rintro e w1 ⟨rfl, rfl⟩
      go_wp2_with fail
      refine (put_nil A L 0 c 0 d w.heap.size ats _ HN.out (HA.out.alloc (Nat.le_refl _) _) (by simp) ln lm 0 (by simp)).mono ?_
      rintro e w2 ⟨rfl, hb2⟩
      have c1 : w2.cell? ⟨w.heap.size, 1, none⟩ = some (.int .i64 i) := (hb2.cell (p := ⟨w.heap.size, 1, none⟩) (by simp)).trans (by simp [go_sem])
      have c2 : w2.cell? ⟨w.heap.size, 2, none⟩ = some (.slice A 0 c) := (hb2.cell (p := ⟨w.heap.size, 2, none⟩) (by simp)).trans (by simp [go_sem])
      have c3 : w2.cell? ⟨w.heap.size, 3, none⟩ = some (.slice L 0 d) := (hb2.cell (p := ⟨w.heap.size, 3, none⟩) (by simp)).trans (by simp [go_sem])
      go_wp2_with fail
      refine (drop_nil i _).mono ?_
      rintro e w3 ⟨rfl, rfl⟩
      go_wp2_with fail
      refine (has_nil i _).mono ?_
      rintro e w3 ⟨rfl, rfl⟩
      go_wp2_with fail
      refine (full_nil _).mono ?_
      rintro e w3 ⟨rfl, rfl⟩
      go_wp2_with fail
      refine (twin_nil _).mono ?_
      rintro e w3 ⟨rfl, rfl⟩
      go_wp2_with fail
      refine (awake_any _).mono ?_
      rintro e w3 ⟨rfl, hb3⟩
      go_wp2_with fail
      go_ret
      have hb4 : Below w.heap.size w w2 := hal.trans (hb2.mono (by simp))
      exact ⟨rfl, below_step hb4 hb3⟩
    · skip
      subst hnm
      have hq : decide ((n : Int) = 0) = false := by simp; omega
      have hq2 : ((n : Int) == 0) = false := by simp; omega
      go_enter Try.func5, Try.ntmps5
      go_wp2_with fail
      refine (get_nil i _).mono ?_
      rintro e w1 ⟨rfl, rfl⟩
      go_wp2_with fail
      refine (put_nil A L n c n d w.heap.size ats _ HN.out (HA.out.alloc (Nat.le_refl _) _) (by simp) ln lm 15 (by simp [h0])).mono ?_
      rintro e w2 ⟨rfl, hb2⟩
      have c1 : w2.cell? ⟨w.heap.size, 1, none⟩ = some (.int .i64 i) := (hb2.cell (p := ⟨w.heap.size, 1, none⟩) (by simp)).trans (by simp [go_sem])
      have c2 : w2.cell? ⟨w.heap.size, 2, none⟩ = some (.slice A n c) := (hb2.cell (p := ⟨w.heap.size, 2, none⟩) (by simp)).trans (by simp [go_sem])
      have c3 : w2.cell? ⟨w.heap.size, 3, none⟩ = some (.slice L n d) := (hb2.cell (p := ⟨w.heap.size, 3, none⟩) (by simp)).trans (by simp [go_sem])
      go_wp2_with fail
      refine (drop_nil i _).mono ?_
      rintro e w3 ⟨rfl, rfl⟩
      go_wp2_with fail
      refine (has_nil i _).mono ?_
      rintro e w3 ⟨rfl, rfl⟩
      go_wp2_with fail
      refine (full_nil _).mono ?_
      rintro e w3 ⟨rfl, rfl⟩
      go_wp2_with fail
      refine (twin_nil _).mono ?_
      rintro e w3 ⟨rfl, rfl⟩
      go_wp2_with fail
      refine (awake_any _).mono ?_
      rintro e w3 ⟨rfl, hb3⟩
      go_wp2_with fail
      go_ret
      have hb4 : Below w.heap.size w w2 := hal.trans (hb2.mono (by simp))
      exact ⟨rfl, below_step hb4 hb3⟩
  · skip
    have hq : ((n : Int) != (m : Int)) = true := by simp; omega
    go_enter Try.func5, Try.ntmps5
    go_wp2_with fail
    refine (get_nil i _).mono ?_
    rintro e w1 ⟨rfl, rfl⟩
    go_wp2_with fail
    refine (put_nil A L n c m d w.heap.size ats _ HN.out (HA.out.alloc (Nat.le_refl _) _) (by simp) ln lm 2 (by simp [hnm])).mono ?_
    rintro e w2 ⟨rfl, hb2⟩
    have c1 : w2.cell? ⟨w.heap.size, 1, none⟩ = some (.int .i64 i) := (hb2.cell (p := ⟨w.heap.size, 1, none⟩) (by simp)).trans (by simp [go_sem])
    have c2 : w2.cell? ⟨w.heap.size, 2, none⟩ = some (.slice A n c) := (hb2.cell (p := ⟨w.heap.size, 2, none⟩) (by simp)).trans (by simp [go_sem])
    have c3 : w2.cell? ⟨w.heap.size, 3, none⟩ = some (.slice L m d) := (hb2.cell (p := ⟨w.heap.size, 3, none⟩) (by simp)).trans (by simp [go_sem])
    go_wp2_with fail
    refine (drop_nil i _).mono ?_
    rintro e w3 ⟨rfl, rfl⟩
    go_wp2_with fail
    refine (has_nil i _).mono ?_
    rintro e w3 ⟨rfl, rfl⟩
    go_wp2_with fail
    refine (full_nil _).mono ?_
    rintro e w3 ⟨rfl, rfl⟩
    go_wp2_with fail
    refine (twin_nil _).mono ?_
    rintro e w3 ⟨rfl, rfl⟩
    go_wp2_with fail
    refine (awake_any _).mono ?_
    rintro e w3 ⟨rfl, hb3⟩
    go_wp2_with fail
    go_ret
    have hb4 : Below w.heap.size w w2 := hal.trans (hb2.mono (by simp))
    exact ⟨rfl, below_step hb4 hb3⟩
end Go.Proofs.Ytipgobmnpheikaa
