/-
  The same words, the same numbers: the references' comparisons of lists.
-/
import Derived.Test.YtipgobmnpheikaaLib
namespace Go.Proofs.Ytipgobmnpheikaa
open Go.RowKit

set_option maxHeartbeats 400000 in
theorem same_any (A B : Option Addr) (c d b0 n m : Nat) (xs ys : List Int) (w : World) (hn : n = xs.length) (hm : m = ys.length)
   (hx : Reads w b0 A (xs.map (Value.int .u64))) (hy : Reads w b0 B (ys.map (Value.int .u64)))
   (lx : n ≤ maxLen) (ly : m ≤ maxLen) :
    Calls Try.prog 21 #[.slice A n c, .slice B m d] w fun e w' => e = .returned (.bool (xs == ys)) ∧ ∃ k, w' = w.drewN k := by
  subst hn hm
  unfold maxLen at lx ly
  by_cases hl : xs.length = ys.length
  · have hl' : ((xs.length : Int) != (ys.length : Int)) = false := by rw [hl]; simp
    have HL := Lib.hid hl
    clear hl
    go_enter Try.func21, Try.ntmps21
    go_wp2
    go_loopw [5] (fun i wr => ∃ k : Nat, k ≤ xs.length ∧ i = .int .i64 k ∧ Hid (xs.take k = ys.take k) ∧ ∃ m, wr = w.drewN m) (fun i _ => xs.length - (intOf i).toNat)
    case atStart => exact ⟨0, by omega, rfl, by exact rfl, 0, rfl⟩
    case round =>
      obtain ⟨k, hk, rfl, he, m, rfl⟩ := hrel
      by_cases hlt : k < xs.length
      · have hlt2 : k < ys.length := by rw [← HL.out]; exact hlt
        obtain ⟨bx, ox, rfl, _, cx⟩ := hx.intAt hlt
        obtain ⟨bY, oy, rfl, _, cy⟩ := hy.intAt hlt2
        go_wp2
        go_quiet (fail)
        go_wp2
        · have ht : (xs[k] != ys[k]) = true := by assumption
          go_ret
          refine ⟨ret_bool ?_, m + nq, by first | rfl | rw [World.drewN_drewN]⟩
          have hne : xs ≠ ys := fun e => by subst e; simp at ht
          simp [hne]
        · go_roundw
          case rel =>
            have ht : (xs[k] != ys[k]) = false := by assumption
            have he2 : xs[k] = ys[k] := by simpa using ht
            refine ⟨k + 1, by omega, by go_num, ?_, _, rfl⟩
            have h1 := he.out
            show xs.take (k + 1) = ys.take (k + 1)
            rw [List.take_succ_eq_append_getElem hlt, List.take_succ_eq_append_getElem hlt2, h1, he2]
          case measure => simp [intOf]; omega
      · go_wp2
        go_ret
        refine ⟨ret_bool ?_, _, rfl⟩
        have h1 := he.out
        rw [List.take_of_length_le (by omega), List.take_of_length_le (by have := HL.out; omega)] at h1
        simp [h1]
  · have hl' : ((xs.length : Int) != (ys.length : Int)) = true := by rw [bne_iff_ne]; omega
    go_enter Try.func21, Try.ntmps21
    go_wp2
    go_ret
    exact ⟨ret_bool (by simp; intro h; exact absurd (by rw [h]) hl), 0, rfl⟩

set_option maxHeartbeats 400000 in
theorem sameInts_any (A B : Option Addr) (c d b0 n m : Nat) (xs ys : List Int) (w : World) (hn : n = xs.length) (hm : m = ys.length)
   (hx : Reads w b0 A (xs.map (Value.int .i64))) (hy : Reads w b0 B (ys.map (Value.int .i64)))
   (lx : n ≤ maxLen) (ly : m ≤ maxLen) :
    Calls Try.prog 18 #[.slice A n c, .slice B m d] w fun e w' => e = .returned (.bool (xs == ys)) ∧ ∃ k, w' = w.drewN k := by
  subst hn hm
  unfold maxLen at lx ly
  by_cases hl : xs.length = ys.length
  · have hl' : ((xs.length : Int) != (ys.length : Int)) = false := by rw [hl]; simp
    have HL := Lib.hid hl
    clear hl
    go_enter Try.func18, Try.ntmps18
    go_wp2
    go_loopw [5] (fun i wr => ∃ k : Nat, k ≤ xs.length ∧ i = .int .i64 k ∧ Hid (xs.take k = ys.take k) ∧ ∃ m, wr = w.drewN m) (fun i _ => xs.length - (intOf i).toNat)
    case atStart => exact ⟨0, by omega, rfl, by exact rfl, 0, rfl⟩
    case round =>
      obtain ⟨k, hk, rfl, he, m, rfl⟩ := hrel
      by_cases hlt : k < xs.length
      · have hlt2 : k < ys.length := by rw [← HL.out]; exact hlt
        obtain ⟨bx, ox, rfl, _, cx⟩ := hx.intAt hlt
        obtain ⟨bY, oy, rfl, _, cy⟩ := hy.intAt hlt2
        go_wp2
        go_quiet (fail)
        go_wp2
        · have ht : (xs[k] != ys[k]) = true := by assumption
          go_ret
          refine ⟨ret_bool ?_, m + nq, by first | rfl | rw [World.drewN_drewN]⟩
          have hne : xs ≠ ys := fun e => by subst e; simp at ht
          simp [hne]
        · go_roundw
          case rel =>
            have ht : (xs[k] != ys[k]) = false := by assumption
            have he2 : xs[k] = ys[k] := by simpa using ht
            refine ⟨k + 1, by omega, by go_num, ?_, _, rfl⟩
            have h1 := he.out
            show xs.take (k + 1) = ys.take (k + 1)
            rw [List.take_succ_eq_append_getElem hlt, List.take_succ_eq_append_getElem hlt2, h1, he2]
          case measure => simp [intOf]; omega
      · go_wp2
        go_ret
        refine ⟨ret_bool ?_, _, rfl⟩
        have h1 := he.out
        rw [List.take_of_length_le (by omega), List.take_of_length_le (by have := HL.out; omega)] at h1
        simp [h1]
  · have hl' : ((xs.length : Int) != (ys.length : Int)) = true := by rw [bne_iff_ne]; omega
    go_enter Try.func18, Try.ntmps18
    go_wp2
    go_ret
    exact ⟨ret_bool (by simp; intro h; exact absurd (by rw [h]) hl), 0, rfl⟩


end Go.Proofs.Ytipgobmnpheikaa
