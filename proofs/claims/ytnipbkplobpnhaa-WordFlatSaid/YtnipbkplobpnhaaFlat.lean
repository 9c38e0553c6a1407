/-
  The walk of the law on Flat and Words.
-/
import Derived.Test.YtnipbkplobpnhaaFlatB
namespace Go.Proofs.Ytnipbkplobpnhaa
open Go.RowKit

theorem bytesOf_bd (x : Int) : ∀ y ∈ bytesOf x, 0 ≤ y ∧ y ≤ 255 := by
  intro y hy
  simp only [bytesOf, List.mem_cons, List.not_mem_nil, or_false] at hy
  rcases hy with h | h | h | h | h | h | h | h <;> subst h <;> exact ⟨bt_nonneg x _, bt_le x _⟩
theorem flatOf_bd (xs : List Int) : ∀ y ∈ flatOf xs, 0 ≤ y ∧ y ≤ 255 := by
  intro y hy
  obtain ⟨x, _, h⟩ := List.mem_flatMap.1 hy
  exact bytesOf_bd x y h

def zsOf (ys : List Int) : List Int := if ys.length % 8 = 0 then wordsOf ys (ys.length / 8) else []
theorem zsOf_le (ys : List Int) : (zsOf ys).length ≤ ys.length := by
  unfold zsOf
  split
  · rw [wordsOf_len]; omega
  · simp
theorem WordsPost.one {ys : List Int} {w w' : World} {e : Ending} (h : WordsPost ys w e w') :
    Below w.heap.size w w' ∧ ∃ A n c, e = .returned (.tuple #[.slice A n c, .bool (ys.length % 8 == 0)]) ∧ n = (zsOf ys).length ∧ Reads w' w'.heap.size A ((zsOf ys).map (Value.int .u64)) := by
  obtain ⟨hb, h⟩ := h
  refine ⟨hb, ?_⟩
  rcases h with ⟨hne, he⟩ | ⟨heq, A, n, c, he, hn, hr⟩
  · have h0 : zsOf ys = [] := by unfold zsOf; rw [if_neg hne]
    refine ⟨none, 0, 0, ?_, by rw [h0]; rfl, by rw [h0]; exact Reads.none_⟩
    have : (ys.length % 8 == 0) = false := by simp; omega
    rw [he, this]
  · have h0 : zsOf ys = wordsOf ys (ys.length / 8) := by unfold zsOf; rw [if_pos heq]
    refine ⟨A, n, c, ?_, by rw [h0, wordsOf_len]; exact hn, by rw [h0]; exact hr⟩
    have : (ys.length % 8 == 0) = true := by simp; omega
    rw [he, this]

set_option maxHeartbeats 4000000 in
theorem flat_walk (A0 : Option Addr) (n0 c0 : Nat) (xs : List Int) (A1 : Option Addr) (n1 c1 : Nat) (ys : List Int) (w : World)
    (hn0 : n0 = xs.length) (hc0 : n0 ≤ c0) (hm0 : c0 ≤ maxLen) (hr0 : Reads w w.heap.size A0 (xs.map (Value.int .u64))) (hw0 : ∀ x ∈ xs, 0 ≤ x ∧ x ≤ 18446744073709551615) (hs0 : n0 * 8 ≤ 140737488351232)
    (hn1 : n1 = ys.length) (hc1 : n1 ≤ c1) (hm1 : c1 ≤ maxLen) (hr1 : Reads w w.heap.size A1 (ys.map (Value.int .u8))) (hw1 : ∀ x ∈ ys, 0 ≤ x ∧ x ≤ 255) (hs1 : n1 * 1 ≤ 140737488351232) :
    Calls Try.prog 7 #[.slice A0 n0 c0, .slice A1 n1 c1] w fun e w' => e = .returned (.bool true) ∧ Below w.heap.size w w' := by
  have fin0 : ∀ w4 : World, Below w.heap.size w w4 → Reads w4 w4.heap.size A0 (xs.map (Value.int .u64)) := fun w4 h => (hr0.below h (Nat.le_refl _)).more h.size
  have fin1 : ∀ w4 : World, Below w.heap.size w w4 → Reads w4 w4.heap.size A1 (ys.map (Value.int .u8)) := fun w4 h => (hr1.below h (Nat.le_refl _)).more h.size
  have F0 := hide fin0
  have F1 := hide fin1
  have HW0 := hide hw0
  have HW1 := hide hw1
  have HN0 := hide hn0
  have HN1 := hide hn1
  have lx0 : n0 ≤ maxLen := by unfold maxLen; omega
  have lx1 : n1 ≤ maxLen := by unfold maxLen; omega
  have HLF := hide (flatOf_len xs)
  have HWF := hide (wordAt_flat xs hw0)
  clear fin0 fin1 hw0 hw1 hn0 hn1 hr0 hr1
  go_enter Try.func7, Try.ntmps7
  go_wp2_with fail
  refine (flat_any A0 n0 c0 w.heap.size xs _ HN0.out (F0.out _ (Below.refl _ _)) (Nat.le_refl _) HW0.out hs0).mono ?_
  rintro e w1 ⟨h1, A2, n2, c2, rfl, hn2, hnc2, hc2, -, hr2⟩
  have HN2 := hide hn2
  have R2 := hide hr2
  have hb2 : n2 ≤ 140737488351232 := by rw [hn2, flatOf_len, ← HN0.out]; omega
  clear hn2 hr2
  go_wp2_with fail
  refine (words_any A2 n2 c2 w1.heap.size (flatOf xs) _ HN2.out R2.out (Nat.le_refl _) (flatOf_bd xs) hnc2 hc2 hb2).mono ?_
  rintro e w2 ⟨h2, hp⟩
  have hp' : ∃ A n c, e = .returned (.tuple #[.slice A n c, .bool true]) ∧ n = xs.length ∧ Reads w2 w2.heap.size A (xs.map (Value.int .u64)) := by
    have hl := HLF.out
    rcases hp with ⟨hne, _⟩ | ⟨_, A, n, c, he, hn, hr⟩
    · omega
    · have e8 : (flatOf xs).length / 8 = xs.length := by omega
      rw [e8] at hn hr
      rw [HWF.out] at hr
      exact ⟨A, n, c, he, hn, hr⟩
  obtain ⟨A3, n3, c3, rfl, hn3, hr3⟩ := hp'
  have HN3 := hide hn3
  have R3 := hide hr3
  clear hn3 hr3 hp
  have h12 := below_step h1 h2
  have R2' := hide ((R2.out.below h2 (Nat.le_refl _)).more h2.size)
  go_wp2_with fail
  refine (refFlat_any A0 n0 c0 w2.heap.size xs _ HN0.out (F0.out _ h12) (Nat.le_refl _) HW0.out hs0).mono ?_
  rintro e w3 ⟨h3, A4, n4, c4, rfl, hn4, hnc4, hc4, -, hr4⟩
  have HN4 := hide hn4
  have R4 := hide hr4
  clear hn4 hr4
  have h13 := below_step h12 h3
  have R2'' := hide ((R2'.out.below h3 (Nat.le_refl _)).more h3.size)
  have R3' := hide ((R3.out.below h3 (Nat.le_refl _)).more h3.size)
  go_wp2_with fail
  refine (sameBytes_any A2 A4 c2 c4 w3.heap.size n2 n4 (flatOf xs) (flatOf xs) _ HN2.out HN4.out R2''.out R4.out (by omega) (by omega)).mono ?_
  rintro e w4 ⟨rfl, k4, rfl⟩
  rw [beq_self_eq_true]
  go_wp2_with fail
  refine (same_any A3 A0 c3 c0 w3.heap.size n3 n0 xs xs _ HN3.out HN0.out (R3'.out.drewN _) ((F0.out _ h13).drewN _) (by rw [HN3.out, ← HN0.out]; exact lx0) lx0).mono ?_
  rintro e w5 ⟨rfl, k5, rfl⟩
  rw [beq_self_eq_true]
  go_wp2_with fail
  have h14 : Below w.heap.size w (w3.drewN (k4 + k5)) := below_drewN h13 _
  generalize w3.drewN (k4 + k5) = w4 at *
  refine (words_any A1 n1 c1 w.heap.size ys _ HN1.out ((F1.out _ (Below.refl _ _)).below h14 (Nat.le_refl _)) h14.size HW1.out hc1 hm1 (by omega)).mono ?_
  intro e w5 hp
  obtain ⟨h5, A5, n5, c5, rfl, hn5, hr5⟩ := hp.one
  clear hp
  have HN5 := hide hn5
  have R5 := hide hr5
  have hn5b : n5 ≤ n1 := by rw [hn5, HN1.out]; exact zsOf_le ys
  clear hn5 hr5
  have h15 := below_step h14 h5
  go_wp2_with fail
  refine (refWords_any A1 n1 c1 w.heap.size ys _ HN1.out ((F1.out _ (Below.refl _ _)).below h15 (Nat.le_refl _)) h15.size HW1.out (by omega)).mono ?_
  intro e w6 hp
  obtain ⟨h6, A6, n6, c6, rfl, hn6, hr6⟩ := hp.one
  clear hp
  have HN6 := hide hn6
  have R6 := hide hr6
  have hn6b : n6 ≤ n1 := by rw [hn6, HN1.out]; exact zsOf_le ys
  clear hn6 hr6
  have h16 := below_step h15 h6
  have R5' := hide ((R5.out.below h6 (Nat.le_refl _)).more h6.size)
  generalize hbb : (ys.length % 8 == 0) = b at *
  go_wp2_with fail
  refine (same_any A5 A6 c5 c6 w6.heap.size n5 n6 (zsOf ys) (zsOf ys) _ HN5.out HN6.out R5'.out R6.out (by omega) (by omega)).mono ?_
  rintro e w7 ⟨rfl, k7, rfl⟩
  rw [beq_self_eq_true]
  go_wp2_with fail
  refine (awake_any _).mono ?_
  rintro e w8 ⟨rfl, h8⟩
  go_wp2_with fail
  go_ret
  exact ⟨rfl, below_step (below_drewN h16 _) h8⟩
end Go.Proofs.Ytnipbkplobpnhaa
