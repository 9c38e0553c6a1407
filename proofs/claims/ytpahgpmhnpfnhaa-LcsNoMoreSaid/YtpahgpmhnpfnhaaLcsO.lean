/-
  few and the example of chapter 18.
-/
import Derived.Test.YtpahgpmhnpfnhaaLcsL
namespace Go.Proofs.Ytpahgpmhnpfnhaa
open Go.RowKit Go.Proofs.Ytpahgpmhnpfnhaa.Lcs Go.Proofs.Ytpahgpmhnpfnhaa.Scr

theorem reads_new (w : World) (t : TypeId) (cs : List Value) : Hid (Reads (w.alloc (.cells cs.toArray t)) (w.alloc (.cells cs.toArray t)).heap.size (some ⟨w.heap.size, 0, none⟩) cs) :=
  Reads.of_lit (by simp) fun j u hu => by
    rw [Nat.zero_add, (Blk.new w _ _).cell]
    simpa using hu
theorem two_new (w : World) (t : TypeId) (xs ys : List Value) (w2 : World) (h2 : (w.alloc (.cells xs.toArray t)).alloc (.cells ys.toArray t) = w2) :
    Hid (Reads w2 w2.heap.size (some ⟨w.heap.size, 0, none⟩) xs) ∧ Hid (Reads w2 w2.heap.size (some ⟨w.heap.size + 1, 0, none⟩) ys) ∧ Hid (Below w.heap.size w w2) := by
  subst h2
  have h1 := reads_new w t xs
  have h2 := reads_new (w.alloc (.cells xs.toArray t)) t ys
  have hz : (w.alloc (.cells xs.toArray t)).heap.size = w.heap.size + 1 := by simp
  have hb : Below w.heap.size w (w.alloc (.cells xs.toArray t)) := (Below.refl _ _).alloc (Nat.le_refl _) _
  have hb2 : Below (w.alloc (.cells xs.toArray t)).heap.size (w.alloc (.cells xs.toArray t)) ((w.alloc (.cells xs.toArray t)).alloc (.cells ys.toArray t)) := (Below.refl _ _).alloc (Nat.le_refl _) _
  refine ⟨rd_step h1 hb2, ?_, below_step hb hb2⟩
  rw [← hz]
  exact h2
theorem ints_list (A : Option Addr) (n : Nat) (l : List Int) (w : World) (b0 : Nat) (hn : n = l.length) (hx : Reads w b0 A (l.map (Value.int .i64))) :
    (if n > 90 then 90 else n) = (l.take 90).length ∧ Hid (Reads w b0 A ((l.take 90).map (Value.int .i64))) := by
  refine ⟨by rw [List.length_take, ← hn]; split <;> omega, ?_⟩
  have := hx.take 90
  rwa [← List.map_take] at this
theorem few_any (A : Option Addr) (n c : Nat) (w : World) (hn : n ≤ maxLen) (hc : n ≤ c) :
    Calls Try.prog 7 #[.slice A n c] w fun e w' => e = .returned (.slice A (if n > 90 then 90 else n) c) ∧ w = w' := by
  unfold maxLen at hn
  by_cases h : n > 90
  · rw [if_pos h]
    have hd : (90 : Int) < (n : Int) := by omega
    have hd2 : (90 : Int) ≤ (c : Int) := by omega
    go_enter Try.func7, Try.ntmps7
    go_wp2_with fail
    go_ret
    exact ⟨rfl, rfl⟩
  · rw [if_neg h]
    go_enter Try.func7, Try.ntmps7
    go_wp2_with fail
    go_ret
    exact ⟨rfl, rfl⟩

theorem DiffPost.got {ty : TypeId} {a b : List Int} {most : Int} {w : World} {e : Ending} {w' : World} (h : DiffPost ty a b most w e w') (hle : (farT a b : Int) ≤ most) :
    ∃ A n c, e = .returned (.tuple #[.slice A n c, .bool true]) ∧ n = (diffL a b).length ∧ n ≤ c ∧ c ≤ maxLen ∧ Hid (Reads w' w'.heap.size A (stepCells (diffL a b))) ∧ Below w.heap.size w w' := by
  obtain ⟨hb, ⟨_, v, rfl, ho⟩ | ⟨hlt, _⟩⟩ := h
  · obtain ⟨A, n, c, rfl, hn, hc, hm, hr⟩ := stepsReads ho
    exact ⟨A, n, c, rfl, hn, hc, hm, hr, hb⟩
  · exfalso; omega
theorem DiffPost.not {ty : TypeId} {a b : List Int} {most : Int} {w : World} {e : Ending} {w' : World} (h : DiffPost ty a b most w e w') (hlt : ¬ (farT a b : Int) ≤ most) :
    e = .returned (.tuple #[.slice none 0 0, .bool false]) ∧ Below w.heap.size w w' := by
  obtain ⟨hb, ⟨h, _⟩ | ⟨_, he⟩⟩ := h
  · exfalso; omega
  · exact ⟨he, hb⟩
theorem sameS_bel (A B : Option Addr) (c d b0 n m : Nat) (l : List Step) (w : World) (hn : n = l.length) (hm : m = l.length)
   (hx : Reads w b0 A (stepCells l)) (hy : Reads w b0 B (stepCells l)) (lx : n ≤ maxLen) (ly : m ≤ maxLen) :
    Calls Try.prog 10 #[.slice A n c, .slice B m d] w fun e w' => e = .returned (.bool true) ∧ Below w.heap.size w w' :=
  (sameS_any A B c d b0 n m l l w hn hm hx hy lx ly).mono fun e w' ⟨he, q, hq⟩ => ⟨by rw [he, beq_self_eq_true], by rw [hq]; exact below_of_drewN _ _ _⟩

def awL : List Step := [(1, 1), (0, 1), (2, 1), (0, 1)]
def awM : List Step := [(1, 1), (0, 1)]
theorem aw_l : diffL [1, 2, 3] [2, 4, 3] = awL := by decide +kernel
theorem aw_m : diffL [5, 5] [5] = awM := by decide +kernel
theorem aw_l2 : farT [1, 2, 3] [2, 4, 3] = 2 := by decide +kernel
theorem aw_m2 : farT [5, 5] [5] = 1 := by decide +kernel

set_option maxHeartbeats 4000000 in
theorem awake_any (w : World) :
    Calls Try.prog 12 #[] w fun e w' => e = .returned (.bool true) ∧ Below w.heap.size w w' := by
  go_enter Try.func12, Try.ntmps12
  go_wp2_with fail
  have hN := two_new w 3 ([1, 2, 3].map (Value.int .i64)) ([2, 4, 3].map (Value.int .i64)) _ rfl
  change Calls _ _ _ ((w.alloc (.cells ([1, 2, 3].map (Value.int .i64)).toArray 3)).alloc (.cells ([2, 4, 3].map (Value.int .i64)).toArray 3)) _
  generalize ((w.alloc (.cells ([1, 2, 3].map (Value.int .i64)).toArray 3)).alloc (.cells ([2, 4, 3].map (Value.int .i64)).toArray 3)) = w1 at *
  obtain ⟨R1, R2, hW⟩ := hN
  have hW := hW.out
  refine (diff_any (some ⟨w.heap.size, 0, none⟩) 3 3 [1, 2, 3] (some ⟨w.heap.size + 1, 0, none⟩) 3 3 [2, 4, 3] 2 w1.heap.size _ rfl rfl R1.out R2.out (Nat.le_refl _) (by decide) (by decide) (by decide) (by decide) (by decide) (by decide) (by decide)).mono ?_
  intro e w2 hP
  obtain ⟨AL, nL, cL, rfl, hnL, -, -, RL, hb2⟩ := hP.got (by rw [aw_l2]; decide)
  rw [aw_l] at hnL RL
  have hnL' : nL = 4 := hnL
  subst hnL'
  have hW2 := below_step hW hb2
  clear hnL hP R1 R2 hW hb2
  go_wp2_with fail
  have hN := two_new w2 3 ([5, 5].map (Value.int .i64)) ([5].map (Value.int .i64)) _ rfl
  change Calls _ _ _ ((w2.alloc (.cells ([5, 5].map (Value.int .i64)).toArray 3)).alloc (.cells ([5].map (Value.int .i64)).toArray 3)) _
  generalize ((w2.alloc (.cells ([5, 5].map (Value.int .i64)).toArray 3)).alloc (.cells ([5].map (Value.int .i64)).toArray 3)) = w3 at *
  obtain ⟨R1, R2, hb3⟩ := hN
  have RL3 := rd_step RL hb3.out
  have hW3 := below_step hW2 hb3.out
  clear RL hW2 hb3
  refine (diff_any (some ⟨w2.heap.size, 0, none⟩) 2 2 [5, 5] (some ⟨w2.heap.size + 1, 0, none⟩) 1 1 [5] 1 w3.heap.size _ rfl rfl R1.out R2.out (Nat.le_refl _) (by decide) (by decide) (by decide) (by decide) (by decide) (by decide) (by decide)).mono ?_
  intro e w4 hP
  obtain ⟨AM, nM, cM, rfl, hnM, -, -, RM, hb4⟩ := hP.got (by rw [aw_m2]; decide)
  rw [aw_m] at hnM RM
  have hnM' : nM = 2 := hnM
  subst hnM'
  have RL4 := rd_step RL3 hb4
  have hW4 := below_step hW3 hb4
  clear hnM hP R1 R2 hW3 RL3 hb4
  go_wp2_with fail
  refine (theirs_any AL 4 cL w4.heap.size awL _ rfl RL4.out (Nat.le_refl _) (by decide)).mono ?_
  rintro e w5 ⟨hb5, v5, rfl, ho5⟩
  obtain ⟨A5, n5, c5, rfl, hn5, hc5, -, hr5⟩ := stepsReads ho5
  have hn5' : n5 = 4 := hn5
  subst hn5'
  have R5 := hide hr5
  have RM5 := rd_step RM hb5
  have hW5 := below_step hW4 hb5
  clear hr5 hn5 ho5 RM RL4 hW4 hb5
  go_wp2_with fail
  have R6 := reads_new w5 50 (stepCells awL)
  have hb6 : Below w5.heap.size w5 (w5.alloc (.cells (stepCells awL).toArray 50)) := (Below.refl _ _).alloc (Nat.le_refl _) _
  have R5' := rd_step R5 hb6
  have RM6 := rd_step RM5 hb6
  have hW6 := below_step hW5 hb6
  clear R5 RM5 hW5 hb6
  change Calls _ _ _ (w5.alloc (.cells (stepCells awL).toArray 50)) _
  generalize (w5.alloc (.cells (stepCells awL).toArray 50)) = w6 at *
  refine (sameS_bel A5 _ c5 4 w6.heap.size 4 4 awL _ rfl rfl R5'.out R6.out (by decide) (by decide)).mono ?_
  rintro e w7 ⟨rfl, hb7⟩
  have RM7 := rd_step RM6 hb7
  have hW7 := below_step hW6 hb7
  clear R5' R6 RM6 hW6 hb7
  go_wp2_with fail
  refine (theirs_any AM 2 cM w7.heap.size awM _ rfl RM7.out (Nat.le_refl _) (by decide)).mono ?_
  rintro e w8 ⟨hb8, v8, rfl, ho8⟩
  obtain ⟨A8, n8, c8, rfl, hn8, hc8, -, hr8⟩ := stepsReads ho8
  have hn8' : n8 = 2 := hn8
  subst hn8'
  have R8 := hide hr8
  have hW8 := below_step hW7 hb8
  clear hr8 hn8 ho8 RM7 hW7 hb8
  go_wp2_with fail
  have R9 := reads_new w8 50 (stepCells awM)
  have hb9 : Below w8.heap.size w8 (w8.alloc (.cells (stepCells awM).toArray 50)) := (Below.refl _ _).alloc (Nat.le_refl _) _
  have R8' := rd_step R8 hb9
  have hW9 := below_step hW8 hb9
  clear R8 hW8 hb9
  change Calls _ _ _ (w8.alloc (.cells (stepCells awM).toArray 50)) _
  generalize (w8.alloc (.cells (stepCells awM).toArray 50)) = w9 at *
  refine (sameS_bel A8 _ c8 2 w9.heap.size 2 2 awM _ rfl rfl R8'.out R9.out (by decide) (by decide)).mono ?_
  rintro e w10 ⟨rfl, hb10⟩
  have hW10 := below_step hW9 hb10
  clear R8' R9 hW9 hb10
  go_wp2_with fail
  go_ret
  exact ⟨rfl, hW10⟩
end Go.Proofs.Ytpahgpmhnpfnhaa
