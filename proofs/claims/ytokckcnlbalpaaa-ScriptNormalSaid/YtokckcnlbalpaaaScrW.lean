/-
  The example of chapter 17; the walk of the law.
-/
import Derived.Test.YtokckcnlbalpaaaScrJ
import Derived.Test.YtokckcnlbalpaaaScrK
namespace Go.Proofs.Ytokckcnlbalpaaa
open Go.RowKit Go.Proofs.Ytokckcnlbalpaaa.Scr

def awL : List Step := [(2, 1), (1, 1), (1, 2), (0, 1)]
def awN : List Step := [(1, 3), (2, 1), (0, 1)]
theorem aw_nrm : nrm awL = awN := by decide +kernel
theorem aw_led : leadsS awN [5, 6, 7, 8] [9, 8] = true := by decide +kernel
theorem rd_step {a b : World} {A : Option Addr} {xs : List Value} (h : Hid (Reads a a.heap.size A xs)) (hb : Below a.heap.size a b) : Hid (Reads b b.heap.size A xs) := (h.out.below hb (Nat.le_refl _)).more hb.size
theorem blk_step {a b : World} {g : Nat} {t : TypeId} {cs : Array Value} (h : Hid (Blk a g t cs)) (hb : Below a.heap.size a b) : Hid (Blk b g t cs) := h.out.below hb h.out.lt
theorem reads_new (w : World) (t : TypeId) (cs : List Value) : Hid (Reads (w.alloc (.cells cs.toArray t)) (w.alloc (.cells cs.toArray t)).heap.size (some ⟨w.heap.size, 0, none⟩) cs) :=
  Reads.of_lit (by simp) fun j u hu => by
    rw [Nat.zero_add, (Blk.new w _ _).cell]
    simpa using hu

set_option maxHeartbeats 2000000 in
theorem awake_any (w : World) :
    Calls Try.prog 16 #[] w fun e w' => e = .returned (.bool true) ∧ Below w.heap.size w w' := by
  go_enter Try.func16, Try.ntmps16
  go_wp2_with fail
  have R0 := reads_new w 39 (stepCells awL)
  have hW : Below w.heap.size w (w.alloc (.cells (stepCells awL).toArray 39)) := (Below.refl _ _).alloc (Nat.le_refl _) _
  change Calls _ _ _ (w.alloc (.cells (stepCells awL).toArray 39)) _
  generalize (w.alloc (.cells (stepCells awL).toArray 39)) = w0 at *
  refine (normal_any _ 4 4 w0.heap.size awL _ rfl R0.out (Nat.le_refl _) (by decide)).mono ?_
  rintro e w1 ⟨hb1, v1, rfl, ho1⟩
  rw [aw_nrm] at ho1
  obtain ⟨A1, n1, c1, rfl, hn1, hc1, -, hr1⟩ := stepsReads ho1
  have hn1' : n1 = 3 := hn1
  subst hn1'
  have R1 := hide hr1
  have hW1 := below_step hW hb1
  clear hr1 hn1 ho1
  go_wp2_with fail
  refine (theirs_any A1 3 c1 w1.heap.size awN _ rfl R1.out (Nat.le_refl _) (by decide)).mono ?_
  rintro e w2 ⟨hb2, v2, rfl, ho2⟩
  obtain ⟨A2, n2, c2, rfl, hn2, hc2, -, hr2⟩ := stepsReads ho2
  have hn2' : n2 = 3 := hn2
  subst hn2'
  have R2 := hide hr2
  have hW2 := below_step hW1 hb2
  have R1' := rd_step R1 hb2
  clear hr2 hn2 ho2
  go_wp2_with fail
  have R3 := reads_new w2 32 (stepCells awN)
  have hbA : Below w2.heap.size w2 (w2.alloc (.cells (stepCells awN).toArray 32)) := (Below.refl _ _).alloc (Nat.le_refl _) _
  have R2' := rd_step R2 hbA
  have R1'' := rd_step R1' hbA
  have hW3 := below_step hW2 hbA
  change Calls _ _ _ (w2.alloc (.cells (stepCells awN).toArray 32)) _
  generalize (w2.alloc (.cells (stepCells awN).toArray 32)) = w3 at *
  refine (sameS_any A2 _ c2 3 w3.heap.size 3 3 awN awN _ rfl rfl R2'.out R3.out (by decide) (by decide)).mono ?_
  rintro e w4 ⟨rfl, k4, rfl⟩
  rw [beq_self_eq_true]
  go_wp2_with fail
  have hbd := below_of_drewN w3.heap.size w3 k4
  have R1d := rd_step R1'' hbd
  have hWd := below_step hW3 hbd
  have R5 : Hid (Reads ((w3.drewN k4).alloc (.cells ([5, 6, 7, 8].map (Value.int .i64)).toArray 3)) ((w3.drewN k4).alloc (.cells ([5, 6, 7, 8].map (Value.int .i64)).toArray 3)).heap.size (some ⟨w3.heap.size, 0, none⟩) ([5, 6, 7, 8].map (Value.int .i64))) := reads_new (w3.drewN k4) 3 ([5, 6, 7, 8].map (Value.int .i64))
  have hbB : Below (w3.drewN k4).heap.size (w3.drewN k4) ((w3.drewN k4).alloc (.cells ([5, 6, 7, 8].map (Value.int .i64)).toArray 3)) := (Below.refl _ _).alloc (Nat.le_refl _) _
  have hzB : ((w3.drewN k4).alloc (.cells ([5, 6, 7, 8].map (Value.int .i64)).toArray 3)).heap.size = w3.heap.size + 1 := by simp
  have R1e := rd_step R1d hbB
  have hWe := below_step hWd hbB
  change Calls _ _ _ (((w3.drewN k4).alloc (.cells ([5, 6, 7, 8].map (Value.int .i64)).toArray 3)).alloc _) _
  generalize ((w3.drewN k4).alloc (.cells ([5, 6, 7, 8].map (Value.int .i64)).toArray 3)) = w5 at *
  rw [← hzB]
  have R6 := reads_new w5 3 ([9, 8].map (Value.int .i64))
  have hbC : Below w5.heap.size w5 (w5.alloc (.cells ([9, 8].map (Value.int .i64)).toArray 3)) := (Below.refl _ _).alloc (Nat.le_refl _) _
  have R1f := rd_step R1e hbC
  have R5f := rd_step R5 hbC
  have hWf := below_step hWe hbC
  change Calls _ _ _ (w5.alloc (.cells ([9, 8].map (Value.int .i64)).toArray 3)) _
  generalize (w5.alloc (.cells ([9, 8].map (Value.int .i64)).toArray 3)) = w6 at *
  refine (leads_any A1 3 c1 w6.heap.size awN _ 4 4 [5, 6, 7, 8] _ 2 2 [9, 8] _ rfl R1f.out rfl R5f.out rfl R6.out (Nat.le_refl _) (by decide) (by decide) (by decide) (by decide) (by decide)).mono ?_
  rintro e w7 ⟨rfl, hb7⟩
  rw [aw_led]
  go_wp2_with fail
  go_ret
  exact ⟨rfl, below_step hWf hb7⟩

theorem few_any (A : Option Addr) (n c : Nat) (w : World) (hn : n ≤ maxLen) (hc : n ≤ c) :
    Calls Try.prog 4 #[.slice A n c] w fun e w' => e = .returned (.slice A (if n > 300 then 300 else n) c) ∧ w = w' := by
  unfold maxLen at hn
  by_cases h : n > 300
  · rw [if_pos h]
    have hd : (300 : Int) < (n : Int) := by omega
    have hd2 : (300 : Int) ≤ (c : Int) := by omega
    go_enter Try.func4, Try.ntmps4
    go_wp2_with fail
    go_ret
    exact ⟨rfl, rfl⟩
  · rw [if_neg h]
    go_enter Try.func4, Try.ntmps4
    go_wp2_with fail
    go_ret
    exact ⟨rfl, rfl⟩
end Go.Proofs.Ytokckcnlbalpaaa
