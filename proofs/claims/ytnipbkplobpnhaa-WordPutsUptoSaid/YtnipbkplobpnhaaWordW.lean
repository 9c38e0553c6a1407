/-
  The example of chapter 1.
-/
import Derived.Test.YtnipbkplobpnhaaWordR
namespace Go.Proofs.Ytnipbkplobpnhaa
open Go.RowKit

theorem aw1 : unlTo (bits .xor .u64 258 259) 8 = 1 := by decide +kernel
theorem aw2 : wideTo 5 8 = 16711935 := by decide +kernel
theorem aw3 : putOk 1 [1, 0, 1] = true := by decide +kernel
theorem aw4 : putTo [1, 0, 1] 1 1 3 = [5] := by decide +kernel

set_option maxHeartbeats 1000000 in
theorem awake_any (w : World) :
    Calls Try.prog 13 #[] w fun e w' => e = .returned (.bool true) ∧ Below w.heap.size w w' := by
  go_enter Try.func13, Try.ntmps13
  go_wp2_with fail
  have hr0 : Reads (w.alloc (Obj.cells #[Value.int .u64 1, Value.int .u64 0, Value.int .u64 1] 22)) (w.heap.size + 1) (some ⟨w.heap.size, 0, none⟩) ([1, 0, 1].map (Value.int .u64)) := by
    have := (Blk.new w 22 #[Value.int .u64 1, Value.int .u64 0, Value.int .u64 1]).reads (vs := [Value.int .u64 1, Value.int .u64 0, Value.int .u64 1])
    simpa using this
  refine (put_any (some ⟨w.heap.size, 0, none⟩) 3 (w.heap.size + 1) 3 [1, 0, 1] 1 _ rfl (by decide) hr0 (by simp) (by decide)).mono ?_
  rintro e w1 ⟨hb1, h | ⟨_, g, m, r, hm, hr, hg, rfl, hblk⟩⟩
  · rw [aw3] at h
    cases h.1
  have hm1 : m = 1 := by
    have : wd 1 = 1 := by decide
    omega
  subst hm1
  have hr1 : r = 1 := by simpa using hr
  subst hr1
  clear hm hr
  rw [show ([1, 0, 1] : List Int).length = 3 from rfl, aw4] at hblk
  have hrd := hblk.reads
  have hb1' : Below w.heap.size w w1 := ((Below.refl _ _).alloc (Nat.le_refl _) _).trans (hb1.mono (by simp))
  go_wp2_with fail
  refine (unlike_any 258 259 (by decide) (by decide) (by decide) (by decide) _).mono ?_
  rintro e w2 ⟨rfl, hb2⟩
  rw [aw1]
  go_wp2_with fail
  refine (wide_any 5 (by decide) (by decide) _).mono ?_
  rintro e w3 ⟨rfl, rfl⟩
  rw [aw2]
  go_wp2_with fail
  have hr5 : Reads (w2.alloc (Obj.cells #[Value.int .u64 5] 22)) (w2.heap.size + 1) (some ⟨w2.heap.size, 0, none⟩) ([5].map (Value.int .u64)) := by
    have := (Blk.new w2 22 #[Value.int .u64 5]).reads (vs := [Value.int .u64 5])
    simpa using this
  have hrd2 := ((hrd.below hb2 (Nat.le_refl _)).more hb2.size).alloc (Nat.le_refl _) (Obj.cells #[Value.int .u64 5] 22)
  refine (same_any (some ⟨g, 0, none⟩) (some ⟨w2.heap.size, 0, none⟩) 1 1 (w2.heap.size + 1) 1 1 [5] [5] _ rfl rfl (hrd2.more (by omega)) hr5 (by decide) (by decide)).mono ?_
  rintro e w3 ⟨rfl, nq, rfl⟩
  rw [show (([5] : List Int) == [5]) = true from by decide]
  go_wp2_with fail
  go_ret
  exact ⟨rfl, below_drewN ((below_step hb1' hb2).alloc (by have := hb1'.size; have := hb2.size; omega) _) _⟩
end Go.Proofs.Ytnipbkplobpnhaa
