/-
  The example of chapter 35.
-/
import Derived.Test.YtipgobmnpheikaaSlotH
namespace Go.Proofs.Ytipgobmnpheikaa
open Go.RowKit

theorem aw_put : putS noneS [3] [[7]] = (0, upd noneS 3 (some [7])) := by rfl
theorem aw_full : fullS (upd noneS 3 (some [7])) 16 = [3] := by decide +kernel

set_option maxHeartbeats 4000000 in
theorem awake_any (w : World) :
    Calls Try.prog 9 #[] w fun e w' => e = .returned (.bool true) ∧ Below w.heap.size w w' := by
  go_enter Try.func9, Try.ntmps9
  go_wp2_with fail
  refine (new_any _).mono ?_
  rintro e w1 ⟨rfl, hs1, hb1⟩
  generalize hg : w.heap.size = g at *
  have hgl : g < w1.heap.size := by obtain ⟨_, _, _, h, _⟩ := hs1.is; exact h.lt
  have HG := hide hg
  clear hg
  go_wp2_with fail
  -- the three literal lists
  have hba : Below w1.heap.size w1 (((w1.alloc (.cells #[.int .i64 3] 3)).alloc (.cells #[.int .u64 7] 54)).alloc (.cells #[.slice (some ⟨w1.heap.size + 1, 0, none⟩) 1 1] 26)) :=
    (((Below.refl _ _).alloc (Nat.le_refl _) _).alloc (by simp) _).alloc (by simp; omega) _
  generalize hwa : (((w1.alloc (.cells #[.int .i64 3] 3)).alloc (.cells #[.int .u64 7] 54)).alloc (.cells #[.slice (some ⟨w1.heap.size + 1, 0, none⟩) 1 1] 26)) = wa at *
  have hsz : wa.heap.size = w1.heap.size + 3 := by rw [← hwa]; simp
  have ca : wa.cell? ⟨w1.heap.size, 0, none⟩ = some (.int .i64 3) := by rw [← hwa]; simp [go_sem]
  have cb : wa.cell? ⟨w1.heap.size + 1, 0, none⟩ = some (.int .u64 7) := by rw [← hwa]; simp [go_sem]
  have cc : wa.cell? ⟨w1.heap.size + 2, 0, none⟩ = some (.slice (some ⟨w1.heap.size + 1, 0, none⟩) 1 1) := by rw [← hwa]; simp [go_sem]
  have HWA := hide hwa
  have HSZ := hide hsz
  have hgla : g < wa.heap.size := by omega
  clear hwa hsz
  have ra : Reads wa wa.heap.size (some ⟨w1.heap.size, 0, none⟩) ([3].map (Value.int .i64)) := fun j u hu => by
    match j, hu with
    | 0, hu => simp at hu; subst hu; exact ⟨_, _, rfl, by have := HSZ.out; omega, ca⟩
  have rb : Reads wa wa.heap.size (some ⟨w1.heap.size + 1, 0, none⟩) ([7].map (Value.int .u64)) := fun j u hu => by
    match j, hu with
    | 0, hu => simp at hu; subst hu; exact ⟨_, _, rfl, by have := HSZ.out; omega, cb⟩
  have rc : Reads wa wa.heap.size (some ⟨w1.heap.size + 2, 0, none⟩) [.slice (some ⟨w1.heap.size + 1, 0, none⟩) 1 1] := fun j u hu => by
    match j, hu with
    | 0, hu => simp at hu; subst hu; exact ⟨_, _, rfl, by have := HSZ.out; omega, cc⟩
  have hok : SlotOks wa [.slice (some ⟨w1.heap.size + 1, 0, none⟩) 1 1] [[7]] := ⟨rfl, fun i v xs h1 h2 => by
    match i, h1, h2 with
    | 0, h1, h2 =>
      simp at h1 h2
      subst h1 h2
      exact ⟨_, _, _, rfl, rfl, (fun h => by cases h), rb, by decide⟩⟩
  refine (put_any g _ noneS (some ⟨w1.heap.size, 0, none⟩) (some ⟨w1.heap.size + 2, 0, none⟩) 1 1 1 1 wa.heap.size [3] [.slice (some ⟨w1.heap.size + 1, 0, none⟩) 1 1] [[7]] _ (hs1.below hba) rfl rfl ra rc hok (fun b o _ e => by injection e with e; injection e with e; omega) (fun b o _ e => by injection e with e; injection e with e; omega) (Nat.le_refl _) (by decide) (by decide)).mono ?_
  rintro e w2 ⟨rfl, hs2, ho2⟩
  rw [aw_put] at hs2 ⊢
  have hb2 : Below g wa w2 := ho2.to_below (by simp) (by omega)
  have hb12 : Below g w w2 := (hb1.trans (hba.mono (by omega))).trans hb2
  go_wp2_with fail
  refine (slotGet_any g _ _ 3 _ hs2).mono ?_
  rintro e w3 ⟨hb3, h3⟩
  rcases h3 with ⟨h3, _⟩ | ⟨_, xs, A, n, c, hst, hn, rfl, hmx, hrd⟩
  · exact absurd h3 (by decide)
  have hxs : xs = [7] := by
    have : upd noneS 3 (some [7]) 3 = some [7] := rfl
    have h4 : upd noneS 3 (some [7]) (3 : Int).toNat = some xs := hst
    rw [show (3 : Int).toNat = 3 from rfl, this] at h4
    injection h4 with h4
    exact h4.symm
  subst hxs
  have hs3 := hs2.below hb3
  clear hst
  subst hn
  go_wp2_with fail
  have r7 : Reads (w3.alloc (.cells #[.int .u64 7] 54)) (w3.heap.size + 1) (some ⟨w3.heap.size, 0, none⟩) ([7].map (Value.int .u64)) := by
    have := (Blk.new w3 54 #[.int .u64 7]).reads' (vs := [.int .u64 7])
    simpa using this
  have hal : Below w3.heap.size w3 (w3.alloc (.cells #[.int .u64 7] 54)) := (Below.refl _ _).alloc (Nat.le_refl _) _
  refine (same_any A (some ⟨w3.heap.size, 0, none⟩) c 1 (w3.heap.size + 1) 1 1 [7] [7] _ rfl rfl ((hrd.alloc (Nat.le_refl _) _).more (by omega)) r7 (by decide) (by decide)).mono ?_
  rintro e w4 ⟨rfl, q, rfl⟩
  rw [show (([7] : List Int) == [7]) = true from by decide]
  go_wp2_with fail
  have hs4 : SlotsAt ((w3.alloc (.cells #[.int .u64 7] 54)).drewN q) g 49 (upd noneS 3 (some [7])) := hs3.below (below_drewN hal q)
  refine (slotFull_any g _ _ _ hs4).mono ?_
  rintro e w5 ⟨hb5, A5, n5, c5, rfl, hn5, hm5, hr5⟩
  rw [aw_full] at hn5 hr5
  subst hn5
  have hs5 := hs4.below hb5
  go_wp2_with fail
  have r3 : Reads (w5.alloc (.cells #[.int .i64 3] 3)) (w5.heap.size + 1) (some ⟨w5.heap.size, 0, none⟩) ([3].map (Value.int .i64)) := by
    have := (Blk.new w5 3 #[.int .i64 3]).reads' (vs := [.int .i64 3])
    simpa using this
  have hal5 : Below w5.heap.size w5 (w5.alloc (.cells #[.int .i64 3] 3)) := (Below.refl _ _).alloc (Nat.le_refl _) _
  refine (sameInts_any A5 (some ⟨w5.heap.size, 0, none⟩) c5 1 (w5.heap.size + 1) 1 1 [3] [3] _ rfl rfl ((hr5.alloc (Nat.le_refl _) _).more (by omega)) r3 (by decide) (by decide)).mono ?_
  rintro e w6 ⟨rfl, q6, rfl⟩
  rw [show (([3] : List Int) == [3]) = true from by decide]
  go_wp2_with fail
  have hs6 : SlotsAt ((w5.alloc (.cells #[.int .i64 3] 3)).drewN q6) g 49 (upd noneS 3 (some [7])) := hs5.below (below_drewN hal5 q6)
  obtain ⟨sl, hblk, _, _⟩ := hs6
  refine (has_any g _ sl _ 2 _ hblk).mono ?_
  rintro e w7 ⟨rfl, rfl⟩
  rw [show (inB 2 && (upd noneS 3 (some [7]) (2 : Int).toNat).isSome) = false from by decide]
  go_wp2_with fail
  go_ret
  refine ⟨rfl, ?_⟩
  rw [HG.out]
  have h13 : Below g w w3 := hb12.trans (hb3.mono (by have := hb12.size; have := HG.out; omega))
  have h14 : Below g w ((w3.alloc (.cells #[.int .u64 7] 54)).drewN q) := h13.trans (below_drewN (hal.mono (by have := h13.size; have := HG.out; omega)) q)
  have h15 := h14.trans (hb5.mono (by have := h14.size; have := HG.out; omega))
  exact h15.trans (below_drewN (hal5.mono (by have := h15.size; have := HG.out; omega)) q6)
end Go.Proofs.Ytipgobmnpheikaa
