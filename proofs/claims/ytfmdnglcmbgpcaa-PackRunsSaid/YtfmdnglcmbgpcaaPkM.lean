/-
  few and the example of chapter 2; the walks of PackPacks and PackUnpacks.
-/
import Derived.Test.YtfmdnglcmbgpcaaPkD
import Derived.Test.YtfmdnglcmbgpcaaPkG
import Derived.Test.YtfmdnglcmbgpcaaPkL
namespace Go.Proofs.Ytfmdnglcmbgpcaa
open Go.RowKit Go.Proofs.Ytfmdnglcmbgpcaa.Pk

theorem reads_new (w : World) (t : TypeId) (cs : List Value) : Hid (Reads (w.alloc (.cells cs.toArray t)) (w.alloc (.cells cs.toArray t)).heap.size (some ⟨w.heap.size, 0, none⟩) cs) :=
  Reads.of_lit (by simp) fun j u hu => by
    rw [Nat.zero_add, (Blk.new w _ _).cell]
    simpa using hu
theorem words_list (A : Option Addr) (n : Nat) (l : List Int) (w : World) (b0 : Nat) (hn : n = l.length) (hx : Reads w b0 A (l.map (Value.int .u64))) :
    (if n > 700 then 700 else n) = (l.take 700).length ∧ Hid (Reads w b0 A ((l.take 700).map (Value.int .u64))) := by
  refine ⟨by rw [List.length_take, ← hn]; split <;> omega, ?_⟩
  have := hx.take 700
  rwa [← List.map_take] at this
theorem few_any (A : Option Addr) (n c : Nat) (w : World) (hn : n ≤ maxLen) (hc : n ≤ c) :
    Calls Try.prog 7 #[.slice A n c] w fun e w' => e = .returned (.slice A (if n > 700 then 700 else n) c) ∧ w = w' := by
  unfold maxLen at hn
  by_cases h : n > 700
  · rw [if_pos h]
    have hd : (700 : Int) < (n : Int) := by omega
    have hd2 : (700 : Int) ≤ (c : Int) := by omega
    go_enter Try.func7, Try.ntmps7
    go_wp2_with fail
    go_ret
    exact ⟨rfl, rfl⟩
  · rw [if_neg h]
    go_enter Try.func7, Try.ntmps7
    go_wp2_with fail
    go_ret
    exact ⟨rfl, rfl⟩
theorem same_bel (A B : Option Addr) (c d b0 n m : Nat) (xs ys : List Int) (w : World) (hn : n = xs.length) (hm : m = ys.length)
   (hx : Reads w b0 A (xs.map (Value.int .u64))) (hy : Reads w b0 B (ys.map (Value.int .u64))) (lx : n ≤ maxLen) (ly : m ≤ maxLen) :
    Calls Try.prog 14 #[.slice A n c, .slice B m d] w fun e w' => e = .returned (.bool (xs == ys)) ∧ Below w.heap.size w w' :=
  (same_any A B c d b0 n m xs ys w hn hm hx hy lx ly).mono fun e w' ⟨he, q, hq⟩ => ⟨he, by rw [hq]; exact below_of_drewN _ _ _⟩
theorem sameB_bel (A B : Option Addr) (c d b0 n m : Nat) (xs ys : List Int) (w : World) (hn : n = xs.length) (hm : m = ys.length)
   (hx : Reads w b0 A (xs.map (Value.int .u8))) (hy : Reads w b0 B (ys.map (Value.int .u8))) (lx : n ≤ maxLen) (ly : m ≤ maxLen) :
    Calls Try.prog 8 #[.slice A n c, .slice B m d] w fun e w' => e = .returned (.bool (xs == ys)) ∧ Below w.heap.size w w' :=
  (sameBytes_any A B c d b0 n m xs ys w hn hm hx hy lx ly).mono fun e w' ⟨he, q, hq⟩ => ⟨he, by rw [hq]; exact below_of_drewN _ _ _⟩

theorem aw_p : packL [8, 0, 0] = [1, 8, 0, 1] := by decide +kernel
theorem aw_u : unp 4 [1, 8, 0, 1] 3 [] = ([8, 0, 0], 0) := by decide +kernel
theorem aw_us : u64s [8, 0, 0] := by unfold u64s; decide
theorem aw_bs : u8s [1, 8, 0, 1] := by unfold u8s; decide

set_option maxHeartbeats 4000000 in
theorem awake_any (w : World) :
    Calls Try.prog 11 #[] w fun e w' => e = .returned (.bool true) ∧ Below w.heap.size w w' := by
  go_enter Try.func11, Try.ntmps11
  go_wp2_with fail
  have R1 := reads_new w 38 ([8, 0, 0].map (Value.int .u64))
  have hW1 : Below w.heap.size w (w.alloc (.cells ([8, 0, 0].map (Value.int .u64)).toArray 38)) := (Below.refl _ _).alloc (Nat.le_refl _) _
  change Calls _ _ _ (w.alloc (.cells ([8, 0, 0].map (Value.int .u64)).toArray 38)) _
  generalize (w.alloc (.cells ([8, 0, 0].map (Value.int .u64)).toArray 38)) = w1 at *
  refine (pack_any (some ⟨w.heap.size, 0, none⟩) 3 3 w1.heap.size [8, 0, 0] _ rfl R1.out (Nat.le_refl _) (by decide) (by decide) (by decide) aw_us).mono ?_
  rintro e w2 ⟨hb2, A2, n2, c2, rfl, hn2, -, -, -, hr2⟩
  rw [aw_p] at hn2 hr2
  have R2 := hide hr2
  have hn2' : n2 = 4 := hn2
  subst hn2'
  have hW2 := below_step hW1 hb2
  clear hn2 hr2 R1 hW1 hb2
  go_wp2_with fail
  have R3 := reads_new w2 5 ([1, 8, 0, 1].map (Value.int .u8))
  have hb3 : Below w2.heap.size w2 (w2.alloc (.cells ([1, 8, 0, 1].map (Value.int .u8)).toArray 5)) := (Below.refl _ _).alloc (Nat.le_refl _) _
  have R2 := rd_step R2 hb3
  have hW3 := below_step hW2 hb3
  clear hb3 hW2
  change Calls _ _ _ (w2.alloc (.cells ([1, 8, 0, 1].map (Value.int .u8)).toArray 5)) _
  generalize (w2.alloc (.cells ([1, 8, 0, 1].map (Value.int .u8)).toArray 5)) = w3 at *
  refine (unpack_any (some ⟨w2.heap.size, 0, none⟩) 4 4 w3.heap.size [1, 8, 0, 1] 3 _ rfl R3.out (Nat.le_refl _) (by decide) (by decide) aw_bs (by decide) (by decide)).mono ?_
  intro e w4 hP
  have hP' : UnpPost ([8, 0, 0], 0) w3 e w4 := by
    have h : UnpPost (unp 4 [1, 8, 0, 1] 3 []) w3 e w4 := hP
    rwa [aw_u] at h
  clear hP
  obtain ⟨hb4, A4, n4, c4, rfl, hn4, -, hr4⟩ := hP'
  have R4 := hide hr4
  have hn4' : n4 = 3 := hn4
  subst hn4'
  have R2 := rd_step R2 hb4
  have hW4 := below_step hW3 hb4
  clear hn4 hr4 hb4 hW3 R3
  go_wp2_with fail
  have R5 := reads_new w4 5 ([1, 8, 0, 1].map (Value.int .u8))
  have hb5 : Below w4.heap.size w4 (w4.alloc (.cells ([1, 8, 0, 1].map (Value.int .u8)).toArray 5)) := (Below.refl _ _).alloc (Nat.le_refl _) _
  have R2 := rd_step R2 hb5
  have R4 := rd_step R4 hb5
  have hW5 := below_step hW4 hb5
  clear hb5 hW4
  change Calls _ _ _ (w4.alloc (.cells ([1, 8, 0, 1].map (Value.int .u8)).toArray 5)) _
  generalize (w4.alloc (.cells ([1, 8, 0, 1].map (Value.int .u8)).toArray 5)) = w5 at *
  refine (sameB_bel A2 _ c2 4 w5.heap.size 4 4 [1, 8, 0, 1] [1, 8, 0, 1] _ rfl rfl R2.out R5.out (by decide) (by decide)).mono ?_
  rintro e w6 ⟨rfl, hb6⟩
  rw [show (([1, 8, 0, 1] : List Int) == [1, 8, 0, 1]) = true from by decide]
  have R4 := rd_step R4 hb6
  have hW6 := below_step hW5 hb6
  clear hb6 hW5 R2 R5
  go_wp2_with fail
  have R7 := reads_new w6 38 ([8, 0, 0].map (Value.int .u64))
  have hb7 : Below w6.heap.size w6 (w6.alloc (.cells ([8, 0, 0].map (Value.int .u64)).toArray 38)) := (Below.refl _ _).alloc (Nat.le_refl _) _
  have R4 := rd_step R4 hb7
  have hW7 := below_step hW6 hb7
  clear hb7 hW6
  change Calls _ _ _ (w6.alloc (.cells ([8, 0, 0].map (Value.int .u64)).toArray 38)) _
  generalize (w6.alloc (.cells ([8, 0, 0].map (Value.int .u64)).toArray 38)) = w7 at *
  refine (same_bel A4 _ c4 3 w7.heap.size 3 3 [8, 0, 0] [8, 0, 0] _ rfl rfl R4.out R7.out (by decide) (by decide)).mono ?_
  rintro e w8 ⟨rfl, hb8⟩
  rw [show (([8, 0, 0] : List Int) == [8, 0, 0]) = true from by decide]
  have hW8 := below_step hW7 hb8
  clear hb8 hW7 R4 R7
  go_wp2_with fail
  go_ret
  exact ⟨rfl, hW8⟩

set_option maxHeartbeats 4000000 in
theorem packs_walk (A : Option Addr) (n0 c : Nat) (l0 : List Int) (w : World) (hn0 : n0 = l0.length) (hc0 : n0 ≤ c) (hcm : c ≤ maxLen)
    (hl0 : Reads w w.heap.size A (l0.map (Value.int .u64))) (h1 : ∀ x ∈ l0, 0 ≤ x ∧ x ≤ 18446744073709551615) (_h2 : n0 * 8 ≤ 140737488351232) :
    Calls Try.prog 3 #[.slice A n0 c] w fun e w' => e = .returned (.bool true) ∧ Below w.heap.size w w' := by
  obtain ⟨n, hn⟩ : ∃ n, (if n0 > 700 then 700 else n0) = n := ⟨_, rfl⟩
  obtain ⟨hnl, HL⟩ := words_list A n0 l0 w _ hn0 hl0
  rw [hn] at hnl
  have HU : Hid (u64s (l0.take 700)) := fun x hx => h1 x (List.mem_of_mem_take hx)
  generalize l0.take 700 = l at *
  have hn7 : n ≤ 700 ∧ n ≤ c := by rw [← hn]; split <;> omega
  have hlm0 : n0 ≤ maxLen := Nat.le_trans hc0 hcm
  have HFN := hide hn
  have HN := hide hnl
  have HPL := hide (packL_len l)
  clear hn hnl hl0 hn0 h1
  go_enter Try.func3, Try.ntmps3
  go_wp2_with fail
  refine (few_any A n0 c _ hlm0 hc0).mono ?_
  rintro e w1 ⟨rfl, rfl⟩
  rw [HFN.out]
  go_wp2_with fail
  refine (pack_any A n c w.heap.size l _ HN.out HL.out (Nat.le_refl _) (by omega) hn7.2 hcm HU.out).mono ?_
  rintro e w1 ⟨hb1, A1, n1, c1, rfl, hn1, -, -, -, hr1⟩
  have hn1' : n1 ≤ 7000 := by have := HPL.out; have := HN.out; omega
  have HN1 := hide hn1
  have R1 := hide hr1
  have HL := rd_step HL hb1
  clear hn1 hr1
  go_wp2_with fail
  refine (refPack_any A n c w1.heap.size l _ HN.out HL.out (Nat.le_refl _) (by omega) hn7.2 hcm HU.out).mono ?_
  rintro e w2 ⟨hb2, A2, n2, c2, rfl, hn2, -, -, -, hr2⟩
  have hn2' : n2 ≤ 7000 := by have := HPL.out; have := HN.out; omega
  have HN2 := hide hn2
  have R2 := hide hr2
  have R1 := rd_step R1 hb2
  have hW2 := below_step hb1 hb2
  clear hn2 hr2 hb1 hb2
  go_wp2_with fail
  refine (sameB_bel A1 A2 c1 c2 w2.heap.size n1 n2 (packL l) (packL l) _ HN1.out HN2.out R1.out R2.out (by unfold maxLen; omega) (by unfold maxLen; omega)).mono ?_
  rintro e w3 ⟨rfl, hb3⟩
  rw [beq_self_eq_true]
  have hW3 := below_step hW2 hb3
  clear hW2 hb3
  go_wp2_with fail
  refine (awake_any _).mono ?_
  rintro e w4 ⟨rfl, hb4⟩
  go_wp2_with fail
  go_ret
  exact ⟨rfl, below_step hW3 hb4⟩
end Go.Proofs.Ytfmdnglcmbgpcaa
