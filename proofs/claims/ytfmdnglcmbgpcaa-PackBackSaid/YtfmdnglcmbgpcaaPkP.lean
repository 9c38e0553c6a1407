/-
  The walk of PackBack.
-/
import Derived.Test.YtfmdnglcmbgpcaaPkM
import Derived.Test.YtfmdnglcmbgpcaaPkN
import Derived.Test.YtfmdnglcmbgpcaaPkO
namespace Go.Proofs.Ytfmdnglcmbgpcaa
open Go.RowKit Go.Proofs.Ytfmdnglcmbgpcaa.Pk

theorem u8s_app {a b : List Int} (ha : u8s a) (hb : u8s b) : u8s (a ++ b) := fun x hx => by
  rcases List.mem_append.1 hx with h | h
  · exact ha x h
  · exact hb x h
theorem u8s_cons {x : Int} {b : List Int} (h0 : 0 ≤ x ∧ x ≤ 255) (hb : u8s b) : u8s (x :: b) := fun y hy => by
  rcases List.mem_cons.1 hy with rfl | h
  · exact h0
  · exact hb y h
theorem u8s_flat (l : List Int) : u8s (flatOf l) := fun x hx => by
  unfold flatOf at hx
  obtain ⟨y, _, h⟩ := List.mem_flatMap.1 hx
  unfold bytesOf at h
  simp only [List.mem_cons, List.not_mem_nil, or_false] at h
  rcases h with rfl | rfl | rfl | rfl | rfl | rfl | rfl | rfl <;> exact ⟨bt_nonneg _ _, bt_le _ _⟩
theorem u8s_nz (x : Int) (k : Nat) : u8s (nzB x k) := by
  induction k with
  | zero => intro y hy; simp [nzB] at hy
  | succ k ih =>
    rw [nzB]
    refine u8s_app ih ?_
    split
    · intro y hy; simp at hy
    · intro y hy
      rw [List.mem_singleton.1 hy]
      exact ⟨bt_nonneg _ _, bt_le _ _⟩
theorem u8s_pack (K : Nat) : ∀ l : List Int, l.length ≤ K → u8s (packL l) := by
  induction K with
  | zero =>
    intro l hl
    have : l = [] := List.eq_nil_of_length_eq_zero (by omega)
    subst this
    intro y hy
    simp [packL_nil] at hy
  | succ K ih =>
    intro l hl
    cases l with
    | nil => intro y hy; simp [packL_nil] at hy
    | cons x r =>
      rw [List.length_cons] at hl
      rw [packL_cons, List.cons_append]
      refine u8s_cons (tag_bd x) (u8s_app (u8s_nz x 8) ?_)
      have hz := runP_le isZ r
      have hf := runP_le isF r
      split
      · exact u8s_cons (by omega) (ih _ (by rw [List.length_drop]; omega))
      · split
        · exact u8s_cons (by omega) (u8s_app (u8s_flat _) (ih _ (by rw [List.length_drop]; omega)))
        · exact ih _ (by omega)
theorem u8s_take {l : List Int} (h : u8s l) (k : Nat) : u8s (l.take k) := fun x hx => h x (List.mem_of_mem_take hx)

set_option maxRecDepth 100000 in
set_option maxHeartbeats 8000000 in
theorem back_walk (A : Option Addr) (n0 c : Nat) (l0 : List Int) (cut : Int) (w : World) (hn0 : n0 = l0.length) (hc0 : n0 ≤ c) (hcm : c ≤ maxLen)
    (hl0 : Reads w w.heap.size A (l0.map (Value.int .u64))) (h1 : ∀ x ∈ l0, 0 ≤ x ∧ x ≤ 18446744073709551615) (_h2 : n0 * 8 ≤ 140737488351232)
    (hcut : -9223372036854775808 ≤ cut ∧ cut ≤ 9223372036854775807) :
    Calls Try.prog 5 #[.slice A n0 c, .int .i64 cut] w fun e w' => e = .returned (.bool true) ∧ Below w.heap.size w w' := by
  obtain ⟨n, hn⟩ : ∃ n, (if n0 > 700 then 700 else n0) = n := ⟨_, rfl⟩
  obtain ⟨hnl, HL⟩ := words_list A n0 l0 w _ hn0 hl0
  rw [hn] at hnl
  have HU : Hid (u64s (l0.take 700)) := fun x hx => h1 x (List.mem_of_mem_take hx)
  generalize l0.take 700 = l at *
  have hn7 : n ≤ 700 ∧ n ≤ c := by rw [← hn]; split <;> omega
  have hlm0 : n0 ≤ maxLen := Nat.le_trans hc0 hcm
  have HFN := hide hn
  have HN := hide hnl
  have hpl := packL_len l
  have HP8 := hide (u8s_pack l.length l (Nat.le_refl _))
  have HB0 : Hid (unp (packL l).length (packL l) n [] = (l, 0)) := by
    have h := back_all l.length l n [] (Nat.le_refl _) HU.out (by simp)
    rw [if_pos (by simp; omega), List.nil_append] at h
    exact h
  have HB1 : Hid (0 < n → unp (packL l).length (packL l) (n - 1) [] = ([], 3)) := fun hp => by
    have h := back_all l.length l (n - 1) [] (Nat.le_refl _) HU.out (by simp)
    rw [if_neg (by simp; omega)] at h
    exact h
  have HB2 : Hid (∀ k, k < (packL l).length → unp ((packL l).take k).length ((packL l).take k) n [] = ([], 4) ∨ ∃ ys, unp ((packL l).take k).length ((packL l).take k) n [] = (ys, 0) ∧ ys.length < n) := fun k hk => by
    rcases back_cut l.length l n [] k (Nat.le_refl _) HU.out (by simp; omega) hk with h | ⟨ys, h, hy⟩
    · exact .inl h
    · exact .inr ⟨ys, h, by simp at hy; omega⟩
  have HPN : Hid (n = 0 → packL l = []) := fun h0 => by
    have : l = [] := List.eq_nil_of_length_eq_zero (by omega)
    rw [this]; rfl
  have HMAX := hide hcm
  have hpl7 : (packL l).length ≤ 7000 := by omega
  clear hn hl0 hn0 h1 hcm
  have HPA : Hid (∀ W : World, Below w.heap.size w W → Calls Try.prog 9 #[.slice A n c] W (BytesPost (packL l) W)) := fun W hb =>
    pack_any A n c w.heap.size l W HN.out (HL.out.below hb (Nat.le_refl _)) hb.size (by omega) hn7.2 HMAX.out HU.out
  have HPL10 : Hid ((packL l).length ≤ 10 * n) := by show _ ≤ _; omega
  generalize packL l = b at *
  clear HU hpl hnl
  go_enter Try.func5, Try.ntmps5
  go_wp2_with fail
  refine (few_any A n0 c _ hlm0 hc0).mono ?_
  rintro e w1 ⟨rfl, rfl⟩
  rw [HFN.out]
  clear HFN hlm0 hc0
  go_wp2_with fail
  refine (HPA.out _ (Below.refl _ _)).mono ?_
  rintro e w1 ⟨hb1, A1, n1, c1, rfl, hn1, hnc1, hcm1, -, hr1⟩
  have R1 := hide hr1
  have HL := rd_step HL hb1
  have HN1 := hide hn1
  have HC1 := hide hcm1
  have hc63 : (c1 : Int) ≤ 9223372036854775807 := by unfold maxLen at hcm1; omega
  have hn1b : n1 ≤ 7000 := by omega
  have hn10 : (n1 : Int) ≤ 10 * (n : Int) := by have := HPL10.out; omega
  have HLT : Hid (n1 = b.length) := hn1
  clear hr1 hcm1 hn1 HPA
  go_wp2_with fail
  refine (unpack_any A1 n1 c1 w1.heap.size b (n : Int) _ HN1.out R1.out (Nat.le_refl _) hnc1 HC1.out HP8.out (by omega) (by omega)).mono ?_
  rw [Int.toNat_natCast, HB0.out]
  rintro e w2 ⟨hb2, A2, n2, c2, rfl, hn2, -, hr2⟩
  have hn2' : n2 = n := by rw [hn2]; exact HN.out.symm
  subst hn2'
  have R2 := hide hr2
  have R1 := rd_step R1 hb2
  have HL := rd_step HL hb2
  have hW2 := below_step hb1 hb2
  have HN2 := hide hn2
  clear hr2 hn2 hb1 hb2
  go_wp2_with fail
  refine (same_bel A2 A c2 c w2.heap.size n2 n2 l l _ HN2.out HN.out R2.out HL.out (by unfold maxLen; omega) (by unfold maxLen; omega)).mono ?_
  rintro e w3 ⟨rfl, hb3⟩
  rw [beq_self_eq_true]
  have R1 := rd_step R1 hb3
  have hW3 := below_step hW2 hb3
  clear R2 HL hW2 hb3
  by_cases hz : n2 = 0
  · subst hz
    have hn1z : n1 = 0 := by rw [HLT.out, HPN.out rfl]; rfl
    clear HB0 HB1 HB2 HN HN2
    by_cases hc1' : cut < 0
    · go_wp2_with fail
      refine (awake_any _).mono ?_
      rintro e w9 ⟨rfl, hb9⟩
      go_wp2_with fail
      go_ret
      exact ⟨rfl, below_step hW3 hb9⟩
    · have hc2' : (n1 : Int) ≤ cut := by omega
      go_wp2_with fail
      refine (awake_any _).mono ?_
      rintro e w9 ⟨rfl, hb9⟩
      go_wp2_with fail
      go_ret
      exact ⟨rfl, below_step hW3 hb9⟩
  · have hpos : (0 : Int) < (n2 : Int) := by omega
    have HB1 := hide (HB1.out (by omega))
    have HMT : Hid (((n2 : Int) - 1).toNat = n2 - 1) := by show _ = _; omega
    go_wp2_with fail
    refine (unpack_any A1 n1 c1 _ b ((n2 : Int) - 1) _ HN1.out R1.out (Nat.le_refl _) hnc1 HC1.out HP8.out (by omega) (by omega)).mono ?_
    rw [HMT.out, HB1.out]
    rintro e w4 ⟨hb4, A4, n4, c4, rfl, hn4, -, hr4⟩
    have R1 := rd_step R1 hb4
    have hW4 := below_step hW3 hb4
    clear hr4 hn4 hb4 hW3 HMT HB1
    by_cases hc1' : cut < 0
    · go_wp2_with fail
      refine (awake_any _).mono ?_
      rintro e w9 ⟨rfl, hb9⟩
      go_wp2_with fail
      go_ret
      exact ⟨rfl, below_step hW4 hb9⟩
    · by_cases hc2' : (n1 : Int) ≤ cut
      · go_wp2_with fail
        refine (awake_any _).mono ?_
        rintro e w9 ⟨rfl, hb9⟩
        go_wp2_with fail
        go_ret
        exact ⟨rfl, below_step hW4 hb9⟩
      · obtain ⟨k, rfl⟩ := Int.eq_ofNat_of_zero_le (show (0 : Int) ≤ cut by omega)
        have hk1 : (k : Int) ≤ (c1 : Int) := by omega
        have HTK : Hid (Reads w4 w4.heap.size A1 ((b.take k).map (Value.int .u8))) := by
          have := R1.out.take k
          rwa [← List.map_take] at this
        have HKL : Hid (k = (b.take k).length) := by show _ = _; rw [List.length_take, ← HLT.out]; omega
        have HP9 := hide (u8s_take HP8.out k)
        have hkn : (k : Int) < (n1 : Int) := by omega
        rcases HB2.out k (by rw [← HLT.out]; omega) with hres | ⟨ys, hres, hys⟩
        · have HRES := hide hres
          clear hres HB2
          go_wp2_with fail
          refine (unpack_any A1 k c1 _ (b.take k) (n2 : Int) _ HKL.out HTK.out (Nat.le_refl _) (by omega) HC1.out HP9.out (by omega) (by omega)).mono ?_
          rw [Int.toNat_natCast, HRES.out]
          rintro e w5 ⟨hb5, A5, n5, c5, rfl, hn5, -, hr5⟩
          have hn5' : n5 = 0 := hn5
          subst hn5'
          have hW5 := below_step hW4 hb5
          clear hr5 hn5 hb5 hW4
          go_wp2_with fail
          refine (awake_any _).mono ?_
          rintro e w9 ⟨rfl, hb9⟩
          go_wp2_with fail
          go_ret
          exact ⟨rfl, below_step hW5 hb9⟩
        · have HRES := hide hres
          clear hres HB2
          go_wp2_with fail
          refine (unpack_any A1 k c1 _ (b.take k) (n2 : Int) _ HKL.out HTK.out (Nat.le_refl _) (by omega) HC1.out HP9.out (by omega) (by omega)).mono ?_
          rw [Int.toNat_natCast, HRES.out]
          rintro e w5 ⟨hb5, A5, n5, c5, rfl, hn5, -, hr5⟩
          have hn5' : n5 < n2 := by rw [hn5]; exact hys
          have hn5i : (n5 : Int) < (n2 : Int) := by omega
          have hW5 := below_step hW4 hb5
          clear hr5 hn5 hb5 hW4
          go_wp2_with fail
          refine (awake_any _).mono ?_
          rintro e w9 ⟨rfl, hb9⟩
          go_wp2_with fail
          go_ret
          exact ⟨rfl, below_step hW5 hb9⟩
end Go.Proofs.Ytfmdnglcmbgpcaa
