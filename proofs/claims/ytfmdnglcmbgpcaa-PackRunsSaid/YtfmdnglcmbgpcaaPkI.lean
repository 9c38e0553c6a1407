/-
  The unpacker: one.
-/
import Derived.Test.YtfmdnglcmbgpcaaPkH
namespace Go.Proofs.Ytfmdnglcmbgpcaa
open Go.RowKit Go.Proofs.Ytfmdnglcmbgpcaa.Pk

theorem nm_val0 (m : Int) (k : Nat) (h0 : 0 ≤ m / 2 ^ k) (h1 : m / 2 ^ k ≤ 255) : (bits .and .u8 (m / 2 ^ k) 1 == 0) = !nm m k := by
  rw [u8_and _ 1 h0 (by omega) (by decide) (by decide)]
  rw [show Int.toNat 1 = 1 from rfl, nat_mask1]
  unfold nm
  have : (m / 2 ^ k).toNat % 2 = 0 ∨ (m / 2 ^ k).toNat % 2 = 1 := by omega
  rcases this with h | h
  · have h2 : m / 2 ^ k % 2 = 0 := by omega
    simp [h, h2]
  · have h2 : m / 2 ^ k % 2 = 1 := by omega
    simp [h, h2]
def gotB (t : Int) (bs : List Int) (k : Nat) : Nat → Int := fun j => if j < k ∧ nm t j = true then bs.getD (nb t j) 0 else 0
theorem u8s.getD {bs : List Int} (h : u8s bs) (k : Nat) : 0 ≤ bs.getD k 0 ∧ bs.getD k 0 ≤ 255 := by
  rw [List.getD_eq_getElem?_getD]
  cases e : bs[k]? with
  | none => simp
  | some x => exact h x (List.mem_of_getElem? e)
theorem u8s.drop {bs : List Int} (h : u8s bs) (k : Nat) : u8s (bs.drop k) := fun x hx => h x (List.mem_of_mem_drop hx)
theorem gotB_bd {t : Int} {bs : List Int} (h : u8s bs) (k j : Nat) : 0 ≤ gotB t bs k j ∧ gotB t bs k j ≤ 255 := by
  unfold gotB
  split
  · exact h.getD _
  · decide
theorem gotB_word (t : Int) (bs : List Int) : join8 (gotB t bs 8) = wordU t bs := by
  unfold wordU gotB
  exact join8_congr _ _ fun i hi => by simp [hi]

theorem take1_any (w0 : World) (U M : Nat) (x : Int) (r : List Int) (vo : Value) (o : List Int) (w : World) (h : US w0 U M (x :: r) vo o w) :
    Calls Try.prog 25 #[.pointer (some ⟨U, 0, none⟩), .int .i64 1] w fun e w' =>
      (∃ b1 o1, b1 < w0.heap.size ∧ e = .returned (.tuple #[.slice (some ⟨b1, o1, none⟩) 1 1, .bool true]) ∧ w0.cell? ⟨b1, o1, none⟩ = some (.int .u8 x)) ∧ US w0 U M r vo o w' ∧ Only [U] w w' ∧ w'.heap.size = w.heap.size := by
  refine (take_any w0 U M (x :: r) vo o w 1 h (by simp)).mono ?_
  rintro e w' ⟨⟨A', rfl, hr⟩, h2, h3, h4⟩
  obtain ⟨b1, o1, rfl, hb, hc⟩ := hr.intAt (k := 0) (by simp)
  exact ⟨⟨b1, o1, hb, rfl, by simpa using hc⟩, h2, h3, h4⟩
theorem take1_no (w0 : World) (U M : Nat) (vo : Value) (o : List Int) (w : World) (h : US w0 U M [] vo o w) :
    Calls Try.prog 25 #[.pointer (some ⟨U, 0, none⟩), .int .i64 1] w fun e w' => e = .returned (.tuple #[.slice none 0 0, .bool false]) ∧ w = w' :=
  take_no w0 U M [] vo o w 1 h (by simp)

set_option maxRecDepth 100000 in
set_option maxHeartbeats 2000000 in
theorem one_any (w0 : World) (U M : Nat) (bs : List Int) (vo : Value) (o : List Int) (w : World) (t : Int) (ht0 : 0 ≤ t) (ht1 : t ≤ 255) (hb : u8s bs) (h : US w0 U M bs vo o w) :
    Calls Try.prog 26 #[.pointer (some ⟨U, 0, none⟩), .int .u8 t] w fun e w' =>
      (nb t 8 ≤ bs.length ∧ e = .returned (.tuple #[.int .u64 (wordU t bs), .bool true]) ∧ US w0 U M (bs.drop (nb t 8)) vo o w') ∨
      (bs.length < nb t 8 ∧ e = .returned (.tuple #[.int .u64 0, .bool false]) ∧ Below w0.heap.size w0 w') := by
  have HB := hide hb
  have hne : vo.ownBlock ≠ some w.heap.size := fun e => by have := (h.own.lt _ e).2; omega
  have hUw := h.lt
  have HS := hide (h.alloc (.cells (arrI (gotB t bs 0)) 39))
  have hlow := h.low
  go_enter Try.func26, Try.ntmps26
  go_wp2_with fail
  go_loopw [10] (fun i wr => ∃ k : Nat, k ≤ 8 ∧ i = .int .i64 k ∧ nb t k ≤ bs.length ∧ Hid (US w0 U M (bs.drop (nb t k)) vo o wr) ∧ Blk wr w.heap.size 39 (arrI (gotB t bs k)) ∧ w.heap.size < wr.heap.size) (fun i _ => 8 - (intOf i).toNat)
  case atStart => exact ⟨0, by omega, rfl, by simp [nb], HS, Blk.new _ _ _, by simp⟩
  case round =>
    obtain ⟨k, hk, rfl, hnk, hus, hblk, hsz⟩ := hrel
    by_cases hlt : k < 8
    · have hd0 : 0 ≤ t / 2 ^ k := Int.ediv_nonneg ht0 (by exact_mod_cast Nat.zero_le _)
      have hd1 : t / 2 ^ k ≤ 255 := Int.le_trans (Int.ediv_le_self _ ht0) ht1
      have hnv := nm_val0 t k hd0 hd1
      have hmo := nb_mono t (k + 1) 8 (by omega)
      by_cases hnm : nm t k = true
      · have ht : (bits .and .u8 (t / 2 ^ k) 1 == 0) = false := by rw [hnv, hnm]; rfl
        have hnb : nb t (k + 1) = nb t k + 1 := by rw [nb, if_pos hnm]
        by_cases hl : nb t k < bs.length
        · have HDK := hide (List.drop_eq_getElem_cons hl)
          have hx := HB.out _ (List.getElem_mem hl)
          have HF : Hid (gotB t bs (k + 1) k = bs[nb t k] ∧ ∀ i, i ≠ k → gotB t bs (k + 1) i = gotB t bs k i) := by
            refine ⟨?_, fun i hi => ?_⟩
            · unfold gotB
              rw [if_pos ⟨by omega, hnm⟩, List.getD_eq_getElem?_getD, List.getElem?_eq_getElem hl, Option.getD_some]
            · unfold gotB
              by_cases h1 : i < k
              · simp [h1, show i < k + 1 from by omega]
              · simp [h1, show ¬ i < k + 1 from by omega]
          generalize bs[nb t k] = x at *
          have HUS : Hid (US w0 U M (x :: bs.drop (nb t k + 1)) vo o wr) := by rw [HDK.out] at hus; exact hus
          clear hnv hnm hb
          go_wp2_with fail
          refine (take1_any w0 U M x _ vo o _ HUS.out).mono ?_
          rintro e w2 ⟨⟨b1, o1, hb1, rfl, hc1⟩, hus2, hon, hsz2⟩
          have hc2 := (hus2.be.cell (p := ⟨b1, o1, none⟩) hb1).trans hc1
          have hB2 := hon.blk hblk (by simp; omega)
          have hk2 := (hB2.cell k).trans (arrI_get (gotB t bs k) k hlt)
          have hf2 := hB2.frozen k
          have hltg := hB2.lt
          clear hc1 hus HUS
          go_wp2_with fail
          go_roundw
          case rel =>
            refine ⟨k + 1, by omega, by go_num, by omega, ?_, ?_, by simp [World.setCell]; omega⟩
            · show US _ _ _ _ _ _ _
              rw [hnb]
              exact hus2.far hUw hne _
            · have h1 := hB2.set_ k (.int .u8 x)
              rw [← HF.out.1] at h1
              rw [arrI_set _ _ k hlt HF.out.2] at h1
              rw [← HF.out.1]
              exact h1
          case measure => simp [intOf]; omega
        · have HDK : Hid (bs.drop (nb t k) = []) := List.drop_of_length_le (by omega)
          have HUS : Hid (US w0 U M [] vo o wr) := by rw [HDK.out] at hus; exact hus
          clear hnv hnm hb
          go_wp2_with fail
          refine (take1_no w0 U M vo o _ HUS.out).mono ?_
          rintro e w2 ⟨rfl, rfl⟩
          go_wp2_with fail
          go_ret2
          exact .inr ⟨by omega, rfl, hus.out.be⟩
      · have ht : (bits .and .u8 (t / 2 ^ k) 1 == 0) = true := by rw [hnv]; simpa using hnm
        have hnb : nb t (k + 1) = nb t k := by rw [nb, if_neg hnm, Nat.add_zero]
        have HF : Hid (∀ i, gotB t bs k i = gotB t bs (k + 1) i) := fun i => by
          unfold gotB
          by_cases e : i = k
          · subst e; simp [hnm]
          · by_cases h1 : i < k
            · simp [h1, show i < k + 1 from by omega]
            · simp [h1, show ¬ i < k + 1 from by omega]
        clear hnv hnm
        go_wp2_with fail
        go_roundw
        case rel => exact ⟨k + 1, by omega, by go_num, by omega, by rw [hnb]; exact hus, by rw [arrI_congr (gotB t bs k) (gotB t bs (k + 1)) (fun i => (HF.out i).symm)]; exact hblk, hsz⟩
        case measure => simp [intOf]; omega
    · have e8 : k = 8 := by omega
      subst e8
      have c0 := hblk.cell 0
      have c1 := hblk.cell 1
      have c2 := hblk.cell 2
      have c3 := hblk.cell 3
      have c4 := hblk.cell 4
      have c5 := hblk.cell 5
      have c6 := hblk.cell 6
      have c7 := hblk.cell 7
      simp [arrI] at c0 c1 c2 c3 c4 c5 c6 c7
      have HW := hide (gotB_word t bs)
      have HG : Hid (∀ j, 0 ≤ gotB t bs 8 j ∧ gotB t bs 8 j ≤ 255) := fun j => gotB_bd HB.out 8 j
      unfold join8 at HW
      generalize gotB t bs 8 = f at *
      go_wp2_with fail
      refine (of_any (f 0) (f 1) (f 2) (f 3) (f 4) (f 5) (f 6) (f 7) (HG.out 0) (HG.out 1) (HG.out 2) (HG.out 3) (HG.out 4) (HG.out 5) (HG.out 6) (HG.out 7) _).mono ?_
      rintro e w1 ⟨rfl, hb1⟩
      rw [HW.out]
      go_wp2_with fail
      go_ret2
      exact .inl ⟨hnk, rfl, hus.out.below hb1⟩
end Go.Proofs.Ytfmdnglcmbgpcaa
