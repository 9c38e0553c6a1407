/-
  The unpacker: more; Unpack.
-/
import Derived.Test.YtfmdnglcmbgpcaaPkI
namespace Go.Proofs.Ytfmdnglcmbgpcaa
open Go.RowKit Go.Proofs.Ytfmdnglcmbgpcaa.Pk

def moreR (t : Int) (bs : List Int) (M : Nat) (o : List Int) : List Int × Int :=
  if t ≠ 0 ∧ t ≠ 255 then unp bs.length bs M o
  else match bs with
    | [] => ([], 4)
    | c :: q =>
      if t = 255 ∧ q.length < 8 * c.toNat then ([], 4)
      else if M < o.length + c.toNat then ([], 3)
      else if t = 0 then unp q.length q M (o ++ List.replicate c.toNat 0)
      else unp (q.drop (8 * c.toNat)).length (q.drop (8 * c.toNat)) M (o ++ wordsOf q c.toNat)
theorem unp_step (t : Int) (r : List Int) (M : Nat) (o : List Int) :
    unp (r.length + 1) (t :: r) M o = if r.length < nb t 8 then ([], 4) else if M ≤ o.length then ([], 3) else moreR t (r.drop (nb t 8)) M (o ++ [wordU t r]) := by
  rw [unp]
  unfold moreR
  by_cases h1 : r.length < nb t 8
  · rw [if_pos h1, if_pos h1]
  · rw [if_neg h1, if_neg h1]
    by_cases h2 : M ≤ o.length
    · rw [if_pos h2, if_pos h2]
    · rw [if_neg h2, if_neg h2]
      by_cases h3 : t ≠ 0 ∧ t ≠ 255
      · rw [if_pos h3, if_pos h3]
        exact unp_fuel _ _ _ _ _ (by rw [List.length_drop]; omega) (Nat.le_refl _)
      · rw [if_neg h3, if_neg h3]
        have hl := List.length_drop (i := nb t 8) (l := r)
        cases hq : r.drop (nb t 8) with
        | nil => rfl
        | cons c q =>
          rw [hq, List.length_cons] at hl
          simp only [List.length_append, List.length_cons, List.length_nil, Nat.zero_add]
          rw [unp_fuel r.length q.length q M _ (by omega) (Nat.le_refl _), unp_fuel r.length (q.drop (8 * c.toNat)).length (q.drop (8 * c.toNat)) M _ (by rw [List.length_drop]; omega) (Nat.le_refl _)]
theorem wordsOf_take (q : List Int) (c k : Nat) (hk : 8 * c ≤ k) : wordsOf (q.take k) c = wordsOf q c := by
  unfold wordsOf
  refine List.map_congr_left fun i hi => ?_
  have hi := List.mem_range.1 hi
  unfold wordAt
  refine join8_congr _ _ fun j hj => ?_
  rw [List.getD_eq_getElem?_getD, List.getD_eq_getElem?_getD, List.getElem?_take_of_lt (by omega)]

theorem take8_any (w0 : World) (U M : Nat) (bs : List Int) (vo : Value) (o : List Int) (w : World) (n : Nat) (h : US w0 U M bs vo o w) (hm : 8 * n ≤ bs.length) :
    Calls Try.prog 25 #[.pointer (some ⟨U, 0, none⟩), .int .i64 (8 * (n : Int))] w fun e w' =>
      (∃ A', e = .returned (.tuple #[.slice A' (8 * n) (8 * n), .bool true]) ∧ Reads w0 w0.heap.size A' ((bs.take (8 * n)).map (Value.int .u8))) ∧ US w0 U M (bs.drop (8 * n)) vo o w' ∧ Only [U] w w' ∧ w'.heap.size = w.heap.size := by
  have := take_any w0 U M bs vo o w (8 * n) h hm
  rwa [Int.natCast_mul] at this
theorem take8_no (w0 : World) (U M : Nat) (bs : List Int) (vo : Value) (o : List Int) (w : World) (n : Nat) (h : US w0 U M bs vo o w) (hm : bs.length < 8 * n) :
    Calls Try.prog 25 #[.pointer (some ⟨U, 0, none⟩), .int .i64 (8 * (n : Int))] w fun e w' => e = .returned (.tuple #[.slice none 0 0, .bool false]) ∧ w = w' := by
  have := take_no w0 U M bs vo o w (8 * n) h hm
  rwa [Int.natCast_mul] at this

def MorePost (w0 : World) (U M : Nat) (t : Int) (bs o : List Int) (e : Ending) (w' : World) : Prop :=
  (e = .returned (.int .i64 0) ∧ ∃ bs' v' o', US w0 U M bs' v' o' w' ∧ moreR t bs M o = unp bs'.length bs' M o' ∧ u8s bs' ∧ o'.length + 256 * bs'.length ≤ o.length + 255 + 256 * bs.length ∧ bs'.length ≤ bs.length) ∨
  (∃ k : Int, (k = 3 ∨ k = 4) ∧ e = .returned (.int .i64 k) ∧ moreR t bs M o = ([], k) ∧ Below w0.heap.size w0 w')

set_option maxRecDepth 100000 in
set_option maxHeartbeats 2000000 in
theorem more_any (w0 : World) (U M : Nat) (bs : List Int) (vo : Value) (o : List Int) (w : World) (t : Int) (ht0 : 0 ≤ t) (ht1 : t ≤ 255) (hb : u8s bs) (h : US w0 U M bs vo o w) (ho : o.length ≤ 1000000000) :
    Calls Try.prog 28 #[.pointer (some ⟨U, 0, none⟩), .int .u8 t] w (MorePost w0 U M t bs o) := by
  obtain ⟨i0, hi, hz0, hz1, hz2⟩ := info_parts infoWord
  have HB := hide hb
  have HS := hide h
  clear hb h
  go_enter Try.func28, Try.ntmps28
  by_cases hT0 : t = 0
  · subst hT0
    cases bs with
    | nil =>
      have HR : Hid (moreR 0 [] M o = ([], 4)) := by show _ = _; simp [moreR]
      go_wp2_with fail
      refine (take1_no w0 U M vo o _ HS.out).mono ?_
      rintro e w1 ⟨rfl, rfl⟩
      go_wp2_with fail
      go_ret
      exact .inr ⟨4, .inr rfl, rfl, HR.out, HS.out.be⟩
    | cons c q =>
      have hc := HB.out c (List.mem_cons_self ..)
      have HQ : Hid (u8s q) := fun x hx => HB.out x (List.mem_cons_of_mem _ hx)
      obtain ⟨n, rfl⟩ := Int.eq_ofNat_of_zero_le hc.1
      have hmk : ∀ W : World, (Instr.makeSlice 22 (.int .u8 (n : Int)) (.int .u8 (n : Int))).run Try.prog W = .ok (.slice (some ⟨W.heap.size, 0, none⟩) n n) (W.alloc (.cells (madeCells #[.int .u64 0] n) 38)) := fun W => by
        have h := run_make (P := Try.prog) W 22 38 i0 (.int .u64 0) Try.underlying22 hi hz0 .u8 .u8 (n : Int) (n : Int) (by omega) (by omega) (by rw [hz2]; omega) (by omega)
        rw [Int.toNat_natCast] at h
        simpa [hz1, Value.cells] using h
      have HM : Hid (∀ W : World, Reads (W.alloc (.cells (madeCells #[.int .u64 0] n) 38)) (W.alloc (.cells (madeCells #[.int .u64 0] n) 38)).heap.size (some ⟨W.heap.size, 0, none⟩) ((List.replicate n (0 : Int)).map (Value.int .u64))) := fun W =>
        Reads.of_lit (by simp) fun j u hu => by
          rw [Nat.zero_add, (Blk.new W _ _).cell, ← Array.getElem?_toList, toList_madeCells_one]
          simpa using hu
      go_wp2_with fail
      refine (take1_any w0 U M _ q vo o _ HS.out).mono ?_
      rintro e w1 ⟨⟨b1, o1, hb1, rfl, hc1⟩, hus1, hon1, -⟩
      have hc2 := (hus1.be.cell (p := ⟨b1, o1, none⟩) hb1).trans hc1
      have HU1 := hide (hus1.alloc (.cells (madeCells #[.int .u64 0] n) 38))
      have HM1 := HM.out w1
      by_cases hm : M < o.length + n
      · have HR : Hid (moreR 0 ((n : Int) :: q) M o = ([], 3)) := by show _ = _; simp [moreR]; omega
        clear hus1 hc1
        go_wp2_with fail
        refine (lay_no w0 U M q vo o _ _ n n HU1.out (by omega) ho hm).mono ?_
        rintro e w2 ⟨rfl, nq, rfl⟩
        go_wp2_with fail
        go_ret
        exact .inr ⟨3, .inl rfl, rfl, HR.out, below_drewN HU1.out.be nq⟩
      · have HR : Hid (moreR 0 ((n : Int) :: q) M o = unp q.length q M (o ++ List.replicate n 0)) := by show _ = _; simp [moreR]; omega
        clear hus1 hc1
        go_wp2_with fail
        refine (lay_any w0 U M q vo o (List.replicate n 0) _ _ n n (w1.alloc (.cells (madeCells #[.int .u64 0] n) 38)).heap.size HU1.out (List.length_replicate ..).symm HM1 (by omega) ho (by omega)).mono ?_
        rintro e w2 ⟨rfl, ⟨v2, hus2⟩, hb2⟩
        go_wp2_with fail
        go_ret
        exact .inl ⟨rfl, q, v2, _, hus2, HR.out, HQ.out, by simp; omega, by simp⟩
  · by_cases hT1 : t = 255
    · subst hT1
      cases bs with
      | nil =>
        have HR : Hid (moreR 255 [] M o = ([], 4)) := by show _ = _; simp [moreR]
        go_wp2_with fail
        refine (take1_no w0 U M vo o _ HS.out).mono ?_
        rintro e w1 ⟨rfl, rfl⟩
        go_wp2_with fail
        go_ret
        exact .inr ⟨4, .inr rfl, rfl, HR.out, HS.out.be⟩
      | cons c q =>
        have hc := HB.out c (List.mem_cons_self ..)
        have HQ : Hid (u8s q) := fun x hx => HB.out x (List.mem_cons_of_mem _ hx)
        obtain ⟨n, rfl⟩ := Int.eq_ofNat_of_zero_le hc.1
        have hmk : ∀ W : World, (Instr.makeSlice 22 (.int .u8 (n : Int)) (.int .u8 (n : Int))).run Try.prog W = .ok (.slice (some ⟨W.heap.size, 0, none⟩) n n) (W.alloc (.cells (madeCells #[.int .u64 0] n) 38)) := fun W => by
          have h := run_make (P := Try.prog) W 22 38 i0 (.int .u64 0) Try.underlying22 hi hz0 .u8 .u8 (n : Int) (n : Int) (by omega) (by omega) (by rw [hz2]; omega) (by omega)
          rw [Int.toNat_natCast] at h
          simpa [hz1, Value.cells] using h
        go_wp2_with fail
        refine (take1_any w0 U M _ q vo o _ HS.out).mono ?_
        rintro e w1 ⟨⟨b1, o1, hb1, rfl, hc1⟩, hus1, hon1, -⟩
        have hc2 := (hus1.be.cell (p := ⟨b1, o1, none⟩) hb1).trans hc1
        have hb1' : b1 < w1.heap.size := by have := hus1.be.size; omega
        have HU1 := hide (hus1.alloc (.cells (madeCells #[.int .u64 0] n) 38))
        by_cases hl : q.length < 8 * n
        · have HR : Hid (moreR 255 ((n : Int) :: q) M o = ([], 4)) := by show _ = _; simp [moreR]; omega
          clear hus1 hc1
          go_wp2_with fail
          refine (take8_no w0 U M q vo o _ n HU1.out hl).mono ?_
          rintro e w2 ⟨rfl, rfl⟩
          go_wp2_with fail
          go_ret
          exact .inr ⟨4, .inr rfl, rfl, HR.out, HU1.out.be⟩
        · have HQT : Hid (u8s (q.take (8 * n))) := fun x hx => HQ.out x (List.mem_of_mem_take hx)
          have HLT : Hid (8 * n = (q.take (8 * n)).length) := by show _ = _; rw [List.length_take]; omega
          have HWT := hide (wordsOf_take q n (8 * n) (Nat.le_refl _))
          clear hus1 hc1
          go_wp2_with fail
          refine (take8_any w0 U M q vo o _ n HU1.out (by omega)).mono ?_
          rintro e w2 ⟨⟨A2, rfl, hr2⟩, hus2, -, -⟩
          have HRD := hide (hr2.below hus2.be (Nat.le_refl _))
          have HUS2 := hide hus2
          have hsz2 := hus2.be.size
          clear hr2 hus2
          go_wp2_with fail
          refine (words_any A2 _ _ w0.heap.size (q.take (8 * n)) _ HLT.out HRD.out hsz2 HQT.out (Nat.le_refl _) (by unfold maxLen; omega) (by omega)).mono ?_
          rintro e w3 ⟨hb3, ⟨hbad, -⟩ | ⟨-, A3, n3, c3, rfl, hn3, -, hr3⟩⟩
          · exfalso
            rw [← HLT.out] at hbad
            omega
          have en : n3 = n := by rw [hn3, ← HLT.out]; omega
          rw [← hn3, en, HWT.out] at hr3
          subst en
          clear hn3
          have HU3 := hide (HUS2.out.below hb3)
          have HR3 := hide hr3
          clear hr3
          have HWL := hide (wordsOf_len q n3)
          by_cases hm : M < o.length + n3
          · have HR : Hid (moreR 255 ((n3 : Int) :: q) M o = ([], 3)) := by show _ = _; simp [moreR, hl, hm]
            go_wp2_with fail
            refine (lay_no w0 U M _ vo o _ _ n3 _ HU3.out (by omega) ho hm).mono ?_
            rintro e w4 ⟨rfl, nq, rfl⟩
            go_wp2_with fail
            go_ret
            exact .inr ⟨3, .inl rfl, rfl, HR.out, below_drewN HU3.out.be nq⟩
          · have HR : Hid (moreR 255 ((n3 : Int) :: q) M o = unp (q.drop (8 * n3)).length (q.drop (8 * n3)) M (o ++ wordsOf q n3)) := by show _ = _; simp [moreR, hl, hm]
            go_wp2_with fail
            refine (lay_any w0 U M _ vo o (wordsOf q n3) _ _ n3 _ _ HU3.out HWL.out.symm HR3.out (by omega) ho (by omega)).mono ?_
            rintro e w4 ⟨rfl, ⟨v4, hus4⟩, hb4⟩
            go_wp2_with fail
            go_ret
            exact .inl ⟨rfl, _, v4, _, hus4, HR.out, HQ.out.drop _, by rw [List.length_append, HWL.out, List.length_drop]; simp only [List.length_cons]; omega, by rw [List.length_drop, List.length_cons]; omega⟩
    · have hd1 : (t != 0) = true := by simpa using hT0
      have hd2 : (t != 255) = true := by simpa using hT1
      have HR : Hid (moreR t bs M o = unp bs.length bs M o) := by show _ = _; unfold moreR; rw [if_pos ⟨hT0, hT1⟩]
      clear hT0 hT1
      go_wp2_with fail
      go_ret
      exact .inl ⟨rfl, bs, vo, o, HS.out, HR.out, HB.out, by omega, Nat.le_refl _⟩
end Go.Proofs.Ytfmdnglcmbgpcaa
