/-
  The plain law of frames: what Frame lays, Unframe tells again; what Unframe takes, Frame lays.
-/
import Derived.Test.YtalboekhdjcllaaFrF
namespace Go.Proofs.Ytalboekhdjcllaa
open Go.RowKit

theorem okSegs_iff (ls : List (List Int)) : okSegs ls = true ↔ 1 ≤ ls.length ∧ ls.length ≤ 16 ∧ ∀ x ∈ ls, x.length ≤ 65536 := by
  unfold okSegs
  simp only [Bool.and_eq_true, decide_eq_true_eq, List.all_eq_true, and_assoc]

theorem rd_app (pre rest : List Int) (n : Int) (h0 : 0 ≤ n) (h1 : n ≤ 4294967295) : rd (pre ++ (numB n ++ rest)) pre.length = n := by
  have g : ∀ j, j < 4 → (pre ++ (numB n ++ rest)).getD (pre.length + j) 0 = (numB n).getD j 0 := fun j hj => by
    rw [List.getD_eq_getElem?_getD, List.getElem?_append_right (by omega), List.getElem?_append_left (by rw [numB_len]; omega), ← List.getD_eq_getElem?_getD]
    congr 1
    omega
  have g0 := g 0 (by omega)
  rw [Nat.add_zero] at g0
  unfold rd
  rw [g0, g 1 (by omega), g 2 (by omega), g 3 (by omega)]
  simp only [numB, List.getD_cons_zero, List.getD_cons_succ]
  omega
theorem rd_at (bs pre rest : List Int) (n : Int) (k : Nat) (h0 : 0 ≤ n) (h1 : n ≤ 4294967295) (e : bs = pre ++ (numB n ++ rest)) (hk : pre.length = k) : rd bs k = n := by
  subst e hk
  exact rd_app pre rest n h0 h1
theorem cut_at {α : Type} (l : List α) (k : Nat) (h : k < l.length) : l = l.take k ++ l[k] :: l.drop (k + 1) := by
  rw [← List.drop_eq_getElem_cons h, List.take_append_drop]
theorem lensB_split (ls : List (List Int)) (k : Nat) (h : k < ls.length) : lensB ls = lensB (ls.take k) ++ (numB (ls[k].length : Nat) ++ lensB (ls.drop (k + 1))) := by
  have e := cut_at ls k h
  unfold lensB
  conv => lhs; rw [e]
  rw [List.flatMap_append, List.flatMap_cons]
theorem flats_split (ls : List (List Int)) (k : Nat) (h : k < ls.length) : ls.flatMap flatOf = (ls.take k).flatMap flatOf ++ (flatOf ls[k] ++ (ls.drop (k + 1)).flatMap flatOf) := by
  have e := cut_at ls k h
  conv => lhs; rw [e]
  rw [List.flatMap_append, List.flatMap_cons]
theorem lenB_len (ls : List (List Int)) : (lenB ls).length = 4 + 4 * ls.length := by
  unfold lenB
  rw [List.length_append, numB_len, lensB_len]
theorem headB_len (ls : List (List Int)) : (headB ls).length = 4 + 4 * ls.length + padN ls.length := by
  unfold headB
  rw [List.length_append, lenB_len, List.length_replicate]

theorem frame_len (ls : List (List Int)) : (frameB ls).length = 4 + 4 * ls.length + padN ls.length + (ls.flatMap flatOf).length := by
  unfold frameB
  rw [List.length_append, headB_len]

section
variable {ls : List (List Int)} (hok : okSegs ls = true)
include hok
theorem frame_rd0 : rd (frameB ls) 0 = (ls.length : Int) - 1 := by
  obtain ⟨h1, h2, _⟩ := (okSegs_iff ls).1 hok
  refine rd_at (frameB ls) [] (lensB ls ++ List.replicate (padN ls.length) 0 ++ ls.flatMap flatOf) _ 0 (by omega) (by omega) ?_ rfl
  simp [frameB, headB, lenB, List.append_assoc]
theorem frame_rd (k : Nat) (h : k < ls.length) : rd (frameB ls) (4 + 4 * k) = ls[k].length := by
  obtain ⟨h1, h2, h3⟩ := (okSegs_iff ls).1 hok
  have hk := h3 _ (List.getElem_mem h)
  refine rd_at (frameB ls) (numB ((ls.length : Int) - 1) ++ lensB (ls.take k)) (lensB (ls.drop (k + 1)) ++ List.replicate (padN ls.length) 0 ++ ls.flatMap flatOf) _ _ (by omega) (by omega) ?_ ?_
  · unfold frameB headB lenB
    rw [lensB_split ls k h]
    simp [List.append_assoc]
  · rw [List.length_append, numB_len, lensB_len, List.length_take]
    omega
theorem frame_n : nSegs (frameB ls) = ls.length := by
  obtain ⟨h1, h2, _⟩ := (okSegs_iff ls).1 hok
  unfold nSegs
  rw [frame_rd0 hok]
  omega
theorem frame_head : headErr (frameB ls) = 0 := by
  obtain ⟨h1, h2, h3⟩ := (okSegs_iff ls).1 hok
  have hl := frame_len ls
  have hb : anyBig (frameB ls) ls.length = false := by
    unfold anyBig
    rw [List.any_eq_false]
    intro i hi
    have hi := List.mem_range.1 hi
    have := h3 _ (List.getElem_mem hi)
    rw [frame_rd hok i hi]
    simp
    omega
  have hp : anyPad (frameB ls) ls.length (padN ls.length) = false := by
    unfold anyPad
    rw [List.any_eq_false]
    intro i hi
    have hi := List.mem_range.1 hi
    have e : (frameB ls).getD (4 + 4 * ls.length + i) 0 = 0 := by
      unfold frameB headB
      rw [List.getD_eq_getElem?_getD, List.getElem?_append_left (by rw [List.length_append, lenB_len, List.length_replicate]; omega), List.getElem?_append_right (by rw [lenB_len]; omega), List.getElem?_replicate]
      split <;> rfl
    rw [e]
    decide
  unfold headErr
  rw [frame_n hok, if_neg (by omega), if_neg (by omega), if_neg (by omega), hb, hp]
  rfl
theorem frame_off (k : Nat) (h : k ≤ ls.length) : offN (frameB ls) ls.length k = 4 + 4 * ls.length + padN ls.length + ((ls.take k).flatMap flatOf).length := by
  induction k with
  | zero => simp [offN]
  | succ k ih =>
    simp only [offN]
    rw [ih (by omega), frame_rd hok k (by omega), flats_snoc ls k (by omega), List.length_append, flatOf_len, Int.toNat_natCast]
    omega
theorem frame_err : unfErr (frameB ls) = 0 := by
  unfold unfErr
  rw [frame_head hok, if_neg (by decide), frame_n hok, frame_off hok _ (Nat.le_refl _), List.take_of_length_le (Nat.le_refl _), ← frame_len ls, if_neg (by omega), if_neg (by omega)]
theorem frame_segs (hw : ∀ x ∈ ls, ∀ y ∈ x, 0 ≤ y ∧ y ≤ 18446744073709551615) : segsOf (frameB ls) ls.length ls.length = ls := by
  apply List.ext_getElem
  · rw [segsOf_len]
  intro k h1 h2
  have e : (segsOf (frameB ls) ls.length ls.length)[k] = segOf (frameB ls) ls.length k := by simp [segsOf]
  rw [e]
  unfold segOf
  rw [frame_off hok k (by omega), frame_rd hok k h2, Int.toNat_natCast]
  have e2 : frameB ls = (headB ls ++ (ls.take k).flatMap flatOf) ++ (flatOf ls[k] ++ (ls.drop (k + 1)).flatMap flatOf) := by
    unfold frameB
    rw [flats_split ls k h2, List.append_assoc]
  rw [e2, List.drop_left' (by rw [List.length_append, headB_len]), ← wordsOf_take, List.take_left' (by rw [flatOf_len]), wordAt_flat _ (hw _ (List.getElem_mem h2))]
end

/-! ### the other way -/
theorem bt_join8 (f : Nat → Int) (hf : ∀ i, 0 ≤ f i ∧ f i ≤ 255) : bytesOf (join8 f) = [f 0, f 1, f 2, f 3, f 4, f 5, f 6, f 7] := by
  have h0 := hf 0
  have h1 := hf 1
  have h2 := hf 2
  have h3 := hf 3
  have h4 := hf 4
  have h5 := hf 5
  have h6 := hf 6
  have h7 := hf 7
  unfold bytesOf bt join8
  generalize f 0 = a0, f 1 = a1, f 2 = a2, f 3 = a3, f 4 = a4, f 5 = a5, f 6 = a6, f 7 = a7 at *
  simp only [List.cons.injEq, and_true]
  refine ⟨?_, ?_, ?_, ?_, ?_, ?_, ?_, ?_⟩ <;> omega
theorem take8 (ys : List Int) (k : Nat) (h : 8 * k + 8 ≤ ys.length) : ys.take (8 * (k + 1)) = ys.take (8 * k) ++ [ys.getD (8 * k + 0) 0, ys.getD (8 * k + 1) 0, ys.getD (8 * k + 2) 0, ys.getD (8 * k + 3) 0, ys.getD (8 * k + 4) 0, ys.getD (8 * k + 5) 0, ys.getD (8 * k + 6) 0, ys.getD (8 * k + 7) 0] := by
  have s : ∀ j, j < ys.length → ys.take (j + 1) = ys.take j ++ [ys.getD j 0] := fun j hj => by
    rw [List.take_succ_eq_append_getElem hj, List.getD_eq_getElem?_getD, List.getElem?_eq_getElem hj]; rfl
  rw [show 8 * (k + 1) = 8 * k + 7 + 1 from by omega, s _ (by omega), show 8 * k + 7 = 8 * k + 6 + 1 from by omega, s _ (by omega), show 8 * k + 6 = 8 * k + 5 + 1 from by omega, s _ (by omega), show 8 * k + 5 = 8 * k + 4 + 1 from by omega, s _ (by omega), show 8 * k + 4 = 8 * k + 3 + 1 from by omega, s _ (by omega), show 8 * k + 3 = 8 * k + 2 + 1 from by omega, s _ (by omega), show 8 * k + 2 = 8 * k + 1 + 1 from by omega, s _ (by omega), s _ (by omega)]
  simp [List.append_assoc]
theorem flat_words (ys : List Int) (hw : ∀ x ∈ ys, 0 ≤ x ∧ x ≤ 255) (m : Nat) (h : 8 * m ≤ ys.length) : flatOf (wordsOf ys m) = ys.take (8 * m) := by
  induction m with
  | zero => simp [wordsOf, flatOf]
  | succ m ih =>
    have e : wordsOf ys (m + 1) = wordsOf ys m ++ [wordAt ys m] := wordsOf_snoc ys m
    rw [e, take8 ys m (by omega), ← ih (by omega)]
    unfold flatOf
    rw [List.flatMap_append, List.flatMap_cons, List.flatMap_nil, List.append_nil]
    congr 1
    exact bt_join8 _ fun i => getD_bd255 ys hw _
theorem take4 (ys : List Int) (k : Nat) (h : k + 4 ≤ ys.length) : ys.take (k + 4) = ys.take k ++ [ys.getD k 0, ys.getD (k + 1) 0, ys.getD (k + 2) 0, ys.getD (k + 3) 0] := by
  have s : ∀ j, j < ys.length → ys.take (j + 1) = ys.take j ++ [ys.getD j 0] := fun j hj => by
    rw [List.take_succ_eq_append_getElem hj, List.getD_eq_getElem?_getD, List.getElem?_eq_getElem hj]; rfl
  rw [show k + 4 = k + 3 + 1 from rfl, s _ (by omega), show k + 3 = k + 2 + 1 from rfl, s _ (by omega), show k + 2 = k + 1 + 1 from rfl, s _ (by omega), s _ (by omega)]
  simp [List.append_assoc]
theorem numB_rd (bs : List Int) (hw : ∀ x ∈ bs, 0 ≤ x ∧ x ≤ 255) (k : Nat) : numB (rd bs k) = [bs.getD k 0, bs.getD (k + 1) 0, bs.getD (k + 2) 0, bs.getD (k + 3) 0] := by
  have h0 := getD_bd255 bs hw k
  have h1 := getD_bd255 bs hw (k + 1)
  have h2 := getD_bd255 bs hw (k + 2)
  have h3 := getD_bd255 bs hw (k + 3)
  unfold numB rd
  generalize bs.getD k 0 = a0, bs.getD (k + 1) 0 = a1, bs.getD (k + 2) 0 = a2, bs.getD (k + 3) 0 = a3 at *
  simp only [List.cons.injEq, and_true]
  refine ⟨?_, ?_, ?_, ?_⟩ <;> omega

theorem segOf_len (bs : List Int) (q i : Nat) : (segOf bs q i).length = (rd bs (4 + 4 * i)).toNat := by unfold segOf; rw [wordsOf_len]

section
variable {bs : List Int} (hw : ∀ x ∈ bs, 0 ≤ x ∧ x ≤ 255) (he : unfErr bs = 0)
include he
theorem unf_parts : 4 ≤ bs.length ∧ nSegs bs ≤ 16 ∧ 4 + 4 * nSegs bs + padN (nSegs bs) ≤ bs.length ∧ anyBig bs (nSegs bs) = false ∧ anyPad bs (nSegs bs) (padN (nSegs bs)) = false ∧ offN bs (nSegs bs) (nSegs bs) = bs.length := by
  have hh : headErr bs = 0 := by
    by_cases h : headErr bs = 0
    · exact h
    · unfold unfErr at he
      rw [if_pos h] at he
      exact he
  unfold unfErr at he
  rw [if_neg (by rw [hh]; decide)] at he
  unfold headErr at hh
  by_cases h1 : bs.length < 4
  · rw [if_pos h1] at hh; cases hh
  rw [if_neg h1] at hh
  by_cases h2 : nSegs bs > 16
  · rw [if_pos h2] at hh; cases hh
  rw [if_neg h2] at hh
  by_cases h3 : bs.length < 4 + 4 * nSegs bs + padN (nSegs bs)
  · rw [if_pos h3] at hh; cases hh
  rw [if_neg h3] at hh
  cases h4 : anyBig bs (nSegs bs)
  rotate_left
  · rw [h4, if_pos rfl] at hh; cases hh
  rw [h4, if_neg (by decide)] at hh
  cases h5 : anyPad bs (nSegs bs) (padN (nSegs bs))
  rotate_left
  · rw [h5, if_pos rfl] at hh; cases hh
  by_cases h6 : bs.length < offN bs (nSegs bs) (nSegs bs)
  · rw [if_pos h6] at he; cases he
  rw [if_neg h6] at he
  by_cases h7 : offN bs (nSegs bs) (nSegs bs) < bs.length
  · rw [if_pos h7] at he; cases he
  exact ⟨by omega, by omega, by omega, rfl, rfl, by omega⟩
include hw
theorem unf_rd (i : Nat) (h : i < nSegs bs) : 0 ≤ rd bs (4 + 4 * i) ∧ rd bs (4 + 4 * i) ≤ 65536 := by
  obtain ⟨_, _, _, hb, _, _⟩ := unf_parts he
  refine ⟨(rd_bd bs hw _).1, ?_⟩
  by_cases hh : rd bs (4 + 4 * i) > 65536
  · rw [anyBig_hit bs _ i h hh] at hb; cases hb
  · omega
theorem unf_ok : okSegs (segsOf bs (nSegs bs) (nSegs bs)) = true := by
  obtain ⟨_, h2, _, _, _, _⟩ := unf_parts he
  rw [okSegs_iff]
  refine ⟨by rw [segsOf_len]; unfold nSegs; omega, by rw [segsOf_len]; exact h2, fun x hx => ?_⟩
  unfold segsOf at hx
  obtain ⟨i, hi, rfl⟩ := List.mem_map.1 hx
  have := unf_rd hw he i (List.mem_range.1 hi)
  rw [segOf_len]
  omega
theorem unf_lens (k : Nat) (h : k ≤ nSegs bs) : numB ((nSegs bs : Int) - 1) ++ lensB (segsOf bs (nSegs bs) k) = bs.take (4 + 4 * k) := by
  obtain ⟨h1, h2, h3, _, _, _⟩ := unf_parts he
  induction k with
  | zero =>
    have e : ((nSegs bs : Nat) : Int) - 1 = rd bs 0 := by have := (rd_bd bs hw 0).1; unfold nSegs; omega
    rw [e, numB_rd bs hw 0]
    have := take4 bs 0 (by omega)
    simpa [segsOf, lensB] using this.symm
  | succ k ih =>
    rw [segsOf_snoc]
    have e : lensB (segsOf bs (nSegs bs) k ++ [segOf bs (nSegs bs) k]) = lensB (segsOf bs (nSegs bs) k) ++ numB (rd bs (4 + 4 * k)) := by
      unfold lensB
      rw [List.flatMap_append, List.flatMap_cons, List.flatMap_nil, List.append_nil, segOf_len, Int.toNat_of_nonneg (rd_bd bs hw _).1]
    rw [e, ← List.append_assoc, ih (by omega), numB_rd bs hw, show 4 + 4 * (k + 1) = 4 + 4 * k + 4 from by omega, take4 bs _ (by omega)]
theorem unf_flats (k : Nat) (h : k ≤ nSegs bs) : bs.take (offN bs (nSegs bs) 0) ++ (segsOf bs (nSegs bs) k).flatMap flatOf = bs.take (offN bs (nSegs bs) k) := by
  obtain ⟨_, _, _, _, _, h6⟩ := unf_parts he
  induction k with
  | zero => simp [segsOf]
  | succ k ih =>
    have hm := offN_mono bs (nSegs bs) (k + 1) (nSegs bs) h
    have hs : offN bs (nSegs bs) (k + 1) = offN bs (nSegs bs) k + 8 * (rd bs (4 + 4 * k)).toNat := rfl
    rw [segsOf_snoc, List.flatMap_append, List.flatMap_cons, List.flatMap_nil, List.append_nil, ← List.append_assoc, ih (by omega)]
    unfold segOf
    rw [flat_words _ (fun x hx => hw x (List.mem_of_mem_drop hx)) _ (by rw [List.length_drop]; omega), hs, List.take_add]
theorem unf_frame : frameB (segsOf bs (nSegs bs) (nSegs bs)) = bs := by
  obtain ⟨_, _, h3, _, h5, h6⟩ := unf_parts he
  have hl := unf_lens hw he (nSegs bs) (Nat.le_refl _)
  have hf := unf_flats hw he (nSegs bs) (Nat.le_refl _)
  have hp : bs.take (4 + 4 * nSegs bs) ++ List.replicate (padN (nSegs bs)) 0 = bs.take (offN bs (nSegs bs) 0) := by
    simp only [offN]
    rw [show bs.take (4 + 4 * nSegs bs + padN (nSegs bs)) = bs.take (4 + 4 * nSegs bs) ++ (bs.drop (4 + 4 * nSegs bs)).take (padN (nSegs bs)) from List.take_add]
    congr 1
    apply List.ext_getElem
    · rw [List.length_replicate, List.length_take, List.length_drop]; omega
    intro i g1 g2
    rw [List.length_replicate] at g1
    rw [List.getElem_replicate, List.getElem_take, List.getElem_drop]
    by_cases hz : bs.getD (4 + 4 * nSegs bs + i) 0 = 0
    · rw [List.getD_eq_getElem?_getD, List.getElem?_eq_getElem (by omega)] at hz
      exact hz.symm
    · rw [anyPad_hit bs _ _ i g1 hz] at h5; cases h5
  unfold frameB headB lenB
  rw [segsOf_len, hl, hp, hf, h6, List.take_of_length_le (Nat.le_refl _)]
end
end Go.Proofs.Ytalboekhdjcllaa
