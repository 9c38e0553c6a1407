/-
  What Frame and Unframe give, in either case.
-/
import Derived.Test.YtalboekhdjcllaaFrP
namespace Go.Proofs.Ytalboekhdjcllaa
open Go.RowKit

theorem FramePost.yes {ls : List (List Int)} {w w' : World} {e : Ending} (h : FramePost ls w e w') (hok : okSegs ls = true) :
    Below w.heap.size w w' ∧ ∃ A n c, e = .returned (.tuple #[.slice A n c, .bool true]) ∧ n = (frameB ls).length ∧ n ≤ c ∧ c ≤ maxLen ∧ Reads w' w'.heap.size A ((frameB ls).map (Value.int .u8)) := by
  obtain ⟨hb, ⟨h, _⟩ | ⟨_, h⟩⟩ := h
  · rw [hok] at h; cases h
  · exact ⟨hb, h⟩
theorem FramePost.no {ls : List (List Int)} {w w' : World} {e : Ending} (h : FramePost ls w e w') (hok : okSegs ls = false) :
    Below w.heap.size w w' ∧ e = .returned (.tuple #[.slice none 0 0, .bool false]) := by
  obtain ⟨hb, ⟨_, h⟩ | ⟨h, _⟩⟩ := h
  · exact ⟨hb, h⟩
  · rw [hok] at h; cases h
theorem UnfPost.yes {bs : List Int} {w w' : World} {e : Ending} (h : UnfPost bs w e w') (hz : unfErr bs = 0) :
    Below w.heap.size w w' ∧ ∃ A vs c, e = .returned (.tuple #[.slice A (nSegs bs) c, .int .i64 0]) ∧ SegsAt w' w'.heap.size A vs (segsOf bs (nSegs bs) (nSegs bs)) := by
  obtain ⟨hb, ⟨h, _⟩ | ⟨_, h⟩⟩ := h
  · exact absurd hz h
  · exact ⟨hb, h⟩
theorem UnfPost.no {bs : List Int} {w w' : World} {e : Ending} (h : UnfPost bs w e w') (hz : unfErr bs ≠ 0) :
    Below w.heap.size w w' ∧ e = .returned (.tuple #[.slice none 0 0, .int .i64 (unfErr bs)]) := by
  obtain ⟨hb, ⟨_, h⟩ | ⟨h, _⟩⟩ := h
  · exact ⟨hb, h⟩
  · exact absurd h hz
theorem SegsAt.nil (w : World) (B : Nat) : SegsAt w B none [] [] := ⟨Reads.none_, rfl, fun i h1 _ => by simp at h1⟩
theorem SegsAt.drewN {w : World} {B : Nat} {A : Option Addr} {vs : List Value} {ls : List (List Int)} (h : SegsAt w B A vs ls) (k : Nat) : SegsAt (w.drewN k) B A vs ls := h.keep fun _ _ => rfl
theorem frame_bd (ls : List (List Int)) (hok : okSegs ls = true) : (frameB ls).length ≤ 10000000 ∧ ∀ x ∈ frameB ls, 0 ≤ x ∧ x ≤ 255 := by
  obtain ⟨h1, h2, h3⟩ := (okSegs_iff ls).1 hok
  have hnb : ∀ n : Int, ∀ x ∈ numB n, 0 ≤ x ∧ x ≤ 255 := fun n x hx => by
    simp only [numB, List.mem_cons, List.not_mem_nil, or_false] at hx
    rcases hx with h | h | h | h <;> subst h <;> omega
  constructor
  · rw [frame_len ls]
    have := flats_len ls h3
    have hp : padN ls.length ≤ 4 := by unfold padN; split <;> omega
    omega
  · intro x hx
    unfold frameB headB lenB lensB flatOf bytesOf at hx
    simp only [List.mem_append, List.mem_replicate, List.mem_flatMap] at hx
    rcases hx with ((h | ⟨y, _, h⟩) | ⟨_, rfl⟩) | ⟨y, _, z, _, h⟩
    · exact hnb _ x h
    · exact hnb _ x h
    · exact ⟨by decide, by decide⟩
    · simp only [List.mem_cons, List.not_mem_nil, or_false] at h
      rcases h with h | h | h | h | h | h | h | h <;> subst h <;> exact ⟨bt_nonneg z _, bt_le z _⟩
theorem SegsAt.bds {w : World} {B : Nat} {A : Option Addr} {vs : List Value} {ls : List (List Int)} (h : SegsAt w B A vs ls) : ∀ x ∈ ls, ∀ y ∈ x, 0 ≤ y ∧ y ≤ 18446744073709551615 := fun x hx => by
  obtain ⟨i, hi, rfl⟩ := List.mem_iff_getElem.1 hx
  obtain ⟨_, _, _, _, _, _, h1, _⟩ := h.2.2 i (by rw [h.2.1]; exact hi) hi
  exact h1

theorem UnfPost.yesq {bs : List Int} {w w' : World} {e : Ending} (h : UnfPost bs w e w') (hz : unfErr bs = 0) {q : Nat} {ls : List (List Int)} (hq : nSegs bs = q) (hl : segsOf bs q q = ls) :
    Below w.heap.size w w' ∧ ∃ A vs c, e = .returned (.tuple #[.slice A q c, .int .i64 0]) ∧ SegsAt w' w'.heap.size A vs ls := by
  subst hq hl
  exact h.yes hz

end Go.Proofs.Ytalboekhdjcllaa
