/-
  List, Word, Kid of package tree; an atom.
-/
import Derived.Test.YtmlmmajdeclpoaaPthT
import Derived.Handy
import Derived.BigQuiet
import Derived.Laws.ResultCell
import Derived.Laws.NewBlocks
namespace Go.Proofs.Ytmlmmajdeclpoaa
open Go.RowKit

theorem two_below (w : World) (a b : Obj) : Below w.heap.size w ((w.alloc a).alloc b) := ((Below.refl _ _).alloc (Nat.le_refl _) _).alloc (by simp) _
def isList (k : Int) : Bool := decide (2 ≤ k) && decide (k ≤ 9)
theorem list_any (k : Int) (w : World) :
    Calls Try.prog 18 #[.int .i64 k] w fun e w' => e = .returned (.bool (isList k)) ∧ w = w' := by
  unfold isList
  by_cases h1 : 2 ≤ k
  · have e1 : decide (2 ≤ k) = true := by simpa using h1
    go_enter Try.func18, Try.ntmps18
    go_wp2_with fail
    go_ret
    exact ⟨by simp [h1], rfl⟩
  · have e1 : decide (2 ≤ k) = false := by simpa using h1
    go_enter Try.func18, Try.ntmps18
    go_wp2_with fail
    go_ret
    exact ⟨by simp [h1], rfl⟩
def kidT (t : T) (i : Int) : T := if 0 ≤ i then (t.ks[i.toNat]?).getD nilT else nilT
set_option maxHeartbeats 1000000 in
theorem kid_any (t : T) (v : Tv) (i : Int) (S : Nat → Prop) (w : World) (h : TreeAt w S t v) (hS : ∀ b, S b → b < w.heap.size) :
    Calls Try.prog 17 #[v.val, .int .i64 i] w fun e w' => ∃ v', e = .returned v'.val ∧ TreeAt w' S (kidT t i) v' ∧ Below w.heap.size w w' := by
  obtain ⟨k, ws, ks⟩ := t
  obtain ⟨kv, hk⟩ := h.kids
  obtain ⟨k', A, n, c, K, m, d⟩ := v
  simp only at hk
  have hm := hk.len
  have hmd := hk.cap
  have hdm := hk.capM
  unfold maxLen at hdm
  show Calls _ _ #[.agg #[.int .i64 k', .slice A n c, .slice K m d], _] _ _
  by_cases h0 : i < 0
  · have hkt : Hid (kidT (.node k ws ks) i = nilT) := by show _ = _; unfold kidT; rw [if_neg (by omega)]
    have e0 : decide (i < 0) = true := by simpa using h0
    go_enter Try.func17, Try.ntmps17
    go_wp2_with fail
    go_returns
    rw [hkt.out]
    exact ⟨⟨0, none, 0, 0, none, 0, 0⟩, rfl, TreeAt.nil, two_below _ _ _⟩
  · have e0 : decide (i < 0) = false := by simpa using h0
    obtain ⟨j, rfl⟩ := Int.eq_ofNat_of_zero_le (show 0 ≤ i by omega)
    by_cases hj : j < m
    · have hjl : j < ks.length := by omega
      obtain ⟨b, o, v', rfl, hb, c0, c1, c2, ht⟩ := hk.at hjl
      have hkt : Hid (kidT (.node k ws ks) j = ks[j]) := by show _ = _; unfold kidT; rw [if_pos (by omega)]; simp [T.ks, hjl]
      have hbw : b < w.heap.size := hS b hb
      clear hk h
      go_enter Try.func17, Try.ntmps17
      go_wp2_with fail
      go_returns
      rw [hkt.out]
      exact ⟨v', rfl, ht.bel (two_below _ _ _) hS, two_below _ _ _⟩
    · have hkt : Hid (kidT (.node k ws ks) j = nilT) := by
        show _ = _
        unfold kidT
        rw [if_pos (by omega), List.getElem?_eq_none (by simp [T.ks]; omega)]
        rfl
      have e1 : (m : Int) ≤ (j : Int) := by omega
      clear hk h
      go_enter Try.func17, Try.ntmps17
      go_wp2_with fail
      go_returns
      rw [hkt.out]
      exact ⟨⟨0, none, 0, 0, none, 0, 0⟩, rfl, TreeAt.nil, two_below _ _ _⟩
def wordT (t : T) (i : Int) : Int := if 0 ≤ i then t.ws.getD i.toNat 0 else 0
theorem wordT_bd {w : World} {S : Nat → Prop} {t : T} {v : Tv} (h : TreeAt w S t v) (i : Int) : 0 ≤ wordT t i ∧ wordT t i ≤ 18446744073709551615 := by
  obtain ⟨k, ws, ks⟩ := t
  unfold wordT
  split
  · show 0 ≤ ws.getD i.toNat 0 ∧ ws.getD i.toNat 0 ≤ _
    rw [List.getD_eq_getElem?_getD]
    cases e : ws[i.toNat]? with
    | none => decide
    | some x => exact h.words.u64 x (List.mem_of_getElem? e)
  · decide
set_option maxHeartbeats 1000000 in
theorem word_any (t : T) (v : Tv) (i : Int) (S : Nat → Prop) (w : World) (h : TreeAt w S t v) (hS : ∀ b, S b → b < w.heap.size) :
    Calls Try.prog 20 #[v.val, .int .i64 i] w fun e w' => e = .returned (.int .u64 (wordT t i)) ∧ Below w.heap.size w w' := by
  obtain ⟨k, ws, ks⟩ := t
  have hk := h.words
  obtain ⟨k', A, n, c, K, m, d⟩ := v
  simp only at hk
  have hm := hk.len
  have hmd := hk.cap
  have hdm := hk.capM
  unfold maxLen at hdm
  show Calls _ _ #[.agg #[.int .i64 k', .slice A n c, .slice K m d], _] _ _
  have hb1 : Below w.heap.size w (w.alloc (.cells #[.int .i64 k', .slice A n c, .slice K m d] 25)) := (Below.refl _ _).alloc (Nat.le_refl _) _
  by_cases h0 : i < 0
  · have hkt : Hid (wordT (.node k ws ks) i = 0) := by show _ = _; unfold wordT; rw [if_neg (by omega)]
    have e0 : decide (i < 0) = true := by simpa using h0
    clear hk h
    go_enter Try.func20, Try.ntmps20
    go_wp2_with fail
    go_ret
    rw [hkt.out]
    exact ⟨rfl, (Below.refl _ _).alloc (Nat.le_refl _) _⟩
  · have e0 : decide (i < 0) = false := by simpa using h0
    obtain ⟨j, rfl⟩ := Int.eq_ofNat_of_zero_le (show 0 ≤ i by omega)
    by_cases hj : j < n
    · have hjl : j < ws.length := by omega
      obtain ⟨b, o, rfl, hb, c0⟩ := hk.at hjl
      have hkt : Hid (wordT (.node k ws ks) j = ws[j]) := by show _ = _; unfold wordT; rw [if_pos (by omega)]; simp [T.ws, hjl]
      have hbw : b < w.heap.size := hS b hb
      clear hk h
      generalize ws[j] = x at *
      go_enter Try.func20, Try.ntmps20
      go_wp2_with fail
      go_ret
      rw [hkt.out]
      exact ⟨rfl, (Below.refl _ _).alloc (Nat.le_refl _) _⟩
    · have hkt : Hid (wordT (.node k ws ks) j = 0) := by
        show _ = _
        unfold wordT
        rw [if_pos (by omega), List.getD_eq_getElem?_getD, List.getElem?_eq_none (by simp [T.ws]; omega)]
        rfl
      have e1 : (n : Int) ≤ (j : Int) := by omega
      clear hk h
      go_enter Try.func20, Try.ntmps20
      go_wp2_with fail
      go_ret
      rw [hkt.out]
      exact ⟨rfl, (Below.refl _ _).alloc (Nat.le_refl _) _⟩
theorem words_one {w : World} {x : Int} (h0 : 0 ≤ x ∧ x ≤ 18446744073709551615) : WordsAt (w.alloc (.cells #[.int .u64 x] 38)) (fun b => b = w.heap.size) (some ⟨w.heap.size, 0, none⟩) 1 1 [x] :=
  ⟨rfl, Nat.le_refl _, by decide, by simp, fun h => (by cases h), fun j u hu => ⟨w.heap.size, 0, rfl, rfl, by rw [Nat.zero_add, (Blk.new w _ _).cell]; simpa using hu⟩, fun y hy => by rw [List.mem_singleton.1 hy]; exact h0⟩
theorem words_at1 (w : World) (g : Nat) (S : Nat → Prop) {x : Int} (h0 : 0 ≤ x ∧ x ≤ 18446744073709551615) (hg : g = w.heap.size) (hS : S g) : WordsAt (w.alloc (.cells #[.int .u64 x] 38)) S (some ⟨g, 0, none⟩) 1 1 [x] := by
  subst hg
  exact words_one h0 |>.mono fun b e => by rw [e]; exact hS
set_option maxHeartbeats 1000000 in
theorem atom_any (n : Int) (h0 : 0 ≤ n ∧ n ≤ 18446744073709551615) (w : World) :
    Calls Try.prog 16 #[.int .u64 n] w fun e w' => ∃ v', e = .returned v'.val ∧ TreeAt w' (fun b => w.heap.size ≤ b ∧ b < w'.heap.size) (.node 10 [n] []) v' ∧ Below w.heap.size w w' := by
  go_enter Try.func16, Try.ntmps16
  go_wp2_with fail
  go_returns
  exact ⟨⟨10, some ⟨w.heap.size + 1, 0, none⟩, 1, 1, none, 0, 0⟩, rfl, TreeAt.of (words_at1 _ _ _ h0 (by simp) (by simp)) KidsAt.none_, two_below _ _ _⟩
end Go.Proofs.Ytmlmmajdeclpoaa
