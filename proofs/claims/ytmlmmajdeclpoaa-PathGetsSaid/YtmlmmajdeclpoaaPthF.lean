/-
  Few of the document's trees.
-/
import Derived.Test.YtmlmmajdeclpoaaPthN
namespace Go.Proofs.Ytmlmmajdeclpoaa
open Go.RowKit

def ShPost (w : World) (e : Ending) (w' : World) : Prop := ∃ r : Int, e = .returned (.int .i64 r) ∧ -20000000000000 ≤ r ∧ r ≤ 3000 ∧ Below w.heap.size w w'
set_option maxRecDepth 100000 in
set_option maxHeartbeats 8000000 in
theorem shallow_any (N : Nat) : ∀ (t : T) (v : Tv) (S : Nat → Prop) (deep left : Int) (w : World), SizeOf.sizeOf t ≤ N → TreeAt w S t v → (∀ b, S b → b < w.heap.size) → 0 ≤ deep → deep ≤ 80 → 0 ≤ left → left ≤ 3000 →
    Calls Try.prog 14 #[v.val, .int .i64 deep, .int .i64 left] w (ShPost w) := by
  induction N with
  | zero =>
    intro t v S deep left w hN
    obtain ⟨k, ws, ks⟩ := t
    rw [T.node.sizeOf_spec] at hN
    omega
  | succ N ih =>
    intro t v S deep left w hN h hS hd0 hd1 hl0 hl1
    obtain ⟨k, ws, ks⟩ := t
    have hW := h.words
    obtain ⟨kv, hK⟩ := h.kids
    have hkk : k = v.k := h.kind
    obtain ⟨k', A, n, c, K, m, d⟩ := v
    simp only at hW hK hkk
    subst hkk
    have HIH : Hid (∀ i (hi : i < ks.length), SizeOf.sizeOf ks[i] ≤ N) := fun i hi => by have := T.size_kid (k := k) (ws := ws) hi; omega
    have HM : Hid (m = ks.length) := hK.len
    have hmb : m ≤ 2513169434843 := by rw [hK.len]; exact hK.few
    have hnb : n ≤ 17592186043904 := by rw [hW.len]; exact hW.few
    have HK := hide hK
    have HS := hide hS
    clear h hN hW hK hS
    show Calls _ _ #[.agg #[.int .i64 k, .slice A n c, .slice K m d], _, _] _ _
    have hB1 := Blk.new w 25 #[.int .i64 k, .slice A n c, .slice K m d]
    have hb1 : Below w.heap.size w (w.alloc (.cells #[.int .i64 k, .slice A n c, .slice K m d] 25)) := (Below.refl _ _).alloc (Nat.le_refl _) _
    by_cases hd : deep = 0
    · have fd : (deep == 0) = true := by simpa using hd
      replace hd := hide hd
      go_enter Try.func14, Try.ntmps14
      go_wp2_with fail
      go_ret
      exact ⟨-1, rfl, by decide, by decide, hb1⟩
    · have fd : (deep == 0) = false := by simpa using hd
      by_cases hlt : left - 1 - (n : Int) < 0
      · have fl : decide (left - 1 - (n : Int) < 0) = true := by simpa using hlt
        go_enter Try.func14, Try.ntmps14
        go_wp2_with fail
        go_ret
        exact ⟨-1, rfl, by decide, by decide, hb1⟩
      · have fl : decide (left - 1 - (n : Int) < 0) = false := by simpa using hlt
        go_enter Try.func14, Try.ntmps14
        go_wp2_with fail
        go_loopw [2, 7] (fun s2 s7 wr => ∃ (r : Int) (i : Nat), s2 = .int .i64 r ∧ -20000000000000 ≤ r ∧ r ≤ 3000 ∧ s7 = .int .i64 i ∧ i ≤ m ∧ Blk wr w.heap.size 25 #[.int .i64 k, .slice A n c, .slice K m d] ∧ Below w.heap.size w wr) (fun _ s7 _ => m - (intOf s7).toNat)
        case atStart => exact ⟨left - 1 - n, 0, rfl, by omega, by omega, rfl, by omega, hB1, hb1⟩
        case round =>
          obtain ⟨r, i, rfl, hr0, hr1, rfl, hi, hB1r, hbr⟩ := hrel
          clear hB1 hb1 hlt fl
          have c2 := hB1r.cell 2
          simp at c2
          by_cases him : i < m
          · have hl1 : i < ks.length := by rw [← HM.out]; exact him
            have fi : decide ((i : Int) < (m : Int)) = true := by simp; omega
            by_cases hr : 0 ≤ r
            · have fr : decide (0 ≤ r) = true := by simpa using hr
              obtain ⟨bK, oK, v, rfl, hbK, x0, x1, x2, hkt⟩ := HK.out.at hl1
              obtain ⟨k3, A3, n3, c3, K3, m3, d3⟩ := v
              simp only at x0 x1 x2
              have hbK' := HS.out bK hbK
              have y0 := (hbr.cell (p := ⟨bK, oK + i * 3, none⟩) hbK').trans x0
              have y1 := (hbr.cell (p := ⟨bK, oK + i * 3 + 1, none⟩) hbK').trans x1
              have y2 := (hbr.cell (p := ⟨bK, oK + i * 3 + 2, none⟩) hbK').trans x2
              (try simp only at y0 y1 y2)
              clear x0 x1 x2
              have HIHC : Hid (Calls Try.prog 14 #[.agg #[.int .i64 k3, .slice A3 n3 c3, .slice K3 m3 d3], .int .i64 (deep - 1), .int .i64 r] wr (ShPost wr)) :=
                ih _ ⟨k3, A3, n3, c3, K3, m3, d3⟩ S (deep - 1) r wr (HIH.out i hl1) (hkt.keep (fun p hp => hbr.cell (HS.out _ hp))) (fun b hb => Nat.lt_of_lt_of_le (HS.out b hb) hbr.size) (by omega) (by omega) hr (by omega)
              clear hkt
              go_wp2_with fail
              refine HIHC.out.mono ?_
              rintro e w3 ⟨r3, rfl, h0, h1, hb3⟩
              have hB1t := hB1r.below hb3 hB1r.lt
              have hbt := hbr.trans (hb3.mono hbr.size)
              clear y0 y1 y2 c2
              go_wp2_with fail
              go_roundw
              case rel => exact ⟨r3, i + 1, rfl, h0, h1, by go_num, by omega, hB1t, hbt⟩
              case measure => simp [intOf]; omega
            · have fr : decide (0 ≤ r) = false := by simpa using hr
              go_wp2_with fail
              go_ret
              exact ⟨r, rfl, hr0, hr1, hbr⟩
          · have fi : decide ((i : Int) < (m : Int)) = false := by simp; omega
            go_wp2_with fail
            go_ret
            exact ⟨r, rfl, hr0, hr1, hbr⟩

def BoolPost (w : World) (e : Ending) (w' : World) : Prop := ∃ b, e = .returned (.bool b) ∧ Below w.heap.size w w'
theorem few_any (t : T) (v : Tv) (S : Nat → Prop) (w : World) (h : TreeAt w S t v) (hS : ∀ b, S b → b < w.heap.size) :
    Calls Try.prog 5 #[v.val] w (BoolPost w) := by
  obtain ⟨k, A, n, c, K, m, d⟩ := v
  have hb1 : Below w.heap.size w (w.alloc (.cells #[.int .i64 k, .slice A n c, .slice K m d] 25)) := (Below.refl _ _).alloc (Nat.le_refl _) _
  have HC : Hid (Calls Try.prog 14 #[.agg #[.int .i64 k, .slice A n c, .slice K m d], .int .i64 80, .int .i64 3000] (w.alloc (.cells #[.int .i64 k, .slice A n c, .slice K m d] 25)) (ShPost (w.alloc (.cells #[.int .i64 k, .slice A n c, .slice K m d] 25)))) :=
    shallow_any _ t ⟨k, A, n, c, K, m, d⟩ S 80 3000 _ (Nat.le_refl _) (h.bel hb1 hS) (fun b hb => Nat.lt_of_lt_of_le (hS b hb) hb1.size) (by decide) (by decide) (by decide) (by decide)
  clear h hS
  show Calls _ _ #[.agg #[.int .i64 k, .slice A n c, .slice K m d]] _ _
  go_enter Try.func5, Try.ntmps5
  go_wp2_with fail
  refine HC.out.mono ?_
  rintro e w3 ⟨r3, rfl, h0, h1, hb3⟩
  go_wp2_with fail
  go_ret
  exact ⟨_, rfl, hb1.trans (hb3.mono hb1.size)⟩
end Go.Proofs.Ytmlmmajdeclpoaa
