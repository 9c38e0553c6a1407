/-
  Same of the document's trees.
-/
import Derived.Test.YtmlmmajdeclpoaaPthN
import Derived.Test.YtmlmmajdeclpoaaPthC
import Derived.Deep.RegionHeld3
namespace Go.Proofs.Ytmlmmajdeclpoaa
open Go.RowKit

set_option maxHeartbeats 400000 in
theorem same_any (A B : Option Addr) (c d b0 n m : Nat) (xs ys : List Int) (w : World) (hn : n = xs.length) (hm : m = ys.length)
   (hx : Reads w b0 A (xs.map (Value.int .u64))) (hy : Reads w b0 B (ys.map (Value.int .u64)))
   (lx : n ≤ maxLen) (ly : m ≤ maxLen) :
    Calls Try.prog 22 #[.slice A n c, .slice B m d] w fun e w' => e = .returned (.bool (xs == ys)) ∧ ∃ k, w' = w.drewN k := by
  subst hn hm
  unfold maxLen at lx ly
  by_cases hl : xs.length = ys.length
  · have hl' : ((xs.length : Int) != (ys.length : Int)) = false := by rw [hl]; simp
    have HL := Lib.hid hl
    clear hl
    go_enter Try.func22, Try.ntmps22
    go_wp2
    go_loopw [5] (fun i wr => ∃ k : Nat, k ≤ xs.length ∧ i = .int .i64 k ∧ Hid (xs.take k = ys.take k) ∧ ∃ m, wr = w.drewN m) (fun i _ => xs.length - (intOf i).toNat)
    case atStart => exact ⟨0, by omega, rfl, by exact rfl, 0, rfl⟩
    case round =>
      obtain ⟨k, hk, rfl, he, m, rfl⟩ := hrel
      by_cases hlt : k < xs.length
      · have hlt2 : k < ys.length := by rw [← HL.out]; exact hlt
        obtain ⟨bx, ox, rfl, _, cx⟩ := hx.intAt hlt
        obtain ⟨bY, oy, rfl, _, cy⟩ := hy.intAt hlt2
        go_wp2
        go_quiet (fail)
        go_wp2
        · have ht : (xs[k] != ys[k]) = true := by assumption
          go_ret
          refine ⟨ret_bool ?_, m + nq, by first | rfl | rw [World.drewN_drewN]⟩
          have hne : xs ≠ ys := fun e => by subst e; simp at ht
          simp [hne]
        · go_roundw
          case rel =>
            have ht : (xs[k] != ys[k]) = false := by assumption
            have he2 : xs[k] = ys[k] := by simpa using ht
            refine ⟨k + 1, by omega, by go_num, ?_, _, rfl⟩
            have h1 := he.out
            show xs.take (k + 1) = ys.take (k + 1)
            rw [List.take_succ_eq_append_getElem hlt, List.take_succ_eq_append_getElem hlt2, h1, he2]
          case measure => simp [intOf]; omega
      · go_wp2
        go_ret
        refine ⟨ret_bool ?_, _, rfl⟩
        have h1 := he.out
        rw [List.take_of_length_le (by omega), List.take_of_length_le (by have := HL.out; omega)] at h1
        simp [h1]
  · have hl' : ((xs.length : Int) != (ys.length : Int)) = true := by rw [bne_iff_ne]; omega
    go_enter Try.func22, Try.ntmps22
    go_wp2
    go_ret
    exact ⟨ret_bool (by simp; intro h; exact absurd (by rw [h]) hl), 0, rfl⟩


set_option maxRecDepth 100000 in
set_option maxHeartbeats 8000000 in
theorem sameT_any (N : Nat) : ∀ (t : T) (v u : Tv) (S : Nat → Prop) (w : World), SizeOf.sizeOf t ≤ N → TreeAt w S t v → TreeAt w S t u → (∀ b, S b → b < w.heap.size) →
    Calls Try.prog 10 #[v.val, u.val] w fun e w' => e = .returned (.bool true) ∧ Below w.heap.size w w' := by
  induction N with
  | zero =>
    intro t v u S w hN
    obtain ⟨k, ws, ks⟩ := t
    rw [T.node.sizeOf_spec] at hN
    omega
  | succ N ih =>
    intro t v u S w hN h h' hS
    obtain ⟨k, ws, ks⟩ := t
    have hW := h.words
    have hW' := h'.words
    obtain ⟨kv, hK⟩ := h.kids
    obtain ⟨ku, hK'⟩ := h'.kids
    have hkk : k = v.k := h.kind
    have hkk' : k = u.k := h'.kind
    obtain ⟨k1, A, n, c, K, m, d⟩ := v
    obtain ⟨k2, A', n', c', K', m', d'⟩ := u
    simp only at hW hK hkk hW' hK' hkk'
    subst hkk
    subst hkk'
    have HIH : Hid (∀ i (hi : i < ks.length), SizeOf.sizeOf ks[i] ≤ N) := fun i hi => by have := T.size_kid (k := k) (ws := ws) hi; omega
    have HM := hide hK.len
    have hmm : m' = m := by rw [hK.len, hK'.len]
    have hnn : n' = n := by rw [hW.len, hW'.len]
    subst hmm hnn
    have HL := hide hW.len
    have HR := hide (hW.read.reads hS)
    have HR' := hide (hW'.read.reads hS)
    have hnm : n' ≤ maxLen := Nat.le_trans hW.cap hW.capM
    have hmm2 : m' ≤ 2513169434843 := by rw [hK.len]; exact hK.few
    unfold maxLen at hnm
    have HK := hide hK
    have HK' := hide hK'
    have HS := hide hS
    clear h h' hN hW hW' hK hK' hS
    show Calls _ _ #[.agg #[.int .i64 k, .slice A n' c, .slice K m' d], .agg #[.int .i64 k, .slice A' n' c', .slice K' m' d']] _ _
    have hB1 := (Blk.new w 25 #[.int .i64 k, .slice A n' c, .slice K m' d]).alloc (.cells #[.int .i64 k, .slice A' n' c', .slice K' m' d'] 25)
    have hB2 := Blk.new (w.alloc (.cells #[.int .i64 k, .slice A n' c, .slice K m' d] 25)) 25 #[.int .i64 k, .slice A' n' c', .slice K' m' d']
    have hbe2 := two_below w (.cells #[.int .i64 k, .slice A n' c, .slice K m' d] 25) (.cells #[.int .i64 k, .slice A' n' c', .slice K' m' d'] 25)
    rw [World.size_alloc] at hB2
    go_enter Try.func10, Try.ntmps10
    go_wp2_with fail
    refine (same_any A A' c c' w.heap.size n' n' ws ws _ HL.out HL.out (HR.out.below hbe2 (Nat.le_refl _)) (HR'.out.below hbe2 (Nat.le_refl _)) hnm hnm).mono ?_
    rintro e w2 ⟨rfl, j2, rfl⟩
    rw [show (ws == ws) = true from by simp]
    have hB1d := hB1.drewN j2
    have hB2d := hB2.drewN j2
    have hbe2d := below_drewN hbe2 j2
    go_wp2_with fail
    go_loopw [5] (fun ix wr => ∃ i : Nat, i ≤ m' ∧ ix = .int .i64 i ∧ Blk wr w.heap.size 25 #[.int .i64 k, .slice A n' c, .slice K m' d] ∧ Blk wr (w.heap.size + 1) 25 #[.int .i64 k, .slice A' n' c', .slice K' m' d'] ∧ Below w.heap.size w wr) (fun ix _ => m' - (intOf ix).toNat)
    case atStart => exact ⟨0, by omega, rfl, hB1d, hB2d, hbe2d⟩
    case round =>
      obtain ⟨i, hi, rfl, hB1r, hB2r, hbr⟩ := hrel
      clear hB1 hB2 hbe2 hB1d hB2d hbe2d
      have s1 := hB1r.cell 2
      have s2 := hB2r.cell 2
      simp at s1 s2
      by_cases hlt : i < m'
      · have hl1 : i < ks.length := by rw [← HM.out]; exact hlt
        obtain ⟨bK, oK, v, rfl, hbK, x0, x1, x2, hkt⟩ := HK.out.at hl1
        obtain ⟨bU, oU, u, rfl, hbU, y0, y1, y2, hku⟩ := HK'.out.at hl1
        obtain ⟨k3, A3, n3, c3, K3, m3, d3⟩ := v
        obtain ⟨k4, A4, n4, c4, K4, m4, d4⟩ := u
        simp only at x0 x1 x2 y0 y1 y2
        have HCALL : Hid (∀ W, Below w.heap.size w W → Calls Try.prog 10 #[.agg #[.int .i64 k3, .slice A3 n3 c3, .slice K3 m3 d3], .agg #[.int .i64 k4, .slice A4 n4 c4, .slice K4 m4 d4]] W fun e w' => e = .returned (.bool true) ∧ Below W.heap.size W w') := fun W hW =>
          ih _ ⟨k3, A3, n3, c3, K3, m3, d3⟩ ⟨k4, A4, n4, c4, K4, m4, d4⟩ S W (HIH.out i hl1) (hkt.keep (fun p hp => hW.cell (HS.out _ hp))) (hku.keep (fun p hp => hW.cell (HS.out _ hp))) (fun b hb => Nat.lt_of_lt_of_le (HS.out b hb) hW.size)
        have hbK' := HS.out bK hbK
        have hbU' := HS.out bU hbU
        have hB1W := hB1r.drew
        have hB2W := hB2r.drew
        have hbW := hbr.drew
        have g1 := hB1W.lt
        have g2 := hB2W.lt
        have a0 := (hbW.cell (p := ⟨bK, oK + i * 3, none⟩) hbK').trans x0
        have a1 := (hbW.cell (p := ⟨bK, oK + i * 3 + 1, none⟩) hbK').trans x1
        have a2 := (hbW.cell (p := ⟨bK, oK + i * 3 + 2, none⟩) hbK').trans x2
        have b0 := (hbW.cell (p := ⟨bU, oU + i * 3, none⟩) hbU').trans y0
        have b1 := (hbW.cell (p := ⟨bU, oU + i * 3 + 1, none⟩) hbU').trans y1
        have b2 := (hbW.cell (p := ⟨bU, oU + i * 3 + 2, none⟩) hbU').trans y2
        have e1 := hB1W.cell 2
        have e2 := hB2W.cell 2
        simp at e1 e2
        (try simp only at a0 a1 a2 b0 b1 b2)
        clear x0 x1 x2 y0 y1 y2
        go_wp2_with fail
        go_region_held3 (fun w' => w'.cell? ⟨w.heap.size, 2, none⟩ = some (.slice (some ⟨bK, oK, none⟩) m' d) ∧ w'.cell? ⟨w.heap.size + 1, 2, none⟩ = some (.slice (some ⟨bU, oU, none⟩) m' d') ∧ w'.cell? ⟨bK, oK + i * 3, none⟩ = some (.int .i64 k3) ∧ w'.cell? ⟨bK, oK + i * 3 + 1, none⟩ = some (.slice A3 n3 c3) ∧ w'.cell? ⟨bK, oK + i * 3 + 2, none⟩ = some (.slice K3 m3 d3) ∧ w'.cell? ⟨bU, oU + i * 3, none⟩ = some (.int .i64 k4) ∧ w'.cell? ⟨bU, oU + i * 3 + 1, none⟩ = some (.slice A4 n4 c4) ∧ w'.cell? ⟨bU, oU + i * 3 + 2, none⟩ = some (.slice K4 m4 d4))
          (first | exact ⟨e1, e2, a0, a1, a2, b0, b1, b2⟩ | exact ⟨(hb8.cell g1).trans e1, (hb8.cell g2).trans e2, (hb8.cell (Nat.lt_of_lt_of_le hbK' hbW.size)).trans a0, (hb8.cell (Nat.lt_of_lt_of_le hbK' hbW.size)).trans a1, (hb8.cell (Nat.lt_of_lt_of_le hbK' hbW.size)).trans a2, (hb8.cell (Nat.lt_of_lt_of_le hbU' hbW.size)).trans b0, (hb8.cell (Nat.lt_of_lt_of_le hbU' hbW.size)).trans b1, (hb8.cell (Nat.lt_of_lt_of_le hbU' hbW.size)).trans b2⟩)
          ((go_at_call 10; (refine (HCALL.out _ hbW).mono ?_; rintro e w8 ⟨rfl, hb8⟩)))
        clear e1 e2 a0 a1 a2 b0 b1 b2
        go_wp2_with fail
        go_roundw
        case rel => exact ⟨i + 1, by omega, by go_num, hB1W.below hb8 g1, hB2W.below hb8 g2, hbW.trans (hb8.mono hbW.size)⟩
        case measure => simp [intOf]; omega
      · go_wp2_with fail
        go_ret
        exact ⟨rfl, hbr⟩
end Go.Proofs.Ytmlmmajdeclpoaa
