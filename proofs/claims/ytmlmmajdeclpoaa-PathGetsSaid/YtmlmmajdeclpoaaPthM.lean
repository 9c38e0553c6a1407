/-
  Trim and Norm of the document's trees.
-/
import Derived.Test.YtmlmmajdeclpoaaPthN
import Derived.Deep.RegionHeld3
namespace Go.Proofs.Ytmlmmajdeclpoaa
open Go.RowKit

set_option maxRecDepth 100000 in
set_option maxHeartbeats 8000000 in
theorem trim_any (A : Option Addr) (n c : Nat) (S : Nat → Prop) (ws : List Int) (w : World) (h : WordsAt w S A n c ws) (hS : ∀ b, S b → b < w.heap.size) :
    Calls Try.prog 27 #[.slice A n c] w (CloneS (trimW ws) w) := by
  have HN := hide h.len
  have hf : n ≤ 17592186043904 := by rw [h.len]; exact h.few
  have hnc := h.cap
  have hcm : c ≤ 9223372036854775807 := by have := h.capM; unfold maxLen at this; exact this
  have HX := hide (h.read.reads hS)
  have HU := hide h.u64
  have HA := hide h
  have HSS := hide hS
  obtain ⟨i0, hi, hz0, hz1, hz2⟩ := info_parts infoWord
  clear h hS
  go_enter Try.func27, Try.ntmps27
  go_wp2_with fail
  go_loopw [3] (fun s3 wr => ∃ q : Nat, q ≤ n ∧ s3 = .int .i64 q ∧ Hid (trimW (ws.take q) = trimW ws) ∧ w = wr) (fun s3 _ => (intOf s3).toNat)
  case atStart => exact ⟨n, Nat.le_refl _, rfl, by show _ = _; rw [List.take_of_length_le (by rw [← HN.out]; exact Nat.le_refl _)], rfl⟩
  case round =>
    obtain ⟨q, hq, rfl, HT, rfl⟩ := hrel
    have HFIN : Hid (ws.take q = trimW ws → ∀ (v : Value) (w' : World), w'.ownsRow w.heap.size 38 1 v q ((ws.take q).map (Value.int .u64)) → w.grownBy w' none → CloneS (trimW ws) w (.returned v) w') := by
      intro e v w' ho hg
      obtain ⟨A', c', rfl, hle, hA'⟩ := ownsRow_slice ho
      refine ⟨(Below.refl _ _).grown hg (Nat.le_refl _) (fun k hk => by cases hk), A', q, c', rfl, ?_⟩
      rw [← e]
      exact ⟨by rw [List.length_take, ← HN.out]; omega, hle, ownsRow_cap ho, by rw [List.length_take, ← HN.out]; omega, hA', RdS.of_own ho, fun x hx => HU.out x (List.mem_of_mem_take hx)⟩
    rcases q with _ | q
    · have hze : (0 : Nat) ≤ maxLen := Nat.zero_le _
      go_wp2_with (at_builtin; refine wpList_append_any _ rfl (.tmp 19) (.tmp 22) _ rfl w.heap.size 38 i0 _ 1 8 Try.underlying22 hi hz0 hz1 hz2 rfl (by decide) _ 0 [] rfl (World.ownsRow_nil _ _ _ _) A 0 c [] rfl rfl (fun j u hu => by simp at hu) (fun u hu => by simp at hu) hze (by decide) (Nat.le_refl _) ?_; intro v1 w1 hown1 hg1 hat1)
      go_ret
      exact HFIN.out (by rw [← HT.out]; rfl) _ _ (by simpa using hown1) hg1
    · have hq1 : q < ws.length := by rw [← HN.out]; omega
      obtain ⟨bA, oA, rfl, hbA, x0⟩ := HA.out.at hq1
      have HSN : Hid (trimW (ws.take (q + 1)) = if ws[q] = 0 then trimW (ws.take q) else ws.take (q + 1)) := by
        show _ = _
        rw [List.take_succ_eq_append_getElem hq1, trimW_snoc]
      by_cases hx : ws[q] = 0
      · rw [if_pos hx] at HSN
        rw [hx] at x0
        clear hx
        go_wp2_with fail
        go_roundw
        case rel => exact ⟨q, by omega, by go_num, by show _ = _; rw [← HSN.out, HT.out], by first | rfl | trivial⟩
        case measure => simp [intOf]
      · have ex : (ws[q] == 0) = false := by simpa using hx
        rw [if_neg hx] at HSN
        generalize ws[q] = x at *
        have hsrc : ∀ j u, ((ws.take (q + 1)).map (Value.int .u64))[j]? = some u → ∃ ad, some (⟨bA, oA, none⟩ : Addr) = some ad ∧ w.cell? (ad.add j) = some u := fun j u hu => by
          rw [List.map_take] at hu
          obtain ⟨b, o, e, _, hc⟩ := (HX.out.take (q + 1)) j u hu
          exact ⟨_, e, by rw [add_lit]; exact hc⟩
        have HSRC := hide hsrc
        clear hsrc
        have HLN : Hid (((ws.take (q + 1)).map (Value.int .u64)).length = (q + 1) * 1) := by show _ = _; rw [List.length_map, List.length_take, ← HN.out]; omega
        go_wp2_with (at_builtin; refine wpList_append_any _ rfl (.tmp 19) (.tmp 22) _ rfl w.heap.size 38 i0 _ 1 8 Try.underlying22 hi hz0 hz1 hz2 rfl (by decide) _ 0 [] rfl (World.ownsRow_nil _ _ _ _) (some ⟨bA, oA, none⟩) (q + 1) c ((ws.take (q + 1)).map (Value.int .u64)) rfl HLN.out HSRC.out (oneCells _ _) (by unfold maxLen; omega) (by omega) (Nat.le_refl _) ?_; intro v1 w1 hown1 hg1 hat1)
        go_ret
        exact HFIN.out (by rw [← HT.out, HSN.out]) _ _ (by simpa using hown1) hg1

theorem res3' {W : World} {g : Nat} {t : TypeId} {x y z : Value} (h : Blk W g t #[x, y, z]) (a b c : Value) :
    (W.setCell ⟨g, 0, none⟩ a).cell? ⟨g, 0, none⟩ = some a ∧ ((W.setCell ⟨g, 0, none⟩ a).setCell ⟨g, 1, none⟩ b).cell? ⟨g, 1, none⟩ = some b ∧ (((W.setCell ⟨g, 0, none⟩ a).setCell ⟨g, 1, none⟩ b).setCell ⟨g, 2, none⟩ c).cell? ⟨g, 2, none⟩ = some c :=
  ⟨by rw [(h.set_ 0 _).cell]; rfl, by rw [((h.set_ 0 _).set_ 1 _).cell]; rfl, by rw [(((h.set_ 0 _).set_ 1 _).set_ 2 _).cell]; rfl⟩
set_option maxRecDepth 100000 in
set_option maxHeartbeats 16000000 in
theorem refNorm_any (N : Nat) : ∀ (t : T) (v : Tv) (S : Nat → Prop) (w : World), SizeOf.sizeOf t ≤ N → TreeAt w S t v → (∀ b, S b → b < w.heap.size) →
    Calls Try.prog 21 #[v.val] w fun e w' => ∃ v', e = .returned v'.val ∧ TreeAt w' (fun b => w.heap.size ≤ b ∧ b < w'.heap.size) (norm t) v' ∧ Below w.heap.size w w' := by
  induction N with
  | zero =>
    intro t v S w hN
    obtain ⟨k, ws, ks⟩ := t
    rw [T.node.sizeOf_spec] at hN
    omega
  | succ N ih =>
    intro t v S w hN h hS
    obtain ⟨k, ws, ks⟩ := t
    have hW := h.words
    obtain ⟨kv, hK⟩ := h.kids
    have hkk : k = v.k := h.kind
    obtain ⟨k', A, n, c, K, m, d⟩ := v
    simp only at hW hK hkk
    subst hkk
    have HIH : Hid (∀ i (hi : i < ks.length), SizeOf.sizeOf ks[i] ≤ N) := fun i hi => by have := T.size_kid (k := k) (ws := ws) hi; omega
    have HM : Hid (m = ks.length) := hK.len
    have HW := hide hW
    have HK := hide hK
    have HS := hide hS
    have hfew : m ≤ 2513169434843 := by rw [hK.len]; exact hK.few
    have hnw : n ≤ 17592186043904 := by rw [hW.len]; exact hW.few
    clear h hN hW hK hS
    show Calls _ _ #[.agg #[.int .i64 k, .slice A n c, .slice K m d]] _ _
    by_cases h0 : k = 0
    · have e0 : (k == 0) = true := by simpa using h0
      have HN0 : Hid (norm (.node k ws ks) = nilT) := by show _ = _; unfold norm; rw [if_pos h0]
      clear h0
      go_enter Try.func21, Try.ntmps21
      go_wp2_with fail
      go_returns
      rw [HN0.out]
      exact ⟨⟨0, none, 0, 0, none, 0, 0⟩, rfl, TreeAt.nil, two_below _ _ _⟩
    · have e0 : (k == 0) = false := by simpa using h0
      obtain ⟨i0, hi, hz0, hz1, hz2⟩ := info_parts infoTree
      obtain ⟨j0, hj, hy0, hy1, hy2⟩ := info_parts infoWord
      have HNORM : Hid (norm (.node k ws ks) = .node k (if k = 1 then trimW ws else ws) (if k = 1 then trimK (normL ks) else normL ks)) := by
        show _ = _
        unfold norm
        rw [if_neg h0]
        by_cases h1 : k = 1
        · subst h1; rfl
        · rw [if_neg h1, if_neg h1, if_neg h1]
      have hB1 := (Blk.new w 25 #[.int .i64 k, .slice A n c, .slice K m d]).alloc (.cells #[.int .i64 0, .slice none 0 0, .slice none 0 0] 25)
      have hB2 := Blk.new (w.alloc (.cells #[.int .i64 k, .slice A n c, .slice K m d] 25)) 25 #[.int .i64 0, .slice none 0 0, .slice none 0 0]
      have hbe2 := two_below w (.cells #[.int .i64 k, .slice A n c, .slice K m d] 25) (.cells #[.int .i64 0, .slice none 0 0, .slice none 0 0] 25)
      have hsz2 : ((w.alloc (.cells #[.int .i64 k, .slice A n c, .slice K m d] 25)).alloc (.cells #[.int .i64 0, .slice none 0 0, .slice none 0 0] 25)).heap.size = w.heap.size + 2 := by simp
      rw [World.size_alloc] at hB2
      go_enter Try.func21, Try.ntmps21
      go_upto_region 1 with fail
      generalize ((w.alloc (.cells #[.int .i64 k, .slice A n c, .slice K m d] 25)).alloc (.cells #[.int .i64 0, .slice none 0 0, .slice none 0 0] 25)) = w2 at *
      have c0 := hB1.cell 0
      have c1 := hB1.cell 1
      have c2 := hB1.cell 2
      simp at c0 c1 c2
      have HSZ2 := hide hsz2
      clear hsz2
      go_wp2_with fail
      go_loopw [3, 4, 5] (fun s3 s4 s5 wr => ∃ (i lst c5 : Nat) (A5 : Option Addr) (kvs : List Tv), i ≤ m ∧ lst ≤ i ∧ s3 = .slice A5 i c5 ∧ s4 = .int .i64 lst ∧ s5 = .int .i64 i ∧ Hid (trimK ((normL ks).take i) = (normL ks).take lst) ∧ Hid (kvs.length = i) ∧ wr.ownsRow w2.heap.size 25 3 (.slice A5 i c5) i (kidCells kvs) ∧ Below w2.heap.size w2 wr ∧ Hid (∀ j (hj : j < ks.length) (hj' : j < kvs.length), TreeAt wr (fun b => w2.heap.size ≤ b ∧ b < wr.heap.size ∧ (Value.slice A5 i c5).ownBlock ≠ some b) (norm ks[j]) kvs[j])) (fun _ _ s5 _ => m - (intOf s5).toNat)
      case atStart =>
        exact ⟨0, 0, 0, none, [], by omega, by omega, rfl, rfl, rfl, rfl, rfl, World.ownsRow_nil _ _ _ _, Below.refl _ _, fun j hj hj' => by simp at hj'⟩
      case round =>
        obtain ⟨i, lst, c5, A5, kvs, hq, hlst, rfl, rfl, rfl, HTK, HKL, hown, hb2r, HT⟩ := hrel
        have hs2 := HSZ2.out
        have hbr : Below w.heap.size w wr := hbe2.trans (hb2r.mono (by omega))
        have hszr := hb2r.size
        have hB1r := hB1.below hb2r (by omega)
        have hB2r := hB2.below hb2r (by omega)
        have HS2 := hide hs2
        clear c0 c1 c2 hs2
        have c0 := hB1r.cell 0
        have c1 := hB1r.cell 1
        have c2 := hB1r.cell 2
        simp at c0 c1 c2
        by_cases hlt : i < m
        · have hl1 : i < ks.length := by rw [← HM.out]; exact hlt
          obtain ⟨bK, oK, v, eK, hbK, x0, x1, x2, hkt⟩ := HK.out.at (i := i) hl1
          obtain ⟨k1, A1, n1, c1', K1, m1, d1⟩ := v
          subst eK
          have hbK' := HS.out bK hbK
          have y0 := (hbr.cell (p := ⟨bK, oK + i * 3, none⟩) hbK').trans x0
          have y1 := (hbr.cell (p := ⟨bK, oK + i * 3 + 1, none⟩) hbK').trans x1
          have y2 := (hbr.cell (p := ⟨bK, oK + i * 3 + 2, none⟩) hbK').trans x2
          simp only at y0 y1 y2
          clear x0 x1 x2
          have HCALL : Hid (Calls Try.prog 21 #[.agg #[.int .i64 k1, .slice A1 n1 c1', .slice K1 m1 d1]] wr fun e w' => ∃ k2 A2 n2 c2 K2 m2 d2, e = .returned (.agg #[.int .i64 k2, .slice A2 n2 c2, .slice K2 m2 d2]) ∧ TreeAt w' (fun b => wr.heap.size ≤ b ∧ b < w'.heap.size) (norm ks[i]) ⟨k2, A2, n2, c2, K2, m2, d2⟩ ∧ Below wr.heap.size wr w') := by
            refine (ih _ ⟨k1, A1, n1, c1', K1, m1, d1⟩ S wr (HIH.out i hl1) (hkt.keep (fun p hp => hbr.cell (HS.out _ hp))) (fun b hb => Nat.lt_of_lt_of_le (HS.out b hb) hbr.size)).mono ?_
            rintro e w' ⟨⟨k2, A2, n2, c2, K2, m2, d2⟩, rfl, h1, h2⟩
            exact ⟨k2, A2, n2, c2, K2, m2, d2, rfl, h1, h2⟩
          clear hkt
          go_wp2_with fail
          refine HCALL.out.mono ?_
          rintro e w8 ⟨k2, A2, n2, c2', K2, m2, d2, rfl, hT8, hb8⟩
          clear y0 y1 y2 c0 c1 c2
          have HT8 := hide hT8
          clear hT8
          have hown8 := ownsRow_below hown hb8
          have hs8 := hb8.size
          have hBL := Blk.new (w8.alloc (.cells #[.int .i64 k2, .slice A2 n2 c2', .slice K2 m2 d2] 25)) 25 #[.int .i64 k2, .slice A2 n2 c2', .slice K2 m2 d2]
          rw [World.size_alloc] at hBL
          have HBL := hide (src_lit hBL)
          have hB6 := (Blk.new w8 25 #[.int .i64 k2, .slice A2 n2 c2', .slice K2 m2 d2]).alloc (.cells #[.int .i64 k2, .slice A2 n2 c2', .slice K2 m2 d2] 25)
          clear hBL
          have hown8a := (hown8.alloc (.cells #[.int .i64 k2, .slice A2 n2 c2', .slice K2 m2 d2] 25)).alloc (.cells #[.int .i64 k2, .slice A2 n2 c2', .slice K2 m2 d2] 25)
          have hold : ∀ b, (Value.slice A5 i c5).ownBlock = some b → w2.heap.size ≤ b ∧ b < wr.heap.size := fun b hb => ⟨(hown.lt b hb).1, (hown.lt b hb).2⟩
          have HOLD := hide hold
          clear hold
          have hxk : w2.heap.size ≤ ((w8.alloc (.cells #[.int .i64 k2, .slice A2 n2 c2', .slice K2 m2 d2] 25)).alloc (.cells #[.int .i64 k2, .slice A2 n2 c2', .slice K2 m2 d2] 25)).heap.size := by simp; omega
          have hTKN : Hid (trimK ((normL ks).take (i + 1)) = if k2 = 0 then (normL ks).take lst else (normL ks).take (i + 1)) := by
            show _ = _
            have hl2 : i < (normL ks).length := by rw [normL_len]; exact hl1
            rw [List.take_succ_eq_append_getElem hl2, trimK_snoc, HTK.out, normL_get _ _ hl1, HT8.out.kind]
          have HREL : Hid (∀ (w9 : World) (A9 : Option Addr) (c9 : Nat), w9.ownsRow w2.heap.size 25 3 (.slice A9 (i + 1) c9) (i + 1) (kidCells kvs ++ [.int .i64 k2, .slice A2 n2 c2', .slice K2 m2 d2]) →
              ((w8.alloc (.cells #[.int .i64 k2, .slice A2 n2 c2', .slice K2 m2 d2] 25)).alloc (.cells #[.int .i64 k2, .slice A2 n2 c2', .slice K2 m2 d2] 25)).grownBy w9 (Value.slice A5 i c5).ownBlock → ((Value.slice A9 (i + 1) c9).ownBlock = (Value.slice A5 i c5).ownBlock ∨ (Value.slice A9 (i + 1) c9).ownBlock = some ((w8.alloc (.cells #[.int .i64 k2, .slice A2 n2 c2', .slice K2 m2 d2] 25)).alloc (.cells #[.int .i64 k2, .slice A2 n2 c2', .slice K2 m2 d2] 25)).heap.size) →
              ∃ kvs', Hid (kvs'.length = i + 1) ∧ w9.ownsRow w2.heap.size 25 3 (.slice A9 (i + 1) c9) (i + 1) (kidCells kvs') ∧ Below w2.heap.size w2 w9 ∧ Hid (∀ j (hj : j < ks.length) (hj' : j < kvs'.length), TreeAt w9 (fun b => w2.heap.size ≤ b ∧ b < w9.heap.size ∧ (Value.slice A9 (i + 1) c9).ownBlock ≠ some b) (norm ks[j]) kvs'[j])) := by
            intro w9 A9 c9 hown9 hg9 hat9
            have hw8 : w8.heap.size + 2 ≤ w9.heap.size := by have := hg9.size; simp at this; omega
            have hcell : ∀ p : Addr, p.block < w8.heap.size → (Value.slice A5 i c5).ownBlock ≠ some p.block → w9.cell? p = w8.cell? p := by
              intro p h1 h2
              refine World.cell?_of_block ?_
              refine (hg9.block _ (by simp; omega) (fun e => h2 e.symm)).trans ?_
              exact (Below.heap_alloc _ _ _ (by rw [World.size_alloc]; omega)).trans (Below.heap_alloc _ _ _ h1)
            have hnew : ∀ b, b < w8.heap.size → (Value.slice A5 i c5).ownBlock ≠ some b → (Value.slice A9 (i + 1) c9).ownBlock ≠ some b := by
              intro b h1 h2 h3
              rcases hat9 with h | h
              · exact h2 (h ▸ h3)
              · rw [h] at h3
                injection h3 with h3
                simp at h3
                omega
            refine ⟨kvs ++ [⟨k2, A2, n2, c2', K2, m2, d2⟩], by show _ = _; rw [List.length_append, HKL.out]; rfl, by rw [kidCells_app, kidCells_one]; exact hown9, ?_, ?_⟩
            · exact (((hb2r.trans (hb8.mono (by omega))).alloc (by omega) _).alloc (by simp; omega) _).grown hg9 (by simp; omega) (fun b hb => (HOLD.out b hb).1)
            · intro j hj hj'
              rw [List.length_append, List.length_singleton] at hj'
              by_cases hjj : j < kvs.length
              · rw [List.getElem_append_left hjj]
                refine ((HT.out j hj hjj).keep (fun p hp => ?_)).mono (fun b hb => ?_)
                · have h1 : w2.heap.size ≤ p.block ∧ p.block < wr.heap.size ∧ (Value.slice A5 i c5).ownBlock ≠ some p.block := hp
                  exact (hcell p (by omega) h1.2.2).trans (hb8.cell h1.2.1)
                · have h1 : w2.heap.size ≤ b ∧ b < wr.heap.size ∧ (Value.slice A5 i c5).ownBlock ≠ some b := hb
                  exact ⟨h1.1, by omega, hnew b (by omega) h1.2.2⟩
              · have hje : j = i := by have := HKL.out; omega
                subst hje
                rw [List.getElem_append_right (by omega)]
                have hz : j - kvs.length = 0 := by omega
                simp only [hz, List.getElem_cons_zero]
                refine (HT8.out.keep (fun p hp => ?_)).mono (fun b hb => ?_)
                · have h1 : wr.heap.size ≤ p.block ∧ p.block < w8.heap.size := hp
                  exact hcell p h1.2 (fun e => by have := HOLD.out _ e; omega)
                · have h1 : wr.heap.size ≤ b ∧ b < w8.heap.size := hb
                  exact ⟨by omega, by omega, hnew b h1.2 (fun e => by have := HOLD.out _ e; omega)⟩
          by_cases hz : k2 = 0
          · have f2 : (k2 != 0) = false := by simpa using hz
            rw [if_pos hz] at hTKN
            replace hz := hide hz
            go_wp2_with (at_builtin; refine wpList_append_any _ rfl (.tmp 25) (.tmp 27) _ rfl w2.heap.size 25 i0 _ 3 56 Try.underlying23 hi hz0 hz1 hz2 rfl (by decide) _ _ _ rfl hown8a (some ⟨w8.heap.size + 1, 0, none⟩) 1 1 [.int .i64 k2, .slice A2 n2 c2', .slice K2 m2 d2] rfl rfl HBL.out (by simp [Value.oneCell']) (by unfold maxLen; omega) (by omega) hxk ?_; intro v9 w9 hown9 hg9 hat9; obtain ⟨A9, c9, rfl, hle9, hA9⟩ := ownsRow_slice hown9; have hB69 := hB6.grown hg9 (fun e => by have := HOLD.out _ e.symm; omega); have e6 := hB69.cell 0; simp at e6)
            go_roundw
            case rel =>
              obtain ⟨kvs', h1, h2, h3, h4⟩ := HREL.out w9 A9 c9 hown9 hg9 hat9
              exact ⟨i + 1, lst, c9, A9, kvs', by omega, by omega, rfl, rfl, by go_num, hTKN, h1, h2, h3, h4⟩
            case measure => simp [intOf]; omega
          · have f2 : (k2 != 0) = true := by simpa using hz
            rw [if_neg hz] at hTKN
            go_wp2_with (at_builtin; refine wpList_append_any _ rfl (.tmp 25) (.tmp 27) _ rfl w2.heap.size 25 i0 _ 3 56 Try.underlying23 hi hz0 hz1 hz2 rfl (by decide) _ _ _ rfl hown8a (some ⟨w8.heap.size + 1, 0, none⟩) 1 1 [.int .i64 k2, .slice A2 n2 c2', .slice K2 m2 d2] rfl rfl HBL.out (by simp [Value.oneCell']) (by unfold maxLen; omega) (by omega) hxk ?_; intro v9 w9 hown9 hg9 hat9; obtain ⟨A9, c9, rfl, hle9, hA9⟩ := ownsRow_slice hown9; have hB69 := hB6.grown hg9 (fun e => by have := HOLD.out _ e.symm; omega); have e6 := hB69.cell 0; simp at e6)
            go_roundw
            case rel =>
              obtain ⟨kvs', h1, h2, h3, h4⟩ := HREL.out w9 A9 c9 hown9 hg9 hat9
              exact ⟨i + 1, i + 1, c9, A9, kvs', by omega, by omega, rfl, by go_num, by go_num, hTKN, h1, h2, h3, h4⟩
            case measure => simp [intOf]; omega
        · have hqe : m = i := by omega
          subst hqe
          obtain ⟨_, _, e9, hle5, hA5⟩ := ownsRow_slice hown
          injection e9 with e9 _ e10
          subst e9 e10
          have hcm5 : c5 ≤ 9223372036854775807 := by have := ownsRow_cap hown; unfold maxLen at this; exact this
          have HKD : Hid (KidsAt wr (fun b => w.heap.size + 1 < b ∧ b < wr.heap.size) A5 m c5 (normL ks) kvs) := by
            have hs2 := HSZ2.out
            refine ⟨by rw [normL_len]; exact HM.out, hle5, ownsRow_cap hown, by rw [normL_len]; exact HK.out.few, by rw [normL_len, ← HM.out]; exact HKL.out, (RdS.of_own3 hown).mono (fun b hb => ⟨by omega, hb.2⟩), fun j h1 h2 => ?_⟩
            rw [normL_len] at h1
            rw [normL_get _ _ h1]
            exact (HT.out j h1 h2).mono (fun b hb => ⟨by have := hb.1; omega, hb.2.1⟩)
          have HTF : Hid (trimK (normL ks) = (normL ks).take lst) := by
            have := HTK.out
            rwa [List.take_of_length_le (by rw [normL_len, ← HM.out]; exact Nat.le_refl _)] at this
          have g1r := hB1r.lt
          have g2r := hB2r.lt
          have o0 := hB2r.cell 0
          have o1 := hB2r.cell 1
          have o2 := hB2r.cell 2
          have p0 := hB2r.frozen 0
          have p1 := hB2r.frozen 1
          have p2 := hB2r.frozen 2
          simp at o0 o1 o2
          clear HT HKL HTK hown
          by_cases h1 : k = 1
          · have e1 : (k == 1) = true := by simpa using h1
            have HTRIM : Hid (∀ W, Below w.heap.size w W → Calls Try.prog 27 #[.slice A n c] W (CloneS (trimW ws) W)) := fun W hW => trim_any A n c S ws W (HW.out.keep (fun p hp => hW.cell (HS.out _ hp))) (fun b hb => Nat.lt_of_lt_of_le (HS.out b hb) hW.size)
            rw [if_pos h1, if_pos h1] at HNORM
            replace h1 := hide h1
            have hcur : Below wr.heap.size wr wr.drew := (Below.refl _ _).drew
            have HC1 : Hid (∀ W, Below wr.heap.size wr W → W.cell? ⟨w.heap.size, 1, none⟩ = some (.slice A n c)) := fun W hW => (hW.cell g1r).trans c1
            have d1 := HC1.out _ hcur
            clear o0 o1 o2 p0 p1 p2
            have z1 : (0 : Int) ≤ (lst : Int) := by omega
            have z2 : (lst : Int) ≤ (c5 : Int) := by omega
            go_wp2_with fail
            go_region_held3 (fun w' => w'.cell? ⟨w.heap.size, 1, none⟩ = some (.slice A n c)) (first | exact d1 | go_keep)
              ((go_at_call 27; (refine (HTRIM.out _ (hbr.trans (hcur.mono hbr.size))).mono ?_; rintro e w7 ⟨hb7, A7, n7, c7, rfl, hw7⟩; have HW7 := hide hw7; clear hw7; have hcur := hcur.trans (hb7.mono hcur.size); have d1 := HC1.out _ hcur; have hB27 := hB2r.below hcur g2r; have o0 := hB27.cell 0; have o1 := hB27.cell 1; have o2 := hB27.cell 2; have p0 := hB27.frozen 0; have p1 := hB27.frozen 1; have p2 := hB27.frozen 2; simp at o0 o1 o2)))
            all_goals
              have hb7' := hbr.trans (hcur.mono hbr.size)
              have hs7 := hcur.size
              have hs77 := hb7.size
              have hww : WordsAt w7 (fun b => w.heap.size + 1 < b ∧ b < w7.heap.size) A7 n7 c7 (trimW ws) := HW7.out.mono (fun b hb => ⟨by have hb1 : wr.heap.size ≤ b := hb.1; omega, hb.2⟩)
              have hkk : KidsAt w7 (fun b => w.heap.size + 1 < b ∧ b < w7.heap.size) A5 lst c5 (trimK (normL ks)) (kvs.take lst) := by
                rw [HTF.out]
                exact ((HKD.out.take lst hlst).keep (fun p hp => hcur.cell (p := p) hp.2)).mono (fun b hb => ⟨hb.1, by have := hb.2; omega⟩)
              have HF := fun a b cc => hide (norm_fin (k := 1) a b cc (fun b hb => hb) hww hkk hb7')
              obtain ⟨q0, q1, q2⟩ := res3' hB27 (.int .i64 1) (.slice A7 n7 c7) (.slice A5 lst c5)
              go_wp2_with fail
              (try simp only [Exit.inBlock, Exit.then])
              refine bodyPost_ret (by simp [results, Try.results21, go_sem, q0, q1, q2]; try rfl) rfl ?_
              rw [HNORM.out, h1.out]
              have h9 := (HF (.int .i64 1) (.slice A7 n7 c7) (.slice A5 lst c5)).out
              exact ⟨⟨1, A7, n7, c7, A5, lst, c5⟩, rfl, by simpa only [World.size_setCell] using h9.1, h9.2⟩
          · have e1 : (k == 1) = false := by simpa using h1
            rw [if_neg h1, if_neg h1] at HNORM
            have hwr : WordsAt wr S A n c ws := HW.out.keep (fun p hp => hbr.cell (HS.out _ hp))
            have HWR := hide hwr
            have HSRC : Hid (∀ j u, (ws.map (Value.int .u64))[j]? = some u → ∃ ad, A = some ad ∧ wr.cell? (ad.add j) = some u) := fun j u hu => by
              obtain ⟨b, o, e, _, hc⟩ := hwr.read j u hu
              exact ⟨_, e, by rw [add_lit]; exact hc⟩
            have HLN : Hid ((ws.map (Value.int .u64)).length = n * 1) := by show _ = _; rw [List.length_map, hwr.len]; omega
            clear hwr
            have hb62 := hB2r
            go_wp2_with (at_builtin; refine wpList_append_any _ rfl (.tmp 44) (.tmp 46) _ rfl wr.heap.size 38 j0 _ 1 8 Try.underlying22 hj hy0 hy1 hy2 rfl (by decide) _ 0 [] rfl (World.ownsRow_nil _ _ _ _) A n c (ws.map (Value.int .u64)) rfl HLN.out HSRC.out (oneCells _ _) (by unfold maxLen; omega) (by omega) (Nat.le_refl _) ?_; intro v7 w7 hown7 hg7 hat7; obtain ⟨A7, c7, rfl, hle7, hA7⟩ := ownsRow_slice hown7; simp only [Nat.zero_add] at hown7 hle7; have hb7 : Below wr.heap.size wr w7 := (Below.refl _ _).grown hg7 (Nat.le_refl _) (fun k hk => by cases hk); have hB17 := hB1r.below hb7 g1r; have hB27 := hB2r.below hb7 g2r; have c0 := hB17.cell 0; have o0 := hB27.cell 0; have o1 := hB27.cell 1; have o2 := hB27.cell 2; have p0 := hB27.frozen 0; have p1 := hB27.frozen 1; have p2 := hB27.frozen 2; simp at c0 o0 o1 o2; obtain ⟨q0, q1, q2⟩ := res3' hB27 (.int .i64 k) (.slice A7 n c7) (.slice A5 m c5))
            have hb7' := hbr.trans (hb7.mono hbr.size)
            have hs7 := hb7.size
            have hww : WordsAt w7 (fun b => w.heap.size + 1 < b ∧ b < w7.heap.size) A7 n c7 ws :=
              ⟨HWR.out.len, hle7, ownsRow_cap hown7, HWR.out.few, hA7, (by have := RdS.of_own hown7; simp only [List.nil_append] at this; exact this.mono (fun b hb => ⟨by have := hb.1; omega, hb.2⟩)), HWR.out.u64⟩
            have hkk : KidsAt w7 (fun b => w.heap.size + 1 < b ∧ b < w7.heap.size) A5 m c5 (normL ks) kvs :=
              (HKD.out.keep (fun p hp => hb7.cell (p := p) hp.2)).mono (fun b hb => ⟨hb.1, by have := hb.2; omega⟩)
            have HF := fun a b cc => hide (norm_fin (k := k) a b cc (fun b hb => hb) hww hkk hb7')
            (try simp only [Exit.inBlock, Exit.then])
            refine bodyPost_ret (by simp [results, Try.results21, go_sem, q0, q1, q2]; try rfl) rfl ?_
            rw [HNORM.out]
            have h9 := (HF (.int .i64 k) (.slice A7 n c7) (.slice A5 m c5)).out
            exact ⟨⟨k, A7, n, c7, A5, m, c5⟩, rfl, by simpa only [World.size_setCell] using h9.1, h9.2⟩
end Go.Proofs.Ytmlmmajdeclpoaa
