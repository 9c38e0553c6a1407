/-
  Get of the document's paths.
-/
import Derived.Test.YtmlmmajdeclpoaaPthG
import Derived.Test.YtmlmmajdeclpoaaPthM
import Derived.Test.YtmlmmajdeclpoaaPthR
import Derived.Deep.RegionHeld3
namespace Go.Proofs.Ytmlmmajdeclpoaa
open Go.RowKit

theorem Rt.nil : Rt nilT := .mk 0 [] [] (by decide) (by decide) (fun _ => rfl) (fun _ => rfl) (fun h => absurd h (by decide)) (fun i h => by simp at h)
theorem Rt.kid {t : T} (h : Rt t) (i : Int) : Rt (kidT t i) := by
  obtain ⟨k, ws, ks⟩ := t
  unfold kidT
  split
  · cases h with
    | mk _ _ _ _ _ _ _ _ hk =>
      show Rt ((ks[i.toNat]?).getD nilT)
      by_cases hi : i.toNat < ks.length
      · rw [List.getElem?_eq_getElem hi]; exact hk _ hi
      · rw [List.getElem?_eq_none (by omega)]; exact Rt.nil
  · exact Rt.nil
theorem norm_word (x : Int) : norm (.node 1 [x] []) = .node 1 (if x = 0 then [] else [x]) [] := by
  simp [norm, normL, trimW, trimK]
theorem Reads.nilAny {w : World} {B : Nat} {A : Option Addr} : Reads w B A (stepCells []) := fun j u h => by simp [stepCells] at h

set_option maxRecDepth 100000 in
set_option maxHeartbeats 16000000 in
theorem refGet_any (l : List Step) : ∀ (t : T) (v : Tv) (S : Nat → Prop) (L : Option Addr) (n c b0 : Nat) (w : World), Rt t → TreeAt w S t v → (∀ b, S b → b < w.heap.size) →
    n = l.length → Reads w b0 L (stepCells l) → b0 ≤ w.heap.size → n ≤ c → c ≤ maxLen →
    Calls Try.prog 9 #[v.val, .slice L n c] w (GetPost (getP t l) w) := by
  induction l with
  | nil =>
    intro t v S L n c b0 w hR ht hS hn hx hb0 hnc hcm
    obtain ⟨k', A', n', c', K', m', d'⟩ := v
    have HN0 : Hid (n = 0) := hn
    obtain rfl : n = 0 := hn
    show Calls _ _ #[.agg #[.int .i64 k', .slice A' n' c', .slice K' m' d'], _] _ _
    have hbe2 := two_below w (.cells #[.int .i64 k', .slice A' n' c', .slice K' m' d'] 25) (.cells #[.int .i64 0, .slice none 0 0, .slice none 0 0] 25)
    have hB1 := (Blk.new w 25 #[.int .i64 k', .slice A' n' c', .slice K' m' d']).alloc (.cells #[.int .i64 0, .slice none 0 0, .slice none 0 0] 25)
    have hB2 := Blk.new (w.alloc (.cells #[.int .i64 k', .slice A' n' c', .slice K' m' d'] 25)) 25 #[.int .i64 0, .slice none 0 0, .slice none 0 0]
    rw [World.size_alloc] at hB2
    go_enter Try.func9, Try.ntmps9
    go_upto_region 1 with fail
    generalize ((w.alloc (.cells #[.int .i64 k', .slice A' n' c', .slice K' m' d'] 25)).alloc (.cells #[.int .i64 0, .slice none 0 0, .slice none 0 0] 25)) = w1 at *
    have t0 := hB1.cell 0
    have t1 := hB1.cell 1
    have t2 := hB1.cell 2
    simp at t0 t1 t2
    have HNM : Hid (Calls Try.prog 21 #[.agg #[.int .i64 k', .slice A' n' c', .slice K' m' d']] w1 fun e w' => ∃ k2 A2 n2 c2 K2 m2 d2, e = .returned (.agg #[.int .i64 k2, .slice A2 n2 c2, .slice K2 m2 d2]) ∧ TreeAt w' (fun b => w1.heap.size ≤ b ∧ b < w'.heap.size) (norm t) ⟨k2, A2, n2, c2, K2, m2, d2⟩ ∧ Below w1.heap.size w1 w') := by
      refine (refNorm_any _ t ⟨k', A', n', c', K', m', d'⟩ S _ (Nat.le_refl _) (ht.bel hbe2 hS) (fun b hb => Nat.lt_of_lt_of_le (hS b hb) hbe2.size)).mono ?_
      rintro e w' ⟨⟨k2, A2, n2, c2, K2, m2, d2⟩, rfl, h1, h2⟩
      exact ⟨k2, A2, n2, c2, K2, m2, d2, rfl, h1, h2⟩
    clear ht hx hS
    go_wp2_with fail
    refine HNM.out.mono ?_
    rintro e w3 ⟨k2, A2, n2, c2, K2, m2, d2, rfl, hT3, hb3⟩
    have hs3 := hb3.size
    have g2 := hB2.lt
    have hB2W := hB2.below hb3 hB2.lt
    have hbeW := hbe2.trans (hb3.mono hbe2.size)
    obtain ⟨q0, q1, q2⟩ := res3 hB2W (.int .i64 k2) (.slice A2 n2 c2) (.slice K2 m2 d2)
    have hfin := hide (res_fin (w := w) (g := w.heap.size + 1) (.int .i64 k2) (.slice A2 n2 c2) (.slice K2 m2 d2) hT3 (fun b hb => ⟨by omega, hb.2, by omega⟩) hbeW (by omega))
    have s0 := hB2W.cell 0
    have s1 := hB2W.cell 1
    have s2 := hB2W.cell 2
    have v0 := hB2W.frozen 0
    have v1 := hB2W.frozen 1
    have v2 := hB2W.frozen 2
    simp at s0 s1 s2
    clear hT3 g2 hs3
    go_wp2_with fail
    (try simp only [Exit.inBlock, Exit.then])
    refine bodyPost_ret (by simp [results, Try.results9, go_sem, q0, q1, q2]; try rfl) rfl ?_
    rw [getP]
    exact ⟨⟨k2, A2, n2, c2, K2, m2, d2⟩, rfl, by simpa only [World.size_setCell] using hfin.out.1, hfin.out.2⟩
  | cons s r ih =>
    intro t v S L n c b0 w hR ht hS hn hx hb0 hnc hcm
    obtain ⟨k', A', n', c', K', m', d'⟩ := v
    obtain ⟨k1, a1⟩ := s
    have hcm : c ≤ 9223372036854775807 := by unfold maxLen at hcm; omega
    obtain ⟨bx, ox, rfl, hbx, z0, z1⟩ := hx.stepAt (k := 0) (by simp)
    simp at z0 z1
    have HKD : Hid (t.kind = k') := ht.kind
    have HML : Hid (t.ks.length = m' ∧ t.ws.length = n') := by
      obtain ⟨_, _, ks⟩ := t
      obtain ⟨_, h⟩ := ht.kids
      exact ⟨h.len.symm, ht.words.len.symm⟩
    have hmb : m' ≤ 2513169434843 := by
      obtain ⟨_, _, ks⟩ := t
      obtain ⟨_, h⟩ := ht.kids
      have e : m' = ks.length := h.len
      rw [e]; exact h.few
    have hnb : n' ≤ 17592186043904 := by
      obtain ⟨_, ws, ks⟩ := t
      have e : n' = ws.length := ht.words.len
      rw [e]; exact ht.words.few
    have hRT : 0 ≤ k' ∧ k' ≤ 10 ∧ (k' = 0 → m' = 0) ∧ (k' = 10 → m' = 0) := by
      rw [← HKD.out, ← HML.out.1]
      cases hR with
      | mk k ws ks h0 h1 h2 h3 _ _ => exact ⟨h0, h1, fun h => by rw [show (T.node k ws ks).ks = ks from rfl, h2 h]; rfl, fun h => by rw [show (T.node k ws ks).ks = ks from rfl, h3 h]; rfl⟩
    obtain ⟨hr0, hr1, hr2, hr3⟩ := hRT
    have HR := hide hR
    have HRL : Hid (r.length + 1 = n) := by rw [hn]; rfl
    have h1n : 1 ≤ n := by rw [hn]; simp
    have HX1 : Hid (c ≠ 1 → Reads w b0 (some ⟨bx, ox + 2, none⟩) (stepCells r)) := fun _ => by
      have h := hx.drop 2
      rw [Option.map_some, add_lit] at h
      exact h
    have HT := hide ht
    have HS := hide hS
    have HR2 := hide hr2
    have HR3 := hide hr3
    have fn0 : ((n : Int) == 0) = false := by simp; omega
    clear ht hS hx hn hR hr2 hr3
    show Calls _ _ #[.agg #[.int .i64 k', .slice A' n' c', .slice K' m' d'], _] _ _
    have hbe2 := two_below w (.cells #[.int .i64 k', .slice A' n' c', .slice K' m' d'] 25) (.cells #[.int .i64 0, .slice none 0 0, .slice none 0 0] 25)
    have hB1 := (Blk.new w 25 #[.int .i64 k', .slice A' n' c', .slice K' m' d']).alloc (.cells #[.int .i64 0, .slice none 0 0, .slice none 0 0] 25)
    have hB2 := Blk.new (w.alloc (.cells #[.int .i64 k', .slice A' n' c', .slice K' m' d'] 25)) 25 #[.int .i64 0, .slice none 0 0, .slice none 0 0]
    have hsz2 : ((w.alloc (.cells #[.int .i64 k', .slice A' n' c', .slice K' m' d'] 25)).alloc (.cells #[.int .i64 0, .slice none 0 0, .slice none 0 0] 25)).heap.size = w.heap.size + 2 := by simp
    rw [World.size_alloc] at hB2
    go_enter Try.func9, Try.ntmps9
    go_upto_region 1 with fail
    generalize ((w.alloc (.cells #[.int .i64 k', .slice A' n' c', .slice K' m' d'] 25)).alloc (.cells #[.int .i64 0, .slice none 0 0, .slice none 0 0] 25)) = w2 at *
    have HSZ := hide hsz2
    clear hsz2
    have y0 := (hbe2.cell (p := ⟨bx, ox, none⟩) (Nat.lt_of_lt_of_le hbx hb0)).trans z0
    have y1 := (hbe2.cell (p := ⟨bx, ox + 1, none⟩) (Nat.lt_of_lt_of_le hbx hb0)).trans z1
    clear z0 z1
    go_upto_region 4 with fail
    have hB3 := Blk.new w2 41 #[.int .i64 k1, .int .i64 a1]
    have hB1' := hB1.alloc (.cells #[.int .i64 k1, .int .i64 a1] 41)
    have hB2' := hB2.alloc (.cells #[.int .i64 k1, .int .i64 a1] 41)
    have hbe1 : Below w.heap.size w (w2.alloc (.cells #[.int .i64 k1, .int .i64 a1] 41)) := hbe2.alloc hbe2.size _
    have HSZ1 : Hid ((w2.alloc (.cells #[.int .i64 k1, .int .i64 a1] 41)).heap.size = w.heap.size + 3) := by show _ = _; rw [World.size_alloc, HSZ.out]
    generalize (w2.alloc (.cells #[.int .i64 k1, .int .i64 a1] 41)) = w1 at *
    have HG6 : Hid (w2.heap.size = w.heap.size + 2) := HSZ.out
    generalize w2.heap.size = g6 at *
    clear hB1 hB2 y0 y1 hbe2 HSZ
    have e0 := hB3.cell 0
    have e1 := hB3.cell 1
    have t0 := hB1'.cell 0
    have t1 := hB1'.cell 1
    have t2 := hB1'.cell 2
    have o0 := hB2'.cell 0
    have o1 := hB2'.cell 1
    have o2 := hB2'.cell 2
    have p0 := hB2'.frozen 0
    have p1 := hB2'.frozen 1
    have p2 := hB2'.frozen 2
    simp at e0 e1 t0 t1 t2 o0 o1 o2
    have HT1 : Hid (TreeAt w1 S t ⟨k', A', n', c', K', m', d'⟩) := HT.out.bel hbe1 HS.out
    have HDEF : Hid (getP t ((k1, a1) :: r) = (nilT, false) → GetPost (getP t ((k1, a1) :: r)) w (.returned (.tuple #[.agg #[.int .i64 0, .slice none 0 0, .slice none 0 0], .bool false])) (((w1.setCell ⟨w.heap.size + 1, 0, none⟩ (.int .i64 0)).setCell ⟨w.heap.size + 1, 1, none⟩ (.slice none 0 0)).setCell ⟨w.heap.size + 1, 2, none⟩ (.slice none 0 0))) := fun e => by
      have h := res_fin (w := w) (g := w.heap.size + 1) (S := fun _ => False) (.int .i64 0) (.slice none 0 0) (.slice none 0 0) (TreeAt.nil (w := w1)) (fun _ h => h.elim) hbe1 (by omega)
      rw [e]
      exact ⟨⟨0, none, 0, 0, none, 0, 0⟩, rfl, by simpa only [World.size_setCell] using h.1, h.2⟩
    obtain ⟨q0, q1, q2⟩ := res3 hB2' (.int .i64 0) (.slice none 0 0) (.slice none 0 0)
    by_cases c0 : a1 < 0
    · have g0 : decide (a1 < 0) = true := by simp; omega
      by_cases c2 : 2 ≤ k'
      · have g2 : decide (2 ≤ k') = true := by simp; omega
        by_cases c9 : k' ≤ 9
        · have g9 : decide (k' ≤ 9) = true := by simp; omega
          go_wp2_with fail
          (try simp only [Exit.inBlock, Exit.then])
          refine bodyPost_ret (by simp [results, Try.results9, go_sem, q0, q1, q2]; try rfl) rfl ?_
          refine HDEF.out ?_
          rw [getP]
          (try have ck2 := Hid.out ck)
          (try have dn2 := Hid.out dn)
          (try have d02 := Hid.out d0)
          (try have d12 := Hid.out d1)
          (try have d22 := Hid.out d2)
          (repeat' split) <;> first | rfl | (exfalso; have := HKD.out; have := HML.out; have := HRL.out; have := HR2.out; have := HR3.out; simp_all; done) | (exfalso; have := HKD.out; have := HML.out; have := HRL.out; have := HR2.out; have := HR3.out; simp_all; omega) | (have := HKD.out; have := HML.out; have := HRL.out; have := HR2.out; have := HR3.out; simp_all; done) | (have := HKD.out; have := HML.out; have := HRL.out; have := HR2.out; have := HR3.out; simp_all; omega)
        · have g9 : decide (k' ≤ 9) = false := by simp; omega
          go_wp2_with fail
          (try simp only [Exit.inBlock, Exit.then])
          refine bodyPost_ret (by simp [results, Try.results9, go_sem, q0, q1, q2]; try rfl) rfl ?_
          refine HDEF.out ?_
          rw [getP]
          (try have ck2 := Hid.out ck)
          (try have dn2 := Hid.out dn)
          (try have d02 := Hid.out d0)
          (try have d12 := Hid.out d1)
          (try have d22 := Hid.out d2)
          (repeat' split) <;> first | rfl | (exfalso; have := HKD.out; have := HML.out; have := HRL.out; have := HR2.out; have := HR3.out; simp_all; done) | (exfalso; have := HKD.out; have := HML.out; have := HRL.out; have := HR2.out; have := HR3.out; simp_all; omega) | (have := HKD.out; have := HML.out; have := HRL.out; have := HR2.out; have := HR3.out; simp_all; done) | (have := HKD.out; have := HML.out; have := HRL.out; have := HR2.out; have := HR3.out; simp_all; omega)
      · have g2 : decide (2 ≤ k') = false := by simp; omega
        go_wp2_with fail
        (try simp only [Exit.inBlock, Exit.then])
        refine bodyPost_ret (by simp [results, Try.results9, go_sem, q0, q1, q2]; try rfl) rfl ?_
        refine HDEF.out ?_
        rw [getP]
        (try have ck2 := Hid.out ck)
        (try have dn2 := Hid.out dn)
        (try have d02 := Hid.out d0)
        (try have d12 := Hid.out d1)
        (try have d22 := Hid.out d2)
        (repeat' split) <;> first | rfl | (exfalso; have := HKD.out; have := HML.out; have := HRL.out; have := HR2.out; have := HR3.out; simp_all; done) | (exfalso; have := HKD.out; have := HML.out; have := HRL.out; have := HR2.out; have := HR3.out; simp_all; omega) | (have := HKD.out; have := HML.out; have := HRL.out; have := HR2.out; have := HR3.out; simp_all; done) | (have := HKD.out; have := HML.out; have := HRL.out; have := HR2.out; have := HR3.out; simp_all; omega)
    · have g0 : decide (a1 < 0) = false := by simp; omega
      by_cases ck : k' = 1
      · have fk : (k' == 1) = true := by simp; omega
        have g2 : decide (2 ≤ k') = false := by simp; omega
        have hli : isList k' = false := by rw [ck]; rfl
        replace ck := hide ck
        by_cases c65 : a1 < 65535
        · have g65 : decide (65535 ≤ a1) = false := by simp; omega
          by_cases d0 : k1 = 0
          · have f0 : (k1 == 0) = true := by simp; omega
            have f1 : (k1 == 1) = false := by simp; omega
            have f2 : (k1 == 2) = false := by simp; omega
            replace d0 := hide d0
            by_cases cm : a1 < (m' : Int)
            · have gm : decide (a1 < (m' : Int)) = true := by simp; omega
              have HRES : Hid (getP t ((k1, a1) :: r) = getP (kidT t a1) r) := by
                show _ = _
                rw [getP]
                (try have ck2 := Hid.out ck)
                (try have dn2 := Hid.out dn)
                (try have d02 := Hid.out d0)
                (try have d12 := Hid.out d1)
                (try have d22 := Hid.out d2)
                (repeat' split) <;> first | rfl | (exfalso; have := HKD.out; have := HML.out; have := HRL.out; have := HR2.out; have := HR3.out; simp_all; done) | (exfalso; have := HKD.out; have := HML.out; have := HRL.out; have := HR2.out; have := HR3.out; simp_all; omega) | (have := HKD.out; have := HML.out; have := HRL.out; have := HR2.out; have := HR3.out; simp_all; done) | (have := HKD.out; have := HML.out; have := HRL.out; have := HR2.out; have := HR3.out; simp_all; omega)
              obtain ⟨j, rfl⟩ := Int.eq_ofNat_of_zero_le (show 0 ≤ a1 by omega)
              have HKI : Hid (∃ b o k2 A2 n2 c2 K2 m2 d2, K' = some ⟨b, o, none⟩ ∧ b < w.heap.size ∧ w.cell? ⟨b, o + j * 3, none⟩ = some (.int .i64 k2) ∧ w.cell? ⟨b, o + j * 3 + 1, none⟩ = some (.slice A2 n2 c2) ∧ w.cell? ⟨b, o + j * 3 + 2, none⟩ = some (.slice K2 m2 d2) ∧ TreeAt w S (kidT t j) ⟨k2, A2, n2, c2, K2, m2, d2⟩) := by
                clear HRES
                obtain ⟨kk, ww, ks⟩ := t
                obtain ⟨_, h⟩ := HT.out.kids
                have hj : j < ks.length := by have := HML.out.1; simp only [T.ks] at this; omega
                obtain ⟨b, o, v, e1, hb, h1, h2, h3, h4⟩ := h.at hj
                have hkt : kidT (.node kk ww ks) j = ks[j] := by unfold kidT; rw [if_pos (by omega)]; simp [T.ks, hj]
                rw [hkt]
                exact ⟨b, o, v.k, v.A, v.n, v.c, v.K, v.m, v.d, e1, HS.out b hb, h1, h2, h3, h4⟩
              obtain ⟨bk, ok, k2, A2, n2, c2, K2, m2, d2, rfl, hbk, y0, y1, y2, hT2⟩ := HKI.out
              have HIH : Hid (∀ (L' : Option Addr) (c'' : Nat) (W : World), Reads w b0 L' (stepCells r) → n - 1 ≤ c'' → c'' ≤ 9223372036854775807 → Below w.heap.size w W → Calls Try.prog 9 #[.agg #[.int .i64 k2, .slice A2 n2 c2, .slice K2 m2 d2], .slice L' (n - 1) c''] W fun e w' => ∃ k9 A9 n9 c9 K9 m9 d9 b9, e = .returned (.tuple #[.agg #[.int .i64 k9, .slice A9 n9 c9, .slice K9 m9 d9], .bool b9]) ∧ b9 = (getP (kidT t (j : Int)) r).2 ∧ TreeAt w' (fun b => W.heap.size ≤ b ∧ b < w'.heap.size) (getP (kidT t (j : Int)) r).1 ⟨k9, A9, n9, c9, K9, m9, d9⟩ ∧ Below W.heap.size W w') := fun L' c'' W h1 h2 h3 hW => by
                refine (ih (kidT t (j : Int)) ⟨k2, A2, n2, c2, K2, m2, d2⟩ S L' (n - 1) c'' b0 W (HR.out.kid _) (hT2.keep (fun p hp => hW.cell (HS.out _ hp))) (fun b hb => Nat.lt_of_lt_of_le (HS.out b hb) hW.size) (by have := HRL.out; omega) (h1.below hW hb0) (Nat.le_trans hb0 hW.size) h2 (by unfold maxLen; exact h3)).mono ?_
                rintro e w' ⟨⟨k9, A9, n9, c9, K9, m9, d9⟩, rfl, h1, h2⟩
                exact ⟨k9, A9, n9, c9, K9, m9, d9, _, rfl, rfl, h1, h2⟩
              clear hT2 HKI
              have gB1 := hB1'.lt
              have gB3 := hB3.lt
              have HF : Hid (∀ W, Only [w.heap.size + 1] w1 W → W.cell? ⟨w.heap.size, 2, none⟩ = some (.slice (some ⟨bk, ok, none⟩) m' d') ∧ W.cell? ⟨g6, 1, none⟩ = some (.int .i64 (j : Int)) ∧ W.cell? ⟨bk, ok + j * 3, none⟩ = some (.int .i64 k2) ∧ W.cell? ⟨bk, ok + j * 3 + 1, none⟩ = some (.slice A2 n2 c2) ∧ W.cell? ⟨bk, ok + j * 3 + 2, none⟩ = some (.slice K2 m2 d2)) := fun W hW => by
                have hg6 := HG6.out
                have hs1 := hbe1.size
                refine ⟨(hW.cell gB1 (by simp)).trans t2, (hW.cell gB3 (by simp; omega)).trans e1, ?_, ?_, ?_⟩
                · exact (hW.cell (by omega) (by simp; omega)).trans ((hbe1.cell (p := ⟨bk, ok + j * 3, none⟩) hbk).trans y0)
                · exact (hW.cell (by omega) (by simp; omega)).trans ((hbe1.cell (p := ⟨bk, ok + j * 3 + 1, none⟩) hbk).trans y1)
                · exact (hW.cell (by omega) (by simp; omega)).trans ((hbe1.cell (p := ⟨bk, ok + j * 3 + 2, none⟩) hbk).trans y2)
              clear y0 y1 y2
              have hcur : Only [w.heap.size + 1] w1 w1.drew := (Only.refl _ _).drew
              have hbd : Below w.heap.size w w1.drew := hbe1.drew
              have z1 : (1 : Int) ≤ (n : Int) := by omega
              have z2 : (n : Int) ≤ (c : Int) := by omega
              have z3 : (0 : Int) ≤ (j : Int) := by omega
              have HXN : Hid (c = 1 → ∀ L', Reads w b0 L' (stepCells r)) := fun h L' => by
                have hr : r = [] := List.eq_nil_of_length_eq_zero (by have := HRL.out; omega)
                subst hr
                exact Reads.nilAny
              by_cases hc1 : c = 1
              · skip
                go_wp2_with fail
                go_region_held3 (fun w' => w'.cell? ⟨w.heap.size, 2, none⟩ = some (.slice (some ⟨bk, ok, none⟩) m' d') ∧ w'.cell? ⟨g6, 1, none⟩ = some (.int .i64 (j : Int)) ∧ w'.cell? ⟨bk, ok + j * 3, none⟩ = some (.int .i64 k2) ∧ w'.cell? ⟨bk, ok + j * 3 + 1, none⟩ = some (.slice A2 n2 c2) ∧ w'.cell? ⟨bk, ok + j * 3 + 2, none⟩ = some (.slice K2 m2 d2))
                  (first | exact HF.out _ hcur | exact HF.out _ (((hcur.setCell (by simp) _).setCell (by simp) _).setCell (by simp) _))
                  ((go_at_call 9; (refine (HIH.out _ _ w1.drew (HXN.out hc1 _) (by omega) (by omega) hbd).mono ?_; rintro e w9 ⟨k9, A9, n9, c9', K9, m9, d9, b9, rfl, hb9e, hT9, hb9⟩; have hcur := hcur.trans (Only.of_below hb9); have hb9 : Below w1.heap.size w1 w9 := (Below.refl _ _).drew.trans hb9; have hT9 : TreeAt w9 (fun b => w1.heap.size ≤ b ∧ b < w9.heap.size) (getP (kidT t (j : Int)) r).1 ⟨k9, A9, n9, c9', K9, m9, d9⟩ := hT9; have hs9 := hb9.size; have hB29 := hB2'.below hb9 hB2'.lt; have hbe9 : Below w.heap.size w w9 := hbe1.trans (hb9.mono hbe1.size); clear q0 q1 q2 o0 o1 o2 p0 p1 p2; obtain ⟨q0, q1, q2⟩ := res3 hB29 (.int .i64 k9) (.slice A9 n9 c9') (.slice K9 m9 d9); have hfin := hide (res_fin (w := w) (g := w.heap.size + 1) (.int .i64 k9) (.slice A9 n9 c9') (.slice K9 m9 d9) hT9 (fun b hb => ⟨by have := hb.1; have := HSZ1.out; omega, hb.2, by have := hb.1; have := HSZ1.out; omega⟩) hbe9 (by omega)); have o0 := hB29.cell 0; have o1 := hB29.cell 1; have o2 := hB29.cell 2; have p0 := hB29.frozen 0; have p1 := hB29.frozen 1; have p2 := hB29.frozen 2; simp at o0 o1 o2; clear hT9 hs9)))
                go_wp2_with fail
                (try simp only [Exit.inBlock, Exit.then])
                refine bodyPost_ret (by simp [results, Try.results9, go_sem, q0, q1, q2]; try rfl) rfl ?_
                rw [HRES.out]
                exact ⟨⟨k9, A9, n9, c9', K9, m9, d9⟩, by first | rfl | (rw [hb9e]; rfl), by simpa only [World.size_setCell] using hfin.out.1, hfin.out.2⟩
              · skip
                go_wp2_with fail
                go_region_held3 (fun w' => w'.cell? ⟨w.heap.size, 2, none⟩ = some (.slice (some ⟨bk, ok, none⟩) m' d') ∧ w'.cell? ⟨g6, 1, none⟩ = some (.int .i64 (j : Int)) ∧ w'.cell? ⟨bk, ok + j * 3, none⟩ = some (.int .i64 k2) ∧ w'.cell? ⟨bk, ok + j * 3 + 1, none⟩ = some (.slice A2 n2 c2) ∧ w'.cell? ⟨bk, ok + j * 3 + 2, none⟩ = some (.slice K2 m2 d2))
                  (first | exact HF.out _ hcur | exact HF.out _ (((hcur.setCell (by simp) _).setCell (by simp) _).setCell (by simp) _))
                  ((go_at_call 9; (refine (HIH.out _ _ w1.drew (HX1.out hc1) (by omega) (by omega) hbd).mono ?_; rintro e w9 ⟨k9, A9, n9, c9', K9, m9, d9, b9, rfl, hb9e, hT9, hb9⟩; have hcur := hcur.trans (Only.of_below hb9); have hb9 : Below w1.heap.size w1 w9 := (Below.refl _ _).drew.trans hb9; have hT9 : TreeAt w9 (fun b => w1.heap.size ≤ b ∧ b < w9.heap.size) (getP (kidT t (j : Int)) r).1 ⟨k9, A9, n9, c9', K9, m9, d9⟩ := hT9; have hs9 := hb9.size; have hB29 := hB2'.below hb9 hB2'.lt; have hbe9 : Below w.heap.size w w9 := hbe1.trans (hb9.mono hbe1.size); clear q0 q1 q2 o0 o1 o2 p0 p1 p2; obtain ⟨q0, q1, q2⟩ := res3 hB29 (.int .i64 k9) (.slice A9 n9 c9') (.slice K9 m9 d9); have hfin := hide (res_fin (w := w) (g := w.heap.size + 1) (.int .i64 k9) (.slice A9 n9 c9') (.slice K9 m9 d9) hT9 (fun b hb => ⟨by have := hb.1; have := HSZ1.out; omega, hb.2, by have := hb.1; have := HSZ1.out; omega⟩) hbe9 (by omega)); have o0 := hB29.cell 0; have o1 := hB29.cell 1; have o2 := hB29.cell 2; have p0 := hB29.frozen 0; have p1 := hB29.frozen 1; have p2 := hB29.frozen 2; simp at o0 o1 o2; clear hT9 hs9)))
                go_wp2_with fail
                (try simp only [Exit.inBlock, Exit.then])
                refine bodyPost_ret (by simp [results, Try.results9, go_sem, q0, q1, q2]; try rfl) rfl ?_
                rw [HRES.out]
                exact ⟨⟨k9, A9, n9, c9', K9, m9, d9⟩, by first | rfl | (rw [hb9e]; rfl), by simpa only [World.size_setCell] using hfin.out.1, hfin.out.2⟩
            · have gm : decide (a1 < (m' : Int)) = false := by simp; omega
              have HRES : Hid (getP t ((k1, a1) :: r) = getP nilT r) := by
                show _ = _
                rw [getP]
                have hkt : kidT t a1 = nilT := by
                  unfold kidT
                  rw [if_pos (by omega), List.getElem?_eq_none (by have := HML.out.1; omega)]
                  rfl
                (try simp only [hkt])
                (try have ck2 := Hid.out ck)
                (try have dn2 := Hid.out dn)
                (try have d02 := Hid.out d0)
                (try have d12 := Hid.out d1)
                (try have d22 := Hid.out d2)
                (repeat' split) <;> first | rfl | (exfalso; have := HKD.out; have := HML.out; have := HRL.out; have := HR2.out; have := HR3.out; simp_all; done) | (exfalso; have := HKD.out; have := HML.out; have := HRL.out; have := HR2.out; have := HR3.out; simp_all; omega) | (have := HKD.out; have := HML.out; have := HRL.out; have := HR2.out; have := HR3.out; simp_all; done) | (have := HKD.out; have := HML.out; have := HRL.out; have := HR2.out; have := HR3.out; simp_all; omega)
              have HIH : Hid (∀ (L' : Option Addr) (c'' : Nat) (W : World), Reads w b0 L' (stepCells r) → n - 1 ≤ c'' → c'' ≤ 9223372036854775807 → Below w.heap.size w W → Calls Try.prog 9 #[.agg #[.int .i64 0, .slice none 0 0, .slice none 0 0], .slice L' (n - 1) c''] W fun e w' => ∃ k9 A9 n9 c9 K9 m9 d9 b9, e = .returned (.tuple #[.agg #[.int .i64 k9, .slice A9 n9 c9, .slice K9 m9 d9], .bool b9]) ∧ b9 = (getP nilT r).2 ∧ TreeAt w' (fun b => W.heap.size ≤ b ∧ b < w'.heap.size) (getP nilT r).1 ⟨k9, A9, n9, c9, K9, m9, d9⟩ ∧ Below W.heap.size W w') := fun L' c'' W h1 h2 h3 hW => by
                refine (ih nilT ⟨0, none, 0, 0, none, 0, 0⟩ (fun _ => False) L' (n - 1) c'' b0 W Rt.nil TreeAt.nil (fun _ h => h.elim) (by have := HRL.out; omega) (h1.below hW hb0) (Nat.le_trans hb0 hW.size) h2 (by unfold maxLen; exact h3)).mono ?_
                rintro e w' ⟨⟨k9, A9, n9, c9, K9, m9, d9⟩, rfl, h1, h2⟩
                exact ⟨k9, A9, n9, c9, K9, m9, d9, _, rfl, rfl, h1, h2⟩
              have HXN : Hid (c = 1 → ∀ L', Reads w b0 L' (stepCells r)) := fun h L' => by
                have hr : r = [] := List.eq_nil_of_length_eq_zero (by have := HRL.out; omega)
                subst hr
                exact Reads.nilAny
              by_cases hc1 : c = 1
              · go_wp2_with fail
                refine (HIH.out _ _ w1 (HXN.out hc1 _) (by omega) (by omega) hbe1).mono ?_
                rintro e w9 ⟨k9, A9, n9, c9', K9, m9, d9, b9, rfl, hb9e, hT9, hb9⟩
                have hs9 := hb9.size
                have hB29 := hB2'.below hb9 hB2'.lt
                have hbe9 : Below w.heap.size w w9 := hbe1.trans (hb9.mono hbe1.size)
                clear q0 q1 q2 o0 o1 o2 p0 p1 p2
                obtain ⟨q0, q1, q2⟩ := res3 hB29 (.int .i64 k9) (.slice A9 n9 c9') (.slice K9 m9 d9)
                have hfin := hide (res_fin (w := w) (g := w.heap.size + 1) (.int .i64 k9) (.slice A9 n9 c9') (.slice K9 m9 d9) hT9 (fun b hb => ⟨by have := hb.1; have := HSZ1.out; omega, hb.2, by have := hb.1; have := HSZ1.out; omega⟩) hbe9 (by omega))
                have o0 := hB29.cell 0
                have o1 := hB29.cell 1
                have o2 := hB29.cell 2
                have p0 := hB29.frozen 0
                have p1 := hB29.frozen 1
                have p2 := hB29.frozen 2
                simp at o0 o1 o2
                clear hT9 hs9
                go_wp2_with fail
                (try simp only [Exit.inBlock, Exit.then])
                refine bodyPost_ret (by simp [results, Try.results9, go_sem, q0, q1, q2]; try rfl) rfl ?_
                rw [HRES.out]
                exact ⟨⟨k9, A9, n9, c9', K9, m9, d9⟩, by first | rfl | (rw [hb9e]; rfl), by simpa only [World.size_setCell] using hfin.out.1, hfin.out.2⟩
              · go_wp2_with fail
                refine (HIH.out _ _ w1 (HX1.out hc1) (by omega) (by omega) hbe1).mono ?_
                rintro e w9 ⟨k9, A9, n9, c9', K9, m9, d9, b9, rfl, hb9e, hT9, hb9⟩
                have hs9 := hb9.size
                have hB29 := hB2'.below hb9 hB2'.lt
                have hbe9 : Below w.heap.size w w9 := hbe1.trans (hb9.mono hbe1.size)
                clear q0 q1 q2 o0 o1 o2 p0 p1 p2
                obtain ⟨q0, q1, q2⟩ := res3 hB29 (.int .i64 k9) (.slice A9 n9 c9') (.slice K9 m9 d9)
                have hfin := hide (res_fin (w := w) (g := w.heap.size + 1) (.int .i64 k9) (.slice A9 n9 c9') (.slice K9 m9 d9) hT9 (fun b hb => ⟨by have := hb.1; have := HSZ1.out; omega, hb.2, by have := hb.1; have := HSZ1.out; omega⟩) hbe9 (by omega))
                have o0 := hB29.cell 0
                have o1 := hB29.cell 1
                have o2 := hB29.cell 2
                have p0 := hB29.frozen 0
                have p1 := hB29.frozen 1
                have p2 := hB29.frozen 2
                simp at o0 o1 o2
                clear hT9 hs9
                go_wp2_with fail
                (try simp only [Exit.inBlock, Exit.then])
                refine bodyPost_ret (by simp [results, Try.results9, go_sem, q0, q1, q2]; try rfl) rfl ?_
                rw [HRES.out]
                exact ⟨⟨k9, A9, n9, c9', K9, m9, d9⟩, by first | rfl | (rw [hb9e]; rfl), by simpa only [World.size_setCell] using hfin.out.1, hfin.out.2⟩
          · skip
            by_cases d1 : k1 = 1
            · have f0 : (k1 == 0) = false := by simp; omega
              have f1 : (k1 == 1) = true := by simp; omega
              have f2 : (k1 == 2) = false := by simp; omega
              replace d1 := hide d1
              by_cases dn : n = 1
              · have fn1 : ((n : Int) == 1) = true := by simp; omega
                replace dn := hide dn
                by_cases cw : a1 < (n' : Int)
                · have gw : decide (a1 < (n' : Int)) = true := by simp; omega
                  obtain ⟨j, rfl⟩ := Int.eq_ofNat_of_zero_le (show 0 ≤ a1 by omega)
                  have HWI : Hid (∃ b o, A' = some ⟨b, o, none⟩ ∧ b < w.heap.size ∧ w.cell? ⟨b, o + j, none⟩ = some (.int .u64 (wordT t j))) := by
                    obtain ⟨kk, ww, ks⟩ := t
                    have hj : j < ww.length := by have := HML.out.2; simp only [T.ws] at this; omega
                    obtain ⟨b, o, e1, hb, hc⟩ := HT.out.words.at hj
                    have hwt : wordT (.node kk ww ks) j = ww[j] := by unfold wordT; rw [if_pos (by omega)]; simp [T.ws, hj]
                    rw [hwt]
                    exact ⟨b, o, e1, HS.out b hb, hc⟩
                  have hxb := wordT_bd HT.out (j : Int)
                  obtain ⟨bw, ow, rfl, hbw, z0⟩ := HWI.out
                  clear HWI
                  by_cases hx : wordT t j = 0
                  · have HRES : Hid (getP t ((k1, (j : Int)) :: r) = (.node 1 [] [], true)) := by
                      show _ = _
                      have hnw := norm_word (wordT t (j : Int))
                      rw [hx, if_pos rfl] at hnw
                      rw [getP]
                      (try simp only [hnw])
                      (try have ck2 := Hid.out ck)
                      (try have dn2 := Hid.out dn)
                      (try have d02 := Hid.out d0)
                      (try have d12 := Hid.out d1)
                      (try have d22 := Hid.out d2)
                      (repeat' split) <;> first | rfl | (exfalso; have := HKD.out; have := HML.out; have := HRL.out; have := HR2.out; have := HR3.out; simp_all; done) | (exfalso; have := HKD.out; have := HML.out; have := HRL.out; have := HR2.out; have := HR3.out; simp_all; omega) | (have := HKD.out; have := HML.out; have := HRL.out; have := HR2.out; have := HR3.out; simp_all; done) | (have := HKD.out; have := HML.out; have := HRL.out; have := HR2.out; have := HR3.out; simp_all; omega)

                    rw [hx] at z0
                    clear hx hxb
                    go_upto_region 16 with fail
                    have hB8 := Blk.new w1 25 #[.int .i64 1, .slice none 0 0, .slice none 0 0]
                    have hB1a := hB1'.alloc (.cells #[.int .i64 1, .slice none 0 0, .slice none 0 0] 25)
                    have hB2a := hB2'.alloc (.cells #[.int .i64 1, .slice none 0 0, .slice none 0 0] 25)
                    have hB3a := (Blk.alloc (t := 41) hB3 (.cells #[.int .i64 1, .slice none 0 0, .slice none 0 0] 25))
                    have hbe8 : Below w.heap.size w (w1.alloc (.cells #[.int .i64 1, .slice none 0 0, .slice none 0 0] 25)) := hbe1.alloc hbe1.size _
                    have HSZ8 : Hid ((w1.alloc (.cells #[.int .i64 1, .slice none 0 0, .slice none 0 0] 25)).heap.size = w1.heap.size + 1) := by show _ = _; simp
                    have HT8 : Hid (TreeAt (w1.alloc (.cells #[.int .i64 1, .slice none 0 0, .slice none 0 0] 25)) S t ⟨k', some ⟨bw, ow, none⟩, n', c', K', m', d'⟩) := HT.out.bel hbe8 HS.out
                    generalize (w1.alloc (.cells #[.int .i64 1, .slice none 0 0, .slice none 0 0] 25)) = w8 at *
                    have HG8 : Hid (w1.heap.size = w.heap.size + 3) := HSZ1.out
                    generalize w1.heap.size = g8 at *
                    clear e0 e1 t0 t1 t2 o0 o1 o2 p0 p1 p2 q0 q1 q2
                    have e1 := hB3a.cell 1
                    have t1 := hB1a.cell 1
                    have o0 := hB2a.cell 0
                    have o1 := hB2a.cell 1
                    have o2 := hB2a.cell 2
                    have p0 := hB2a.frozen 0
                    have p1 := hB2a.frozen 1
                    have p2 := hB2a.frozen 2
                    have u0 := hB8.cell 0
                    have u1 := hB8.cell 1
                    have u2 := hB8.cell 2
                    have v1 := hB8.frozen 1
                    simp at e1 t1 o0 o1 o2 u0 u1 u2
                    have y0 := (hbe8.cell (p := ⟨bw, ow + j, none⟩) hbw).trans z0
                    clear z0
                    obtain ⟨q0, q1, q2⟩ := res3 hB2a (.int .i64 1) (.slice none 0 0) (.slice none 0 0)
                    have hfin := hide (res_fin (w := w) (g := w.heap.size + 1) (S := fun _ => False) (.int .i64 1) (.slice none 0 0) (.slice none 0 0) (tree_plain (w := w8) 1) (fun _ h => h.elim) hbe8 (by omega))
                    go_wp2_with fail
                    (try simp only [Exit.inBlock, Exit.then])
                    refine bodyPost_ret (by simp [results, Try.results9, go_sem, q0, q1, q2]; try rfl) rfl ?_
                    rw [HRES.out]
                    exact ⟨⟨1, none, 0, 0, none, 0, 0⟩, rfl, by simpa only [World.size_setCell] using hfin.out.1, hfin.out.2⟩
                  · have HRES : Hid (getP t ((k1, (j : Int)) :: r) = (.node 1 [wordT t (j : Int)] [], true)) := by
                      show _ = _
                      have hnw := norm_word (wordT t (j : Int))
                      rw [if_neg hx] at hnw
                      rw [getP]
                      (try simp only [hnw])
                      (try have ck2 := Hid.out ck)
                      (try have dn2 := Hid.out dn)
                      (try have d02 := Hid.out d0)
                      (try have d12 := Hid.out d1)
                      (try have d22 := Hid.out d2)
                      (repeat' split) <;> first | rfl | (exfalso; have := HKD.out; have := HML.out; have := HRL.out; have := HR2.out; have := HR3.out; simp_all; done) | (exfalso; have := HKD.out; have := HML.out; have := HRL.out; have := HR2.out; have := HR3.out; simp_all; omega) | (have := HKD.out; have := HML.out; have := HRL.out; have := HR2.out; have := HR3.out; simp_all; done) | (have := HKD.out; have := HML.out; have := HRL.out; have := HR2.out; have := HR3.out; simp_all; omega)

                    have fx : (wordT t j != 0) = true := by simpa using hx
                    generalize wordT t (j : Int) = x at *
                    go_upto_region 16 with fail
                    have hB8 := Blk.new w1 25 #[.int .i64 1, .slice none 0 0, .slice none 0 0]
                    have hB1a := hB1'.alloc (.cells #[.int .i64 1, .slice none 0 0, .slice none 0 0] 25)
                    have hB2a := hB2'.alloc (.cells #[.int .i64 1, .slice none 0 0, .slice none 0 0] 25)
                    have hB3a := (Blk.alloc (t := 41) hB3 (.cells #[.int .i64 1, .slice none 0 0, .slice none 0 0] 25))
                    have hbe8 : Below w.heap.size w (w1.alloc (.cells #[.int .i64 1, .slice none 0 0, .slice none 0 0] 25)) := hbe1.alloc hbe1.size _
                    have HSZ8 : Hid ((w1.alloc (.cells #[.int .i64 1, .slice none 0 0, .slice none 0 0] 25)).heap.size = w1.heap.size + 1) := by show _ = _; simp
                    have HT8 : Hid (TreeAt (w1.alloc (.cells #[.int .i64 1, .slice none 0 0, .slice none 0 0] 25)) S t ⟨k', some ⟨bw, ow, none⟩, n', c', K', m', d'⟩) := HT.out.bel hbe8 HS.out
                    generalize (w1.alloc (.cells #[.int .i64 1, .slice none 0 0, .slice none 0 0] 25)) = w8 at *
                    have HG8 : Hid (w1.heap.size = w.heap.size + 3) := HSZ1.out
                    generalize w1.heap.size = g8 at *
                    clear e0 e1 t0 t1 t2 o0 o1 o2 p0 p1 p2 q0 q1 q2
                    have e1 := hB3a.cell 1
                    have t1 := hB1a.cell 1
                    have o0 := hB2a.cell 0
                    have o1 := hB2a.cell 1
                    have o2 := hB2a.cell 2
                    have p0 := hB2a.frozen 0
                    have p1 := hB2a.frozen 1
                    have p2 := hB2a.frozen 2
                    have u0 := hB8.cell 0
                    have u1 := hB8.cell 1
                    have u2 := hB8.cell 2
                    have v1 := hB8.frozen 1
                    simp at e1 t1 o0 o1 o2 u0 u1 u2
                    have y0 := (hbe8.cell (p := ⟨bw, ow + j, none⟩) hbw).trans z0
                    clear z0
                    have hB8x := hB8.alloc (.cells #[.int .u64 x] 38)
                    have ux1 := hB8x.cell 1
                    have vx1 := hB8x.frozen 1
                    have lx8 := hB8.lt
                    (try simp at ux1)
                    clear hx
                    go_upto_region 18 with fail
                    clear ux1 vx1 lx8
                    have hB8n := (hB8.set_ 1 (.slice (some ⟨w8.heap.size, 0, none⟩) 1 1)).alloc (.cells #[.int .u64 x] 38)
                    have hg48 : w.heap.size + 1 ≠ g8 := by have := HG8.out; omega
                    have hB2n := (hB2a.far (p := ⟨g8, 1, none⟩) hg48 (.slice (some ⟨w8.heap.size, 0, none⟩) 1 1)).alloc (.cells #[.int .u64 x] 38)
                    have hBXn := Blk.new (w8.setCell ⟨g8, 1, none⟩ (.slice (some ⟨w8.heap.size, 0, none⟩) 1 1)) 38 #[.int .u64 x]
                    rw [World.size_setCell] at hBXn
                    have hbn : Below w.heap.size w ((w8.setCell ⟨g8, 1, none⟩ (.slice (some ⟨w8.heap.size, 0, none⟩) 1 1)).alloc (.cells #[.int .u64 x] 38)) := (hbe8.setCell (by show w.heap.size ≤ g8; have := HG8.out; omega) _).alloc (by rw [World.size_setCell]; exact hbe8.size) _
                    have HSN : Hid (((w8.setCell ⟨g8, 1, none⟩ (.slice (some ⟨w8.heap.size, 0, none⟩) 1 1)).alloc (.cells #[.int .u64 x] 38)).heap.size = w8.heap.size + 1) := by show _ = _; rw [World.size_alloc, World.size_setCell]
                    generalize ((w8.setCell ⟨g8, 1, none⟩ (.slice (some ⟨w8.heap.size, 0, none⟩) 1 1)).alloc (.cells #[.int .u64 x] 38)) = w9 at *
                    clear e1 t1 o0 o1 o2 p0 p1 p2 u0 u1 u2 v1
                    have u0 := hB8n.cell 0
                    have u1 := hB8n.cell 1
                    have u2 := hB8n.cell 2
                    have o0 := hB2n.cell 0
                    have o1 := hB2n.cell 1
                    have o2 := hB2n.cell 2
                    have p0 := hB2n.frozen 0
                    have p1 := hB2n.frozen 1
                    have p2 := hB2n.frozen 2
                    simp at u0 u1 u2 o0 o1 o2
                    have hTn : TreeAt w9 (fun b => b = w8.heap.size) (.node 1 [x] []) ⟨1, some ⟨w8.heap.size, 0, none⟩, 1, 1, none, 0, 0⟩ :=
                      TreeAt.of ⟨rfl, Nat.le_refl _, by decide, by simp, fun h => (by cases h), fun j u hu => ⟨w8.heap.size, 0, rfl, rfl, by rw [Nat.zero_add, hBXn.cell]; simpa using hu⟩, fun y hy => by rw [List.mem_singleton.1 hy]; exact hxb⟩ KidsAt.none_
                    obtain ⟨q0, q1, q2⟩ := res3 hB2n (.int .i64 1) (.slice (some ⟨w8.heap.size, 0, none⟩) 1 1) (.slice none 0 0)
                    have hfin := hide (res_fin (w := w) (g := w.heap.size + 1) (.int .i64 1) (.slice (some ⟨w8.heap.size, 0, none⟩) 1 1) (.slice none 0 0) hTn (fun b hb => by have h1 : b = w8.heap.size := hb; have := HG8.out; have := HSZ8.out; have := HSN.out; omega) hbn (by omega))
                    clear hTn hg48
                    go_wp2_with fail
                    (try simp only [Exit.inBlock, Exit.then])
                    refine bodyPost_ret (by simp [results, Try.results9, go_sem, q0, q1, q2]; try rfl) rfl ?_
                    rw [HRES.out]
                    exact ⟨⟨1, some ⟨w8.heap.size, 0, none⟩, 1, 1, none, 0, 0⟩, rfl, by simpa only [World.size_setCell] using hfin.out.1, hfin.out.2⟩
                · have gw : decide (a1 < (n' : Int)) = false := by simp; omega
                  have HRES : Hid (getP t ((k1, a1) :: r) = (.node 1 [] [], true)) := by
                    show _ = _
                    have hnw := norm_word (wordT t a1)
                    have hwt : wordT t a1 = 0 := by unfold wordT; rw [if_pos (by omega), List.getD_eq_getElem?_getD, List.getElem?_eq_none (by have := HML.out.2; omega)]; rfl
                    have hnw : norm (.node 1 [wordT t a1] []) = .node 1 [] [] := by rw [hwt]; exact norm_word 0
                    clear hwt
                    rw [getP]
                    (try simp only [hnw])
                    (try have ck2 := Hid.out ck)
                    (try have dn2 := Hid.out dn)
                    (try have d02 := Hid.out d0)
                    (try have d12 := Hid.out d1)
                    (try have d22 := Hid.out d2)
                    (repeat' split) <;> first | rfl | (exfalso; have := HKD.out; have := HML.out; have := HRL.out; have := HR2.out; have := HR3.out; simp_all; done) | (exfalso; have := HKD.out; have := HML.out; have := HRL.out; have := HR2.out; have := HR3.out; simp_all; omega) | (have := HKD.out; have := HML.out; have := HRL.out; have := HR2.out; have := HR3.out; simp_all; done) | (have := HKD.out; have := HML.out; have := HRL.out; have := HR2.out; have := HR3.out; simp_all; omega)
                  go_upto_region 16 with fail
                  have hB8 := Blk.new w1 25 #[.int .i64 1, .slice none 0 0, .slice none 0 0]
                  have hB1a := hB1'.alloc (.cells #[.int .i64 1, .slice none 0 0, .slice none 0 0] 25)
                  have hB2a := hB2'.alloc (.cells #[.int .i64 1, .slice none 0 0, .slice none 0 0] 25)
                  have hB3a := (Blk.alloc (t := 41) hB3 (.cells #[.int .i64 1, .slice none 0 0, .slice none 0 0] 25))
                  have hbe8 : Below w.heap.size w (w1.alloc (.cells #[.int .i64 1, .slice none 0 0, .slice none 0 0] 25)) := hbe1.alloc hbe1.size _
                  have HSZ8 : Hid ((w1.alloc (.cells #[.int .i64 1, .slice none 0 0, .slice none 0 0] 25)).heap.size = w1.heap.size + 1) := by show _ = _; simp
                  have HT8 : Hid (TreeAt (w1.alloc (.cells #[.int .i64 1, .slice none 0 0, .slice none 0 0] 25)) S t ⟨k', A', n', c', K', m', d'⟩) := HT.out.bel hbe8 HS.out
                  generalize (w1.alloc (.cells #[.int .i64 1, .slice none 0 0, .slice none 0 0] 25)) = w8 at *
                  have HG8 : Hid (w1.heap.size = w.heap.size + 3) := HSZ1.out
                  generalize w1.heap.size = g8 at *
                  clear e0 e1 t0 t1 t2 o0 o1 o2 p0 p1 p2 q0 q1 q2
                  have e1 := hB3a.cell 1
                  have t1 := hB1a.cell 1
                  have o0 := hB2a.cell 0
                  have o1 := hB2a.cell 1
                  have o2 := hB2a.cell 2
                  have p0 := hB2a.frozen 0
                  have p1 := hB2a.frozen 1
                  have p2 := hB2a.frozen 2
                  have u0 := hB8.cell 0
                  have u1 := hB8.cell 1
                  have u2 := hB8.cell 2
                  have v1 := hB8.frozen 1
                  simp at e1 t1 o0 o1 o2 u0 u1 u2
                  obtain ⟨q0, q1, q2⟩ := res3 hB2a (.int .i64 1) (.slice none 0 0) (.slice none 0 0)
                  have hfin := hide (res_fin (w := w) (g := w.heap.size + 1) (S := fun _ => False) (.int .i64 1) (.slice none 0 0) (.slice none 0 0) (tree_plain (w := w8) 1) (fun _ h => h.elim) hbe8 (by omega))
                  go_wp2_with fail
                  (try simp only [Exit.inBlock, Exit.then])
                  refine bodyPost_ret (by simp [results, Try.results9, go_sem, q0, q1, q2]; try rfl) rfl ?_
                  rw [HRES.out]
                  exact ⟨⟨1, none, 0, 0, none, 0, 0⟩, rfl, by simpa only [World.size_setCell] using hfin.out.1, hfin.out.2⟩
              · have fn1 : ((n : Int) == 1) = false := by simp; omega
                go_wp2_with fail
                (try simp only [Exit.inBlock, Exit.then])
                refine bodyPost_ret (by simp [results, Try.results9, go_sem, q0, q1, q2]; try rfl) rfl ?_
                refine HDEF.out ?_
                rw [getP]
                (try have ck2 := Hid.out ck)
                (try have dn2 := Hid.out dn)
                (try have d02 := Hid.out d0)
                (try have d12 := Hid.out d1)
                (try have d22 := Hid.out d2)
                (repeat' split) <;> first | rfl | (exfalso; have := HKD.out; have := HML.out; have := HRL.out; have := HR2.out; have := HR3.out; simp_all; done) | (exfalso; have := HKD.out; have := HML.out; have := HRL.out; have := HR2.out; have := HR3.out; simp_all; omega) | (have := HKD.out; have := HML.out; have := HRL.out; have := HR2.out; have := HR3.out; simp_all; done) | (have := HKD.out; have := HML.out; have := HRL.out; have := HR2.out; have := HR3.out; simp_all; omega)
            · skip
              by_cases d2 : k1 = 2
              · have f0 : (k1 == 0) = false := by simp; omega
                have f1 : (k1 == 1) = false := by simp; omega
                have f2 : (k1 == 2) = true := by simp; omega
                replace d2 := hide d2
                by_cases dn : n = 1
                · have fn1 : ((n : Int) == 1) = true := by simp; omega
                  replace dn := hide dn
                  go_wp2_with fail
                  (try simp only [Exit.inBlock, Exit.then])
                  refine bodyPost_ret (by simp [results, Try.results9, go_sem, q0, q1, q2]; try rfl) rfl ?_
                  refine HDEF.out ?_
                  rw [getP]
                  (try have ck2 := Hid.out ck)
                  (try have dn2 := Hid.out dn)
                  (try have d02 := Hid.out d0)
                  (try have d12 := Hid.out d1)
                  (try have d22 := Hid.out d2)
                  (repeat' split) <;> first | rfl | (exfalso; have := HKD.out; have := HML.out; have := HRL.out; have := HR2.out; have := HR3.out; simp_all; done) | (exfalso; have := HKD.out; have := HML.out; have := HRL.out; have := HR2.out; have := HR3.out; simp_all; omega) | (have := HKD.out; have := HML.out; have := HRL.out; have := HR2.out; have := HR3.out; simp_all; done) | (have := HKD.out; have := HML.out; have := HRL.out; have := HR2.out; have := HR3.out; simp_all; omega)
                · have fn1 : ((n : Int) == 1) = false := by simp; omega
                  go_wp2_with fail
                  (try simp only [Exit.inBlock, Exit.then])
                  refine bodyPost_ret (by simp [results, Try.results9, go_sem, q0, q1, q2]; try rfl) rfl ?_
                  refine HDEF.out ?_
                  rw [getP]
                  (try have ck2 := Hid.out ck)
                  (try have dn2 := Hid.out dn)
                  (try have d02 := Hid.out d0)
                  (try have d12 := Hid.out d1)
                  (try have d22 := Hid.out d2)
                  (repeat' split) <;> first | rfl | (exfalso; have := HKD.out; have := HML.out; have := HRL.out; have := HR2.out; have := HR3.out; simp_all; done) | (exfalso; have := HKD.out; have := HML.out; have := HRL.out; have := HR2.out; have := HR3.out; simp_all; omega) | (have := HKD.out; have := HML.out; have := HRL.out; have := HR2.out; have := HR3.out; simp_all; done) | (have := HKD.out; have := HML.out; have := HRL.out; have := HR2.out; have := HR3.out; simp_all; omega)
              · have f0 : (k1 == 0) = false := by simp; omega
                have f1 : (k1 == 1) = false := by simp; omega
                have f2 : (k1 == 2) = false := by simp; omega
                go_wp2_with fail
                (try simp only [Exit.inBlock, Exit.then])
                refine bodyPost_ret (by simp [results, Try.results9, go_sem, q0, q1, q2]; try rfl) rfl ?_
                refine HDEF.out ?_
                rw [getP]
                (try have ck2 := Hid.out ck)
                (try have dn2 := Hid.out dn)
                (try have d02 := Hid.out d0)
                (try have d12 := Hid.out d1)
                (try have d22 := Hid.out d2)
                (repeat' split) <;> first | rfl | (exfalso; have := HKD.out; have := HML.out; have := HRL.out; have := HR2.out; have := HR3.out; simp_all; done) | (exfalso; have := HKD.out; have := HML.out; have := HRL.out; have := HR2.out; have := HR3.out; simp_all; omega) | (have := HKD.out; have := HML.out; have := HRL.out; have := HR2.out; have := HR3.out; simp_all; done) | (have := HKD.out; have := HML.out; have := HRL.out; have := HR2.out; have := HR3.out; simp_all; omega)
        · have g65 : decide (65535 ≤ a1) = true := by simp; omega
          go_wp2_with fail
          (try simp only [Exit.inBlock, Exit.then])
          refine bodyPost_ret (by simp [results, Try.results9, go_sem, q0, q1, q2]; try rfl) rfl ?_
          refine HDEF.out ?_
          rw [getP]
          (try have ck2 := Hid.out ck)
          (try have dn2 := Hid.out dn)
          (try have d02 := Hid.out d0)
          (try have d12 := Hid.out d1)
          (try have d22 := Hid.out d2)
          (repeat' split) <;> first | rfl | (exfalso; have := HKD.out; have := HML.out; have := HRL.out; have := HR2.out; have := HR3.out; simp_all; done) | (exfalso; have := HKD.out; have := HML.out; have := HRL.out; have := HR2.out; have := HR3.out; simp_all; omega) | (have := HKD.out; have := HML.out; have := HRL.out; have := HR2.out; have := HR3.out; simp_all; done) | (have := HKD.out; have := HML.out; have := HRL.out; have := HR2.out; have := HR3.out; simp_all; omega)
      · have fk : (k' == 1) = false := by simp; omega
        by_cases c2 : 2 ≤ k'
        · have g2 : decide (2 ≤ k') = true := by simp; omega
          by_cases c9 : k' ≤ 9
          · have g9 : decide (k' ≤ 9) = true := by simp; omega
            have hli : isList k' = true := by unfold isList; rw [g2, g9]; rfl
            by_cases d0 : k1 = 0
            · have f0 : (k1 == 0) = true := by simp; omega
              have f1 : (k1 == 1) = false := by simp; omega
              have f2 : (k1 == 2) = false := by simp; omega
              replace d0 := hide d0
              by_cases cm : a1 < (m' : Int)
              · have gm : decide (a1 < (m' : Int)) = true := by simp; omega
                have HRES : Hid (getP t ((k1, a1) :: r) = getP (kidT t a1) r) := by
                  show _ = _
                  rw [getP]
                  (try have ck2 := Hid.out ck)
                  (try have dn2 := Hid.out dn)
                  (try have d02 := Hid.out d0)
                  (try have d12 := Hid.out d1)
                  (try have d22 := Hid.out d2)
                  (repeat' split) <;> first | rfl | (exfalso; have := HKD.out; have := HML.out; have := HRL.out; have := HR2.out; have := HR3.out; simp_all; done) | (exfalso; have := HKD.out; have := HML.out; have := HRL.out; have := HR2.out; have := HR3.out; simp_all; omega) | (have := HKD.out; have := HML.out; have := HRL.out; have := HR2.out; have := HR3.out; simp_all; done) | (have := HKD.out; have := HML.out; have := HRL.out; have := HR2.out; have := HR3.out; simp_all; omega)
                obtain ⟨j, rfl⟩ := Int.eq_ofNat_of_zero_le (show 0 ≤ a1 by omega)
                have HKI : Hid (∃ b o k2 A2 n2 c2 K2 m2 d2, K' = some ⟨b, o, none⟩ ∧ b < w.heap.size ∧ w.cell? ⟨b, o + j * 3, none⟩ = some (.int .i64 k2) ∧ w.cell? ⟨b, o + j * 3 + 1, none⟩ = some (.slice A2 n2 c2) ∧ w.cell? ⟨b, o + j * 3 + 2, none⟩ = some (.slice K2 m2 d2) ∧ TreeAt w S (kidT t j) ⟨k2, A2, n2, c2, K2, m2, d2⟩) := by
                  clear HRES
                  obtain ⟨kk, ww, ks⟩ := t
                  obtain ⟨_, h⟩ := HT.out.kids
                  have hj : j < ks.length := by have := HML.out.1; simp only [T.ks] at this; omega
                  obtain ⟨b, o, v, e1, hb, h1, h2, h3, h4⟩ := h.at hj
                  have hkt : kidT (.node kk ww ks) j = ks[j] := by unfold kidT; rw [if_pos (by omega)]; simp [T.ks, hj]
                  rw [hkt]
                  exact ⟨b, o, v.k, v.A, v.n, v.c, v.K, v.m, v.d, e1, HS.out b hb, h1, h2, h3, h4⟩
                obtain ⟨bk, ok, k2, A2, n2, c2, K2, m2, d2, rfl, hbk, y0, y1, y2, hT2⟩ := HKI.out
                have HIH : Hid (∀ (L' : Option Addr) (c'' : Nat) (W : World), Reads w b0 L' (stepCells r) → n - 1 ≤ c'' → c'' ≤ 9223372036854775807 → Below w.heap.size w W → Calls Try.prog 9 #[.agg #[.int .i64 k2, .slice A2 n2 c2, .slice K2 m2 d2], .slice L' (n - 1) c''] W fun e w' => ∃ k9 A9 n9 c9 K9 m9 d9 b9, e = .returned (.tuple #[.agg #[.int .i64 k9, .slice A9 n9 c9, .slice K9 m9 d9], .bool b9]) ∧ b9 = (getP (kidT t (j : Int)) r).2 ∧ TreeAt w' (fun b => W.heap.size ≤ b ∧ b < w'.heap.size) (getP (kidT t (j : Int)) r).1 ⟨k9, A9, n9, c9, K9, m9, d9⟩ ∧ Below W.heap.size W w') := fun L' c'' W h1 h2 h3 hW => by
                  refine (ih (kidT t (j : Int)) ⟨k2, A2, n2, c2, K2, m2, d2⟩ S L' (n - 1) c'' b0 W (HR.out.kid _) (hT2.keep (fun p hp => hW.cell (HS.out _ hp))) (fun b hb => Nat.lt_of_lt_of_le (HS.out b hb) hW.size) (by have := HRL.out; omega) (h1.below hW hb0) (Nat.le_trans hb0 hW.size) h2 (by unfold maxLen; exact h3)).mono ?_
                  rintro e w' ⟨⟨k9, A9, n9, c9, K9, m9, d9⟩, rfl, h1, h2⟩
                  exact ⟨k9, A9, n9, c9, K9, m9, d9, _, rfl, rfl, h1, h2⟩
                clear hT2 HKI
                have gB1 := hB1'.lt
                have gB3 := hB3.lt
                have HF : Hid (∀ W, Only [w.heap.size + 1] w1 W → W.cell? ⟨w.heap.size, 2, none⟩ = some (.slice (some ⟨bk, ok, none⟩) m' d') ∧ W.cell? ⟨g6, 1, none⟩ = some (.int .i64 (j : Int)) ∧ W.cell? ⟨bk, ok + j * 3, none⟩ = some (.int .i64 k2) ∧ W.cell? ⟨bk, ok + j * 3 + 1, none⟩ = some (.slice A2 n2 c2) ∧ W.cell? ⟨bk, ok + j * 3 + 2, none⟩ = some (.slice K2 m2 d2)) := fun W hW => by
                  have hg6 := HG6.out
                  have hs1 := hbe1.size
                  refine ⟨(hW.cell gB1 (by simp)).trans t2, (hW.cell gB3 (by simp; omega)).trans e1, ?_, ?_, ?_⟩
                  · exact (hW.cell (by omega) (by simp; omega)).trans ((hbe1.cell (p := ⟨bk, ok + j * 3, none⟩) hbk).trans y0)
                  · exact (hW.cell (by omega) (by simp; omega)).trans ((hbe1.cell (p := ⟨bk, ok + j * 3 + 1, none⟩) hbk).trans y1)
                  · exact (hW.cell (by omega) (by simp; omega)).trans ((hbe1.cell (p := ⟨bk, ok + j * 3 + 2, none⟩) hbk).trans y2)
                clear y0 y1 y2
                have hcur : Only [w.heap.size + 1] w1 w1.drew := (Only.refl _ _).drew
                have hbd : Below w.heap.size w w1.drew := hbe1.drew
                have z1 : (1 : Int) ≤ (n : Int) := by omega
                have z2 : (n : Int) ≤ (c : Int) := by omega
                have z3 : (0 : Int) ≤ (j : Int) := by omega
                have HXN : Hid (c = 1 → ∀ L', Reads w b0 L' (stepCells r)) := fun h L' => by
                  have hr : r = [] := List.eq_nil_of_length_eq_zero (by have := HRL.out; omega)
                  subst hr
                  exact Reads.nilAny
                by_cases hc1 : c = 1
                · skip
                  go_wp2_with fail
                  go_region_held3 (fun w' => w'.cell? ⟨w.heap.size, 2, none⟩ = some (.slice (some ⟨bk, ok, none⟩) m' d') ∧ w'.cell? ⟨g6, 1, none⟩ = some (.int .i64 (j : Int)) ∧ w'.cell? ⟨bk, ok + j * 3, none⟩ = some (.int .i64 k2) ∧ w'.cell? ⟨bk, ok + j * 3 + 1, none⟩ = some (.slice A2 n2 c2) ∧ w'.cell? ⟨bk, ok + j * 3 + 2, none⟩ = some (.slice K2 m2 d2))
                    (first | exact HF.out _ hcur | exact HF.out _ (((hcur.setCell (by simp) _).setCell (by simp) _).setCell (by simp) _))
                    ((go_at_call 9; (refine (HIH.out _ _ w1.drew (HXN.out hc1 _) (by omega) (by omega) hbd).mono ?_; rintro e w9 ⟨k9, A9, n9, c9', K9, m9, d9, b9, rfl, hb9e, hT9, hb9⟩; have hcur := hcur.trans (Only.of_below hb9); have hb9 : Below w1.heap.size w1 w9 := (Below.refl _ _).drew.trans hb9; have hT9 : TreeAt w9 (fun b => w1.heap.size ≤ b ∧ b < w9.heap.size) (getP (kidT t (j : Int)) r).1 ⟨k9, A9, n9, c9', K9, m9, d9⟩ := hT9; have hs9 := hb9.size; have hB29 := hB2'.below hb9 hB2'.lt; have hbe9 : Below w.heap.size w w9 := hbe1.trans (hb9.mono hbe1.size); clear q0 q1 q2 o0 o1 o2 p0 p1 p2; obtain ⟨q0, q1, q2⟩ := res3 hB29 (.int .i64 k9) (.slice A9 n9 c9') (.slice K9 m9 d9); have hfin := hide (res_fin (w := w) (g := w.heap.size + 1) (.int .i64 k9) (.slice A9 n9 c9') (.slice K9 m9 d9) hT9 (fun b hb => ⟨by have := hb.1; have := HSZ1.out; omega, hb.2, by have := hb.1; have := HSZ1.out; omega⟩) hbe9 (by omega)); have o0 := hB29.cell 0; have o1 := hB29.cell 1; have o2 := hB29.cell 2; have p0 := hB29.frozen 0; have p1 := hB29.frozen 1; have p2 := hB29.frozen 2; simp at o0 o1 o2; clear hT9 hs9)))
                  go_wp2_with fail
                  (try simp only [Exit.inBlock, Exit.then])
                  refine bodyPost_ret (by simp [results, Try.results9, go_sem, q0, q1, q2]; try rfl) rfl ?_
                  rw [HRES.out]
                  exact ⟨⟨k9, A9, n9, c9', K9, m9, d9⟩, by first | rfl | (rw [hb9e]; rfl), by simpa only [World.size_setCell] using hfin.out.1, hfin.out.2⟩
                · skip
                  go_wp2_with fail
                  go_region_held3 (fun w' => w'.cell? ⟨w.heap.size, 2, none⟩ = some (.slice (some ⟨bk, ok, none⟩) m' d') ∧ w'.cell? ⟨g6, 1, none⟩ = some (.int .i64 (j : Int)) ∧ w'.cell? ⟨bk, ok + j * 3, none⟩ = some (.int .i64 k2) ∧ w'.cell? ⟨bk, ok + j * 3 + 1, none⟩ = some (.slice A2 n2 c2) ∧ w'.cell? ⟨bk, ok + j * 3 + 2, none⟩ = some (.slice K2 m2 d2))
                    (first | exact HF.out _ hcur | exact HF.out _ (((hcur.setCell (by simp) _).setCell (by simp) _).setCell (by simp) _))
                    ((go_at_call 9; (refine (HIH.out _ _ w1.drew (HX1.out hc1) (by omega) (by omega) hbd).mono ?_; rintro e w9 ⟨k9, A9, n9, c9', K9, m9, d9, b9, rfl, hb9e, hT9, hb9⟩; have hcur := hcur.trans (Only.of_below hb9); have hb9 : Below w1.heap.size w1 w9 := (Below.refl _ _).drew.trans hb9; have hT9 : TreeAt w9 (fun b => w1.heap.size ≤ b ∧ b < w9.heap.size) (getP (kidT t (j : Int)) r).1 ⟨k9, A9, n9, c9', K9, m9, d9⟩ := hT9; have hs9 := hb9.size; have hB29 := hB2'.below hb9 hB2'.lt; have hbe9 : Below w.heap.size w w9 := hbe1.trans (hb9.mono hbe1.size); clear q0 q1 q2 o0 o1 o2 p0 p1 p2; obtain ⟨q0, q1, q2⟩ := res3 hB29 (.int .i64 k9) (.slice A9 n9 c9') (.slice K9 m9 d9); have hfin := hide (res_fin (w := w) (g := w.heap.size + 1) (.int .i64 k9) (.slice A9 n9 c9') (.slice K9 m9 d9) hT9 (fun b hb => ⟨by have := hb.1; have := HSZ1.out; omega, hb.2, by have := hb.1; have := HSZ1.out; omega⟩) hbe9 (by omega)); have o0 := hB29.cell 0; have o1 := hB29.cell 1; have o2 := hB29.cell 2; have p0 := hB29.frozen 0; have p1 := hB29.frozen 1; have p2 := hB29.frozen 2; simp at o0 o1 o2; clear hT9 hs9)))
                  go_wp2_with fail
                  (try simp only [Exit.inBlock, Exit.then])
                  refine bodyPost_ret (by simp [results, Try.results9, go_sem, q0, q1, q2]; try rfl) rfl ?_
                  rw [HRES.out]
                  exact ⟨⟨k9, A9, n9, c9', K9, m9, d9⟩, by first | rfl | (rw [hb9e]; rfl), by simpa only [World.size_setCell] using hfin.out.1, hfin.out.2⟩
              · have gm : decide (a1 < (m' : Int)) = false := by simp; omega
                go_wp2_with fail
                (try simp only [Exit.inBlock, Exit.then])
                refine bodyPost_ret (by simp [results, Try.results9, go_sem, q0, q1, q2]; try rfl) rfl ?_
                refine HDEF.out ?_
                rw [getP]
                (try have ck2 := Hid.out ck)
                (try have dn2 := Hid.out dn)
                (try have d02 := Hid.out d0)
                (try have d12 := Hid.out d1)
                (try have d22 := Hid.out d2)
                (repeat' split) <;> first | rfl | (exfalso; have := HKD.out; have := HML.out; have := HRL.out; have := HR2.out; have := HR3.out; simp_all; done) | (exfalso; have := HKD.out; have := HML.out; have := HRL.out; have := HR2.out; have := HR3.out; simp_all; omega) | (have := HKD.out; have := HML.out; have := HRL.out; have := HR2.out; have := HR3.out; simp_all; done) | (have := HKD.out; have := HML.out; have := HRL.out; have := HR2.out; have := HR3.out; simp_all; omega)
            · skip
              by_cases d1 : k1 = 1
              · have f0 : (k1 == 0) = false := by simp; omega
                have f1 : (k1 == 1) = true := by simp; omega
                have f2 : (k1 == 2) = false := by simp; omega
                replace d1 := hide d1
                by_cases dn : n = 1
                · have fn1 : ((n : Int) == 1) = true := by simp; omega
                  replace dn := hide dn
                  go_wp2_with fail
                  (try simp only [Exit.inBlock, Exit.then])
                  refine bodyPost_ret (by simp [results, Try.results9, go_sem, q0, q1, q2]; try rfl) rfl ?_
                  refine HDEF.out ?_
                  rw [getP]
                  (try have ck2 := Hid.out ck)
                  (try have dn2 := Hid.out dn)
                  (try have d02 := Hid.out d0)
                  (try have d12 := Hid.out d1)
                  (try have d22 := Hid.out d2)
                  (repeat' split) <;> first | rfl | (exfalso; have := HKD.out; have := HML.out; have := HRL.out; have := HR2.out; have := HR3.out; simp_all; done) | (exfalso; have := HKD.out; have := HML.out; have := HRL.out; have := HR2.out; have := HR3.out; simp_all; omega) | (have := HKD.out; have := HML.out; have := HRL.out; have := HR2.out; have := HR3.out; simp_all; done) | (have := HKD.out; have := HML.out; have := HRL.out; have := HR2.out; have := HR3.out; simp_all; omega)
                · have fn1 : ((n : Int) == 1) = false := by simp; omega
                  go_wp2_with fail
                  (try simp only [Exit.inBlock, Exit.then])
                  refine bodyPost_ret (by simp [results, Try.results9, go_sem, q0, q1, q2]; try rfl) rfl ?_
                  refine HDEF.out ?_
                  rw [getP]
                  (try have ck2 := Hid.out ck)
                  (try have dn2 := Hid.out dn)
                  (try have d02 := Hid.out d0)
                  (try have d12 := Hid.out d1)
                  (try have d22 := Hid.out d2)
                  (repeat' split) <;> first | rfl | (exfalso; have := HKD.out; have := HML.out; have := HRL.out; have := HR2.out; have := HR3.out; simp_all; done) | (exfalso; have := HKD.out; have := HML.out; have := HRL.out; have := HR2.out; have := HR3.out; simp_all; omega) | (have := HKD.out; have := HML.out; have := HRL.out; have := HR2.out; have := HR3.out; simp_all; done) | (have := HKD.out; have := HML.out; have := HRL.out; have := HR2.out; have := HR3.out; simp_all; omega)
              · skip
                by_cases d2 : k1 = 2
                · have f0 : (k1 == 0) = false := by simp; omega
                  have f1 : (k1 == 1) = false := by simp; omega
                  have f2 : (k1 == 2) = true := by simp; omega
                  replace d2 := hide d2
                  by_cases dn : n = 1
                  · have fn1 : ((n : Int) == 1) = true := by simp; omega
                    replace dn := hide dn
                    by_cases cm : a1 ≤ (m' : Int)
                    · have gm : decide (a1 ≤ (m' : Int)) = true := by simp; omega
                      have HRES : Hid (getP t ((k1, a1) :: r) = (.node k' [] [], true)) := by
                        show _ = _
                        rw [getP]
                        (try have ck2 := Hid.out ck)
                        (try have dn2 := Hid.out dn)
                        (try have d02 := Hid.out d0)
                        (try have d12 := Hid.out d1)
                        (try have d22 := Hid.out d2)
                        (repeat' split) <;> first | rfl | (exfalso; have := HKD.out; have := HML.out; have := HRL.out; have := HR2.out; have := HR3.out; simp_all; done) | (exfalso; have := HKD.out; have := HML.out; have := HRL.out; have := HR2.out; have := HR3.out; simp_all; omega) | (have := HKD.out; have := HML.out; have := HRL.out; have := HR2.out; have := HR3.out; simp_all; done) | (have := HKD.out; have := HML.out; have := HRL.out; have := HR2.out; have := HR3.out; simp_all; omega)
                      clear q0 q1 q2
                      obtain ⟨q0, q1, q2⟩ := res3 hB2' (.int .i64 k') (.slice none 0 0) (.slice none 0 0)
                      have hfin := hide (res_fin (w := w) (g := w.heap.size + 1) (S := fun _ => False) (.int .i64 k') (.slice none 0 0) (.slice none 0 0) (tree_plain (w := w1) k') (fun _ h => h.elim) hbe1 (by omega))
                      go_wp2_with fail
                      (try simp only [Exit.inBlock, Exit.then])
                      refine bodyPost_ret (by simp [results, Try.results9, go_sem, q0, q1, q2]; try rfl) rfl ?_
                      rw [HRES.out]
                      exact ⟨⟨k', none, 0, 0, none, 0, 0⟩, rfl, by simpa only [World.size_setCell] using hfin.out.1, hfin.out.2⟩
                    · have gm : decide (a1 ≤ (m' : Int)) = false := by simp; omega
                      go_wp2_with fail
                      (try simp only [Exit.inBlock, Exit.then])
                      refine bodyPost_ret (by simp [results, Try.results9, go_sem, q0, q1, q2]; try rfl) rfl ?_
                      refine HDEF.out ?_
                      rw [getP]
                      (try have ck2 := Hid.out ck)
                      (try have dn2 := Hid.out dn)
                      (try have d02 := Hid.out d0)
                      (try have d12 := Hid.out d1)
                      (try have d22 := Hid.out d2)
                      (repeat' split) <;> first | rfl | (exfalso; have := HKD.out; have := HML.out; have := HRL.out; have := HR2.out; have := HR3.out; simp_all; done) | (exfalso; have := HKD.out; have := HML.out; have := HRL.out; have := HR2.out; have := HR3.out; simp_all; omega) | (have := HKD.out; have := HML.out; have := HRL.out; have := HR2.out; have := HR3.out; simp_all; done) | (have := HKD.out; have := HML.out; have := HRL.out; have := HR2.out; have := HR3.out; simp_all; omega)
                  · have fn1 : ((n : Int) == 1) = false := by simp; omega
                    go_wp2_with fail
                    (try simp only [Exit.inBlock, Exit.then])
                    refine bodyPost_ret (by simp [results, Try.results9, go_sem, q0, q1, q2]; try rfl) rfl ?_
                    refine HDEF.out ?_
                    rw [getP]
                    (try have ck2 := Hid.out ck)
                    (try have dn2 := Hid.out dn)
                    (try have d02 := Hid.out d0)
                    (try have d12 := Hid.out d1)
                    (try have d22 := Hid.out d2)
                    (repeat' split) <;> first | rfl | (exfalso; have := HKD.out; have := HML.out; have := HRL.out; have := HR2.out; have := HR3.out; simp_all; done) | (exfalso; have := HKD.out; have := HML.out; have := HRL.out; have := HR2.out; have := HR3.out; simp_all; omega) | (have := HKD.out; have := HML.out; have := HRL.out; have := HR2.out; have := HR3.out; simp_all; done) | (have := HKD.out; have := HML.out; have := HRL.out; have := HR2.out; have := HR3.out; simp_all; omega)
                · have f0 : (k1 == 0) = false := by simp; omega
                  have f1 : (k1 == 1) = false := by simp; omega
                  have f2 : (k1 == 2) = false := by simp; omega
                  go_wp2_with fail
                  (try simp only [Exit.inBlock, Exit.then])
                  refine bodyPost_ret (by simp [results, Try.results9, go_sem, q0, q1, q2]; try rfl) rfl ?_
                  refine HDEF.out ?_
                  rw [getP]
                  (try have ck2 := Hid.out ck)
                  (try have dn2 := Hid.out dn)
                  (try have d02 := Hid.out d0)
                  (try have d12 := Hid.out d1)
                  (try have d22 := Hid.out d2)
                  (repeat' split) <;> first | rfl | (exfalso; have := HKD.out; have := HML.out; have := HRL.out; have := HR2.out; have := HR3.out; simp_all; done) | (exfalso; have := HKD.out; have := HML.out; have := HRL.out; have := HR2.out; have := HR3.out; simp_all; omega) | (have := HKD.out; have := HML.out; have := HRL.out; have := HR2.out; have := HR3.out; simp_all; done) | (have := HKD.out; have := HML.out; have := HRL.out; have := HR2.out; have := HR3.out; simp_all; omega)
          · have g9 : decide (k' ≤ 9) = false := by simp; omega
            have hli : isList k' = false := by unfold isList; rw [g2, g9]; rfl
            by_cases d0 : k1 = 0
            · have f0 : (k1 == 0) = true := by simp; omega
              have f1 : (k1 == 1) = false := by simp; omega
              have f2 : (k1 == 2) = false := by simp; omega
              replace d0 := hide d0
              by_cases cm : a1 < (m' : Int)
              · have gm : decide (a1 < (m' : Int)) = true := by simp; omega
                exact absurd cm (by have := HR2.out; have := HR3.out; omega)
              · have gm : decide (a1 < (m' : Int)) = false := by simp; omega
                go_wp2_with fail
                (try simp only [Exit.inBlock, Exit.then])
                refine bodyPost_ret (by simp [results, Try.results9, go_sem, q0, q1, q2]; try rfl) rfl ?_
                refine HDEF.out ?_
                rw [getP]
                (try have ck2 := Hid.out ck)
                (try have dn2 := Hid.out dn)
                (try have d02 := Hid.out d0)
                (try have d12 := Hid.out d1)
                (try have d22 := Hid.out d2)
                (repeat' split) <;> first | rfl | (exfalso; have := HKD.out; have := HML.out; have := HRL.out; have := HR2.out; have := HR3.out; simp_all; done) | (exfalso; have := HKD.out; have := HML.out; have := HRL.out; have := HR2.out; have := HR3.out; simp_all; omega) | (have := HKD.out; have := HML.out; have := HRL.out; have := HR2.out; have := HR3.out; simp_all; done) | (have := HKD.out; have := HML.out; have := HRL.out; have := HR2.out; have := HR3.out; simp_all; omega)
            · skip
              by_cases d1 : k1 = 1
              · have f0 : (k1 == 0) = false := by simp; omega
                have f1 : (k1 == 1) = true := by simp; omega
                have f2 : (k1 == 2) = false := by simp; omega
                replace d1 := hide d1
                by_cases dn : n = 1
                · have fn1 : ((n : Int) == 1) = true := by simp; omega
                  replace dn := hide dn
                  go_wp2_with fail
                  (try simp only [Exit.inBlock, Exit.then])
                  refine bodyPost_ret (by simp [results, Try.results9, go_sem, q0, q1, q2]; try rfl) rfl ?_
                  refine HDEF.out ?_
                  rw [getP]
                  (try have ck2 := Hid.out ck)
                  (try have dn2 := Hid.out dn)
                  (try have d02 := Hid.out d0)
                  (try have d12 := Hid.out d1)
                  (try have d22 := Hid.out d2)
                  (repeat' split) <;> first | rfl | (exfalso; have := HKD.out; have := HML.out; have := HRL.out; have := HR2.out; have := HR3.out; simp_all; done) | (exfalso; have := HKD.out; have := HML.out; have := HRL.out; have := HR2.out; have := HR3.out; simp_all; omega) | (have := HKD.out; have := HML.out; have := HRL.out; have := HR2.out; have := HR3.out; simp_all; done) | (have := HKD.out; have := HML.out; have := HRL.out; have := HR2.out; have := HR3.out; simp_all; omega)
                · have fn1 : ((n : Int) == 1) = false := by simp; omega
                  go_wp2_with fail
                  (try simp only [Exit.inBlock, Exit.then])
                  refine bodyPost_ret (by simp [results, Try.results9, go_sem, q0, q1, q2]; try rfl) rfl ?_
                  refine HDEF.out ?_
                  rw [getP]
                  (try have ck2 := Hid.out ck)
                  (try have dn2 := Hid.out dn)
                  (try have d02 := Hid.out d0)
                  (try have d12 := Hid.out d1)
                  (try have d22 := Hid.out d2)
                  (repeat' split) <;> first | rfl | (exfalso; have := HKD.out; have := HML.out; have := HRL.out; have := HR2.out; have := HR3.out; simp_all; done) | (exfalso; have := HKD.out; have := HML.out; have := HRL.out; have := HR2.out; have := HR3.out; simp_all; omega) | (have := HKD.out; have := HML.out; have := HRL.out; have := HR2.out; have := HR3.out; simp_all; done) | (have := HKD.out; have := HML.out; have := HRL.out; have := HR2.out; have := HR3.out; simp_all; omega)
              · skip
                by_cases d2 : k1 = 2
                · have f0 : (k1 == 0) = false := by simp; omega
                  have f1 : (k1 == 1) = false := by simp; omega
                  have f2 : (k1 == 2) = true := by simp; omega
                  replace d2 := hide d2
                  by_cases dn : n = 1
                  · have fn1 : ((n : Int) == 1) = true := by simp; omega
                    replace dn := hide dn
                    go_wp2_with fail
                    (try simp only [Exit.inBlock, Exit.then])
                    refine bodyPost_ret (by simp [results, Try.results9, go_sem, q0, q1, q2]; try rfl) rfl ?_
                    refine HDEF.out ?_
                    rw [getP]
                    (try have ck2 := Hid.out ck)
                    (try have dn2 := Hid.out dn)
                    (try have d02 := Hid.out d0)
                    (try have d12 := Hid.out d1)
                    (try have d22 := Hid.out d2)
                    (repeat' split) <;> first | rfl | (exfalso; have := HKD.out; have := HML.out; have := HRL.out; have := HR2.out; have := HR3.out; simp_all; done) | (exfalso; have := HKD.out; have := HML.out; have := HRL.out; have := HR2.out; have := HR3.out; simp_all; omega) | (have := HKD.out; have := HML.out; have := HRL.out; have := HR2.out; have := HR3.out; simp_all; done) | (have := HKD.out; have := HML.out; have := HRL.out; have := HR2.out; have := HR3.out; simp_all; omega)
                  · have fn1 : ((n : Int) == 1) = false := by simp; omega
                    go_wp2_with fail
                    (try simp only [Exit.inBlock, Exit.then])
                    refine bodyPost_ret (by simp [results, Try.results9, go_sem, q0, q1, q2]; try rfl) rfl ?_
                    refine HDEF.out ?_
                    rw [getP]
                    (try have ck2 := Hid.out ck)
                    (try have dn2 := Hid.out dn)
                    (try have d02 := Hid.out d0)
                    (try have d12 := Hid.out d1)
                    (try have d22 := Hid.out d2)
                    (repeat' split) <;> first | rfl | (exfalso; have := HKD.out; have := HML.out; have := HRL.out; have := HR2.out; have := HR3.out; simp_all; done) | (exfalso; have := HKD.out; have := HML.out; have := HRL.out; have := HR2.out; have := HR3.out; simp_all; omega) | (have := HKD.out; have := HML.out; have := HRL.out; have := HR2.out; have := HR3.out; simp_all; done) | (have := HKD.out; have := HML.out; have := HRL.out; have := HR2.out; have := HR3.out; simp_all; omega)
                · have f0 : (k1 == 0) = false := by simp; omega
                  have f1 : (k1 == 1) = false := by simp; omega
                  have f2 : (k1 == 2) = false := by simp; omega
                  go_wp2_with fail
                  (try simp only [Exit.inBlock, Exit.then])
                  refine bodyPost_ret (by simp [results, Try.results9, go_sem, q0, q1, q2]; try rfl) rfl ?_
                  refine HDEF.out ?_
                  rw [getP]
                  (try have ck2 := Hid.out ck)
                  (try have dn2 := Hid.out dn)
                  (try have d02 := Hid.out d0)
                  (try have d12 := Hid.out d1)
                  (try have d22 := Hid.out d2)
                  (repeat' split) <;> first | rfl | (exfalso; have := HKD.out; have := HML.out; have := HRL.out; have := HR2.out; have := HR3.out; simp_all; done) | (exfalso; have := HKD.out; have := HML.out; have := HRL.out; have := HR2.out; have := HR3.out; simp_all; omega) | (have := HKD.out; have := HML.out; have := HRL.out; have := HR2.out; have := HR3.out; simp_all; done) | (have := HKD.out; have := HML.out; have := HRL.out; have := HR2.out; have := HR3.out; simp_all; omega)
        · have g2 : decide (2 ≤ k') = false := by simp; omega
          have hli : isList k' = false := by unfold isList; rw [g2]; rfl
          by_cases d0 : k1 = 0
          · have f0 : (k1 == 0) = true := by simp; omega
            have f1 : (k1 == 1) = false := by simp; omega
            have f2 : (k1 == 2) = false := by simp; omega
            replace d0 := hide d0
            by_cases cm : a1 < (m' : Int)
            · have gm : decide (a1 < (m' : Int)) = true := by simp; omega
              exact absurd cm (by have := HR2.out; have := HR3.out; omega)
            · have gm : decide (a1 < (m' : Int)) = false := by simp; omega
              go_wp2_with fail
              (try simp only [Exit.inBlock, Exit.then])
              refine bodyPost_ret (by simp [results, Try.results9, go_sem, q0, q1, q2]; try rfl) rfl ?_
              refine HDEF.out ?_
              rw [getP]
              (try have ck2 := Hid.out ck)
              (try have dn2 := Hid.out dn)
              (try have d02 := Hid.out d0)
              (try have d12 := Hid.out d1)
              (try have d22 := Hid.out d2)
              (repeat' split) <;> first | rfl | (exfalso; have := HKD.out; have := HML.out; have := HRL.out; have := HR2.out; have := HR3.out; simp_all; done) | (exfalso; have := HKD.out; have := HML.out; have := HRL.out; have := HR2.out; have := HR3.out; simp_all; omega) | (have := HKD.out; have := HML.out; have := HRL.out; have := HR2.out; have := HR3.out; simp_all; done) | (have := HKD.out; have := HML.out; have := HRL.out; have := HR2.out; have := HR3.out; simp_all; omega)
          · skip
            by_cases d1 : k1 = 1
            · have f0 : (k1 == 0) = false := by simp; omega
              have f1 : (k1 == 1) = true := by simp; omega
              have f2 : (k1 == 2) = false := by simp; omega
              replace d1 := hide d1
              by_cases dn : n = 1
              · have fn1 : ((n : Int) == 1) = true := by simp; omega
                replace dn := hide dn
                go_wp2_with fail
                (try simp only [Exit.inBlock, Exit.then])
                refine bodyPost_ret (by simp [results, Try.results9, go_sem, q0, q1, q2]; try rfl) rfl ?_
                refine HDEF.out ?_
                rw [getP]
                (try have ck2 := Hid.out ck)
                (try have dn2 := Hid.out dn)
                (try have d02 := Hid.out d0)
                (try have d12 := Hid.out d1)
                (try have d22 := Hid.out d2)
                (repeat' split) <;> first | rfl | (exfalso; have := HKD.out; have := HML.out; have := HRL.out; have := HR2.out; have := HR3.out; simp_all; done) | (exfalso; have := HKD.out; have := HML.out; have := HRL.out; have := HR2.out; have := HR3.out; simp_all; omega) | (have := HKD.out; have := HML.out; have := HRL.out; have := HR2.out; have := HR3.out; simp_all; done) | (have := HKD.out; have := HML.out; have := HRL.out; have := HR2.out; have := HR3.out; simp_all; omega)
              · have fn1 : ((n : Int) == 1) = false := by simp; omega
                go_wp2_with fail
                (try simp only [Exit.inBlock, Exit.then])
                refine bodyPost_ret (by simp [results, Try.results9, go_sem, q0, q1, q2]; try rfl) rfl ?_
                refine HDEF.out ?_
                rw [getP]
                (try have ck2 := Hid.out ck)
                (try have dn2 := Hid.out dn)
                (try have d02 := Hid.out d0)
                (try have d12 := Hid.out d1)
                (try have d22 := Hid.out d2)
                (repeat' split) <;> first | rfl | (exfalso; have := HKD.out; have := HML.out; have := HRL.out; have := HR2.out; have := HR3.out; simp_all; done) | (exfalso; have := HKD.out; have := HML.out; have := HRL.out; have := HR2.out; have := HR3.out; simp_all; omega) | (have := HKD.out; have := HML.out; have := HRL.out; have := HR2.out; have := HR3.out; simp_all; done) | (have := HKD.out; have := HML.out; have := HRL.out; have := HR2.out; have := HR3.out; simp_all; omega)
            · skip
              by_cases d2 : k1 = 2
              · have f0 : (k1 == 0) = false := by simp; omega
                have f1 : (k1 == 1) = false := by simp; omega
                have f2 : (k1 == 2) = true := by simp; omega
                replace d2 := hide d2
                by_cases dn : n = 1
                · have fn1 : ((n : Int) == 1) = true := by simp; omega
                  replace dn := hide dn
                  go_wp2_with fail
                  (try simp only [Exit.inBlock, Exit.then])
                  refine bodyPost_ret (by simp [results, Try.results9, go_sem, q0, q1, q2]; try rfl) rfl ?_
                  refine HDEF.out ?_
                  rw [getP]
                  (try have ck2 := Hid.out ck)
                  (try have dn2 := Hid.out dn)
                  (try have d02 := Hid.out d0)
                  (try have d12 := Hid.out d1)
                  (try have d22 := Hid.out d2)
                  (repeat' split) <;> first | rfl | (exfalso; have := HKD.out; have := HML.out; have := HRL.out; have := HR2.out; have := HR3.out; simp_all; done) | (exfalso; have := HKD.out; have := HML.out; have := HRL.out; have := HR2.out; have := HR3.out; simp_all; omega) | (have := HKD.out; have := HML.out; have := HRL.out; have := HR2.out; have := HR3.out; simp_all; done) | (have := HKD.out; have := HML.out; have := HRL.out; have := HR2.out; have := HR3.out; simp_all; omega)
                · have fn1 : ((n : Int) == 1) = false := by simp; omega
                  go_wp2_with fail
                  (try simp only [Exit.inBlock, Exit.then])
                  refine bodyPost_ret (by simp [results, Try.results9, go_sem, q0, q1, q2]; try rfl) rfl ?_
                  refine HDEF.out ?_
                  rw [getP]
                  (try have ck2 := Hid.out ck)
                  (try have dn2 := Hid.out dn)
                  (try have d02 := Hid.out d0)
                  (try have d12 := Hid.out d1)
                  (try have d22 := Hid.out d2)
                  (repeat' split) <;> first | rfl | (exfalso; have := HKD.out; have := HML.out; have := HRL.out; have := HR2.out; have := HR3.out; simp_all; done) | (exfalso; have := HKD.out; have := HML.out; have := HRL.out; have := HR2.out; have := HR3.out; simp_all; omega) | (have := HKD.out; have := HML.out; have := HRL.out; have := HR2.out; have := HR3.out; simp_all; done) | (have := HKD.out; have := HML.out; have := HRL.out; have := HR2.out; have := HR3.out; simp_all; omega)
              · have f0 : (k1 == 0) = false := by simp; omega
                have f1 : (k1 == 1) = false := by simp; omega
                have f2 : (k1 == 2) = false := by simp; omega
                go_wp2_with fail
                (try simp only [Exit.inBlock, Exit.then])
                refine bodyPost_ret (by simp [results, Try.results9, go_sem, q0, q1, q2]; try rfl) rfl ?_
                refine HDEF.out ?_
                rw [getP]
                (try have ck2 := Hid.out ck)
                (try have dn2 := Hid.out dn)
                (try have d02 := Hid.out d0)
                (try have d12 := Hid.out d1)
                (try have d22 := Hid.out d2)
                (repeat' split) <;> first | rfl | (exfalso; have := HKD.out; have := HML.out; have := HRL.out; have := HR2.out; have := HR3.out; simp_all; done) | (exfalso; have := HKD.out; have := HML.out; have := HRL.out; have := HR2.out; have := HR3.out; simp_all; omega) | (have := HKD.out; have := HML.out; have := HRL.out; have := HR2.out; have := HR3.out; simp_all; done) | (have := HKD.out; have := HML.out; have := HRL.out; have := HR2.out; have := HR3.out; simp_all; omega)
end Go.Proofs.Ytmlmmajdeclpoaa
