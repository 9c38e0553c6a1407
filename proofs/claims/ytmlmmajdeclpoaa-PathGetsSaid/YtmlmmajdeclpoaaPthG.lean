/-
  Get of package path.
-/
import Derived.Test.YtmlmmajdeclpoaaPthN
import Derived.Test.YtmlmmajdeclpoaaPthC
namespace Go.Proofs.Ytmlmmajdeclpoaa
open Go.RowKit

def getP : T → List Step → T × Bool
  | t, [] => (norm t, true)
  | t, s :: r =>
    if s.2 < 0 then (nilT, false)
    else if s.1 = 0 ∧ t.kind = 1 ∧ s.2 < 65535 then getP (kidT t s.2) r
    else if s.1 = 0 ∧ isList t.kind = true ∧ s.2 < t.ks.length then getP (kidT t s.2) r
    else if s.1 = 1 ∧ r.length = 0 ∧ t.kind = 1 ∧ s.2 < 65535 then (norm (.node 1 [wordT t s.2] []), true)
    else if s.1 = 2 ∧ r.length = 0 ∧ isList t.kind = true ∧ s.2 ≤ t.ks.length then (.node t.kind [] [], true)
    else (nilT, false)
theorem res3 {W : World} {g : Nat} {t : TypeId} {x y z : Value} (h : Blk W g t #[x, y, z]) (a b c : Value) :
    (W.setCell ⟨g, 0, none⟩ a).cell? ⟨g, 0, none⟩ = some a ∧ ((W.setCell ⟨g, 0, none⟩ a).setCell ⟨g, 1, none⟩ b).cell? ⟨g, 1, none⟩ = some b ∧ (((W.setCell ⟨g, 0, none⟩ a).setCell ⟨g, 1, none⟩ b).setCell ⟨g, 2, none⟩ c).cell? ⟨g, 2, none⟩ = some c :=
  ⟨by rw [(h.set_ 0 _).cell]; rfl, by rw [((h.set_ 0 _).set_ 1 _).cell]; rfl, by rw [(((h.set_ 0 _).set_ 1 _).set_ 2 _).cell]; rfl⟩
def GetPost (r : T × Bool) (w : World) (e : Ending) (w' : World) : Prop := ∃ v', e = .returned (.tuple #[Tv.val v', .bool r.2]) ∧ TreeAt w' (fun b => w.heap.size ≤ b ∧ b < w'.heap.size) r.1 v' ∧ Below w.heap.size w w'
/-- a result is laid down -/
theorem res_fin {w W : World} {g : Nat} {S : Nat → Prop} {t : T} {v : Tv} (a b c : Value) (ht : TreeAt W S t v) (hS : ∀ b, S b → w.heap.size ≤ b ∧ b < W.heap.size ∧ b ≠ g) (hb : Below w.heap.size w W) (hg : w.heap.size ≤ g) :
    TreeAt (((W.setCell ⟨g, 0, none⟩ a).setCell ⟨g, 1, none⟩ b).setCell ⟨g, 2, none⟩ c) (fun b => w.heap.size ≤ b ∧ b < W.heap.size) t v ∧ Below w.heap.size w (((W.setCell ⟨g, 0, none⟩ a).setCell ⟨g, 1, none⟩ b).setCell ⟨g, 2, none⟩ c) := by
  refine ⟨?_, ((hb.setCell hg _).setCell hg _).setCell hg _⟩
  have hk : ∀ p : Addr, S p.block → (((W.setCell ⟨g, 0, none⟩ a).setCell ⟨g, 1, none⟩ b).setCell ⟨g, 2, none⟩ c).cell? p = W.cell? p := fun p hp => by
    have h1 : p.block ≠ g := (hS _ hp).2.2
    rw [World.cell?_of_block (Below.heap_setCell _ _ _ _ h1), World.cell?_of_block (Below.heap_setCell _ _ _ _ h1), World.cell?_of_block (Below.heap_setCell _ _ _ _ h1)]
  exact (ht.keep hk).mono fun b hb => ⟨(hS _ hb).1, (hS _ hb).2.1⟩
theorem tree_plain {w : World} {S : Nat → Prop} (k : Int) : TreeAt w S (.node k [] []) ⟨k, none, 0, 0, none, 0, 0⟩ := TreeAt.of WordsAt.none_ KidsAt.none_

set_option maxRecDepth 100000 in
set_option maxHeartbeats 16000000 in
theorem get_any (t : T) (v : Tv) (S : Nat → Prop) (L : Option Addr) (n c b0 : Nat) (l : List Step) (w : World) (ht : TreeAt w S t v) (hS : ∀ b, S b → b < w.heap.size)
    (hn : n = l.length) (hx : Reads w b0 L (stepCells l)) (hb0 : b0 ≤ w.heap.size) (lx : n ≤ maxLen) :
    Calls Try.prog 8 #[v.val, .slice L n c] w (GetPost (getP t l) w) := by
  unfold maxLen at lx
  obtain ⟨k, A, n1, c1, K, m, d⟩ := v
  show Calls _ _ #[.agg #[.int .i64 k, .slice A n1 c1, .slice K m d], _] _ _
  have HT := hide ht
  have HS := hide hS
  have HN := hide hn
  have HX := hide hx
  clear ht hS hn hx
  have hbe2 := two_below w (.cells #[.int .i64 k, .slice A n1 c1, .slice K m d] 25) (.cells #[.int .i64 0, .slice none 0 0, .slice none 0 0] 25)
  have hB1 := (Blk.new w 25 #[.int .i64 k, .slice A n1 c1, .slice K m d]).alloc (.cells #[.int .i64 0, .slice none 0 0, .slice none 0 0] 25)
  have hB2 := Blk.new (w.alloc (.cells #[.int .i64 k, .slice A n1 c1, .slice K m d] 25)) 25 #[.int .i64 0, .slice none 0 0, .slice none 0 0]
  rw [World.size_alloc] at hB2
  go_enter Try.func8, Try.ntmps8
  go_wp2_with fail
  go_loopw [11] (fun ix wr => ∃ (q : Nat) (t' : T) (k' : Int) (A' : Option Addr) (n' c' : Nat) (K' : Option Addr) (m' d' : Nat), q ≤ n ∧ ix = .int .i64 q ∧ Hid (getP t' (l.drop q) = getP t l) ∧ Blk wr w.heap.size 25 #[.int .i64 k', .slice A' n' c', .slice K' m' d'] ∧ Blk wr (w.heap.size + 1) 25 #[.int .i64 0, .slice none 0 0, .slice none 0 0] ∧ Hid (TreeAt wr S t' ⟨k', A', n', c', K', m', d'⟩) ∧ Below w.heap.size w wr) (fun ix _ => n - (intOf ix).toNat)
  case atStart =>
    exact ⟨0, t, k, A, n1, c1, K, m, d, by omega, rfl, rfl, hB1, hB2, HT.out.bel hbe2 HS.out, hbe2⟩
  case round =>
    obtain ⟨q, t', k', A', n', c', K', m', d', hq, rfl, HG, hB1r, hB2r, HTr, hbr⟩ := hrel
    clear hB1 hB2 hbe2 HT
    have hg2 := hB2r.lt
    by_cases hlt : q < n
    · have hl1 : q < l.length := by rw [← HN.out]; exact hlt
      obtain ⟨bx, ox, rfl, hbx, z0, z1⟩ := (HX.out.below hbr hb0).stepAt hl1
      have HD := hide (List.drop_eq_getElem_cons hl1)
      generalize l[q] = s at *
      obtain ⟨k1, a1⟩ := s
      simp only at z0 z1
      go_upto_region 4 with fail
      have hbe1 : Below w.heap.size w (wr.alloc (.cells #[.int .i64 k1, .int .i64 a1] 41)) := hbr.alloc (by omega) _
      have hB1 := hB1r.alloc (.cells #[.int .i64 k1, .int .i64 a1] 41)
      have hB2 := hB2r.alloc (.cells #[.int .i64 k1, .int .i64 a1] 41)
      have hB3 := Blk.new wr 41 #[.int .i64 k1, .int .i64 a1]
      have HT1 : Hid (TreeAt (wr.alloc (.cells #[.int .i64 k1, .int .i64 a1] 41)) S t' ⟨k', A', n', c', K', m', d'⟩) := HTr.out.bel (((Below.refl w.heap.size wr).alloc (by omega) _)) HS.out
      have hs1 : (wr.alloc (.cells #[.int .i64 k1, .int .i64 a1] 41)).heap.size = wr.heap.size + 1 := by simp
      generalize (wr.alloc (.cells #[.int .i64 k1, .int .i64 a1] 41)) = w1 at *
      clear hB1r hB2r HTr z0 z1
      generalize wr.heap.size = gs at *
      have e0 := hB3.cell 0
      have e1 := hB3.cell 1
      have t0 := hB1.cell 0
      have t1 := hB1.cell 1
      have t2 := hB1.cell 2
      have o0 := hB2.cell 0
      have o1 := hB2.cell 1
      have o2 := hB2.cell 2
      have p0 := hB2.frozen 0
      have p1 := hB2.frozen 1
      have p2 := hB2.frozen 2
      simp at e0 e1 t0 t1 t2 o0 o1 o2
      have HKD : Hid (t'.kind = k') := HT1.out.kind
      have HML : Hid (t'.ks.length = m') := by
        obtain ⟨_, _, ks⟩ := t'
        obtain ⟨_, h⟩ := HT1.out.kids
        exact h.len.symm
      rw [HD.out] at HG
      have HRL : Hid ((l.drop (q + 1)).length = n - (q + 1)) := by show _ = _; rw [List.length_drop, HN.out]
      have HDEF : Hid (getP t l = (nilT, false) → GetPost (getP t l) w (.returned (.tuple #[.agg #[.int .i64 0, .slice none 0 0, .slice none 0 0], .bool false])) (((w1.setCell ⟨w.heap.size + 1, 0, none⟩ (.int .i64 0)).setCell ⟨w.heap.size + 1, 1, none⟩ (.slice none 0 0)).setCell ⟨w.heap.size + 1, 2, none⟩ (.slice none 0 0))) := fun e => by
        have h := res_fin (w := w) (g := w.heap.size + 1) (S := fun _ => False) (.int .i64 0) (.slice none 0 0) (.slice none 0 0) (TreeAt.nil (w := w1)) (fun _ h => h.elim) hbe1 (by omega)
        rw [e]
        exact ⟨⟨0, none, 0, 0, none, 0, 0⟩, rfl, by simpa only [World.size_setCell] using h.1, h.2⟩
      obtain ⟨q0, q1, q2⟩ := res3 hB2 (.int .i64 0) (.slice none 0 0) (.slice none 0 0)
      by_cases c0 : a1 < 0
      · have g0 : decide (a1 < 0) = true := by simpa using c0
        go_wp2_with fail
        (try simp only [Exit.inBlock, Exit.then])
        refine bodyPost_ret (by simp [results, Try.results8, go_sem, q0, q1, q2]; try rfl) rfl ?_
        refine HDEF.out ?_
        rw [← HG.out, getP]
        (try have ck2 := Hid.out ck)
        (try have cl2 := Hid.out cl)
        (try have d02 := Hid.out d0)
        (try have d12 := Hid.out d1)
        (try have d22 := Hid.out d2)
        (repeat' split) <;> first | rfl | (exfalso; have := HKD.out; have := HML.out; have := HRL.out; simp_all; done) | (exfalso; have := HKD.out; have := HML.out; have := HRL.out; simp_all; omega) | (have := HKD.out; have := HML.out; have := HRL.out; simp_all; done)
      · have g0 : decide (a1 < 0) = false := by simpa using c0
        by_cases d0 : k1 = 0
        · have f0 : (k1 == 0) = true := by simp; omega
          have f1 : (k1 == 1) = false := by simp; omega
          have f2 : (k1 == 2) = false := by simp; omega
          replace d0 := hide d0
          by_cases ck : k' = 1
          · have fk : (k' == 1) = true := by simpa using ck
            have hli : isList k' = false := by rw [ck]; rfl
            replace ck := hide ck
            by_cases c65 : a1 < 65535
            · have g6 : decide (a1 < 65535) = true := by simpa using c65
              have HKID : Hid (Calls Try.prog 17 #[.agg #[.int .i64 k', .slice A' n' c', .slice K' m' d'], .int .i64 a1] w1 fun e w' => ∃ k2 A2 n2 c2 K2 m2 d2, e = .returned (.agg #[.int .i64 k2, .slice A2 n2 c2, .slice K2 m2 d2]) ∧ TreeAt w' S (kidT t' a1) ⟨k2, A2, n2, c2, K2, m2, d2⟩ ∧ Below w1.heap.size w1 w') := by
                refine (kid_any t' ⟨k', A', n', c', K', m', d'⟩ a1 S w1 HT1.out (fun b hb => by have := HS.out b hb; omega)).mono ?_
                rintro e w' ⟨⟨k2, A2, n2, c2, K2, m2, d2⟩, rfl, h1, h2⟩
                exact ⟨k2, A2, n2, c2, K2, m2, d2, rfl, h1, h2⟩
              go_wp2_with fail
              refine HKID.out.mono ?_
              rintro e w2 ⟨k2, A2, n2, c2, K2, m2, d2, rfl, hT2, hb2⟩
              have hB1W := hB1.below hb2 hB1.lt
              have hB2W := hB2.below hb2 hB2.lt
              have hbeW := hbe1.trans (hb2.mono (by omega))
              have s0 := hB1W.cell 0
              have s1 := hB1W.cell 1
              have s2 := hB1W.cell 2
              have v0 := hB1W.frozen 0
              have v1 := hB1W.frozen 1
              have v2 := hB1W.frozen 2
              simp at s0 s1 s2
              have hT2' := hide hT2
              clear hT2 q0 q1 q2
              go_wp2_with fail
              have hT2 := hT2'.out
              go_roundw
              case rel =>
                have hsW := hbeW.size
                refine ⟨q + 1, kidT t' a1, k2, A2, n2, c2, K2, m2, d2, by omega, by go_num, ?_, ((hB1W.set_ 0 _).set_ 1 _).set_ 2 _, ((hB2W.far (p := ⟨w.heap.size, 0, none⟩) (by show w.heap.size + 1 ≠ w.heap.size; omega) _).far (p := ⟨w.heap.size, 1, none⟩) (by show w.heap.size + 1 ≠ w.heap.size; omega) _).far (p := ⟨w.heap.size, 2, none⟩) (by show w.heap.size + 1 ≠ w.heap.size; omega) _, ?_, ((hbeW.setCell (Nat.le_refl _) _).setCell (Nat.le_refl _) _).setCell (Nat.le_refl _) _⟩
                · show _ = _
                  rw [← HG.out, getP]
                  (try have ck2 := Hid.out ck)
                  (try have cl2 := Hid.out cl)
                  (try have d02 := Hid.out d0)
                  (try have d12 := Hid.out d1)
                  (try have d22 := Hid.out d2)
                  (repeat' split) <;> first | rfl | (exfalso; have := HKD.out; have := HML.out; have := HRL.out; simp_all; done) | (exfalso; have := HKD.out; have := HML.out; have := HRL.out; simp_all; omega) | (have := HKD.out; have := HML.out; have := HRL.out; simp_all; done)
                · exact hT2.keep fun p hp => by
                    have h1 : p.block ≠ w.heap.size := by have := HS.out _ hp; omega
                    rw [World.cell?_of_block (Below.heap_setCell _ _ _ _ h1), World.cell?_of_block (Below.heap_setCell _ _ _ _ h1), World.cell?_of_block (Below.heap_setCell _ _ _ _ h1)]
              case measure => simp [intOf]; omega
            · have g6 : decide (a1 < 65535) = false := by simpa using c65
              go_wp2_with fail
              refine (list_any k' _).mono ?_
              rintro e w9 ⟨rfl, rfl⟩
              rw [hli]
              go_wp2_with fail
              (try simp only [Exit.inBlock, Exit.then])
              refine bodyPost_ret (by simp [results, Try.results8, go_sem, q0, q1, q2]; try rfl) rfl ?_
              refine HDEF.out ?_
              rw [← HG.out, getP]
              (try have ck2 := Hid.out ck)
              (try have cl2 := Hid.out cl)
              (try have d02 := Hid.out d0)
              (try have d12 := Hid.out d1)
              (try have d22 := Hid.out d2)
              (repeat' split) <;> first | rfl | (exfalso; have := HKD.out; have := HML.out; have := HRL.out; simp_all; done) | (exfalso; have := HKD.out; have := HML.out; have := HRL.out; simp_all; omega) | (have := HKD.out; have := HML.out; have := HRL.out; simp_all; done)
          · have fk : (k' == 1) = false := by simpa using ck
            cases hli : isList k'
            · skip
              go_wp2_with fail
              refine (list_any k' _).mono ?_
              rintro e w9 ⟨rfl, rfl⟩
              rw [hli]
              go_wp2_with fail
              (try simp only [Exit.inBlock, Exit.then])
              refine bodyPost_ret (by simp [results, Try.results8, go_sem, q0, q1, q2]; try rfl) rfl ?_
              refine HDEF.out ?_
              rw [← HG.out, getP]
              (try have ck2 := Hid.out ck)
              (try have cl2 := Hid.out cl)
              (try have d02 := Hid.out d0)
              (try have d12 := Hid.out d1)
              (try have d22 := Hid.out d2)
              (repeat' split) <;> first | rfl | (exfalso; have := HKD.out; have := HML.out; have := HRL.out; simp_all; done) | (exfalso; have := HKD.out; have := HML.out; have := HRL.out; simp_all; omega) | (have := HKD.out; have := HML.out; have := HRL.out; simp_all; done)
            · skip
              by_cases cm : a1 < (m' : Int)
              · have gm : decide (a1 < (m' : Int)) = true := by simpa using cm
                obtain ⟨j, rfl⟩ := Int.eq_ofNat_of_zero_le (show 0 ≤ a1 by omega)
                have HKI : Hid (∃ b o k2 A2 n2 c2 K2 m2 d2, K' = some ⟨b, o, none⟩ ∧ w1.cell? ⟨b, o + j * 3, none⟩ = some (.int .i64 k2) ∧ w1.cell? ⟨b, o + j * 3 + 1, none⟩ = some (.slice A2 n2 c2) ∧ w1.cell? ⟨b, o + j * 3 + 2, none⟩ = some (.slice K2 m2 d2) ∧ TreeAt w1 S (kidT t' j) ⟨k2, A2, n2, c2, K2, m2, d2⟩) := by
                  obtain ⟨kk, ww, ks⟩ := t'
                  obtain ⟨_, h⟩ := HT1.out.kids
                  have hj : j < ks.length := by have := HML.out; simp only [T.ks] at this; omega
                  obtain ⟨b, o, v, e1, _, h1, h2, h3, h4⟩ := h.at hj
                  have hkt : kidT (.node kk ww ks) j = ks[j] := by unfold kidT; rw [if_pos (by omega)]; simp [T.ks, hj]
                  rw [hkt]
                  exact ⟨b, o, v.k, v.A, v.n, v.c, v.K, v.m, v.d, e1, h1, h2, h3, h4⟩
                obtain ⟨bk, ok, k2, A2, n2, c2, K2, m2, d2, rfl, y0, y1, y2, hT2⟩ := HKI.out
                have hB2W := hB2
                have r0 := hB1.frozen 0
                have r1 := hB1.frozen 1
                have r2 := hB1.frozen 2
                have hT2' := hide hT2
                clear hT2 HKI q0 q1 q2
                go_wp2_with fail
                refine (list_any k' _).mono ?_
                rintro e w9 ⟨rfl, rfl⟩
                rw [hli]
                go_wp2_with fail
                have hT2 := hT2'.out
                go_roundw
                case rel =>
                  have hsW := hbe1.size
                  refine ⟨q + 1, kidT t' (j : Int), k2, A2, n2, c2, K2, m2, d2, by omega, by go_num, ?_, ((hB1.set_ 0 _).set_ 1 _).set_ 2 _, ((hB2W.far (p := ⟨w.heap.size, 0, none⟩) (by show w.heap.size + 1 ≠ w.heap.size; omega) _).far (p := ⟨w.heap.size, 1, none⟩) (by show w.heap.size + 1 ≠ w.heap.size; omega) _).far (p := ⟨w.heap.size, 2, none⟩) (by show w.heap.size + 1 ≠ w.heap.size; omega) _, ?_, ((hbe1.setCell (Nat.le_refl _) _).setCell (Nat.le_refl _) _).setCell (Nat.le_refl _) _⟩
                  · show _ = _
                    rw [← HG.out, getP]
                    (try have ck2 := Hid.out ck)
                    (try have cl2 := Hid.out cl)
                    (try have d02 := Hid.out d0)
                    (try have d12 := Hid.out d1)
                    (try have d22 := Hid.out d2)
                    (repeat' split) <;> first | rfl | (exfalso; have := HKD.out; have := HML.out; have := HRL.out; simp_all; done) | (exfalso; have := HKD.out; have := HML.out; have := HRL.out; simp_all; omega) | (have := HKD.out; have := HML.out; have := HRL.out; simp_all; done)
                  · exact hT2.keep fun p hp => by
                      have h1 : p.block ≠ w.heap.size := by have := HS.out _ hp; omega
                      rw [World.cell?_of_block (Below.heap_setCell _ _ _ _ h1), World.cell?_of_block (Below.heap_setCell _ _ _ _ h1), World.cell?_of_block (Below.heap_setCell _ _ _ _ h1)]
                case measure => simp [intOf]; omega
              · have gm : decide (a1 < (m' : Int)) = false := by simpa using cm
                go_wp2_with fail
                refine (list_any k' _).mono ?_
                rintro e w9 ⟨rfl, rfl⟩
                rw [hli]
                go_wp2_with fail
                (try simp only [Exit.inBlock, Exit.then])
                refine bodyPost_ret (by simp [results, Try.results8, go_sem, q0, q1, q2]; try rfl) rfl ?_
                refine HDEF.out ?_
                rw [← HG.out, getP]
                (try have ck2 := Hid.out ck)
                (try have cl2 := Hid.out cl)
                (try have d02 := Hid.out d0)
                (try have d12 := Hid.out d1)
                (try have d22 := Hid.out d2)
                (repeat' split) <;> first | rfl | (exfalso; have := HKD.out; have := HML.out; have := HRL.out; simp_all; done) | (exfalso; have := HKD.out; have := HML.out; have := HRL.out; simp_all; omega) | (have := HKD.out; have := HML.out; have := HRL.out; simp_all; done)
        · skip
          by_cases d1 : k1 = 1
          · have f0 : (k1 == 0) = false := by simp; omega
            have f1 : (k1 == 1) = true := by simp; omega
            have f2 : (k1 == 2) = false := by simp; omega
            replace d1 := hide d1
            by_cases cl : q + 1 = n
            · have hla : ((q : Int) == (n : Int) - 1) = true := by simp; omega
              replace cl := hide cl
              by_cases ck : k' = 1
              · have fk : (k' == 1) = true := by simpa using ck
                have hli : isList k' = false := by rw [ck]; rfl
                replace ck := hide ck
                by_cases c65 : a1 < 65535
                · have g6 : decide (a1 < 65535) = true := by simpa using c65
                  have hxb := wordT_bd HT1.out a1
                  have HWD : Hid (Calls Try.prog 20 #[.agg #[.int .i64 k', .slice A' n' c', .slice K' m' d'], .int .i64 a1] w1 fun e w' => e = .returned (.int .u64 (wordT t' a1)) ∧ Below w1.heap.size w1 w') := word_any t' ⟨k', A', n', c', K', m', d'⟩ a1 S w1 HT1.out (fun b hb => by have := HS.out b hb; omega)
                  have HRES : Hid (getP t l = (norm (.node 1 [wordT t' a1] []), true)) := by
                    show _ = _
                    rw [← HG.out, getP]
                    (try have ck2 := Hid.out ck)
                    (try have cl2 := Hid.out cl)
                    (try have d02 := Hid.out d0)
                    (try have d12 := Hid.out d1)
                    (try have d22 := Hid.out d2)
                    (repeat' split) <;> first | rfl | (exfalso; have := HKD.out; have := HML.out; have := HRL.out; simp_all; done) | (exfalso; have := HKD.out; have := HML.out; have := HRL.out; simp_all; omega) | (have := HKD.out; have := HML.out; have := HRL.out; simp_all; done)
                  generalize wordT t' a1 = x at *
                  go_wp2_with fail
                  refine HWD.out.mono ?_
                  rintro e w2 ⟨rfl, hb2⟩
                  have HNM : Hid (Calls Try.prog 19 #[.agg #[.int .i64 1, .slice (some ⟨w2.heap.size, 0, none⟩) 1 1, .slice none 0 0]] (w2.alloc (.cells #[.int .u64 x] 38)) fun e w' => ∃ k2 A2 n2 c2 K2 m2 d2, e = .returned (.agg #[.int .i64 k2, .slice A2 n2 c2, .slice K2 m2 d2]) ∧ TreeAt w' (fun b => (w2.alloc (.cells #[.int .u64 x] 38)).heap.size ≤ b ∧ b < w'.heap.size) (norm (.node 1 [x] [])) ⟨k2, A2, n2, c2, K2, m2, d2⟩ ∧ Below (w2.alloc (.cells #[.int .u64 x] 38)).heap.size (w2.alloc (.cells #[.int .u64 x] 38)) w') := by
                    refine (norm_any _ (.node 1 [x] []) ⟨1, some ⟨w2.heap.size, 0, none⟩, 1, 1, none, 0, 0⟩ _ _ (Nat.le_refl _) (TreeAt.of (words_one hxb) KidsAt.none_) (fun b hb => by rw [World.size_alloc]; omega)).mono ?_
                    rintro e w' ⟨⟨k2, A2, n2, c2, K2, m2, d2⟩, rfl, h1, h2⟩
                    exact ⟨k2, A2, n2, c2, K2, m2, d2, rfl, h1, h2⟩
                  go_wp2_with fail
                  refine HNM.out.mono ?_
                  rintro e w3 ⟨k2, A2, n2, c2, K2, m2, d2, rfl, hT3, hb3⟩
                  have hs2 := hb2.size
                  have hs3 := hb3.size
                  rw [World.size_alloc] at hs3
                  have hw13 : Below w1.heap.size w1 w3 := (hb2.alloc (by omega) _).trans (hb3.mono (by rw [World.size_alloc]; omega))
                  have hB2W := hB2.below hw13 hB2.lt
                  have hbeW := hbe1.trans (hw13.mono (by omega))
                  obtain ⟨q0, q1, q2⟩ := res3 hB2W (.int .i64 k2) (.slice A2 n2 c2) (.slice K2 m2 d2)
                  have hfin := hide (res_fin (w := w) (g := w.heap.size + 1) (.int .i64 k2) (.slice A2 n2 c2) (.slice K2 m2 d2) hT3 (fun b hb => by rw [World.size_alloc] at hb; exact ⟨by omega, hb.2, by omega⟩) hbeW (by omega))
                  have s0 := hB2W.cell 0
                  have s1 := hB2W.cell 1
                  have s2 := hB2W.cell 2
                  have v0 := hB2W.frozen 0
                  have v1 := hB2W.frozen 1
                  have v2 := hB2W.frozen 2
                  simp at s0 s1 s2
                  clear hT3
                  go_wp2_with fail
                  (try simp only [Exit.inBlock, Exit.then])
                  refine bodyPost_ret (by simp [results, Try.results8, go_sem, q0, q1, q2]; try rfl) rfl ?_
                  rw [HRES.out]
                  exact ⟨⟨k2, A2, n2, c2, K2, m2, d2⟩, rfl, by simpa only [World.size_setCell] using hfin.out.1, hfin.out.2⟩
                · have g6 : decide (a1 < 65535) = false := by simpa using c65
                  go_wp2_with fail
                  (try simp only [Exit.inBlock, Exit.then])
                  refine bodyPost_ret (by simp [results, Try.results8, go_sem, q0, q1, q2]; try rfl) rfl ?_
                  refine HDEF.out ?_
                  rw [← HG.out, getP]
                  (try have ck2 := Hid.out ck)
                  (try have cl2 := Hid.out cl)
                  (try have d02 := Hid.out d0)
                  (try have d12 := Hid.out d1)
                  (try have d22 := Hid.out d2)
                  (repeat' split) <;> first | rfl | (exfalso; have := HKD.out; have := HML.out; have := HRL.out; simp_all; done) | (exfalso; have := HKD.out; have := HML.out; have := HRL.out; simp_all; omega) | (have := HKD.out; have := HML.out; have := HRL.out; simp_all; done)
              · have fk : (k' == 1) = false := by simpa using ck
                go_wp2_with fail
                (try simp only [Exit.inBlock, Exit.then])
                refine bodyPost_ret (by simp [results, Try.results8, go_sem, q0, q1, q2]; try rfl) rfl ?_
                refine HDEF.out ?_
                rw [← HG.out, getP]
                (try have ck2 := Hid.out ck)
                (try have cl2 := Hid.out cl)
                (try have d02 := Hid.out d0)
                (try have d12 := Hid.out d1)
                (try have d22 := Hid.out d2)
                (repeat' split) <;> first | rfl | (exfalso; have := HKD.out; have := HML.out; have := HRL.out; simp_all; done) | (exfalso; have := HKD.out; have := HML.out; have := HRL.out; simp_all; omega) | (have := HKD.out; have := HML.out; have := HRL.out; simp_all; done)
            · have hla : ((q : Int) == (n : Int) - 1) = false := by simp; omega
              go_wp2_with fail
              (try simp only [Exit.inBlock, Exit.then])
              refine bodyPost_ret (by simp [results, Try.results8, go_sem, q0, q1, q2]; try rfl) rfl ?_
              refine HDEF.out ?_
              rw [← HG.out, getP]
              (try have ck2 := Hid.out ck)
              (try have cl2 := Hid.out cl)
              (try have d02 := Hid.out d0)
              (try have d12 := Hid.out d1)
              (try have d22 := Hid.out d2)
              (repeat' split) <;> first | rfl | (exfalso; have := HKD.out; have := HML.out; have := HRL.out; simp_all; done) | (exfalso; have := HKD.out; have := HML.out; have := HRL.out; simp_all; omega) | (have := HKD.out; have := HML.out; have := HRL.out; simp_all; done)
          · skip
            by_cases d2 : k1 = 2
            · have f0 : (k1 == 0) = false := by simp; omega
              have f1 : (k1 == 1) = false := by simp; omega
              have f2 : (k1 == 2) = true := by simp; omega
              replace d2 := hide d2
              by_cases cl : q + 1 = n
              · have hla : ((q : Int) == (n : Int) - 1) = true := by simp; omega
                replace cl := hide cl
                cases hli : isList k'
                · skip
                  go_wp2_with fail
                  refine (list_any k' _).mono ?_
                  rintro e w9 ⟨rfl, rfl⟩
                  rw [hli]
                  go_wp2_with fail
                  (try simp only [Exit.inBlock, Exit.then])
                  refine bodyPost_ret (by simp [results, Try.results8, go_sem, q0, q1, q2]; try rfl) rfl ?_
                  refine HDEF.out ?_
                  rw [← HG.out, getP]
                  (try have ck2 := Hid.out ck)
                  (try have cl2 := Hid.out cl)
                  (try have d02 := Hid.out d0)
                  (try have d12 := Hid.out d1)
                  (try have d22 := Hid.out d2)
                  (repeat' split) <;> first | rfl | (exfalso; have := HKD.out; have := HML.out; have := HRL.out; simp_all; done) | (exfalso; have := HKD.out; have := HML.out; have := HRL.out; simp_all; omega) | (have := HKD.out; have := HML.out; have := HRL.out; simp_all; done)
                · skip
                  by_cases cm : a1 ≤ (m' : Int)
                  · have gm : decide (a1 ≤ (m' : Int)) = true := by simpa using cm
                    have HRES : Hid (getP t l = (.node k' [] [], true)) := by
                      show _ = _
                      rw [← HG.out, getP]
                      (try have ck2 := Hid.out ck)
                      (try have cl2 := Hid.out cl)
                      (try have d02 := Hid.out d0)
                      (try have d12 := Hid.out d1)
                      (try have d22 := Hid.out d2)
                      (repeat' split) <;> first | rfl | (exfalso; have := HKD.out; have := HML.out; have := HRL.out; simp_all; done) | (exfalso; have := HKD.out; have := HML.out; have := HRL.out; simp_all; omega) | (have := HKD.out; have := HML.out; have := HRL.out; simp_all; done)
                    go_wp2_with fail
                    refine (list_any k' _).mono ?_
                    rintro e w9 ⟨rfl, rfl⟩
                    rw [hli]
                    clear q0 q1 q2
                    obtain ⟨q0, q1, q2⟩ := res3 hB2 (.int .i64 k') (.slice none 0 0) (.slice none 0 0)
                    have hfin := hide (res_fin (w := w) (g := w.heap.size + 1) (S := fun _ => False) (.int .i64 k') (.slice none 0 0) (.slice none 0 0) (tree_plain (w := w1) k') (fun _ h => h.elim) hbe1 (by omega))
                    go_wp2_with fail
                    (try simp only [Exit.inBlock, Exit.then])
                    refine bodyPost_ret (by simp [results, Try.results8, go_sem, q0, q1, q2]; try rfl) rfl ?_
                    rw [HRES.out]
                    exact ⟨⟨k', none, 0, 0, none, 0, 0⟩, rfl, by simpa only [World.size_setCell] using hfin.out.1, hfin.out.2⟩
                  · have gm : decide (a1 ≤ (m' : Int)) = false := by simpa using cm
                    go_wp2_with fail
                    refine (list_any k' _).mono ?_
                    rintro e w9 ⟨rfl, rfl⟩
                    rw [hli]
                    go_wp2_with fail
                    (try simp only [Exit.inBlock, Exit.then])
                    refine bodyPost_ret (by simp [results, Try.results8, go_sem, q0, q1, q2]; try rfl) rfl ?_
                    refine HDEF.out ?_
                    rw [← HG.out, getP]
                    (try have ck2 := Hid.out ck)
                    (try have cl2 := Hid.out cl)
                    (try have d02 := Hid.out d0)
                    (try have d12 := Hid.out d1)
                    (try have d22 := Hid.out d2)
                    (repeat' split) <;> first | rfl | (exfalso; have := HKD.out; have := HML.out; have := HRL.out; simp_all; done) | (exfalso; have := HKD.out; have := HML.out; have := HRL.out; simp_all; omega) | (have := HKD.out; have := HML.out; have := HRL.out; simp_all; done)
              · have hla : ((q : Int) == (n : Int) - 1) = false := by simp; omega
                go_wp2_with fail
                (try simp only [Exit.inBlock, Exit.then])
                refine bodyPost_ret (by simp [results, Try.results8, go_sem, q0, q1, q2]; try rfl) rfl ?_
                refine HDEF.out ?_
                rw [← HG.out, getP]
                (try have ck2 := Hid.out ck)
                (try have cl2 := Hid.out cl)
                (try have d02 := Hid.out d0)
                (try have d12 := Hid.out d1)
                (try have d22 := Hid.out d2)
                (repeat' split) <;> first | rfl | (exfalso; have := HKD.out; have := HML.out; have := HRL.out; simp_all; done) | (exfalso; have := HKD.out; have := HML.out; have := HRL.out; simp_all; omega) | (have := HKD.out; have := HML.out; have := HRL.out; simp_all; done)
            · have f0 : (k1 == 0) = false := by simp; omega
              have f1 : (k1 == 1) = false := by simp; omega
              have f2 : (k1 == 2) = false := by simp; omega
              go_wp2_with fail
              (try simp only [Exit.inBlock, Exit.then])
              refine bodyPost_ret (by simp [results, Try.results8, go_sem, q0, q1, q2]; try rfl) rfl ?_
              refine HDEF.out ?_
              rw [← HG.out, getP]
              (try have ck2 := Hid.out ck)
              (try have cl2 := Hid.out cl)
              (try have d02 := Hid.out d0)
              (try have d12 := Hid.out d1)
              (try have d22 := Hid.out d2)
              (repeat' split) <;> first | rfl | (exfalso; have := HKD.out; have := HML.out; have := HRL.out; simp_all; done) | (exfalso; have := HKD.out; have := HML.out; have := HRL.out; simp_all; omega) | (have := HKD.out; have := HML.out; have := HRL.out; simp_all; done)
    · have hqe : n = q := by omega
      subst hqe
      have HRES : Hid (getP t l = (norm t', true)) := by
        show _ = _
        rw [← HG.out, List.drop_of_length_le (by rw [← HN.out]; omega), getP]
      have HNM : Hid (Calls Try.prog 19 #[.agg #[.int .i64 k', .slice A' n' c', .slice K' m' d']] wr fun e w' => ∃ k2 A2 n2 c2 K2 m2 d2, e = .returned (.agg #[.int .i64 k2, .slice A2 n2 c2, .slice K2 m2 d2]) ∧ TreeAt w' (fun b => wr.heap.size ≤ b ∧ b < w'.heap.size) (norm t') ⟨k2, A2, n2, c2, K2, m2, d2⟩ ∧ Below wr.heap.size wr w') := by
        refine (norm_any _ t' ⟨k', A', n', c', K', m', d'⟩ S _ (Nat.le_refl _) HTr.out (fun b hb => by have := HS.out b hb; omega)).mono ?_
        rintro e w' ⟨⟨k2, A2, n2, c2, K2, m2, d2⟩, rfl, h1, h2⟩
        exact ⟨k2, A2, n2, c2, K2, m2, d2, rfl, h1, h2⟩
      have t0 := hB1r.cell 0
      have t1 := hB1r.cell 1
      have t2 := hB1r.cell 2
      simp at t0 t1 t2
      go_wp2_with fail
      refine HNM.out.mono ?_
      rintro e w3 ⟨k2, A2, n2, c2, K2, m2, d2, rfl, hT3, hb3⟩
      have hs3 := hb3.size
      have hB2W := hB2r.below hb3 hB2r.lt
      have hbeW := hbr.trans (hb3.mono (by omega))
      obtain ⟨q0, q1, q2⟩ := res3 hB2W (.int .i64 k2) (.slice A2 n2 c2) (.slice K2 m2 d2)
      have hfin := hide (res_fin (w := w) (g := w.heap.size + 1) (.int .i64 k2) (.slice A2 n2 c2) (.slice K2 m2 d2) hT3 (fun b hb => ⟨by omega, hb.2, by omega⟩) hbeW (by omega))
      have s0 := hB2W.cell 0
      have s1 := hB2W.cell 1
      have s2 := hB2W.cell 2
      have v0 := hB2W.frozen 0
      have v1 := hB2W.frozen 1
      have v2 := hB2W.frozen 2
      simp at s0 s1 s2
      clear hT3
      go_wp2_with fail
      (try simp only [Exit.inBlock, Exit.then])
      refine bodyPost_ret (by simp [results, Try.results8, go_sem, q0, q1, q2]; try rfl) rfl ?_
      rw [HRES.out]
      exact ⟨⟨k2, A2, n2, c2, K2, m2, d2⟩, rfl, by simpa only [World.size_setCell] using hfin.out.1, hfin.out.2⟩
end Go.Proofs.Ytmlmmajdeclpoaa
