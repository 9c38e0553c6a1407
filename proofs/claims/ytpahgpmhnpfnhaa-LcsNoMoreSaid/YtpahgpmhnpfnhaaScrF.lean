/-
  flush: the function value within Normal.
-/
import Derived.Test.YtpahgpmhnpfnhaaScrE
import Derived.Test.YtpahgpmhnpfnhaaOnly
import Derived.Deep.RegionLaw
namespace Go.Proofs.Ytpahgpmhnpfnhaa
open Go.RowKit Go.Proofs.Ytpahgpmhnpfnhaa.Scr

def ScAt (w : World) (base g o : Nat) (t : St) (v : Value) : Prop :=
  Blk w g 38 #[.int .i64 t.K, .int .i64 t.D, .int .i64 t.I] ∧ Blk w o 24 #[v] ∧ w.ownsRow base 52 2 v t.out.length (stepCells t.out)
def flK (k : Nat) (t : St) : St := if k = 0 then ⟨t.out ++ fl 0 t.K, 0, t.D, t.I⟩ else if k = 1 then ⟨t.out ++ fl 1 t.D, t.K, 0, t.I⟩ else ⟨t.out ++ fl 2 t.I, t.K, t.D, 0⟩
def getK (k : Nat) (t : St) : Int := if k = 0 then t.K else if k = 1 then t.D else t.I
def rowL (v : Value) : List Nat := match v.ownBlock with | some b => [b] | none => []
def FlushPost (base g o : Nat) (t : St) (v : Value) (w w' : World) : Prop :=
  ∃ v', ScAt w' base g o t v' ∧ Only (g :: o :: rowL v) w w' ∧ (v'.ownBlock = v.ownBlock ∨ ∃ b, v'.ownBlock = some b ∧ w.heap.size ≤ b)
/-- numbers small enough to go on -/
def Tame (t : St) : Prop := (0 ≤ t.K ∧ t.K ≤ 1099511627776) ∧ (0 ≤ t.D ∧ t.D ≤ 1099511627776) ∧ (0 ≤ t.I ∧ t.I ≤ 1099511627776)

theorem row_in {w : World} {g o b : Nat} {u v : Value} (h : u.ownBlock = v.ownBlock ∨ ∃ b, u.ownBlock = some b ∧ w.heap.size ≤ b) (hb : u.ownBlock = some b) : b ∈ g :: o :: rowL v ∨ w.heap.size ≤ b := by
  rcases h with h | ⟨b', h, h2⟩
  · left
    rw [hb] at h
    unfold rowL
    rw [← h]
    simp
  · right
    rw [hb] at h
    injection h with h
    omega
theorem row_ne {w : World} {base : Nat} {e t1 t2 : TypeId} {size n : Nat} {v : Value} {xs : List Value} {g o : Nat} {c1 c2 : Array Value} (h : w.ownsRow base e size v n xs) (hg : Blk w g t1 c1) (ho : Blk w o t2 c2) (h1 : e ≠ t1) (h2 : e ≠ t2) :
    v.ownBlock ≠ some g ∧ v.ownBlock ≠ some o := by
  rcases h.2 with ⟨rfl, _⟩ | ⟨b, cap, cur, rfl, _, hb, _⟩
  · exact ⟨fun h => (by cases h), fun h => (by cases h)⟩
  · refine ⟨fun h => ?_, fun h => ?_⟩
    · have : b = g := by injection h
      subst this
      unfold Blk at hg
      rw [hg] at hb
      injection hb with hb
      injection hb with _ hb
      exact h1 hb.symm
    · have : b = o := by injection h
      subst this
      unfold Blk at ho
      rw [ho] at hb
      injection hb with hb
      injection hb with _ hb
      exact h2 hb.symm

set_option maxHeartbeats 4000000 in
theorem flush_any (base g o b0 : Nat) (t : St) (v : Value) (ks : List Nat) (A : Option Addr) (n c : Nat) (w : World) (hn : n = ks.length) (h3 : n ≤ 3) (hr : Reads w b0 A (ks.map fun (k : Nat) => Value.int .i64 k)) (hk : ∀ k ∈ ks, k < 3)
    (hs : ScAt w base g o t v) (hgo : g ≠ o) (hb0 : b0 ≤ w.heap.size) (hne : ∀ b oo, A = some ⟨b, oo, none⟩ → b ∉ g :: o :: rowL v) (hbb : base ≤ w.heap.size) (ht : Tame t) (hl : t.out.length ≤ 1048576) :
    Calls Try.prog 33 #[.slice A n c, .pointer (some ⟨g, 0, none⟩), .pointer (some ⟨o, 0, none⟩)] w fun e w' => e = .returned (.tuple #[]) ∧ FlushPost base g o (ks.foldl (fun t k => flK k t) t) v w w' := by
  obtain ⟨i0, hi, hz0, hz1, hz2⟩ := info_parts infoMine
  have HR := hide hr
  have HN := hide hn
  have HK := hide hk
  have HNE := hide hne
  clear hr hn hk hne
  go_enter Try.func33, Try.ntmps33
  go_wp2_with fail
  go_loopw [8] (fun i wr => ∃ (q : Nat) (u : Value), q ≤ n ∧ i = .int .i64 q ∧ Hid (ScAt wr base g o ((ks.take q).foldl (fun t k => flK k t) t) u) ∧ Tame ((ks.take q).foldl (fun t k => flK k t) t) ∧ ((ks.take q).foldl (fun t k => flK k t) t).out.length ≤ 1048576 + q ∧ Only (g :: o :: rowL v) w wr ∧ Hid (u.ownBlock = v.ownBlock ∨ ∃ b, u.ownBlock = some b ∧ w.heap.size ≤ b)) (fun i _ => n - (intOf i).toNat)
  case atStart => exact ⟨0, v, by omega, rfl, hs, ht, by simpa using hl, Only.refl _ _, .inl rfl⟩
  case round =>
    obtain ⟨q, u, hq, rfl, hsc, htm, hol, hon, hu⟩ := hrel
    by_cases hlt : q < n
    · have hl1 : q < ks.length := by rw [← HN.out]; exact hlt
      have HST : Hid ((ks.take (q + 1)).foldl (fun t k => flK k t) t = flK ks[q] ((ks.take q).foldl (fun t k => flK k t) t)) := by
        show _ = _
        rw [List.take_succ_eq_append_getElem hl1, List.foldl_append]
        rfl
      have hk3 := HK.out _ (List.getElem_mem hl1)
      obtain ⟨bx, ox, rfl, hbx, cx0⟩ := HR.out.cellAt (k := q) (by simpa using hl1)
      have hbn := HNE.out bx ox rfl
      have cx : wr.cell? ⟨bx, ox + q, none⟩ = some (.int .i64 (ks[q] : Nat)) := by
        rw [hon.cell (by omega) hbn, cx0]
        simp
      generalize ks[q] = k at *
      generalize ((ks.take q).foldl (fun t k => flK k t) t) = s at *
      obtain ⟨hg, ho, hown⟩ := hsc.out
      have e0 := hg.cell 0
      have e1 := hg.cell 1
      have e2 := hg.cell 2
      have e3 := hg.frozen 0
      have e4 := hg.frozen 1
      have e5 := hg.frozen 2
      have e6 := ho.cell 0
      have e7 := ho.frozen 0
      simp at e0 e1 e2 e6
      have hgl := hg.lt
      have hool := ho.lt
      have HROW : Hid (u.ownBlock ≠ some g ∧ u.ownBlock ≠ some o) := row_ne hown hg ho (by decide) (by decide)
      have HG := hide hg
      have HO := hide ho
      clear hg ho cx0 hbn
      rcases (show k = 0 ∨ k = 1 ∨ k = 2 by omega) with rfl | rfl | rfl
      · have HFK : Hid (flK 0 s = ⟨s.out ++ fl 0 s.K, 0, s.D, s.I⟩) := rfl
        by_cases hp : 0 < s.K
        · have HFL := hide (fl_pos 0 s.K hp)
          have hAl : Below wr.heap.size wr (wr.alloc (.cells #[.int .i64 0, .int .i64 s.K] 52)) := (Below.refl _ _).alloc (Nat.le_refl _) _
          have f6 := (hAl.cell (p := ⟨o, 0, none⟩) hool).trans e6
          have f7 := (hAl.cell (p := ⟨g, 0, none⟩) hgl).trans e0
          have f8 := (hAl.frozen (p := ⟨o, 0, none⟩) hool).trans e7
          go_wp2_with fail
          go_region_law
            ((refine step_append_lies _ (by rfl) _ _ _ (by rfl) base 52 i0 _ 2 16 Try.underlying24 hi hz0 hz1 hz2 rfl (by omega) u s.out.length (stepCells s.out) (by rfl) ((hown.alloc _).drew) ⟨wr.heap.size, 0, none⟩ 1 1 [.int .i64 0, .int .i64 s.K] (by rfl) (by rfl) (World.news_of_block (cs := #[.int .i64 0, .int .i64 s.K]) (t := 52) (fr := (0, 0)) (heap_alloc_new wr _)) (by simp [Value.oneCell']) (by omega) (by unfold maxLen; omega) (by omega) (by have := hon.size; simp; omega) (wr.heap.size + 1) (by simp) ?_; intro gg cap w4 hown4 hg4 hat4 hlt4; have g6 := (World.cell?_of_block (a := ⟨o, 0, none⟩) (hg4.block o (by simp; omega) (fun e => HROW.out.2 e.symm))).trans f6; have g7 := (World.cell?_of_block (a := ⟨g, 0, none⟩) (hg4.block g (by simp; omega) (fun e => HROW.out.1 e.symm))).trans f7; have g8 := (World.frozen?_of_block (a := ⟨o, 0, none⟩) (hg4.block o (by simp; omega) (fun e => HROW.out.2 e.symm))).trans f8))
          all_goals
            have hgg : gg ≠ g ∧ gg ≠ o := by
              rcases hat4 with h | h
              · exact ⟨fun e => HROW.out.1 (by rw [h, e]), fun e => HROW.out.2 (by rw [h, e])⟩
              · (try simp at h); omega
            have HG5 := hide ((((HG.out.alloc (.cells #[.int .i64 0, .int .i64 s.K] 52)).drew).grown hg4 (fun e => HROW.out.1 e.symm)).far (p := ⟨o, 0, none⟩) hgo (.slice (some ⟨gg, 0, none⟩) (s.out.length + 1) cap))
            have HO5 : Hid (Blk (w4.setCell ⟨o, 0, none⟩ (.slice (some ⟨gg, 0, none⟩) (s.out.length + 1) cap)) o 24 #[.slice (some ⟨gg, 0, none⟩) (s.out.length + 1) cap]) := by
              have := (((HO.out.alloc (.cells #[.int .i64 0, .int .i64 s.K] 52)).drew).grown hg4 (fun e => HROW.out.2 e.symm)).set_ 0 (.slice (some ⟨gg, 0, none⟩) (s.out.length + 1) cap)
              show Blk _ _ _ _
              simpa using this
            have hown5 := ownsRow_far hown4 (p := ⟨o, 0, none⟩) (fun h => hgg.2 (by injection h)) (.slice (some ⟨gg, 0, none⟩) (s.out.length + 1) cap)
            have hon5 : Only (g :: o :: rowL v) w (w4.setCell ⟨o, 0, none⟩ (.slice (some ⟨gg, 0, none⟩) (s.out.length + 1) cap)) := ((hon.alloc (.cells #[.int .i64 0, .int .i64 s.K] 52)).drew.grown hg4 (fun b hb => row_in hu.out hb)).setCell (by simp) _
            have hu5 : Hid (some gg = v.ownBlock ∨ ∃ b, some gg = some b ∧ w.heap.size ≤ b) := by
              rcases hat4 with h | h
              · rcases hu.out with h2 | ⟨b, h2, h3⟩
                · exact .inl (by rw [← h, h2])
                · exact .inr ⟨b, by rw [← h, h2], h3⟩
              · exact .inr ⟨gg, rfl, by have := hon.size; (try simp at h); omega⟩
            clear hown4 hg4 hat4 g6 g7 g8
            generalize (w4.setCell ⟨o, 0, none⟩ (.slice (some ⟨gg, 0, none⟩) (s.out.length + 1) cap)) = w5 at *
            have d0 := HG5.out.cell 0
            have d1 := HG5.out.frozen 0
            simp at d0
            go_wp2_with fail
            go_roundw
            case rel =>
              refine ⟨q + 1, .slice (some ⟨gg, 0, none⟩) (s.out.length + 1) cap, by omega, by go_num, ?_, ?_, ?_, hon5.setCell (by simp) _, hu5⟩
              · rw [HST.out, HFK.out, HFL.out]
                refine ⟨?_, HO5.out.far (Ne.symm hgo) _, ?_⟩
                · have := HG5.out.set_ 0 (.int .i64 0)
                  simpa using this
                · have h6 := ownsRow_far hown5 (p := ⟨g, 0, none⟩) (fun h => hgg.1 (by injection h)) (.int .i64 0)
                  rw [stepCells_app, stepCells_one]
                  simpa using h6
              · rw [HST.out, HFK.out]
                obtain ⟨t1, t2, t3⟩ := htm
                exact ⟨⟨by simp, by simp⟩, t2, t3⟩
              · rw [HST.out, HFK.out, HFL.out]
                simp
                omega
            case measure => simp [intOf]; omega
        · have hz : s.K = 0 := by have := htm; unfold Tame at this; omega
          have HZ := hide hz
          clear hz
          go_wp2_with fail
          go_roundw
          case rel =>
            refine ⟨q + 1, u, by omega, by go_num, ?_, ?_, ?_, hon.setCell (by simp) _, hu⟩
            · rw [HST.out, HFK.out, HZ.out, fl_0, List.append_nil]
              refine ⟨?_, HO.out.far (Ne.symm hgo) _, ownsRow_far hown HROW.out.1 _⟩
              have := HG.out.set_ 0 (.int .i64 0)
              simpa using this
            · rw [HST.out, HFK.out]
              obtain ⟨t1, t2, t3⟩ := htm
              exact ⟨⟨by simp, by simp⟩, t2, t3⟩
            · rw [HST.out, HFK.out, HZ.out, fl_0, List.append_nil]
              simp only
              omega
          case measure => simp [intOf]; omega
      · have HFK : Hid (flK 1 s = ⟨s.out ++ fl 1 s.D, s.K, 0, s.I⟩) := rfl
        by_cases hp : 0 < s.D
        · have HFL := hide (fl_pos 1 s.D hp)
          have hAl : Below wr.heap.size wr (wr.alloc (.cells #[.int .i64 1, .int .i64 s.D] 52)) := (Below.refl _ _).alloc (Nat.le_refl _) _
          have f6 := (hAl.cell (p := ⟨o, 0, none⟩) hool).trans e6
          have f7 := (hAl.cell (p := ⟨g, 1, none⟩) hgl).trans e1
          have f8 := (hAl.frozen (p := ⟨o, 0, none⟩) hool).trans e7
          go_wp2_with fail
          go_region_law
            ((refine step_append_lies _ (by rfl) _ _ _ (by rfl) base 52 i0 _ 2 16 Try.underlying24 hi hz0 hz1 hz2 rfl (by omega) u s.out.length (stepCells s.out) (by rfl) ((hown.alloc _).drew) ⟨wr.heap.size, 0, none⟩ 1 1 [.int .i64 1, .int .i64 s.D] (by rfl) (by rfl) (World.news_of_block (cs := #[.int .i64 1, .int .i64 s.D]) (t := 52) (fr := (0, 0)) (heap_alloc_new wr _)) (by simp [Value.oneCell']) (by omega) (by unfold maxLen; omega) (by omega) (by have := hon.size; simp; omega) (wr.heap.size + 1) (by simp) ?_; intro gg cap w4 hown4 hg4 hat4 hlt4; have g6 := (World.cell?_of_block (a := ⟨o, 0, none⟩) (hg4.block o (by simp; omega) (fun e => HROW.out.2 e.symm))).trans f6; have g7 := (World.cell?_of_block (a := ⟨g, 1, none⟩) (hg4.block g (by simp; omega) (fun e => HROW.out.1 e.symm))).trans f7; have g8 := (World.frozen?_of_block (a := ⟨o, 0, none⟩) (hg4.block o (by simp; omega) (fun e => HROW.out.2 e.symm))).trans f8))
          all_goals
            have hgg : gg ≠ g ∧ gg ≠ o := by
              rcases hat4 with h | h
              · exact ⟨fun e => HROW.out.1 (by rw [h, e]), fun e => HROW.out.2 (by rw [h, e])⟩
              · (try simp at h); omega
            have HG5 := hide ((((HG.out.alloc (.cells #[.int .i64 1, .int .i64 s.D] 52)).drew).grown hg4 (fun e => HROW.out.1 e.symm)).far (p := ⟨o, 0, none⟩) hgo (.slice (some ⟨gg, 0, none⟩) (s.out.length + 1) cap))
            have HO5 : Hid (Blk (w4.setCell ⟨o, 0, none⟩ (.slice (some ⟨gg, 0, none⟩) (s.out.length + 1) cap)) o 24 #[.slice (some ⟨gg, 0, none⟩) (s.out.length + 1) cap]) := by
              have := (((HO.out.alloc (.cells #[.int .i64 1, .int .i64 s.D] 52)).drew).grown hg4 (fun e => HROW.out.2 e.symm)).set_ 0 (.slice (some ⟨gg, 0, none⟩) (s.out.length + 1) cap)
              show Blk _ _ _ _
              simpa using this
            have hown5 := ownsRow_far hown4 (p := ⟨o, 0, none⟩) (fun h => hgg.2 (by injection h)) (.slice (some ⟨gg, 0, none⟩) (s.out.length + 1) cap)
            have hon5 : Only (g :: o :: rowL v) w (w4.setCell ⟨o, 0, none⟩ (.slice (some ⟨gg, 0, none⟩) (s.out.length + 1) cap)) := ((hon.alloc (.cells #[.int .i64 1, .int .i64 s.D] 52)).drew.grown hg4 (fun b hb => row_in hu.out hb)).setCell (by simp) _
            have hu5 : Hid (some gg = v.ownBlock ∨ ∃ b, some gg = some b ∧ w.heap.size ≤ b) := by
              rcases hat4 with h | h
              · rcases hu.out with h2 | ⟨b, h2, h3⟩
                · exact .inl (by rw [← h, h2])
                · exact .inr ⟨b, by rw [← h, h2], h3⟩
              · exact .inr ⟨gg, rfl, by have := hon.size; (try simp at h); omega⟩
            clear hown4 hg4 hat4 g6 g7 g8
            generalize (w4.setCell ⟨o, 0, none⟩ (.slice (some ⟨gg, 0, none⟩) (s.out.length + 1) cap)) = w5 at *
            have d0 := HG5.out.cell 1
            have d1 := HG5.out.frozen 1
            simp at d0
            go_wp2_with fail
            go_roundw
            case rel =>
              refine ⟨q + 1, .slice (some ⟨gg, 0, none⟩) (s.out.length + 1) cap, by omega, by go_num, ?_, ?_, ?_, hon5.setCell (by simp) _, hu5⟩
              · rw [HST.out, HFK.out, HFL.out]
                refine ⟨?_, HO5.out.far (Ne.symm hgo) _, ?_⟩
                · have := HG5.out.set_ 1 (.int .i64 0)
                  simpa using this
                · have h6 := ownsRow_far hown5 (p := ⟨g, 1, none⟩) (fun h => hgg.1 (by injection h)) (.int .i64 0)
                  rw [stepCells_app, stepCells_one]
                  simpa using h6
              · rw [HST.out, HFK.out]
                obtain ⟨t1, t2, t3⟩ := htm
                exact ⟨t1, ⟨by simp, by simp⟩, t3⟩
              · rw [HST.out, HFK.out, HFL.out]
                simp
                omega
            case measure => simp [intOf]; omega
        · have hz : s.D = 0 := by have := htm; unfold Tame at this; omega
          have HZ := hide hz
          clear hz
          go_wp2_with fail
          go_roundw
          case rel =>
            refine ⟨q + 1, u, by omega, by go_num, ?_, ?_, ?_, hon.setCell (by simp) _, hu⟩
            · rw [HST.out, HFK.out, HZ.out, fl_0, List.append_nil]
              refine ⟨?_, HO.out.far (Ne.symm hgo) _, ownsRow_far hown HROW.out.1 _⟩
              have := HG.out.set_ 1 (.int .i64 0)
              simpa using this
            · rw [HST.out, HFK.out]
              obtain ⟨t1, t2, t3⟩ := htm
              exact ⟨t1, ⟨by simp, by simp⟩, t3⟩
            · rw [HST.out, HFK.out, HZ.out, fl_0, List.append_nil]
              simp only
              omega
          case measure => simp [intOf]; omega
      · have HFK : Hid (flK 2 s = ⟨s.out ++ fl 2 s.I, s.K, s.D, 0⟩) := rfl
        by_cases hp : 0 < s.I
        · have HFL := hide (fl_pos 2 s.I hp)
          have hAl : Below wr.heap.size wr (wr.alloc (.cells #[.int .i64 2, .int .i64 s.I] 52)) := (Below.refl _ _).alloc (Nat.le_refl _) _
          have f6 := (hAl.cell (p := ⟨o, 0, none⟩) hool).trans e6
          have f7 := (hAl.cell (p := ⟨g, 2, none⟩) hgl).trans e2
          have f8 := (hAl.frozen (p := ⟨o, 0, none⟩) hool).trans e7
          go_wp2_with fail
          go_region_law
            ((refine step_append_lies _ (by rfl) _ _ _ (by rfl) base 52 i0 _ 2 16 Try.underlying24 hi hz0 hz1 hz2 rfl (by omega) u s.out.length (stepCells s.out) (by rfl) ((hown.alloc _).drew) ⟨wr.heap.size, 0, none⟩ 1 1 [.int .i64 2, .int .i64 s.I] (by rfl) (by rfl) (World.news_of_block (cs := #[.int .i64 2, .int .i64 s.I]) (t := 52) (fr := (0, 0)) (heap_alloc_new wr _)) (by simp [Value.oneCell']) (by omega) (by unfold maxLen; omega) (by omega) (by have := hon.size; simp; omega) (wr.heap.size + 1) (by simp) ?_; intro gg cap w4 hown4 hg4 hat4 hlt4; have g6 := (World.cell?_of_block (a := ⟨o, 0, none⟩) (hg4.block o (by simp; omega) (fun e => HROW.out.2 e.symm))).trans f6; have g7 := (World.cell?_of_block (a := ⟨g, 2, none⟩) (hg4.block g (by simp; omega) (fun e => HROW.out.1 e.symm))).trans f7; have g8 := (World.frozen?_of_block (a := ⟨o, 0, none⟩) (hg4.block o (by simp; omega) (fun e => HROW.out.2 e.symm))).trans f8))
          all_goals
            have hgg : gg ≠ g ∧ gg ≠ o := by
              rcases hat4 with h | h
              · exact ⟨fun e => HROW.out.1 (by rw [h, e]), fun e => HROW.out.2 (by rw [h, e])⟩
              · (try simp at h); omega
            have HG5 := hide ((((HG.out.alloc (.cells #[.int .i64 2, .int .i64 s.I] 52)).drew).grown hg4 (fun e => HROW.out.1 e.symm)).far (p := ⟨o, 0, none⟩) hgo (.slice (some ⟨gg, 0, none⟩) (s.out.length + 1) cap))
            have HO5 : Hid (Blk (w4.setCell ⟨o, 0, none⟩ (.slice (some ⟨gg, 0, none⟩) (s.out.length + 1) cap)) o 24 #[.slice (some ⟨gg, 0, none⟩) (s.out.length + 1) cap]) := by
              have := (((HO.out.alloc (.cells #[.int .i64 2, .int .i64 s.I] 52)).drew).grown hg4 (fun e => HROW.out.2 e.symm)).set_ 0 (.slice (some ⟨gg, 0, none⟩) (s.out.length + 1) cap)
              show Blk _ _ _ _
              simpa using this
            have hown5 := ownsRow_far hown4 (p := ⟨o, 0, none⟩) (fun h => hgg.2 (by injection h)) (.slice (some ⟨gg, 0, none⟩) (s.out.length + 1) cap)
            have hon5 : Only (g :: o :: rowL v) w (w4.setCell ⟨o, 0, none⟩ (.slice (some ⟨gg, 0, none⟩) (s.out.length + 1) cap)) := ((hon.alloc (.cells #[.int .i64 2, .int .i64 s.I] 52)).drew.grown hg4 (fun b hb => row_in hu.out hb)).setCell (by simp) _
            have hu5 : Hid (some gg = v.ownBlock ∨ ∃ b, some gg = some b ∧ w.heap.size ≤ b) := by
              rcases hat4 with h | h
              · rcases hu.out with h2 | ⟨b, h2, h3⟩
                · exact .inl (by rw [← h, h2])
                · exact .inr ⟨b, by rw [← h, h2], h3⟩
              · exact .inr ⟨gg, rfl, by have := hon.size; (try simp at h); omega⟩
            clear hown4 hg4 hat4 g6 g7 g8
            generalize (w4.setCell ⟨o, 0, none⟩ (.slice (some ⟨gg, 0, none⟩) (s.out.length + 1) cap)) = w5 at *
            have d0 := HG5.out.cell 2
            have d1 := HG5.out.frozen 2
            simp at d0
            go_wp2_with fail
            go_roundw
            case rel =>
              refine ⟨q + 1, .slice (some ⟨gg, 0, none⟩) (s.out.length + 1) cap, by omega, by go_num, ?_, ?_, ?_, hon5.setCell (by simp) _, hu5⟩
              · rw [HST.out, HFK.out, HFL.out]
                refine ⟨?_, HO5.out.far (Ne.symm hgo) _, ?_⟩
                · have := HG5.out.set_ 2 (.int .i64 0)
                  simpa using this
                · have h6 := ownsRow_far hown5 (p := ⟨g, 2, none⟩) (fun h => hgg.1 (by injection h)) (.int .i64 0)
                  rw [stepCells_app, stepCells_one]
                  simpa using h6
              · rw [HST.out, HFK.out]
                obtain ⟨t1, t2, t3⟩ := htm
                exact ⟨t1, t2, ⟨by simp, by simp⟩⟩
              · rw [HST.out, HFK.out, HFL.out]
                simp
                omega
            case measure => simp [intOf]; omega
        · have hz : s.I = 0 := by have := htm; unfold Tame at this; omega
          have HZ := hide hz
          clear hz
          go_wp2_with fail
          go_roundw
          case rel =>
            refine ⟨q + 1, u, by omega, by go_num, ?_, ?_, ?_, hon.setCell (by simp) _, hu⟩
            · rw [HST.out, HFK.out, HZ.out, fl_0, List.append_nil]
              refine ⟨?_, HO.out.far (Ne.symm hgo) _, ownsRow_far hown HROW.out.1 _⟩
              have := HG.out.set_ 2 (.int .i64 0)
              simpa using this
            · rw [HST.out, HFK.out]
              obtain ⟨t1, t2, t3⟩ := htm
              exact ⟨t1, t2, ⟨by simp, by simp⟩⟩
            · rw [HST.out, HFK.out, HZ.out, fl_0, List.append_nil]
              simp only
              omega
          case measure => simp [intOf]; omega
    · have hqe : q = n := by omega
      subst hqe
      rw [show ks.take q = ks from List.take_of_length_le (by rw [HN.out]; exact Nat.le_refl _)] at hsc
      go_wp2_with fail
      go_end0
      exact ⟨rfl, u, hsc.out, hon, hu.out⟩
end Go.Proofs.Ytpahgpmhnpfnhaa
