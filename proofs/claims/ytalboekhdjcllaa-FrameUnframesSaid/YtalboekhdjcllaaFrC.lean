/-
  Frame of the reference.
-/
import Derived.Test.YtalboekhdjcllaaFrB
namespace Go.Proofs.Ytalboekhdjcllaa
open Go.RowKit

set_option maxHeartbeats 4000000 in
theorem refFrame_any (A : Option Addr) (n c b0 : Nat) (vs : List Value) (ls : List (List Int)) (w : World) (hn : n = ls.length) (hs : SegsAt w b0 A vs ls) (hb0 : b0 ≤ w.heap.size) (hm : n ≤ maxLen) :
    Calls Try.prog 7 #[.slice A n c] w (FramePost ls w) := by
  obtain ⟨i0, hi, hz0, hz1, hz2⟩ := info_parts infoByte
  unfold maxLen at hm
  have HS := hide hs
  clear hs
  by_cases h16 : 1 ≤ n ∧ n ≤ 16
  · obtain ⟨h1, h2⟩ := h16
    have HN := hide hn
    have hP : n + 1 ≤ 17 := by omega
    have hq : ((n : Int) == 0) = false := by simp; omega
    clear hn
    go_enter Try.func7, Try.ntmps7
    go_wp2_with fail
    refine (refNumber_any ((n : Int) - 1) (by omega) (by omega) _).mono ?_
    rintro e w1 ⟨hb1, v1, rfl, hown1⟩
    have hown1' : w1.ownsRow w.heap.size 5 1 v1 4 ((numB ((n : Int) - 1)).map (Value.int .u8)) := hown1
    clear hown1
    go_wp2_with fail
    go_loopw [4, 5] (fun v i wr => ∃ k : Nat, k ≤ n ∧ i = .int .i64 k ∧ Hid (∀ j (h : j < ls.length), j < k → ls[j].length ≤ 65536) ∧ wr.ownsRow w.heap.size 5 1 v (4 + 4 * k) ((numB ((n : Int) - 1) ++ lensB (ls.take k)).map (Value.int .u8)) ∧ Below w.heap.size w wr) (fun _ i _ => n - (intOf i).toNat)
    case atStart => exact ⟨0, by omega, rfl, fun j h h0 => by omega, by simpa [lensB] using hown1', hb1⟩
    case round =>
      obtain ⟨k, hk, rfl, hall, hown, hbe⟩ := hrel
      by_cases hlt : k < n
      · have hlt' : k < ls.length := by rw [← HN.out]; exact hlt
        obtain ⟨b, o, A1, n1, c1, rfl, hbx, cx, hn1, -⟩ := (HS.out.below hbe hb0).at_ hlt'
        have HN1 := hide hn1
        have HLS := hide (lensB_snoc ls k hlt')
        rw [← hn1] at HLS
        clear hn1
        by_cases hbig : n1 ≤ 65536
        · go_wp2_with fail
          refine (refNumber_any (n1 : Int) (by omega) (by omega) _).mono ?_
          rintro e w2 ⟨hb2, v2, rfl, hown2⟩
          obtain ⟨A2, c2, rfl, hle2, hA2⟩ := ownsRow_slice hown2
          have hr2 := hide (Reads.of_own hown2 rfl)
          have hown' := ownsRow_below hown hb2
          have hbe2 := hbe.trans (hb2.mono hbe.size)
          go_wp2_with (at_builtin; refine wpList_append_any _ rfl (.tmp 31) (.tmp 37) _ rfl w.heap.size 5 i0 _ 1 1 Try.underlying23 hi hz0 hz1 hz2 rfl (by decide) _ _ _ rfl hown' A2 4 c2 ((numB n1).map (Value.int .u8)) rfl rfl hr2.out.src (oneCells _ _) (by unfold maxLen; omega) (by omega) hbe2.size ?_; intro v3 w3 hown3 hg3 hat3)
          go_roundw
          case rel =>
            refine ⟨k + 1, by omega, by go_num, fun j h h0 => ?_, ?_, hbe2.grown hg3 hbe2.size (fun k hk => (hown'.lt k hk).1)⟩
            · by_cases hj : j < k
              · exact hall.out j h hj
              · have : j = k := by omega
                subst this
                rw [← HN1.out]; exact hbig
            · rw [HLS.out, ← List.append_assoc, List.map_append, show 4 + 4 * (k + 1) = 4 + 4 * k + 4 from by omega]
              exact hown3
          case measure => simp [intOf]; omega
        · go_wp2_with fail
          go_ret2
          refine ⟨hbe, .inl ⟨?_, rfl⟩⟩
          unfold okSegs
          have : (ls.all fun x => decide (x.length ≤ 65536)) = false := by
            rw [List.all_eq_false]
            exact ⟨ls[k], List.getElem_mem hlt', by simp; rw [← HN1.out]; omega⟩
          rw [this, Bool.and_false]
      · have hke : k = n := by omega
        subst hke
        rw [show ls.take k = ls from List.take_of_length_le (by rw [HN.out]; exact Nat.le_refl _)] at hown
        have HALL : Hid (∀ x ∈ ls, x.length ≤ 65536) := fun x hx => by
          obtain ⟨j, hj, rfl⟩ := List.mem_iff_getElem.1 hx
          exact hall.out j hj (by rw [HN.out]; exact hj)
        clear hall
        have hpd : padN k ≤ 4 := by unfold padN; split <;> omega
        have hp8 : (4 + 4 * k + padN k) % 8 = 0 := by unfold padN; split <;> omega
        have hp9 : ∀ p, p < padN k → p < 4 := fun p hp => by omega
        generalize hpe : padN k = pd at *
        have HPE := hide hpe
        clear hpe
        go_wp2_with fail
        go_loopw [4] (fun v wr => ∃ p : Nat, p ≤ pd ∧ wr.ownsRow w.heap.size 5 1 v (4 + 4 * k + p) ((numB ((k : Int) - 1) ++ lensB ls ++ List.replicate p 0).map (Value.int .u8)) ∧ Below w.heap.size w wr) (fun v _ => 100 - lenV v)
        case atStart => exact ⟨0, by omega, by simpa using hown, hbe⟩
        case round =>
        obtain ⟨p, hp, hown, hbe⟩ := hrel
        obtain ⟨A5, c5, rfl, hle5, hA5⟩ := ownsRow_slice hown
        by_cases hpp : p < pd
        · have hmod : ((4 + 4 * k + p : Nat) : Int) % 8 > 0 := by have := hp9 p hpp; omega
          have hnew : ∀ j u, ([(0 : Int)].map (Value.int .u8))[j]? = some u → ∃ ad, some (⟨wr.heap.size, 0, none⟩ : Addr) = some ad ∧ (wr.alloc (.cells #[.int .u8 0] 5)).cell? (ad.add j) = some u := fun j u hu => by
            refine ⟨_, rfl, ?_⟩
            rw [add_lit, Nat.zero_add, (Blk.new wr _ _).cell]
            simpa using hu
          have HNEW := hide hnew
          clear hnew
          have hp4 := hp9 p hpp
          go_wp2_with (at_builtin; refine wpList_append_any _ rfl (.tmp 43) (.tmp 44) _ rfl w.heap.size 5 i0 _ 1 1 Try.underlying23 hi hz0 hz1 hz2 rfl (by decide) _ _ _ rfl (hown.alloc _) (some ⟨wr.heap.size, 0, none⟩) 1 1 ([(0 : Int)].map (Value.int .u8)) rfl rfl HNEW.out (oneCells _ _) (by unfold maxLen; omega) (by omega) (by have := hbe.size; simp; omega) ?_; intro v3 w3 hown3 hg3 hat3)
          go_roundw
          case rel =>
            refine ⟨p + 1, by omega, ?_, (hbe.alloc hbe.size _).grown hg3 (by have := hbe.size; simp; omega) (fun k hk => (hown.lt k hk).1)⟩
            rw [List.replicate_succ', ← List.append_assoc, List.map_append (l₂ := [0]), show 4 + 4 * k + (p + 1) = 4 + 4 * k + p + 1 from by omega]
            exact hown3
          case measure =>
            obtain ⟨A6, c6, rfl, _, _⟩ := ownsRow_slice hown3
            simp [lenV]
            omega
        have hppd : p = pd := by omega
        subst hppd
        have hmod : decide (((4 + 4 * k + p : Nat) : Int) % 8 > 0) = false := by simp; omega
        go_wp2_with fail
        have hown3 := hown
        have hbe3 := hbe
        clear hown hbe
        have HHD : Hid ((numB ((k : Int) - 1) ++ lensB ls ++ List.replicate p 0).map (Value.int .u8) = (headB ls).map (Value.int .u8)) := by
          show _ = _
          unfold headB lenB
          rw [← HN.out, HPE.out]
        rw [HHD.out] at hown3
        have HOWN3 := hide hown3
        clear hown3 HHD HPE
        go_loopw [4, 6] (fun v i wr => ∃ j : Nat, j ≤ k ∧ i = .int .i64 j ∧ wr.ownsRow w.heap.size 5 1 v (4 + 4 * k + p + ((ls.take j).flatMap flatOf).length) ((headB ls ++ (ls.take j).flatMap flatOf).map (Value.int .u8)) ∧ Below w.heap.size w wr) (fun _ i _ => k - (intOf i).toNat)
        case atStart => exact ⟨0, by omega, rfl, by simpa using HOWN3.out, hbe3⟩
        case round =>
          obtain ⟨j, hj, rfl, hown, hbe⟩ := hrel
          by_cases hlt : j < k
          · have hlt' : j < ls.length := by rw [← HN.out]; exact hlt
            obtain ⟨b, o, A1, n1, c1, rfl, hbx, cx, hn1, hr1, hw1, hs1⟩ := (HS.out.below hbe hb0).at_ hlt'
            have HN1 := hide hn1
            have HFS := hide (flats_snoc ls j hlt')
            have hlb : ((ls.take j).flatMap flatOf).length ≤ 524288 * 16 := by
              have h1 := flats_len (ls.take j) (fun x hx => HALL.out x (List.mem_of_mem_take hx))
              have h2 : (ls.take j).length ≤ 16 := by rw [List.length_take]; omega
              omega
            have hlb2 : (flatOf ls[j]).length ≤ 524288 := by
              rw [flatOf_len]
              have := HALL.out _ (List.getElem_mem hlt')
              omega
            have HFL : Hid (((ls.take j).flatMap flatOf ++ flatOf ls[j]).length = ((ls.take j).flatMap flatOf).length + (flatOf ls[j]).length) := List.length_append
            clear hn1
            generalize ls[j] = x at *
            generalize ((ls.take j).flatMap flatOf) = fl at *
            go_wp2_with fail
            refine (refFlat_any A1 n1 c1 b0 x _ HN1.out hr1 (by have := hbe.size; omega) hw1 hs1).mono ?_
            rintro e w4 ⟨hb4, A4, n4, c4, rfl, hn4, hnc4, hc4, hA4, hr4⟩
            have HN4 := hide hn4
            have HR4 := hide hr4
            have hown' := ownsRow_below hown hb4
            have hbe4 := hbe.trans (hb4.mono hbe.size)
            rw [← hn4] at hlb2
            clear hn4 hr4 hA4
            go_wp2_with (at_builtin; refine wpList_append_any _ rfl (.tmp 52) (.tmp 57) _ rfl w.heap.size 5 i0 _ 1 1 Try.underlying23 hi hz0 hz1 hz2 rfl (by decide) _ _ _ rfl hown' A4 n4 c4 ((flatOf x).map (Value.int .u8)) rfl (by rw [List.length_map, HN4.out]; omega) HR4.out.src (oneCells _ _) (by unfold maxLen; omega) (by omega) hbe4.size ?_; intro v5 w5 hown5 hg5 hat5)
            go_roundw
            case rel =>
              refine ⟨j + 1, by omega, by go_num, ?_, hbe4.grown hg5 hbe4.size (fun k hk => (hown'.lt k hk).1)⟩
              rw [HFS.out, HFL.out, ← HN4.out, ← List.append_assoc, List.map_append, ← Nat.add_assoc]
              exact hown5
            case measure => simp [intOf]; omega
          · have hje : j = k := by omega
            subst hje
            rw [show ls.take j = ls from List.take_of_length_le (by rw [HN.out]; exact Nat.le_refl _)] at hown
            have HFL : Hid (4 + 4 * j + p + (ls.flatMap flatOf).length = (frameB ls).length) := by
              have := hown.1
              show _ = _
              rw [List.length_map] at this
              unfold frameB
              rw [this, Nat.mul_one]
            go_wp2_with fail
            go_ret2
            obtain ⟨A', c', hv, hle, hA'⟩ := ownsRow_slice hown
            refine ⟨hbe, .inr ⟨?_, A', _, c', by rw [← hv]; rfl, HFL.out, hle, ownsRow_cap (by rw [← hv]; exact hown), Reads.of_own hown hv⟩⟩
            unfold okSegs
            have h3 : (ls.all fun x => decide (x.length ≤ 65536)) = true := List.all_eq_true.2 fun x hx => decide_eq_true (HALL.out x hx)
            rw [h3, ← HN.out]
            simp
            omega
  · have hok : okSegs ls = false := by
      unfold okSegs
      rw [hn] at h16
      by_cases h1 : 1 ≤ ls.length
      · have : ¬ (ls.length ≤ 16) := by omega
        simp [this]
      · simp [h1]
    have HOK := hide hok
    clear hok
    have hcond : ((n : Int) == 0 || decide (16 < (n : Int))) = true := by
      simp
      omega
    have hc2 : ((n : Int) == 0) = true ∨ (((n : Int) == 0) = false ∧ (16 : Int) < n) := by
      by_cases h0 : n = 0
      · left; simp; omega
      · right; simp; omega
    rcases hc2 with hq | ⟨hq, h17⟩
    all_goals
      have HC := hide hcond
      clear hcond hn h16
      generalize hqq : ((n : Int) == 0) = q at *
      subst hq
      have HQ := hide hqq
      go_enter Try.func7, Try.ntmps7
      rw [← HQ.out] at HC
      go_wp2_with fail
      all_goals first | (exact bodyPost_ret (results_tmp2 rfl _ rfl rfl) rfl ⟨Below.refl _ _, .inl ⟨HOK.out, rfl⟩⟩) | (go_ret2; exact ⟨Below.refl _ _, .inl ⟨HOK.out, rfl⟩⟩) | (exfalso; omega) | trace_state
end Go.Proofs.Ytalboekhdjcllaa
