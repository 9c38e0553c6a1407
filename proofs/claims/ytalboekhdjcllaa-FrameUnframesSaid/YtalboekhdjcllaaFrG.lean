/-
  Unframe of the reference.
-/
import Derived.Test.YtalboekhdjcllaaFrF
namespace Go.Proofs.Ytalboekhdjcllaa
open Go.RowKit

set_option maxHeartbeats 8000000 in
theorem refUnframe_any (A : Option Addr) (n c b0 : Nat) (bs : List Int) (w : World) (hn : n = bs.length) (hr : Reads w b0 A (bs.map (Value.int .u8))) (hb0 : b0 ≤ w.heap.size) (hw : ∀ x ∈ bs, 0 ≤ x ∧ x ≤ 255) (hnc : n ≤ c) (hc : c ≤ maxLen) (h47 : n ≤ 140737488351232) :
    Calls Try.prog 12 #[.slice A n c] w (UnfPost bs w) := by
  obtain ⟨i0, hi, hz0, hz1, hz2⟩ := info_parts infoSlice
  have lm : n ≤ maxLen := Nat.le_trans hnc hc
  have HR := hide hr
  have HW := hide hw
  have HN := hide hn
  unfold maxLen at hc
  by_cases h4 : n < 4
  · have hh : headErr bs = 4 := by unfold headErr; rw [if_pos (by omega)]
    have he : Hid (unfErr bs = 4) := by show _ = _; unfold unfErr; rw [hh, if_pos (by decide)]
    clear hn hr hw hh
    go_enter Try.func12, Try.ntmps12
    go_wp2_with fail
    go_ret2
    exact ⟨Below.refl _ _, .inl ⟨by rw [he.out]; decide, by rw [he.out]; rfl⟩⟩
  · obtain ⟨bx, ox, rfl, hbx, cx⟩ := hr.all (by simp; omega)
    have hrd := rd_bd bs hw 0
    have hseg : ((nSegs bs : Nat) : Int) = rd bs 0 + 1 := by unfold nSegs; omega
    have hq2 : nSegs bs ≤ 4294967296 := by unfold nSegs; omega
    have HSEG := hide hseg
    by_cases h16 : 16 < nSegs bs
    · have hh : headErr bs = 3 := by unfold headErr; rw [if_neg (by omega), if_pos h16]
      have he : Hid (unfErr bs = 3) := by show _ = _; unfold unfErr; rw [hh, if_pos (by decide)]
      clear hn hr hw hseg cx hh
      generalize nSegs bs = q at *
      go_enter Try.func12, Try.ntmps12
      go_wp2_with fail
      refine (refRead_any _ n c b0 0 bs _ HN.out (by omega) HR.out HW.out lm).mono ?_
      rintro e w1 ⟨rfl, rfl⟩
      rw [show rd bs 0 = (q : Int) - 1 from by rw [HSEG.out]; omega]
      go_wp2_with fail
      go_ret2
      exact ⟨Below.refl _ _, .inl ⟨by rw [he.out]; decide, by rw [he.out]; rfl⟩⟩
    · have hq1 : 1 ≤ nSegs bs := by unfold nSegs; omega
      have hpd : padN (nSegs bs) ≤ 4 := by unfold padN; split <;> omega
      have hpar : (nSegs bs % 2 = 0 ∧ padN (nSegs bs) = 4) ∨ (nSegs bs % 2 = 1 ∧ padN (nSegs bs) = 0) := by
        unfold padN
        by_cases h : nSegs bs % 2 = 0
        · left; exact ⟨h, by rw [if_pos h]⟩
        · right; exact ⟨by omega, by rw [if_neg h]⟩
      by_cases hlen : n < 4 + 4 * nSegs bs + padN (nSegs bs)
      · have hh : headErr bs = 4 := by unfold headErr; rw [if_neg (by omega), if_neg h16, if_pos (by omega)]
        have he : Hid (unfErr bs = 4) := by show _ = _; unfold unfErr; rw [hh, if_pos (by decide)]
        clear hn hr hw hseg cx hh
        generalize padN (nSegs bs) = pd at *
        generalize nSegs bs = q at *
        rcases hpar with ⟨hp1, rfl⟩ | ⟨hp1, rfl⟩
        · have hm8 : decide ((4 + 4 * (q : Int)) % 8 > 0) = true := by simp; omega
          go_enter Try.func12, Try.ntmps12
          go_wp2_with fail
          refine (refRead_any _ n c b0 0 bs _ HN.out (by omega) HR.out HW.out lm).mono ?_
          rintro e w1 ⟨rfl, rfl⟩
          rw [show rd bs 0 = (q : Int) - 1 from by rw [HSEG.out]; omega]
          go_wp2_with fail
          go_ret2
          exact ⟨Below.refl _ _, .inl ⟨by rw [he.out]; decide, by rw [he.out]; rfl⟩⟩
        · have hm8 : decide ((4 + 4 * (q : Int)) % 8 > 0) = false := by simp; omega
          go_enter Try.func12, Try.ntmps12
          go_wp2_with fail
          refine (refRead_any _ n c b0 0 bs _ HN.out (by omega) HR.out HW.out lm).mono ?_
          rintro e w1 ⟨rfl, rfl⟩
          rw [show rd bs 0 = (q : Int) - 1 from by rw [HSEG.out]; omega]
          go_wp2_with fail
          go_ret2
          exact ⟨Below.refl _ _, .inl ⟨by rw [he.out]; decide, by rw [he.out]; rfl⟩⟩
      · have HE : Hid (headErr bs = if anyBig bs (nSegs bs) then 3 else if anyPad bs (nSegs bs) (padN (nSegs bs)) then 5 else 0) := by
          show _ = _
          unfold headErr
          rw [if_neg (by omega), if_neg h16, if_neg (by omega)]
        have HUE : Hid (headErr bs ≠ 0 → unfErr bs = headErr bs) := fun h => by unfold unfErr; rw [if_pos h]
        have HUF : Hid (headErr bs = 0 → unfErr bs = if bs.length < offN bs (nSegs bs) (nSegs bs) then 4 else if offN bs (nSegs bs) (nSegs bs) < bs.length then 6 else 0) := fun h => by
          unfold unfErr
          rw [if_neg (by rw [h]; simp)]
        have HOF : Hid (offN bs (nSegs bs) 0 = 4 + 4 * nSegs bs + padN (nSegs bs)) := rfl
        clear hn hr hw hseg cx
        generalize hpe : padN (nSegs bs) = pd at *
        generalize hqe : nSegs bs = q at *
        have HPE := hide hpe
        have HQE := hide hqe
        clear hpe hqe
        have hmm : (pd = 4 ∧ decide ((4 + 4 * (q : Int)) % 8 > 0) = true) ∨ (pd = 0 ∧ decide ((4 + 4 * (q : Int)) % 8 > 0) = false) := by
          rcases hpar with ⟨h1, h2⟩ | ⟨h1, h2⟩
          · left; exact ⟨h2, by simp; omega⟩
          · right; exact ⟨h2, by simp; omega⟩
        clear hpar
        rcases hmm with ⟨rfl, hm8⟩ | ⟨rfl, hm8⟩
        all_goals
          go_enter Try.func12, Try.ntmps12
          go_wp2_with fail
          refine (refRead_any _ n c b0 0 bs _ HN.out (by omega) HR.out HW.out lm).mono ?_
          rintro e w1 ⟨rfl, rfl⟩
          rw [show rd bs 0 = (q : Int) - 1 from by rw [HSEG.out]; omega]
          go_wp2_with fail
          go_loopw [6] (fun i wr => ∃ k : Nat, k ≤ q ∧ i = .int .i64 k ∧ Hid (anyBig bs k = false) ∧ wr = w) (fun i _ => q - (intOf i).toNat)
          case atStart => exact ⟨0, by omega, rfl, rfl, rfl⟩
          case round =>
            obtain ⟨k, hk, rfl, hbig, rfl⟩ := hrel
            by_cases hlt : k < q
            · have hrk := rd_bd bs HW.out (4 + 4 * k)
              have HBS := hide (anyBig_succ bs k)
              go_wp2_with fail
              rw [show (4 + 4 * (k : Int)) = ((4 + 4 * k : Nat) : Int) from by omega]
              refine (refRead_any _ n c b0 (4 + 4 * k) bs _ HN.out (by omega) HR.out HW.out lm).mono ?_
              rintro e w1 ⟨rfl, rfl⟩
              generalize hxe : rd bs (4 + 4 * k) = x at *
              have HXE := hide hxe
              clear hxe
              by_cases hbx2 : x > 65536
              · have hbt : Hid (anyBig bs q = true) := anyBig_hit bs q k hlt (by rw [HXE.out]; exact hbx2)
                have he : Hid (unfErr bs = 3) := by
                  have h3 : headErr bs = 3 := by rw [HE.out, hbt.out]; rfl
                  show _ = _
                  rw [HUE.out (by rw [h3]; decide), h3]
                go_wp2_with fail
                go_ret2
                exact ⟨Below.refl _ _, .inl ⟨by rw [he.out]; decide, by rw [he.out]; rfl⟩⟩
              · have hbf : Hid (anyBig bs (k + 1) = false) := by
                  show _ = _
                  rw [HBS.out, hbig.out]
                  simp; omega
                go_wp2_with fail
                go_roundw
                case rel => exact ⟨k + 1, by omega, by go_num, hbf, by first | trivial | rfl⟩
                case measure => simp [intOf]; omega
            · have hke : k = q := by omega
              subst hke
              go_wp2_with fail
              have hcel : ∀ j, j < n → wr.cell? ⟨bx, ox + j, none⟩ = some (.int .u8 (bs.getD j 0)) := fun j hj => by
                have hin : j < bs.length := by rw [← HN.out]; exact hj
                obtain ⟨b', o', e', _, hc'⟩ := HR.out j _ (by rw [List.getElem?_map, List.getElem?_eq_getElem hin]; rfl)
                injection e' with e'
                injection e' with e1 e2
                subst e1 e2
                rw [hc']
                simp [hin]
              have HCEL := hide hcel
              clear hcel
              have HBIG := hide hbig.out
              go_loopw [7] (fun i wr' => ∃ p : Nat, p ≤ padN k ∧ i = .int .i64 (4 + 4 * k + p : Nat) ∧ Hid (anyPad bs k p = false) ∧ wr' = wr) (fun i _ => 4 + 4 * k + 4 - (intOf i).toNat)
              case atStart => exact ⟨0, by omega, by go_num, rfl, rfl⟩
              case round =>
                obtain ⟨p, hp, rfl, hpad, rfl⟩ := hrel
                have hpn := HPE.out
                rw [hpn] at hp
                have HAPS : Hid (∀ h : bs.getD (4 + 4 * k + p) 0 ≠ 0, p < padN k → unfErr bs = 5) := fun h hlt => by
                  have hh : headErr bs = 5 := by rw [HE.out, HBIG.out, ← hpn, anyPad_hit bs k (padN k) p hlt h]; rfl
                  rw [HUE.out (by rw [hh]; decide), hh]
                rw [hpn] at HAPS
                have HPS := hide (anyPad_succ bs k p)
                by_cases hlt : p < padN k
                · rw [hpn] at hlt
                  clear hpn
                  have hlt2 : 4 + 4 * k + p < n := by omega
                  first
                  | (exfalso; omega)
                  | (have hce := HCEL.out (4 + 4 * k + p) hlt2
                     generalize bs.getD (4 + 4 * k + p) 0 = y at *
                     by_cases hy : y = 0
                     · subst hy
                       go_wp2_with fail
                       go_roundw
                       case rel => exact ⟨p + 1, by rw [HPE.out]; omega, by go_num, (by show _ = _; rw [HPS.out, hpad.out]; rfl), by first | trivial | rfl⟩
                       case measure => simp [intOf]; omega
                     · have hyb : (y != 0) = true := by simp [hy]
                       have he := hide (HAPS.out hy hlt)
                       go_wp2_with fail
                       go_ret2
                       exact ⟨Below.refl _ _, .inl ⟨by rw [he.out]; decide, by rw [he.out]; rfl⟩⟩)
                · rw [hpn] at hlt
                  clear hpn
                  have hh0 : headErr bs = 0 := by
                    rw [HE.out, HBIG.out]
                    have hpp : p = padN k := by rw [HPE.out]; omega
                    rw [← HPE.out, ← hpp, hpad.out]
                    rfl
                  have HUF2 := hide (HUF.out hh0)
                  clear hh0
                  obtain ⟨wo, rfl⟩ : ∃ wo : World, wo = wr := ⟨_, rfl⟩
                  go_wp2_with fail
                  rw [show ((4 + 4 * k + p : Nat) : Int) = 4 + 4 * (k : Int) + (p : Int) from by omega]
                  go_loopw [5, 8, 9] (fun a v i wr' => ∃ (t : Nat) (vs : List Value), t ≤ k ∧ i = .int .i64 t ∧ a = .int .i64 (offN bs k t : Nat) ∧ Hid (offN bs k t ≤ n) ∧ wr'.ownsRow wo.heap.size 38 1 v t vs ∧ Below wo.heap.size wo wr' ∧ Hid (vs.length = t ∧ ∀ i u, vs[i]? = some u → SegApart wr' v.ownBlock u (segOf bs k i))) (fun _ _ i _ => k - (intOf i).toNat)
                  case atStart => exact ⟨0, [], by omega, rfl, by rw [HOF.out]; go_num, (by show _ ≤ _; rw [HOF.out]; omega), World.ownsRow_nil _ _ _ _, Below.refl _ _, ⟨rfl, fun i u h => by simp at h⟩⟩
                  case round =>
                    obtain ⟨t, vs, ht, rfl, rfl, hon, hown, hbe, hseg⟩ := hrel
                    by_cases hlt3 : t < k
                    · have hxb := rd_bd bs HW.out (4 + 4 * t)
                      have hx6 : rd bs (4 + 4 * t) ≤ 65536 := by
                        by_cases h : rd bs (4 + 4 * t) > 65536
                        · have := anyBig_hit bs k t hlt3 h
                          rw [HBIG.out] at this; cases this
                        · omega
                      obtain ⟨m, hm⟩ := Int.eq_ofNat_of_zero_le hxb.1
                      have HOK : Hid (offN bs k (t + 1) = offN bs k t + 8 * m) := by
                        show _ = _
                        simp only [offN]
                        rw [hm, Int.toNat_natCast]
                      have hmono := offN_mono bs k (t + 1) k (by omega)
                      have hm6 : m ≤ 65536 := by omega
                      have HM := hide hm
                      have hon2 := hon.out
                      have HRB := HR.out.below (hbe.mono hb0) (Nat.le_refl _)
                      clear hxb hx6
                      generalize hoe : offN bs k t = off at *
                      have HOE := hide hoe
                      clear hoe hm
                      go_wp2_with fail
                      rw [show (4 + 4 * (t : Int)) = ((4 + 4 * t : Nat) : Int) from by omega]
                      refine (refRead_any _ n c b0 (4 + 4 * t) bs _ HN.out (by omega) HRB HW.out lm).mono ?_
                      rintro e w1 ⟨rfl, rfl⟩
                      rw [HM.out]
                      by_cases hsh : n < off + 8 * m
                      · have hfin : Hid (unfErr bs = 4) := by
                          show _ = _
                          have := HOK.out
                          rw [HUF2.out, if_pos (by rw [← HN.out]; omega)]
                        clear hmono
                        go_wp2_with fail
                        go_ret2
                        exact ⟨hbe, .inl ⟨by rw [hfin.out]; decide, by rw [hfin.out]; rfl⟩⟩
                      · have hno8 : off + 8 * m ≤ n := by omega
                        clear hmono
                        have hcut := (HRB.cutLit (k := off) (cap := c) (by rw [List.length_map, ← HN.out]; exact hnc)).take (8 * m)
                        rw [← List.map_drop, ← List.map_take] at hcut
                        have hlen8 : Hid (8 * m = ((bs.drop off).take (8 * m)).length) := by
                          show _ = _
                          rw [List.length_take, List.length_drop, ← HN.out]
                          omega
                        obtain ⟨o2, ho2⟩ : ∃ o2, (if c = off then some (⟨bx, ox, none⟩ : Addr) else some ⟨bx, ox + off, none⟩) = some ⟨bx, o2, none⟩ := by
                          split
                          · exact ⟨_, rfl⟩
                          · exact ⟨_, rfl⟩
                        rw [ho2] at hcut
                        have HCUT := hide hcut
                        have HO2 := hide ho2
                        clear hcut ho2
                        have hco : off = c ∨ ¬ (c = off) := by omega
                        have hnc8 : (off : Int) + 8 * (m : Int) ≤ (c : Int) := by omega
                        have hoff0 : (0 : Int) ≤ (off : Int) := by omega
                        have hofm : (off : Int) ≤ (off : Int) + 8 * (m : Int) := by omega
                        rcases hco with rfl | hco
                        all_goals
                          go_wp2_with fail
                          refine (refWords_any _ _ _ b0 ((bs.drop off).take (8 * m)) _ (by first | exact hlen8.out | (have := hlen8.out; omega)) ?_ (by have := hbe.size; omega) (fun x hx => HW.out x (List.mem_of_mem_drop (List.mem_of_mem_take hx))) (by omega)).mono ?_
                          · have h := HCUT.out
                            rw [← HO2.out] at h
                            first | (rw [if_neg hco] at h; exact h) | (rw [if_pos trivial] at h; exact h) | (rw [if_pos rfl] at h; exact h)
                          rintro e w3 ⟨hb3, ⟨hbad, _⟩ | ⟨_, A5, n5, c5, rfl, hn5, hfr5, hr5⟩⟩
                          · rw [← hlen8.out] at hbad; omega
                          rw [← hlen8.out, show 8 * m / 8 = m from by omega] at hn5 hr5
                          rw [wordsOf_take] at hr5
                          have hse : segOf bs k t = wordsOf (bs.drop off) m := by unfold segOf; rw [HM.out, HOE.out, Int.toNat_natCast]
                          rw [← hse] at hr5
                          have HR5 := hide hr5
                          have HSL := hide (show (segOf bs k t).length = m by rw [hse, wordsOf_len])
                          have HN5 := hide (show n5 = (segOf bs k t).length by rw [hse, wordsOf_len]; exact hn5)
                          have HBD := hide (show ∀ x ∈ segOf bs k t, 0 ≤ x ∧ x ≤ 18446744073709551615 by rw [hse]; exact wordsOf_bd _ (fun x hx => HW.out x (List.mem_of_mem_drop hx)) m)
                          have hown3 := ownsRow_below hown hb3
                          have hbe3 := below_step hbe hb3
                          clear hn5 hr5 hse
                          have hlt5 := fun kk hkk => (hown3.lt kk hkk)
                          have HOWN3 := hide hown3
                          obtain ⟨A6, c6, hv6, hle6, hA6⟩ := ownsRow_slice hown3
                          have hnew : ∀ j u, ([Value.slice A5 n5 c5])[j]? = some u → ∃ ad, some (⟨w3.heap.size, 0, none⟩ : Addr) = some ad ∧ (w3.alloc (.cells #[.slice A5 n5 c5] 38)).cell? (ad.add j) = some u := fun j u hu => ⟨_, rfl, cell_one_new _ _ _ j u hu⟩
                          have HNEW := hide hnew
                          clear hnew hv6 hle6 hA6
                          go_wp2_with (at_builtin; refine wpList_append_any _ rfl (.tmp 85) (.tmp 87) _ rfl _ 38 i0 _ 1 24 Try.underlying22 hi hz0 hz1 hz2 rfl (by decide) _ _ _ rfl (HOWN3.out.alloc _) (some ⟨w3.heap.size, 0, none⟩) 1 1 [.slice A5 n5 c5] rfl rfl HNEW.out (by simp [Value.oneCell']) (by unfold maxLen; omega) (by omega) (by have := hbe3.size; simp; omega) ?_; intro v4 w4 hown4 hg4 hat4)
                          have hg4' : (w3.alloc (.cells #[.slice A5 n5 c5] 38)).grownBy w4 u8.ownBlock := hg4
                          have hat4' : v4.ownBlock = u8.ownBlock ∨ v4.ownBlock = some (w3.alloc (.cells #[.slice A5 n5 c5] 38)).heap.size := hat4
                          clear hg4 hat4
                          have hb34 : Below wo.heap.size w3 w4 := ((Below.refl wo.heap.size w3).alloc (by have := hbe3.size; omega) _).grown hg4' (by have := hbe3.size; simp; omega) (fun kk hkk => (hlt5 kk hkk).1)
                          have hsz4 : w3.heap.size + 1 ≤ w4.heap.size := by have := hg4'.size; simpa using this
                          have HV4 : Hid (∃ gg cap, v4 = .slice (some ⟨gg, 0, none⟩) (t + 1) cap) := by
                            rcases hown4.2 with ⟨_, h0⟩ | ⟨gg, cap, cur, h1, _⟩
                            · omega
                            · exact ⟨gg, cap, h1⟩
                          go_roundw
                          case rel =>
                            refine ⟨t + 1, vs ++ [.slice A5 n5 c5], by omega, by go_num, by rw [HOK.out]; go_num, (by show _ ≤ _; rw [HOK.out]; omega), hown4, hbe3.trans hb34, ?_⟩
                            refine ⟨by rw [List.length_append, hseg.out.1]; rfl, fun i u hu => ?_⟩
                            obtain ⟨gg, cap, rfl⟩ := HV4.out
                            have hnew : (Value.slice (some ⟨gg, 0, none⟩) (t + 1) cap).ownBlock = some gg := rfl
                            rw [hnew] at hat4' ⊢
                            have hgg : u8.ownBlock = some gg ∨ (w3.alloc (.cells #[.slice A5 n5 c5] 38)).heap.size ≤ gg := by
                              rcases hat4' with h | h
                              · exact .inl h.symm
                              · right; injection h with h; omega
                            by_cases hik : i < t
                            · rw [List.getElem?_append_left (by rw [hseg.out.1]; exact hik)] at hu
                              have h1 := hseg.out.2 i u hu
                              exact ((h1.below hb3).alloc (.cells #[.slice A5 n5 c5] 38)).grown hg4' (by simp; exact hsz4) gg hgg
                            · have hik2 : i = t := by
                                have := (List.getElem?_eq_some_iff.1 hu).1
                                rw [List.length_append, hseg.out.1] at this
                                simp at this
                                omega
                              subst hik2
                              rw [List.getElem?_append_right (by rw [hseg.out.1]; exact Nat.le_refl _), hseg.out.1, Nat.sub_self] at hu
                              injection hu with hu
                              subst hu
                              have h1 : SegApart w3 u8.ownBlock (.slice A5 n5 c5) (segOf bs k i) := by
                                refine ⟨⟨A5, n5, c5, rfl, HN5.out, HR5.out, HBD.out, by have h5 := HN5.out; rw [HSL.out] at h5; omega⟩, fun b o n'' c'' e'' h0 hg => ?_⟩
                                injection e'' with e1 _ _
                                have hf := hfr5 _ e1
                                have := (hown.lt b hg).2
                                have hf2 : wr.heap.size ≤ b := hf
                                omega
                              exact (h1.alloc (.cells #[.slice A5 n5 c5] 38)).grown hg4' (by simp; exact hsz4) gg hgg
                          case measure => simp [intOf]; omega
                    · have hte : t = k := by omega
                      subst hte
                      have hon2 := hon.out
                      by_cases hn0 : offN bs t t < n
                      · have hfin : Hid (unfErr bs = 6) := by
                          show _ = _
                          rw [HUF2.out, if_neg (by rw [← HN.out]; omega), if_pos (by rw [← HN.out]; omega)]
                        generalize offN bs t t = off at *
                        go_wp2_with fail
                        go_ret2
                        exact ⟨hbe, .inl ⟨by rw [hfin.out]; decide, by rw [hfin.out]; rfl⟩⟩
                      · have hfin : Hid (unfErr bs = 0) := by
                          show _ = _
                          rw [HUF2.out, if_neg (by rw [← HN.out]; omega), if_neg (by rw [← HN.out]; omega)]
                        generalize offN bs t t = off at *
                        go_wp2_with fail
                        go_ret2
                        obtain ⟨A9, c9, hv, hle, hA9⟩ := ownsRow_slice hown
                        refine ⟨hbe, .inr ⟨hfin.out, A9, vs, c9, by rw [HQE.out, ← hv]; rfl, ?_⟩⟩
                        rw [HQE.out]
                        refine ⟨Reads.of_own hown hv, by rw [hseg.out.1, segsOf_len], fun i h1 h2 => ?_⟩
                        have h3 := (hseg.out.2 i _ (List.getElem?_eq_getElem h1)).1
                        have h4 : (segsOf bs t t)[i] = segOf bs t i := by simp [segsOf]
                        rw [h4]
                        exact h3
end Go.Proofs.Ytalboekhdjcllaa
