/-
  Unframe of package frame.
-/
import Derived.Test.YtalboekhdjcllaaFrE
import Derived.Deep.RegionHeld3
import Derived.Deep.AppendLies
namespace Go.Proofs.Ytalboekhdjcllaa
open Go.RowKit

theorem infoSlice : (Try.prog.info? 38).map (fun i => (i.zero, i.size, i.bytes)) = some (some (.slice none 0 0), 1, 24) := by kernel_rfl
def offN (bs : List Int) (q : Nat) : Nat → Nat
  | 0 => 4 + 4 * q + padN q
  | i + 1 => offN bs q i + 8 * (rd bs (4 + 4 * i)).toNat
theorem offN_mono (bs : List Int) (q i j : Nat) (h : i ≤ j) : offN bs q i ≤ offN bs q j := by
  induction j with
  | zero => have : i = 0 := by omega
            subst this; exact Nat.le_refl _
  | succ j ih =>
    by_cases hij : i = j + 1
    · subst hij; exact Nat.le_refl _
    · have := ih (by omega)
      simp only [offN]
      omega
def segOf (bs : List Int) (q i : Nat) : List Int := wordsOf (bs.drop (offN bs q i)) (rd bs (4 + 4 * i)).toNat
def segsOf (bs : List Int) (q k : Nat) : List (List Int) := (List.range k).map (segOf bs q)
theorem segsOf_snoc (bs : List Int) (q k : Nat) : segsOf bs q (k + 1) = segsOf bs q k ++ [segOf bs q k] := by
  simp [segsOf, List.range_succ]
theorem segsOf_len (bs : List Int) (q k : Nat) : (segsOf bs q k).length = k := by simp [segsOf]
def unfErr (bs : List Int) : Int :=
  if headErr bs ≠ 0 then headErr bs else if bs.length < offN bs (nSegs bs) (nSegs bs) then 4 else if offN bs (nSegs bs) (nSegs bs) < bs.length then 6 else 0
def UnfPost (bs : List Int) (w : World) (e : Ending) (w' : World) : Prop :=
  Below w.heap.size w w' ∧ ((unfErr bs ≠ 0 ∧ e = .returned (.tuple #[.slice none 0 0, .int .i64 (unfErr bs)])) ∨
    (unfErr bs = 0 ∧ ∃ A vs c, e = .returned (.tuple #[.slice A (nSegs bs) c, .int .i64 0]) ∧ SegsAt w' w'.heap.size A vs (segsOf bs (nSegs bs) (nSegs bs))))

theorem wordsOf_take (ys : List Int) (m : Nat) : wordsOf (ys.take (8 * m)) m = wordsOf ys m := by
  unfold wordsOf
  refine List.map_congr_left fun k hk => ?_
  have := List.mem_range.1 hk
  unfold wordAt
  refine join8_congr _ _ fun j hj => ?_
  rw [List.getD_eq_getElem?_getD, List.getD_eq_getElem?_getD, List.getElem?_take, if_pos (by omega)]
theorem wordAt_bd (ys : List Int) (hw : ∀ x ∈ ys, 0 ≤ x ∧ x ≤ 255) (k : Nat) : 0 ≤ wordAt ys k ∧ wordAt ys k ≤ 18446744073709551615 := by
  unfold wordAt join8
  have h0 := getD_bd255 ys hw (8 * k + 0)
  have h1 := getD_bd255 ys hw (8 * k + 1)
  have h2 := getD_bd255 ys hw (8 * k + 2)
  have h3 := getD_bd255 ys hw (8 * k + 3)
  have h4 := getD_bd255 ys hw (8 * k + 4)
  have h5 := getD_bd255 ys hw (8 * k + 5)
  have h6 := getD_bd255 ys hw (8 * k + 6)
  have h7 := getD_bd255 ys hw (8 * k + 7)
  dsimp only
  omega
theorem wordsOf_bd (ys : List Int) (hw : ∀ x ∈ ys, 0 ≤ x ∧ x ≤ 255) (m : Nat) : ∀ x ∈ wordsOf ys m, 0 ≤ x ∧ x ≤ 18446744073709551615 := fun x hx => by
  unfold wordsOf at hx
  obtain ⟨k, _, rfl⟩ := List.mem_map.1 hx
  exact wordAt_bd ys hw k
/-- a slice of words that does not lie in a block -/
def SegApart (w : World) (g : Option Nat) (v : Value) (xs : List Int) : Prop := SegOk w w.heap.size v xs ∧ ∀ b o n c, v = .slice (some ⟨b, o, none⟩) n c → 0 < xs.length → g ≠ some b
theorem SegApart.below {w w' : World} {g : Option Nat} {v : Value} {xs : List Int} (h : SegApart w g v xs) (hb : Below w.heap.size w w') : SegApart w' g v xs :=
  ⟨(h.1.keep fun _ hp => hb.cell hp).more hb.size, h.2⟩
theorem SegApart.alloc {w : World} {g : Option Nat} {v : Value} {xs : List Int} (h : SegApart w g v xs) (o : Obj) : SegApart (w.alloc o) g v xs :=
  h.below ((Below.refl _ _).alloc (Nat.le_refl _) o)
theorem SegApart.grown {w w' : World} {g : Option Nat} {v : Value} {xs : List Int} (h : SegApart w g v xs) (hg : w.grownBy w' g) (hs : w.heap.size ≤ w'.heap.size) (g' : Nat) (hg' : g = some g' ∨ w.heap.size ≤ g') : SegApart w' (some g') v xs := by
  obtain ⟨⟨A, n, c, e, hn, hr, hw, h8⟩, hne⟩ := h
  refine ⟨⟨A, n, c, e, hn, fun j u hu => ?_, hw, h8⟩, fun b o n' c' e' h0 => ?_⟩
  · obtain ⟨b, o, eA, hb, hc⟩ := hr j u hu
    have h0 : 0 < xs.length := by have := (List.getElem?_eq_some_iff.1 hu).1; rw [List.length_map] at this; omega
    refine ⟨b, o, eA, by omega, ?_⟩
    rw [World.cell?_of_block (w := w) (hg.block b hb (fun eb => hne b o n c (by rw [e, eA]) h0 eb.symm))]
    exact hc
  · rcases hg' with h1 | h1
    · rw [← h1]; exact hne b o n' c' e' h0
    · obtain ⟨b2, o2, eA, hb, _⟩ := hr.cellAt (k := 0) (by simpa using h0)
      rw [e, eA] at e'
      injection e' with e1 _ _
      injection e1 with e1
      injection e1 with e1 _ _
      intro e2
      injection e2 with e2
      omega

set_option maxHeartbeats 8000000 in
theorem unframe_any (A : Option Addr) (n c b0 : Nat) (bs : List Int) (w : World) (hn : n = bs.length) (hr : Reads w b0 A (bs.map (Value.int .u8))) (hb0 : b0 ≤ w.heap.size) (hw : ∀ x ∈ bs, 0 ≤ x ∧ x ≤ 255) (hnc : n ≤ c) (hc : c ≤ maxLen) (h47 : n ≤ 140737488351232) :
    Calls Try.prog 10 #[.slice A n c] w (UnfPost bs w) := by
  obtain ⟨i0, hi, hz0, hz1, hz2⟩ := info_parts infoSlice
  have HR := hide hr
  have HW := hide hw
  have HN := hide hn
  by_cases he : headErr bs = 0
  · have HE := hide he
    have h4 : 4 ≤ n := by
      by_cases h : n < 4
      · have : headErr bs = 4 := by unfold headErr; rw [if_pos (by omega)]
        rw [this] at he; cases he
      · omega
    have h16 : nSegs bs ≤ 16 := by
      by_cases h : nSegs bs > 16
      · have : headErr bs = 3 := by unfold headErr; rw [if_neg (by omega), if_pos h]
        rw [this] at he; cases he
      · omega
    have hln : 4 + 4 * nSegs bs + padN (nSegs bs) ≤ n := by
      by_cases h : bs.length < 4 + 4 * nSegs bs + padN (nSegs bs)
      · have : headErr bs = 4 := by unfold headErr; rw [if_neg (by omega), if_neg (by omega), if_pos h]
        rw [this] at he; cases he
      · omega
    have hbg : ∀ i, i < nSegs bs → rd bs (4 + 4 * i) ≤ 65536 := fun i hi => by
      by_cases h : rd bs (4 + 4 * i) > 65536
      · have : headErr bs = 3 := by unfold headErr; rw [if_neg (by omega), if_neg (by omega), if_neg (by omega), anyBig_hit bs _ i hi h]; rfl
        rw [this] at he; cases he
      · omega
    have HBG := hide hbg
    obtain ⟨bx, ox, rfl, hbx, cx⟩ := hr.all (by simp; omega)
    have HPD := hide (hd_pad (nSegs bs))
    have HOF : Hid (offN bs (nSegs bs) 0 = 4 + 4 * nSegs bs + padN (nSegs bs)) := rfl
    have hq0 : 1 ≤ nSegs bs := by unfold nSegs; omega
    have hpd : padN (nSegs bs) ≤ 4 := by unfold padN; split <;> omega
    have HUE : Hid (unfErr bs = if bs.length < offN bs (nSegs bs) (nSegs bs) then 4 else if offN bs (nSegs bs) (nSegs bs) < bs.length then 6 else 0) := by
      show _ = _
      unfold unfErr
      rw [if_neg (by rw [he]; simp)]
    have HSZ := hide (sizesOf_len bs (nSegs bs))
    clear hn hr hw he hbg cx
    unfold maxLen at hc
    go_enter Try.func10, Try.ntmps10
    go_wp2_with fail
    refine (sizes_any _ n c b0 bs _ HN.out HR.out hb0 HW.out hnc (by unfold maxLen; exact hc)).mono ?_
    rintro e w1 ⟨hb1, ⟨h, _⟩ | ⟨_, A1, c1, rfl, hr1⟩⟩
    · exact absurd HE.out h
    have HR1 := hide hr1
    clear hr1
    generalize hqe : nSegs bs = q at *
    have HQE := hide hqe
    clear hqe
    go_wp2_with fail
    refine (head_any q (by omega) (by omega) _).mono ?_
    rintro e w2 ⟨rfl, rfl⟩
    rw [HPD.out]
    generalize hpe : padN q = pd at *
    have HPE := hide hpe
    clear hpe
    have hdr := HR.out.cutLit (k := 4 + 4 * q + pd) (cap := c) (by rw [List.length_map, ← HN.out]; exact hnc)
    rw [← List.map_drop] at hdr
    have HDR := hide hdr
    clear hdr
    have hce : c = 4 + 4 * q + pd ∨ ¬ (c = 4 + 4 * q + pd) := by omega
    rcases hce with rfl | hce
    all_goals
      go_wp2_with fail
      try simp only [Nat.sub_self]
      try rw [show n - (4 + 4 * q + pd) = 0 from by omega]
      go_loopw [0, 6, 26] (fun s v i wr => ∃ (k n' c' b' o' : Nat) (vs : List Value), k ≤ q ∧ i = .int .i64 k ∧ s = .slice (some ⟨b', o', none⟩) n' c' ∧ Hid (n' + offN bs q k = n) ∧ n' ≤ c' ∧ c' ≤ maxLen ∧ Hid (Reads w b0 (some ⟨b', o', none⟩) ((bs.drop (offN bs q k)).map (Value.int .u8))) ∧ wr.ownsRow w1.heap.size 38 1 v k vs ∧ Below w1.heap.size w1 wr ∧ Hid (vs.length = k ∧ ∀ i u, vs[i]? = some u → SegApart wr v.ownBlock u (segOf bs q i))) (fun _ _ i _ => q - (intOf i).toNat)
      case atStart =>
        refine ⟨0, _, _, _, _, [], by omega, rfl, rfl, ?_, by omega, by unfold maxLen; omega, ?_, World.ownsRow_nil _ _ _ _, Below.refl _ _, ⟨rfl, fun i u h => by simp at h⟩⟩
        · show _ = _
          rw [HOF.out]; omega
        · have h := HDR.out
          show Reads _ _ _ _
          rw [HOF.out]
          first | (rw [if_pos trivial] at h; exact h) | rwa [if_pos rfl] at h | rwa [if_neg hce] at h
      case round =>
        obtain ⟨k, n', c', b', o', vs, hk, rfl, rfl, hno, hnc', hcm', hrd, hown, hbe, hseg⟩ := hrel
        have hbw : Below w.heap.size w wr := below_step hb1 hbe
        by_cases hlt : k < q
        · obtain ⟨by1, oy1, rfl, hby1, cy⟩ := (HR1.out.below hbe (Nat.le_refl _)).intAt (k := k) (by rw [HSZ.out]; exact hlt)
          have hx : (sizesOf bs q)[k]'(by rw [HSZ.out]; exact hlt) = rd bs (4 + 4 * k) := by simp [sizesOf]
          have hxb := rd_bd bs HW.out (4 + 4 * k)
          have hx6 := HBG.out k hlt
          obtain ⟨m, hm⟩ := Int.eq_ofNat_of_zero_le hxb.1
          rw [hx, hm] at cy
          have HOK : Hid (offN bs q (k + 1) = offN bs q k + 8 * m) := by
            show _ = _
            simp only [offN]
            rw [hm, Int.toNat_natCast]
          have hmono := offN_mono bs q (k + 1) q (by omega)
          have hm6 : m ≤ 65536 := by omega
          have HM := hide hm
          have hle0 : (0 : Int) ≤ (k : Int) := by omega
          have hlti : (k : Int) < (q : Int) := by omega
          by_cases hsh : n' < 8 * m
          · have hfin : Hid (unfErr bs = 4) := by
              show _ = _
              have := HOK.out
              have h2 := hno.out
              rw [HUE.out, if_pos (by rw [← HN.out]; omega)]
            clear hx hxb hx6 hm hmono
            go_wp2_with fail
            go_ret2
            exact ⟨hbw, .inl ⟨by rw [hfin.out]; decide, by rw [hfin.out]; rfl⟩⟩
          · have hm8 : 8 * m ≤ n' := by omega
            have hts : Hid (Reads wr b0 (some ⟨b', o', none⟩) (((bs.drop (offN bs q k)).take (8 * m)).map (Value.int .u8))) := by
              have h := (hrd.out.below hbw hb0).take (8 * m)
              rw [← List.map_take] at h
              exact h
            have hlen8 : Hid (8 * m = ((bs.drop (offN bs q k)).take (8 * m)).length) := by
              show _ = _
              have h2 := hno.out
              rw [List.length_take, List.length_drop, ← HN.out]
              omega
            clear hx hxb hx6 hm hmono
            go_wp2_with fail
            refine (words_any (some ⟨b', o', none⟩) (8 * m) c' b0 ((bs.drop (offN bs q k)).take (8 * m)) _ hlen8.out hts.out (by have := hbw.size; omega) (fun x hx => HW.out x (List.mem_of_mem_drop (List.mem_of_mem_take hx))) (by omega) hcm' (by omega)).mono ?_
            rintro e w3 ⟨hb3, ⟨hbad, _⟩ | ⟨_, A5, n5, c5, rfl, hn5, hfr5, hr5⟩⟩
            · rw [← hlen8.out] at hbad; omega
            rw [← hlen8.out, show 8 * m / 8 = m from by omega] at hn5 hr5
            rw [wordsOf_take] at hr5
            have hse : segOf bs q k = wordsOf (bs.drop (offN bs q k)) m := by unfold segOf; rw [HM.out, Int.toNat_natCast]
            rw [← hse] at hr5
            have HR5 := hide hr5
            have HSL := hide (show (segOf bs q k).length = m by rw [hse, wordsOf_len])
            have HN5 := hide (show n5 = (segOf bs q k).length by rw [hse, wordsOf_len]; exact hn5)
            have HBD := hide (show ∀ x ∈ segOf bs q k, 0 ≤ x ∧ x ≤ 18446744073709551615 by rw [hse]; exact wordsOf_bd _ (fun x hx => HW.out x (List.mem_of_mem_drop hx)) m)
            have hown3 := ownsRow_below hown hb3
            have hbe3 : Below w1.heap.size w1 w3 := below_step hbe hb3
            have hm8c : 8 * m ≤ c' := by omega
            clear hn5 hr5 hse
            have hlt5 := fun kk hkk => (hown3.lt kk hkk)
            go_wp2_with fail
            have hi8a : (0 : Int) ≤ 8 * (m : Int) := by omega
            have hi8b : 8 * (m : Int) ≤ (n' : Int) := by omega
            have hi8c : 8 * (m : Int) ≤ (c' : Int) := by omega
            have hwr : IntKind.i64.wrap (8 * (m : Int)) = 8 * (m : Int) := by rw [IntKind.wrap_i64]; omega
            go_region_held3 (fun _ => True) (trivial)
              ((refine step_append_lies _ (by rfl) _ _ _ (by rfl) w1.heap.size 38 i0 _ 1 24 Try.underlying22 hi hz0 hz1 hz2 rfl (by omega) _ k vs (by rfl) ((hown3.alloc _).drew) ⟨w3.heap.size, 0, none⟩ 1 1 [.slice A5 n5 c5] (by rfl) (by rfl) (World.news_of_block (cs := #[.slice A5 n5 c5]) (t := 38) (fr := (0, 0)) (heap_alloc_new w3 _)) (by simp [Value.oneCell']) (by omega) (by unfold maxLen; omega) (by omega) (by have := hbe3.size; simp; omega) (w3.heap.size + 1) (by simp) ?_; intro gg cap w4 hown4 hg4 hat4 hlt4))
            have htn : (8 * (m : Int)).toNat = 8 * m := by omega
            rw [htn]
            have hcut := hrd.out.cutLit (k := 8 * m) (cap := c') (by have := hlen8.out; have h2 := hno.out; rw [List.length_map, List.length_drop, ← HN.out]; omega)
            obtain ⟨o2, ho2⟩ : ∃ o2, (if c' = 8 * m then some (⟨b', o', none⟩ : Addr) else some ⟨b', o' + 8 * m, none⟩) = some ⟨b', o2, none⟩ := by
              split
              · exact ⟨_, rfl⟩
              · exact ⟨_, rfl⟩
            rw [ho2] at hcut ⊢
            have hsz4 : w3.heap.size + 1 ≤ w4.heap.size := by have := hg4.size; simpa using this
            have hb34 : Below w1.heap.size w3 w4 := ((Below.refl w1.heap.size w3).alloc (by have := hbe3.size; omega) _).drew.grown hg4 (by have := hbe3.size; simp; omega) (fun kk hkk => (hlt5 kk hkk).1)
            go_wp2_with fail
            go_roundw
            case rel =>
              refine ⟨k + 1, n' - 8 * m, c' - 8 * m, b', o2, vs ++ [.slice A5 n5 c5], by omega, by go_num, rfl, ?_, by omega, by omega, ?_, hown4, ?_, ?_⟩
              · show _ = _
                have := hno.out
                rw [HOK.out]; omega
              · show Reads _ _ _ _
                rw [HOK.out]
                rw [← List.map_drop, List.drop_drop] at hcut
                exact hcut
              · exact hbe3.trans hb34
              · refine ⟨by rw [List.length_append, hseg.out.1]; rfl, fun i u hu => ?_⟩
                have hnew : (Value.slice (some ⟨gg, 0, none⟩) (k + 1) cap).ownBlock = some gg := rfl
                rw [hnew]
                have hgg : u6.ownBlock = some gg ∨ ((w3.alloc (.cells #[.slice A5 n5 c5] 38)).drew).heap.size ≤ gg := by
                  rcases hat4 with h | h
                  · exact .inl h
                  · right; rw [h]; simp
                by_cases hik : i < k
                · rw [List.getElem?_append_left (by rw [hseg.out.1]; exact hik)] at hu
                  have h1 := hseg.out.2 i u hu
                  have h2 := (h1.below hb3).alloc (.cells #[.slice A5 n5 c5] 38)
                  exact (h2.below (Below.refl _ _).drew).grown hg4 (by simp; exact hsz4) gg hgg
                · have hik2 : i = k := by
                    have := (List.getElem?_eq_some_iff.1 hu).1
                    rw [List.length_append, hseg.out.1] at this
                    simp at this
                    omega
                  subst hik2
                  rw [List.getElem?_append_right (by rw [hseg.out.1]; exact Nat.le_refl _), hseg.out.1, Nat.sub_self] at hu
                  injection hu with hu
                  subst hu
                  have h1 : SegApart w3 u6.ownBlock (.slice A5 n5 c5) (segOf bs q i) := by
                    refine ⟨⟨A5, n5, c5, rfl, HN5.out, HR5.out, HBD.out, by have h5 := HN5.out; rw [HSL.out] at h5; omega⟩, fun b o n'' c'' e'' h0 hg => ?_⟩
                    injection e'' with e1 _ _
                    have hf := hfr5 _ e1
                    have := (hown.lt b hg).2
                    have hf2 : wr.heap.size ≤ b := hf
                    omega
                  have h2 := h1.alloc (.cells #[.slice A5 n5 c5] 38)
                  exact (h2.below (Below.refl _ _).drew).grown hg4 (by simp; exact hsz4) gg hgg
            case measure => simp [intOf]; omega
        · have hke : k = q := by omega
          subst hke
          have hno2 := hno.out
          by_cases hn0 : 0 < n'
          · have hfin : Hid (unfErr bs = 6) := by
              show _ = _
              rw [HUE.out, if_neg (by rw [← HN.out]; omega), if_pos (by rw [← HN.out]; omega)]
            clear hno2
            go_wp2_with fail
            go_ret2
            exact ⟨hbw, .inl ⟨by rw [hfin.out]; decide, by rw [hfin.out]; rfl⟩⟩
          · have hfin : Hid (unfErr bs = 0) := by
              show _ = _
              rw [HUE.out, if_neg (by rw [← HN.out]; omega), if_neg (by rw [← HN.out]; omega)]
            clear hno2
            go_wp2_with fail
            go_ret2
            obtain ⟨A9, c9, hv, hle, hA9⟩ := ownsRow_slice hown
            refine ⟨hbw, .inr ⟨hfin.out, A9, vs, c9, by rw [HQE.out, ← hv]; rfl, ?_⟩⟩
            rw [HQE.out]
            refine ⟨Reads.of_own hown hv, by rw [hseg.out.1, segsOf_len], fun i h1 h2 => ?_⟩
            have h3 := (hseg.out.2 i _ (List.getElem?_eq_getElem h1)).1
            have h4 : (segsOf bs k k)[i] = segOf bs k i := by simp [segsOf]
            rw [h4]
            exact h3
  · have HE := hide he
    have HUE : Hid (unfErr bs = headErr bs) := by show _ = _; unfold unfErr; rw [if_pos he]
    have hne : ∀ v : Int, v = headErr bs → (v != 0) = true := fun v h => by rw [h]; simpa using he
    clear hn hr hw
    go_enter Try.func10, Try.ntmps10
    go_wp2_with fail
    refine (sizes_any _ n c b0 bs _ HN.out HR.out hb0 HW.out hnc hc).mono ?_
    rintro e w1 ⟨hb1, ⟨h, rfl⟩ | ⟨h, _⟩⟩
    rotate_left
    · exact absurd h HE.out
    have hnz := hne _ rfl
    clear hne h he
    generalize headErr bs = er at *
    go_wp2_with fail
    go_ret2
    exact ⟨hb1, .inl ⟨by rw [HUE.out]; exact HE.out, by rw [HUE.out]; rfl⟩⟩
end Go.Proofs.Ytalboekhdjcllaa
