/-
  sizes of package frame.
-/
import Derived.Test.YtalboekhdjcllaaFrD
namespace Go.Proofs.Ytalboekhdjcllaa
open Go.RowKit

theorem Reads.cutLit {w : World} {B b o k cap : Nat} {xs : List Value} (h : Reads w B (some ⟨b, o, none⟩) xs) (hc : xs.length ≤ cap) :
    Reads w B (if cap = k then some ⟨b, o, none⟩ else some ⟨b, o + k, none⟩) (xs.drop k) := by
  have h1 := h.cut (k := k) hc
  rw [Option.map_some, add_lit] at h1
  exact h1

set_option maxHeartbeats 4000000 in
theorem sizes_any (A : Option Addr) (n c b0 : Nat) (bs : List Int) (w : World) (hn : n = bs.length) (hr : Reads w b0 A (bs.map (Value.int .u8))) (hb0 : b0 ≤ w.heap.size) (hw : ∀ x ∈ bs, 0 ≤ x ∧ x ≤ 255) (hnc : n ≤ c) (hc : c ≤ maxLen) :
    Calls Try.prog 18 #[.slice A n c] w (SizesPost bs w) := by
  obtain ⟨i0, hi, hz0, hz1, hz2⟩ := info_parts infoInt
  have lm : n ≤ maxLen := Nat.le_trans hnc hc
  unfold maxLen at hc
  by_cases h4 : n < 4
  · have he : Hid (headErr bs = 4) := by show headErr bs = 4; unfold headErr; rw [if_pos (by omega)]
    clear hn
    have h4i : (n : Int) < 4 := by omega
    go_enter Try.func18, Try.ntmps18
    go_wp2_with fail
    go_ret2
    exact ⟨Below.refl _ _, .inl ⟨by rw [he.out]; decide, by rw [he.out]; rfl⟩⟩
  · obtain ⟨bx, ox, rfl, hbx, cx⟩ := hr.all (by simp; omega)
    have hrd := rd_bd bs hw 0
    have hseg : ((nSegs bs : Nat) : Int) = rd bs 0 + 1 := by unfold nSegs; omega
    have hq2 : nSegs bs ≤ 4294967296 := by unfold nSegs; omega
    have HR := hide hr
    have HW := hide hw
    have HN := hide hn
    have HSEG := hide hseg
    have HCX := hide cx
    by_cases h16 : 16 < nSegs bs
    · have he : Hid (headErr bs = 3) := by show headErr bs = 3; unfold headErr; rw [if_neg (by omega), if_pos h16]
      clear hn hr hw hseg cx
      generalize nSegs bs = q at *
      go_enter Try.func18, Try.ntmps18
      go_wp2_with fail
      refine (read_any _ n c b0 bs _ HN.out (by omega) HR.out HW.out lm).mono ?_
      rintro e w1 ⟨rfl, k1, rfl⟩
      rw [show rd bs 0 = (q : Int) - 1 from by rw [HSEG.out]; omega]
      go_wp2_with fail
      go_ret2
      exact ⟨below_of_drewN _ _ _, .inl ⟨by rw [he.out]; decide, by rw [he.out]; rfl⟩⟩
    · have hq1 : 1 ≤ nSegs bs := by unfold nSegs; omega
      have HPD := hide (hd_pad (nSegs bs))
      have hpd : padN (nSegs bs) ≤ 4 := by unfold padN; split <;> omega
      by_cases hlen : n < 4 + 4 * nSegs bs + padN (nSegs bs)
      · have he : Hid (headErr bs = 4) := by show headErr bs = 4; unfold headErr; rw [if_neg (by omega), if_neg h16, if_pos (by omega)]
        clear hn hr hw hseg cx
        generalize padN (nSegs bs) = pd at *
        generalize nSegs bs = q at *
        go_enter Try.func18, Try.ntmps18
        go_wp2_with fail
        refine (read_any _ n c b0 bs _ HN.out (by omega) HR.out HW.out lm).mono ?_
        rintro e w1 ⟨rfl, k1, rfl⟩
        rw [show rd bs 0 = (q : Int) - 1 from by rw [HSEG.out]; omega]
        go_wp2_with fail
        refine (head_any q (by omega) (by omega) _).mono ?_
        rintro e w2 ⟨rfl, rfl⟩
        rw [HPD.out]
        go_wp2_with fail
        go_ret2
        exact ⟨below_of_drewN _ _ _, .inl ⟨by rw [he.out]; decide, by rw [he.out]; rfl⟩⟩
      · have HE : Hid (headErr bs = if anyBig bs (nSegs bs) then 3 else if anyPad bs (nSegs bs) (padN (nSegs bs)) then 5 else 0) := by
          show _ = _
          unfold headErr
          rw [if_neg (by omega), if_neg h16, if_neg (by omega)]
        clear hn hr hw hseg cx
        generalize hpe : padN (nSegs bs) = pd at *
        generalize hqe : nSegs bs = q at *
        have HPE := hide hpe
        have HQE := hide hqe
        clear hpe hqe
        go_enter Try.func18, Try.ntmps18
        go_wp2_with fail
        refine (read_any _ n c b0 bs _ HN.out (by omega) HR.out HW.out lm).mono ?_
        rintro e w1 ⟨rfl, k1, rfl⟩
        rw [show rd bs 0 = (q : Int) - 1 from by rw [HSEG.out]; omega]
        go_wp2_with fail
        refine (head_any q (by omega) (by omega) _).mono ?_
        rintro e w2 ⟨rfl, rfl⟩
        rw [HPD.out]
        go_wp2_with fail
        go_loopw [5, 24] (fun v i wr => ∃ k : Nat, k ≤ q ∧ i = .int .i64 k ∧ Hid (anyBig bs k = false) ∧ wr.ownsRow w.heap.size 3 1 v k ((sizesOf bs k).map (Value.int .i64)) ∧ Below w.heap.size w wr) (fun _ i _ => q - (intOf i).toNat)
        case atStart => exact ⟨0, by omega, rfl, rfl, World.ownsRow_nil _ _ _ _, below_of_drewN _ _ _⟩
        case round =>
          obtain ⟨k, hk, rfl, hbig, hown, hbe⟩ := hrel
          by_cases hlt : k < q
          · have hdr := (HR.out.below hbe hb0).drop (4 + 4 * k)
            rw [Option.map_some, add_lit, ← List.map_drop] at hdr
            have HDR := hide hdr
            clear hdr
            have hrk := rd_bd bs HW.out (4 + 4 * k)
            have HRD : Hid (rd (bs.drop (4 + 4 * k)) 0 = rd bs (4 + 4 * k)) := rd_drop bs (4 + 4 * k) 0
            have HSN := hide (sizesOf_snoc bs k)
            have HBS := hide (anyBig_succ bs k)
            go_wp2_with fail
            refine (read_any _ _ _ b0 (bs.drop (4 + 4 * k)) _ (by rw [List.length_drop, ← HN.out]) (by omega) HDR.out (fun x hx => HW.out x (List.mem_of_mem_drop hx)) (by omega)).mono ?_
            rintro e w4 ⟨rfl, k4, rfl⟩
            rw [HRD.out]
            generalize hxe : rd bs (4 + 4 * k) = x at *
            have HXE := hide hxe
            clear hxe
            have hown4 := ownsRow_drewN hown k4
            have hbe4 := below_drewN hbe k4
            generalize wr.drewN k4 = w5 at *
            by_cases hbx2 : x > 65536
            · have hbt : Hid (anyBig bs q = true) := anyBig_hit bs q k hlt (by rw [HXE.out]; exact hbx2)
              go_wp2_with fail
              go_ret2
              have he : headErr bs = 3 := by rw [HE.out, hbt.out]; rfl
              exact ⟨hbe4, .inl ⟨by rw [he]; decide, by rw [he]; rfl⟩⟩
            · have hbf : Hid (anyBig bs (k + 1) = false) := by
                show _ = _
                rw [HBS.out, hbig.out]
                simp; omega
              have hnew : ∀ j u, ([x].map (Value.int .i64))[j]? = some u → ∃ ad, some (⟨w5.heap.size, 0, none⟩ : Addr) = some ad ∧ (w5.alloc (.cells #[.int .i64 x] 3)).cell? (ad.add j) = some u := fun j u hu => by
                refine ⟨_, rfl, ?_⟩
                rw [add_lit, Nat.zero_add, (Blk.new w5 _ _).cell]
                simpa using hu
              have HNEW := hide hnew
              clear hnew
              go_wp2_with (at_builtin; refine wpList_append_any _ rfl (.tmp 35) (.tmp 37) _ rfl w.heap.size 3 i0 _ 1 8 Try.underlying42 hi hz0 hz1 hz2 rfl (by decide) _ _ _ rfl (hown4.alloc _) (some ⟨w5.heap.size, 0, none⟩) 1 1 ([x].map (Value.int .i64)) rfl rfl HNEW.out (oneCells _ _) (by unfold maxLen; omega) (by omega) (by have := hbe4.size; simp; omega) ?_; intro v6 w6 hown6 hg6 hat6)
              go_roundw
              case rel =>
                refine ⟨k + 1, by omega, by go_num, hbf, ?_, (hbe4.alloc hbe4.size _).grown hg6 (by have := hbe4.size; simp; omega) (fun k hk => (hown4.lt k hk).1)⟩
                rw [HSN.out, List.map_append]
                exact hown6
              case measure => simp [intOf]; omega
          · have hke : k = q := by omega
            subst hke
            go_wp2_with fail
            refine (head_any k (by omega) (by omega) _).mono ?_
            rintro e w2 ⟨rfl, rfl⟩
            rw [HPD.out]
            have HCX' := hide (HR.out.below hbe hb0)
            have HOWN := hide hown
            clear hown
            have hce : c = 4 + 4 * k ∨ ¬ (c = 4 + 4 * k) := by omega
            rcases hce with hce | hce
            all_goals
              go_wp2_with fail
              go_loopw [48] (fun i wr' => ∃ p : Nat, p ≤ pd ∧ i = .int .i64 p ∧ Hid (anyPad bs k p = false) ∧ wr' = wr) (fun i _ => pd - (intOf i).toNat)
              case atStart => exact ⟨0, by omega, rfl, rfl, rfl⟩
              case round =>
                obtain ⟨p, hp, rfl, hpad, rfl⟩ := hrel
                by_cases hlt : p < pd
                · first
                  | (exfalso; omega)
                  | (have hin : 4 + 4 * k + p < bs.length := by rw [← HN.out]; omega
                     have hcel : wr.cell? ⟨bx, ox + (4 + 4 * k) + p, none⟩ = some (.int .u8 (bs.getD (4 + 4 * k + p) 0)) := by
                       obtain ⟨b', o', e', _, hc'⟩ := HCX'.out (4 + 4 * k + p) _ (by rw [List.getElem?_map, List.getElem?_eq_getElem hin]; rfl)
                       injection e' with e'
                       injection e' with e1 e2
                       subst e1 e2
                       rw [Nat.add_assoc, hc']
                       simp [hin]
                     have HPS := hide (anyPad_succ bs k p)
                     have HPH := hide (fun h => anyPad_hit bs k pd p hlt h)
                     generalize bs.getD (4 + 4 * k + p) 0 = y at *
                     by_cases hy : y = 0
                     · subst hy
                       go_wp2_with fail
                       go_roundw
                       case rel => exact ⟨p + 1, by omega, by go_num, (by show _ = _; rw [HPS.out, hpad.out]; rfl), by first | trivial | rfl⟩
                       case measure => simp [intOf]; omega
                     · have hyb : (y != 0) = true := by simp [hy]
                       have HAP := hide (HPH.out hy)
                       go_wp2_with fail
                       go_ret2
                       have he : headErr bs = 5 := by rw [HE.out, hbig.out, HAP.out]; rfl
                       exact ⟨hbe, .inl ⟨by rw [he]; decide, by rw [he]; rfl⟩⟩)
                · have hpe : p = pd := by omega
                  subst hpe
                  go_wp2_with fail
                  go_ret2
                  have he : headErr bs = 0 := by rw [HE.out, hbig.out, hpad.out]; rfl
                  obtain ⟨A', c', hv, hle, hA'⟩ := ownsRow_slice HOWN.out
                  refine ⟨hbe, .inr ⟨he, A', c', by rw [HQE.out, ← hv]; rfl, ?_⟩⟩
                  rw [HQE.out]
                  exact Reads.of_own HOWN.out hv
end Go.Proofs.Ytalboekhdjcllaa
