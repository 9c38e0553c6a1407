/-
  Pack of package pack.
-/
import Derived.Test.YtfmdnglcmbgpcaaPkE
import Derived.Deep.RegionLaw
import Derived.Deep.RegionHeldLaw
import Derived.IntWalk
namespace Go.Proofs.Ytfmdnglcmbgpcaa
open Go.RowKit Go.Proofs.Ytfmdnglcmbgpcaa.Pk

set_option maxRecDepth 100000 in
set_option maxHeartbeats 8000000 in
theorem pack_any (A : Option Addr) (n c b0 : Nat) (l : List Int) (w : World) (hn : n = l.length) (hx : Reads w b0 A (l.map (Value.int .u64))) (hb0 : b0 ≤ w.heap.size) (hs : n ≤ 100000) (hc : n ≤ c) (hcm : c ≤ maxLen) (hu : u64s l) :
    Calls Try.prog 9 #[.slice A n c] w (BytesPost (packL l) w) := by
  obtain ⟨i0, hi, hz0, hz1, hz2⟩ := info_parts infoByte
  unfold maxLen at hcm
  have HX := hide hx
  have HN := hide hn
  have HU := hide hu
  clear hx hn hu
  go_enter Try.func9, Try.ntmps9
  go_wp2_with fail
  go_loopw [0, 3] (fun s v wr => ∃ (k n' c' : Nat) (A' : Option Addr) (o : List Int), s = .slice A' n' c' ∧ n' + k = n ∧ n' ≤ c' ∧ c' ≤ 9223372036854775807 ∧ Hid (Reads w b0 A' ((l.drop k).map (Value.int .u64))) ∧ Hid (o ++ packL (l.drop k) = packL l) ∧ o.length ≤ 10 * k ∧ wr.ownsRow w.heap.size 5 1 v o.length (o.map (Value.int .u8)) ∧ Below w.heap.size w wr) (fun s _ _ => lenV s)
  case atStart => exact ⟨0, n, c, A, [], rfl, by omega, hc, by omega, HX, rfl, by simp, World.ownsRow_nil _ _ _ _, Below.refl _ _⟩
  case round =>
    obtain ⟨k, n', c', A', o, rfl, hnk, hc', hcm', hrd, hpk, hol, hown, hbe⟩ := hrel
    by_cases hlt : 0 < n'
    · have hl1 : k < l.length := by rw [← HN.out]; omega
      have hb := HU.out _ (List.getElem_mem hl1)
      have HD := hide (List.drop_eq_getElem_cons hl1)
      have HLD : Hid ((l.drop (k + 1)).length = n' - 1) := by show _ = _; rw [List.length_drop, ← HN.out]; omega
      have HUD : Hid (u64s (l.drop (k + 1))) := fun x hx => HU.out x (List.mem_of_mem_drop hx)
      generalize l[k] = x at *
      have hd := hrd.out
      rw [HD.out] at hd
      have HDD := hide (List.drop_drop (i := 1) (j := k) (l := l))
      obtain ⟨bx, ox, rfl, hbx, d0⟩ := (hd.below hbe hb0).cellAt (k := 0) (by simp)
      have d0 : wr.cell? ⟨bx, ox, none⟩ = some (.int .u64 x) := d0
      have HRR := hide (hrd.out.cutLit (k := 1) (cap := c') (by rw [List.length_map, List.length_drop, ← HN.out]; omega))
      rw [← List.map_drop, HDD.out] at HRR
      have HPU : Hid (packL (l.drop k) = _) := (congrArg packL HD.out).trans (packL_cons x (l.drop (k + 1)))
      clear hd hrd
      go_wp2_with fail
      all_goals
        first
          | (rw [if_neg h] at HRR; generalize (some (⟨bx, ox + 1, none⟩ : Addr)) = A2 at *)
          | (rw [if_pos h] at HRR; rw [show Value.slice (some (⟨bx, ox, none⟩ : Addr)) (n' - 1) 0 = Value.slice (some ⟨bx, ox, none⟩) (n' - 1) (c' - 1) from by rw [h]]; clear h; generalize (some (⟨bx, ox, none⟩ : Addr)) = A2 at *)
        refine (bytes_any x hb.1 hb.2 _).mono ?_
        rintro e w1 ⟨rfl, hb1⟩
        have hbe1 := hbe.trans (hb1.mono hbe.size)
        have hown1 := ownsRow_below hown hb1
        clear hown hbe
        go_wp2_with fail
        have HB2 := Blk.new w1 39 #[.int .u8 (bt x 0), .int .u8 (bt x 1), .int .u8 (bt x 2), .int .u8 (bt x 3), .int .u8 (bt x 4), .int .u8 (bt x 5), .int .u8 (bt x 6), .int .u8 (bt x 7)]
        have hbe2 := hbe1.alloc hbe1.size (.cells #[.int .u8 (bt x 0), .int .u8 (bt x 1), .int .u8 (bt x 2), .int .u8 (bt x 3), .int .u8 (bt x 4), .int .u8 (bt x 5), .int .u8 (bt x 6), .int .u8 (bt x 7)] 39)
        have hown2 := hown1.alloc (.cells #[.int .u8 (bt x 0), .int .u8 (bt x 1), .int .u8 (bt x 2), .int .u8 (bt x 3), .int .u8 (bt x 4), .int .u8 (bt x 5), .int .u8 (bt x 6), .int .u8 (bt x 7)] 39)
        have hg2 : w1.heap.size < (w1.alloc (.cells #[.int .u8 (bt x 0), .int .u8 (bt x 1), .int .u8 (bt x 2), .int .u8 (bt x 3), .int .u8 (bt x 4), .int .u8 (bt x 5), .int .u8 (bt x 6), .int .u8 (bt x 7)] 39)).heap.size := by simp
        have hne2 : some w1.heap.size ≠ u3.ownBlock := fun e => by have := hown1.lt _ e.symm; omega
        generalize (w1.alloc (.cells #[.int .u8 (bt x 0), .int .u8 (bt x 1), .int .u8 (bt x 2), .int .u8 (bt x 3), .int .u8 (bt x 4), .int .u8 (bt x 5), .int .u8 (bt x 6), .int .u8 (bt x 7)] 39)) = w2 at *
        refine (unlike_any x 0 hb.1 hb.2 (by decide) (by decide) _).mono ?_
        rintro e w3 ⟨rfl, hb3⟩
        rw [tag_of x hb.1 hb.2]
        have hT := tag_bd x
        generalize tagOf x = T at *
        have hbe3 := hbe2.trans (hb3.mono hbe2.size)
        have hown3 := ownsRow_below hown2 hb3
        have HB3 := HB2.below hb3 hg2
        clear hown2 hbe2 HB2 hown1
        have HN1 := new_one w3 T
        go_wp2_with (at_builtin; refine wpList_append_any _ rfl (.tmp 23) (.tmp 25) _ rfl w.heap.size 5 i0 _ 1 1 Try.underlying25 hi hz0 hz1 hz2 rfl (by decide) _ _ _ rfl (hown3.alloc _) (some ⟨w3.heap.size, 0, none⟩) 1 1 ([T].map (Value.int .u8)) rfl rfl HN1.out (oneCells _ _) (by unfold maxLen; omega) (by omega) (by have := hbe3.size; simp; omega) ?_; intro v4 w4 hown4 hg4 hat4; have hbe4 := (hbe3.alloc hbe3.size _).grown hg4 (by have := hbe3.size; simp; omega) (fun k hk => (hown3.lt k hk).1); have HB4 := (HB3.alloc _).grown hg4 hne2; have e0 := HB4.cell 0; have e1 := HB4.cell 1; have e2 := HB4.cell 2; have e3 := HB4.cell 3; have e4 := HB4.cell 4; have e5 := HB4.cell 5; have e6 := HB4.cell 6; have e7 := HB4.cell 7; simp at e0 e1 e2 e3 e4 e5 e6 e7; clear HB4 hg4 hat4 hown3 hbe3 HB3)
        clear e0 e1 e2 e3 e4 e5 e6 e7
        go_loopw [3, 28] (fun v i wr' => ∃ q : Nat, q ≤ 8 ∧ i = .int .i64 q ∧ wr'.ownsRow w.heap.size 5 1 v (o.length + 1 + (nzB x q).length) ((o ++ [T] ++ nzB x q).map (Value.int .u8)) ∧ Below w.heap.size w wr') (fun _ i _ => 8 - (intOf i).toNat)
        case atStart =>
          refine ⟨0, by omega, rfl, ?_, hbe4⟩
          rw [nzB, List.append_nil, List.map_append]
          exact hown4
        case round =>
          obtain ⟨q, hq, rfl, hown5, hbe5⟩ := hrel
          have hnz := nz_zs x q
          clear hown4 hbe4
          by_cases hlt5 : q < 8
          · have hidx : ∀ w, (Instr.index 39 (.agg #[.int .u8 (bt x 0), .int .u8 (bt x 1), .int .u8 (bt x 2), .int .u8 (bt x 3), .int .u8 (bt x 4), .int .u8 (bt x 5), .int .u8 (bt x 6), .int .u8 (bt x 7)]) (.int .i64 (q : Int))).run Try.prog w = .ok (.int .u8 (bt x q)) w :=
              fun w => indexBytes _ q hlt5 _ (arr8_get (fun i => .int .u8 (bt x i)) q hlt5) w
            by_cases hz : bt x q = 0
            · have ht : (bt x q != 0) = false := by simp [hz]
              have HNZ : Hid (nzB x (q + 1) = nzB x q) := by show _ = _; rw [nzB, if_pos hz, List.append_nil]
              have hnl : (nzB x q).length ≤ 8 := by omega
              clear hz hnz
              go_wp2_with fail
              go_roundw
              case rel => exact ⟨q + 1, by omega, by go_num, by rw [HNZ.out]; exact hown5, hbe5⟩
              case measure => simp [intOf]; omega
            · have ht : (bt x q != 0) = true := by simpa using hz
              have HNZ : Hid (nzB x (q + 1) = nzB x q ++ [bt x q]) := by show _ = _; rw [nzB, if_neg hz]
              have hnl : (nzB x q).length ≤ 8 := by omega
              have HN5 := new_one
              clear hz hnz
              go_wp2_with (at_builtin; refine wpList_append_any _ rfl (.tmp 33) (.tmp 35) _ rfl w.heap.size 5 i0 _ 1 1 Try.underlying25 hi hz0 hz1 hz2 rfl (by decide) _ _ _ rfl (hown5.alloc _) (some ⟨_, 0, none⟩) 1 1 ([bt x q].map (Value.int .u8)) rfl rfl (new_one _ _).out (oneCells _ _) (by unfold maxLen; omega) (by omega) (by have := hbe5.size; simp; omega) ?_; intro v6 w6 hown6 hg6 hat6)
              go_roundw
              case rel =>
                refine ⟨q + 1, by omega, by go_num, ?_, (hbe5.alloc hbe5.size _).grown hg6 (by have := hbe5.size; simp; omega) (fun k hk => (hown5.lt k hk).1)⟩
                rw [HNZ.out, ← List.append_assoc, List.map_append, List.length_append, ← Nat.add_assoc]
                exact hown6
              case measure => simp [intOf]; omega
          · have e8 : q = 8 := by omega
            subst e8
            have hnl := nz_le x
            generalize nzB x 8 = zb at *
            have hpk2 := hpk.out
            rw [HPU.out] at hpk2
            clear hnz
            by_cases hT0 : T = 0
            · rw [if_pos hT0] at hpk2
              subst hT0
              have HPK2 := hide hpk2
              clear hpk2 hpk HPU
              go_wp2_with fail
              refine (runZ_any A2 (n' - 1) _ b0 (l.drop (k + 1)) _ HLD.out.symm (HRR.out.below hbe5 hb0) (Nat.le_trans hb0 hbe5.size) (by omega) HUD.out).mono ?_
              rintro e w6 ⟨rfl, hb6⟩
              have hr := runP_le isZ (l.drop (k + 1))
              rw [HLD.out] at hr
              generalize runP isZ (l.drop (k + 1)) = m at *
              have hown6 := ownsRow_below hown5 hb6
              have hbe6 := hbe5.trans (hb6.mono hbe5.size)
              clear hown5 hbe5
              have g1 : (m : Int) ≤ ((n' - 1 : Nat) : Int) := by omega
              have g2 : (m : Int) ≤ ((c' - 1 : Nat) : Int) := by omega
              have HLM : Hid (∀ q : List Int, (o ++ [0] ++ zb ++ [(m : Int)] ++ q) = o ++ (0 :: zb ++ (m : Int) :: q)) := fun q => by simp
              have hcut := hide (HRR.out.cut (k := m) (cap := c' - 1) (by rw [List.length_map, HLD.out]; omega))
              rw [← List.map_drop, List.drop_drop] at hcut
              go_wp2_with (at_builtin; refine wpList_append_any _ rfl (.tmp 43) (.tmp 46) _ rfl w.heap.size 5 i0 _ 1 1 Try.underlying25 hi hz0 hz1 hz2 rfl (by decide) _ _ _ rfl (hown6.alloc _) (some ⟨_, 0, none⟩) 1 1 ([(m : Int)].map (Value.int .u8)) rfl rfl (new_one _ _).out (oneCells _ _) (by unfold maxLen; omega) (by omega) (by have := hbe6.size; simp; omega) ?_; intro v7 w7 hown7 hg7 hat7)
              all_goals
                go_roundw
                case rel =>
                  refine ⟨k + 1 + m, n' - 1 - m, _, _, o ++ [0] ++ zb ++ [(m : Int)], rfl, by omega, by omega, by omega, ?_, ?_, ?_, ?_, (hbe6.alloc hbe6.size _).grown hg7 (by have := hbe6.size; simp; omega) (fun k hk => (hown6.lt k hk).1)⟩
                  · first
                      | exact hcut
                      | (show Reads _ _ _ _
                         rw [List.drop_of_length_le (by rw [← HN.out]; omega)]
                         intro j u hu
                         simp at hu)
                  · show _ = _
                    rw [HLM.out, ← List.drop_drop]
                    exact HPK2.out
                  · simp; omega
                  · rw [List.map_append, List.length_append, List.length_append, List.length_append]
                    exact hown7
                case measure => simp [lenV]; omega
            · rw [if_neg hT0] at hpk2
              by_cases hT1 : T = 255
              · rw [if_pos hT1] at hpk2
                subst hT1
                have HPK2 := hide hpk2
                clear hpk2 hpk HPU hT0
                go_wp2_with fail
                refine (runF_any A2 (n' - 1) _ b0 (l.drop (k + 1)) _ HLD.out.symm (HRR.out.below hbe5 hb0) (Nat.le_trans hb0 hbe5.size) (by omega) HUD.out).mono ?_
                rintro e w6 ⟨rfl, hb6⟩
                have hr := runP_le isF (l.drop (k + 1))
                rw [HLD.out] at hr
                generalize runP isF (l.drop (k + 1)) = m at *
                have hown6 := ownsRow_below hown5 hb6
                have hbe6 := hbe5.trans (hb6.mono hbe5.size)
                clear hown5 hbe5
                have g1 : (m : Int) ≤ ((n' - 1 : Nat) : Int) := by omega
                have g2 : (m : Int) ≤ ((c' - 1 : Nat) : Int) := by omega
                have hwr : IntKind.u8.wrap (m : Int) = m := IntWalk.u8_in _ (by omega)
                have HLT : Hid (m = ((l.drop (k + 1)).take m).length) := by show _ = _; rw [List.length_take, HLD.out]; omega
                have HRT : Hid (Reads w b0 A2 (((l.drop (k + 1)).take m).map (Value.int .u64))) := by
                  have := HRR.out.take m
                  rwa [← List.map_take] at this
                have HUT : Hid (∀ x ∈ (l.drop (k + 1)).take m, 0 ≤ x ∧ x ≤ 18446744073709551615) := fun x hx => HUD.out x (List.mem_of_mem_take hx)
                have hm255 := hr.1
                have hol8 : o.length ≤ 1000000 := by omega
                have hown7 := (hown6.alloc (.cells #[.int .u8 (m : Int)] 5)).drew
                have hbe7 := (hbe6.alloc hbe6.size (.cells #[.int .u8 (m : Int)] 5)).drew
                have HL7 : Hid (∀ j u, ([(m : Int)].map (Value.int .u8))[j]? = some u → ∃ ad, some (⟨w6.heap.size, 0, none⟩ : Addr) = some ad ∧ ((w6.alloc (.cells #[.int .u8 (m : Int)] 5)).drew).cell? (ad.add j) = some u) := (new_one w6 m).out
                have HLC : Hid (Reads ((w6.alloc (.cells #[.int .u8 (m : Int)] 5)).drew) ((w6.alloc (.cells #[.int .u8 (m : Int)] 5)).drew).heap.size (some ⟨w6.heap.size, 0, none⟩) ([(m : Int)].map (Value.int .u8))) :=
                  Reads.of_lit (by simp) fun j u hu => by
                    obtain ⟨ad, e, h⟩ := HL7.out j u hu
                    injection e with e
                    subst e
                    rwa [add_lit] at h
                have HLM : Hid (∀ q F : List Int, (o ++ [255] ++ zb ++ [(m : Int)] ++ F ++ q) = o ++ (255 :: zb ++ (m : Int) :: (F ++ q))) := fun q F => by simp
                have hcut := hide (HRR.out.cut (k := m) (cap := c' - 1) (by rw [List.length_map, HLD.out]; omega))
                rw [← List.map_drop, List.drop_drop] at hcut
                have hfl := flatOf_len ((l.drop (k + 1)).take m)
                rw [← HLT.out] at hfl
                have HFL : Hid (∀ (C nn : Nat) (W : World), nn = m → Below w.heap.size w W → Calls Try.prog 20 #[.slice A2 nn C] W (OwnB (flatOf ((l.drop (k + 1)).take m)) W)) := fun C nn W e hb => by subst e; exact flat_own A2 nn C b0 _ W HLT.out (HRT.out.below hb hb0) (Nat.le_trans hb0 hb.size) HUT.out (by omega)
                generalize flatOf ((l.drop (k + 1)).take m) = F at *
                have hownC := hown7
                have hbeC := hbe7
                clear HL7
                (try (have g3 : (m : Int) ≤ 0 := by omega))
                go_wp2_with fail
                go_region_held_law (fun _ => True) (trivial) (first
                  | (go_at_call 20; (refine (HFL.out _ _ _ (by omega) hbeC).mono ?_; rintro e wF ⟨hbF, vF, rfl, hoF⟩; have hownC := ownsRow_below hownC hbF; have hbeC := hbeC.trans (hbF.mono hbeC.size); (try (have HLC := rd_step HLC hbF)); have HF := hide hoF; obtain ⟨AF, cF, rfl, hlF, hAF⟩ := ownsRow_slice hoF; clear hoF))
                  | (refine step_chk (.tmp 55) (.tmp 58) _ (by rfl) ?_; refine step_append_any (by rfl) (.tmp 55) (.tmp 58) _ (by rfl) w.heap.size 5 i0 _ 1 1 Try.underlying25 hi hz0 hz1 hz2 (by rfl) (by decide) _ _ _ (by rfl) hownC (some ⟨w6.heap.size, 0, none⟩) 1 1 ([(m : Int)].map (Value.int .u8)) (by rfl) (by rfl) HLC.out.src (oneCells _ _) (by unfold maxLen; omega) (by omega) hbeC.size ?_; intro v8 w8 hown8 hg8 hat8; (try (have HF := hide (ownsRow_keep HF.out (fun b hb => hg8.block b (HF.out.lt b hb).2 (fun e => by have := hownC.lt b e.symm; have := HF.out.lt b hb; omega))))); have hbeC := hbeC.grown hg8 hbeC.size (fun k hk => (hownC.lt k hk).1); have hownC := hown8)
                  | (refine step_chk (.tmp 59) (.tmp 63) _ (by rfl) ?_; refine step_append_any (by rfl) (.tmp 59) (.tmp 63) _ (by rfl) w.heap.size 5 i0 _ 1 1 Try.underlying25 hi hz0 hz1 hz2 (by rfl) (by decide) _ _ _ (by rfl) hownC AF _ cF (F.map (Value.int .u8)) (by rfl) (by rw [List.length_map, Nat.mul_one]; omega) (Reads.of_own HF.out rfl).src (oneCells _ _) (by unfold maxLen; omega) (by omega) hbeC.size ?_; intro v9 w9 hown9 hg9 hat9; have hbeC := hbeC.grown hg9 hbeC.size (fun k hk => (hownC.lt k hk).1); have hownC := hown9))
                all_goals go_wp2_with fail
                all_goals
                  go_roundw
                  case rel =>
                    refine ⟨k + 1 + m, n' - 1 - m, _, _, o ++ [255] ++ zb ++ [(m : Int)] ++ F, rfl, by omega, by omega, by omega, ?_, ?_, ?_, ?_, hbeC⟩
                    · first
                        | exact hcut
                        | (show Reads _ _ _ _
                           rw [List.drop_of_length_le (by rw [← HN.out]; omega)]
                           intro j u hu
                           simp at hu)
                    · show _ = _
                      rw [HLM.out, ← List.drop_drop]
                      exact HPK2.out
                    · simp; omega
                    · have e : (o ++ [255] ++ zb ++ [(m : Int)] ++ F).length = o.length + 1 + zb.length + 1 + 8 * m := by simp; omega
                      rw [e]
                      simpa using hownC
                  case measure => simp [lenV]; omega
              · rw [if_neg hT1] at hpk2
                have hd1 : (T == 0) = false := by simpa using hT0
                have hd2 : (T == 255) = false := by simpa using hT1
                have HPK2 := hide hpk2
                have HLM : Hid (∀ q : List Int, (o ++ [T] ++ zb ++ q) = o ++ (T :: zb ++ q)) := fun q => by simp
                clear hpk2 hpk HPU hT0 hT1
                go_wp2_with fail
                go_roundw
                case rel =>
                  refine ⟨k + 1, n' - 1, _, _, o ++ [T] ++ zb, rfl, by omega, by omega, by omega, HRR, ?_, ?_, ?_, hbe5⟩
                  · show _ = _
                    rw [HLM.out]
                    exact HPK2.out
                  · simp; omega
                  · rw [List.length_append, List.length_append]
                    exact hown5
                case measure => simp [lenV]; omega
    · have h0 : n' = 0 := by omega
      subst h0
      have HE : Hid (o = packL l) := by
        show _ = _
        have := hpk.out
        rw [List.drop_of_length_le (by rw [← HN.out]; omega), packL_nil, List.append_nil] at this
        exact this
      clear hpk
      go_wp2_with fail
      go_ret
      obtain ⟨A', c', hv, hle, hA'⟩ := ownsRow_slice hown
      rw [HE.out] at hown hle hv
      exact ⟨hbe, A', _, c', by rw [← hv]; rfl, rfl, hle, ownsRow_cap (by rw [← hv]; exact hown), hA', Reads.of_own hown hv⟩
end Go.Proofs.Ytfmdnglcmbgpcaa
