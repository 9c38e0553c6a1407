/-
  The reference's Pack.
-/
import Derived.Test.YtfmdnglcmbgpcaaPkE
import Derived.IntWalk
namespace Go.Proofs.Ytfmdnglcmbgpcaa
open Go.RowKit Go.Proofs.Ytfmdnglcmbgpcaa.Pk

set_option maxRecDepth 100000 in
set_option maxHeartbeats 8000000 in
theorem refPack_any (A : Option Addr) (n c b0 : Nat) (l : List Int) (w : World) (hn : n = l.length) (hx : Reads w b0 A (l.map (Value.int .u64))) (hb0 : b0 ≤ w.heap.size) (hs : n ≤ 100000) (hc : n ≤ c) (hcm : c ≤ maxLen) (hu : u64s l) :
    Calls Try.prog 10 #[.slice A n c] w (BytesPost (packL l) w) := by
  obtain ⟨i0, hi, hz0, hz1, hz2⟩ := info_parts infoByte
  unfold maxLen at hcm
  have HX := hide hx
  have HN := hide hn
  have HU := hide hu
  clear hx hn hu
  go_enter Try.func10, Try.ntmps10
  go_wp2_with fail
  go_loopw [3, 4] (fun v a wr => ∃ (k : Nat) (o : List Int), a = .int .i64 k ∧ k ≤ n ∧ Hid (o ++ packL (l.drop k) = packL l) ∧ o.length ≤ 10 * k ∧ wr.ownsRow w.heap.size 5 1 v o.length (o.map (Value.int .u8)) ∧ Below w.heap.size w wr) (fun _ a _ => n - (intOf a).toNat)
  case atStart => exact ⟨0, [], rfl, by omega, rfl, by simp, World.ownsRow_nil _ _ _ _, Below.refl _ _⟩
  case round =>
    obtain ⟨k, o, rfl, hk, hpk, hol, hown, hbe⟩ := hrel
    by_cases hlt : k < n
    · have hl1 : k < l.length := by rw [← HN.out]; exact hlt
      have hb := HU.out _ (List.getElem_mem hl1)
      have HD := hide (List.drop_eq_getElem_cons hl1)
      have HLD : Hid ((l.drop (k + 1)).length = n - (k + 1)) := by show _ = _; rw [List.length_drop, ← HN.out]
      have HUD : Hid (u64s (l.drop (k + 1))) := fun x hx => HU.out x (List.mem_of_mem_drop hx)
      obtain ⟨bx, ox, rfl, hbx, d0⟩ := (HX.out.below hbe hb0).intAt hl1
      generalize l[k] = x at *
      have HPU : Hid (packL (l.drop k) = _) := (congrArg packL HD.out).trans (packL_cons x (l.drop (k + 1)))
      go_wp2_with fail
      refine (refBytes_any x hb.1 hb.2 _).mono ?_
      rintro e w1 ⟨rfl, hb1⟩
      have hbs := hbe.size
      have hbs1 := hb1.size
      have d1 : w1.cell? ⟨bx, ox + k, none⟩ = some (.int .u64 x) := (hb1.cell (p := ⟨bx, ox + k, none⟩) (by show bx < _; omega)).trans d0
      have hlt1 : bx < w1.heap.size := by omega
      have hbe1 := hbe.trans (hb1.mono hbe.size)
      have hown1 := ownsRow_below hown hb1
      clear hown hbe d0
      go_wp2_with fail
      refine (refUnlike_any x 0 hb.1 hb.2 (by decide) (by decide) _).mono ?_
      rintro e w3 ⟨rfl, hb3⟩
      have hB3 := (Blk.new w1 39 (arrI (bt x))).below hb3 (by simp)
      have hbe2 := hbe1.alloc hbe1.size (.cells (arrI (bt x)) 39)
      have hbe3 := hbe2.trans (hb3.mono hbe2.size)
      have hown2 := hown1.alloc (.cells (arrI (bt x)) 39)
      have hown3 := ownsRow_below hown2 hb3
      have hne3 : some w1.heap.size ≠ u3.ownBlock := fun e => by have := hown1.lt _ e.symm; omega
      have hlt3 := hB3.lt
      have hlow3 : w.heap.size ≤ w1.heap.size := hbe1.size
      generalize w1.heap.size = g5 at *
      have hd2 : ∀ q, q < 8 → True := fun _ _ => trivial
      have hT := tag_bd x
      have eT : rUnl x 0 8 = tagOf x := rfl
      rw [eT]
      generalize tagOf x = T at *
      clear eT hbe2 hbe1 hown1 hown2 hb1 hb3 d1
      go_wp2_with (at_builtin; refine wpList_append_any _ rfl (.tmp 25) (.tmp 27) _ rfl w.heap.size 5 i0 _ 1 1 Try.underlying25 hi hz0 hz1 hz2 rfl (by decide) _ _ _ rfl (hown3.alloc _) (some ⟨w3.heap.size, 0, none⟩) 1 1 ([T].map (Value.int .u8)) rfl rfl (new_one _ _).out (oneCells _ _) (by unfold maxLen; omega) (by omega) (by have := hbe3.size; simp; omega) ?_; intro v4 w4 hown4 hg4 hat4)
      have hB4 := (hB3.alloc _).grown hg4 hne3
      have hbe4 := (hbe3.alloc hbe3.size _).grown hg4 (by have := hbe3.size; simp; omega) (fun k hk => (hown3.lt k hk).1)
      clear hg4 hown3 hbe3 hB3
      go_loopw [3, 7] (fun v i wr' => ∃ q : Nat, q ≤ 8 ∧ i = .int .i64 q ∧ wr'.ownsRow w.heap.size 5 1 v (o.length + 1 + (nzB x q).length) ((o ++ [T] ++ nzB x q).map (Value.int .u8)) ∧ Below w.heap.size w wr' ∧ Blk wr' g5 39 (arrI (bt x)) ∧ some g5 ≠ v.ownBlock) (fun _ i _ => 8 - (intOf i).toNat)
      case atStart =>
        refine ⟨0, by omega, rfl, ?_, hbe4, hB4, ?_⟩
        · rw [nzB, List.append_nil, List.map_append]
          exact hown4
        · rcases hat4 with h | h
          · rw [h]; exact hne3
          · rw [h]; intro e; injection e with e; simp at e; omega
      case round =>
        obtain ⟨q, hq, rfl, hown5, hbe5, hB5, hne5⟩ := hrel
        have hnz := nz_zs x q
        clear hown4 hbe4 hB4 hat4
        by_cases hlt5 : q < 8
        · have cx := (hB5.cell q).trans (arrI_get (bt x) q hlt5)
          by_cases hz : bt x q = 0
          · have ht : (bt x q != 0) = false := by simp [hz]
            have HNZ : Hid (nzB x (q + 1) = nzB x q) := by show _ = _; rw [nzB, if_pos hz, List.append_nil]
            have hnl : (nzB x q).length ≤ 8 := by omega
            clear hz hnz
            go_wp2_with fail
            go_roundw
            case rel => exact ⟨q + 1, by omega, by go_num, by rw [HNZ.out]; exact hown5, hbe5, hB5, hne5⟩
            case measure => simp [intOf]; omega
          · have ht : (bt x q != 0) = true := by simpa using hz
            have HNZ : Hid (nzB x (q + 1) = nzB x q ++ [bt x q]) := by show _ = _; rw [nzB, if_neg hz]
            have hnl : (nzB x q).length ≤ 8 := by omega
            clear hz hnz
            have hlt5' := hB5.lt
            go_wp2_with (at_builtin; refine wpList_append_any _ rfl (.tmp 37) (.tmp 41) _ rfl w.heap.size 5 i0 _ 1 1 Try.underlying25 hi hz0 hz1 hz2 rfl (by decide) _ _ _ rfl (hown5.alloc _) (some ⟨_, 0, none⟩) 1 1 ([bt x q].map (Value.int .u8)) rfl rfl (new_one _ _).out (oneCells _ _) (by unfold maxLen; omega) (by omega) (by have := hbe5.size; simp; omega) ?_; intro v6 w6 hown6 hg6 hat6)
            go_roundw
            case rel =>
              refine ⟨q + 1, by omega, by go_num, ?_, (hbe5.alloc hbe5.size _).grown hg6 (by have := hbe5.size; simp; omega) (fun k hk => (hown5.lt k hk).1), (hB5.alloc _).grown hg6 hne5, ?_⟩
              · rw [HNZ.out, ← List.append_assoc, List.map_append, List.length_append, ← Nat.add_assoc]
                exact hown6
              · rcases hat6 with h | h
                · rw [h]; exact hne5
                · rw [h]; intro e; injection e with e; simp at e; omega
            case measure => simp [intOf]; omega
        · have e8 : q = 8 := by omega
          rw [e8] at hown5
          have q8 : ¬ ((q : Int) < 8) := by omega
          have hnl := nz_le x
          clear e8
          generalize nzB x 8 = zb at *
          obtain ⟨A5, c5, rfl, hle5, hA5⟩ := ownsRow_slice hown5
          have hpk2 := hpk.out
          rw [HPU.out] at hpk2
          clear hnz hB5 hne5
          by_cases hT0 : T = 0
          · rw [if_pos hT0] at hpk2
            subst hT0
            have HPK2 := hide hpk2
            clear hpk2 hpk HPU
            go_wp2_with fail
            go_loopw [8] (fun v wr' => ∃ m : Nat, v = .int .i64 (m : Int) ∧ m ≤ 255 ∧ k + 1 + m ≤ n ∧ Hid (∀ i, i < m → isZ ((l.drop (k + 1)).getD i 0) = true) ∧ wr'.ownsRow w.heap.size 5 1 (.slice A5 (o.length + 1 + zb.length) c5) (o.length + 1 + zb.length) ((o ++ [0] ++ zb).map (Value.int .u8)) ∧ Below w.heap.size w wr') (fun v _ => 255 - (intOf v).toNat)
            case atStart => exact ⟨0, rfl, by omega, by omega, fun i hi => by omega, hown5, hbe5⟩
            case round =>
              obtain ⟨m, rfl, hm1, hm2, hall, hown7, hbe7⟩ := hrel
              clear hown5 hbe5
              have HLM : Hid (∀ q : List Int, (o ++ [0] ++ zb ++ [(m : Int)] ++ q) = o ++ (0 :: zb ++ (m : Int) :: q)) := fun q => by simp
              by_cases g1 : m < 255
              · by_cases g2 : k + 1 + m < n
                · have hc7 := (HX.out.below hbe7 hb0).intLit (k := k + 1 + m) (by rw [← HN.out]; exact g2)
                  have hy := HUD.out.getD m (by rw [HLD.out]; omega)
                  have hgd : l.getD (k + 1 + m) 0 = (l.drop (k + 1)).getD m 0 := by rw [List.getD_eq_getElem?_getD, List.getD_eq_getElem?_getD, List.getElem?_drop]
                  rw [hgd] at hc7
                  clear hgd
                  have HST := hide (runP_is isZ (l.drop (k + 1)) m hm1 (by rw [HLD.out]; omega) hall.out)
                  have HSU := hide (fun (h : isZ ((l.drop (k + 1)).getD m 0) = true) => run_more hall.out h)
                  clear hall
                  generalize (l.drop (k + 1)).getD m 0 = y at *
                  have hidx : ((k : Int) + 1 + (m : Int)).toNat = k + 1 + m := by omega
                  by_cases hz : y = 0
                  · have ht : (y == 0) = true := by simpa using hz
                    have HALL := hide (HSU.out (by unfold isZ; exact ht))
                    clear hz HSU HST
                    go_wp2_with fail
                    go_roundw
                    case rel => exact ⟨m + 1, by go_num, by omega, by omega, HALL, hown7, hbe7⟩
                    case measure => simp [intOf]; omega
                  · have ht : (y == 0) = false := by simpa using hz
                    have HP := hide (HST.out (.inr (.inr (by unfold isZ; exact ht))))
                    clear hz HSU HST
                    go_wp2_with (at_builtin; refine wpList_append_any _ rfl (.tmp 88) (.tmp 91) _ rfl w.heap.size 5 i0 _ 1 1 Try.underlying25 hi hz0 hz1 hz2 rfl (by decide) _ _ _ rfl (hown7.alloc _) (some ⟨_, 0, none⟩) 1 1 ([(m : Int)].map (Value.int .u8)) rfl rfl (new_one _ _).out (oneCells _ _) (by unfold maxLen; omega) (by omega) (by have := hbe7.size; simp; omega) ?_; intro v8 w8 hown8 hg8 hat8)
                    go_roundw
                    case rel =>
                      refine ⟨k + 1 + m, o ++ [0] ++ zb ++ [(m : Int)], by go_num, by omega, ?_, ?_, ?_, (hbe7.alloc hbe7.size _).grown hg8 (by have := hbe7.size; simp; omega) (fun k hk => (hown7.lt k hk).1)⟩
                      · show _ = _
                        rw [HLM.out, ← List.drop_drop]
                        have := HPK2.out
                        rw [HP.out] at this
                        exact this
                      · simp; omega
                      · rw [List.map_append, List.length_append, List.length_append, List.length_append]
                        exact hown8
                    case measure => simp [intOf]; omega
                · have HP := hide (runP_is isZ (l.drop (k + 1)) m hm1 (by rw [HLD.out]; omega) hall.out (.inr (.inl (by rw [HLD.out]; omega))))
                  clear hall
                  go_wp2_with (at_builtin; refine wpList_append_any _ rfl (.tmp 88) (.tmp 91) _ rfl w.heap.size 5 i0 _ 1 1 Try.underlying25 hi hz0 hz1 hz2 rfl (by decide) _ _ _ rfl (hown7.alloc _) (some ⟨_, 0, none⟩) 1 1 ([(m : Int)].map (Value.int .u8)) rfl rfl (new_one _ _).out (oneCells _ _) (by unfold maxLen; omega) (by omega) (by have := hbe7.size; simp; omega) ?_; intro v8 w8 hown8 hg8 hat8)
                  go_roundw
                  case rel =>
                    refine ⟨k + 1 + m, o ++ [0] ++ zb ++ [(m : Int)], by go_num, by omega, ?_, ?_, ?_, (hbe7.alloc hbe7.size _).grown hg8 (by have := hbe7.size; simp; omega) (fun k hk => (hown7.lt k hk).1)⟩
                    · show _ = _
                      rw [HLM.out, ← List.drop_drop]
                      have := HPK2.out
                      rw [HP.out] at this
                      exact this
                    · simp; omega
                    · rw [List.map_append, List.length_append, List.length_append, List.length_append]
                      exact hown8
                  case measure => simp [intOf]; omega
              · have HP := hide (runP_is isZ (l.drop (k + 1)) m hm1 (by rw [HLD.out]; omega) hall.out (.inl (by omega)))
                clear hall
                go_wp2_with (at_builtin; refine wpList_append_any _ rfl (.tmp 88) (.tmp 91) _ rfl w.heap.size 5 i0 _ 1 1 Try.underlying25 hi hz0 hz1 hz2 rfl (by decide) _ _ _ rfl (hown7.alloc _) (some ⟨_, 0, none⟩) 1 1 ([(m : Int)].map (Value.int .u8)) rfl rfl (new_one _ _).out (oneCells _ _) (by unfold maxLen; omega) (by omega) (by have := hbe7.size; simp; omega) ?_; intro v8 w8 hown8 hg8 hat8)
                go_roundw
                case rel =>
                  refine ⟨k + 1 + m, o ++ [0] ++ zb ++ [(m : Int)], by go_num, by omega, ?_, ?_, ?_, (hbe7.alloc hbe7.size _).grown hg8 (by have := hbe7.size; simp; omega) (fun k hk => (hown7.lt k hk).1)⟩
                  · show _ = _
                    rw [HLM.out, ← List.drop_drop]
                    have := HPK2.out
                    rw [HP.out] at this
                    exact this
                  · simp; omega
                  · rw [List.map_append, List.length_append, List.length_append, List.length_append]
                    exact hown8
                case measure => simp [intOf]; omega
          · rw [if_neg hT0] at hpk2
            by_cases hT1 : T = 255
            · rw [if_pos hT1] at hpk2
              subst hT1
              have HPK2 := hide hpk2
              clear hpk2 hpk HPU hT0
              go_wp2_with fail
              go_loopw [8] (fun v wr' => ∃ m : Nat, v = .int .i64 (m : Int) ∧ m ≤ 255 ∧ k + 1 + m ≤ n ∧ Hid (∀ i, i < m → isF ((l.drop (k + 1)).getD i 0) = true) ∧ wr'.ownsRow w.heap.size 5 1 (.slice A5 (o.length + 1 + zb.length) c5) (o.length + 1 + zb.length) ((o ++ [255] ++ zb).map (Value.int .u8)) ∧ Below w.heap.size w wr') (fun v _ => 255 - (intOf v).toNat)
              case atStart => exact ⟨0, rfl, by omega, by omega, fun i hi => by omega, hown5, hbe5⟩
              case round =>
                obtain ⟨m, rfl, hm1, hm2, hall, hown7, hbe7⟩ := hrel
                clear hown5 hbe5
                have HLM : Hid (∀ q : List Int, (o ++ [255] ++ zb ++ [(m : Int)] ++ q) = o ++ (255 :: zb ++ (m : Int) :: q)) := fun q => by simp
                by_cases g1 : m < 255
                · by_cases g2 : k + 1 + m < n
                  · have hc7 := (HX.out.below hbe7 hb0).intLit (k := k + 1 + m) (by rw [← HN.out]; exact g2)
                    have hy := HUD.out.getD m (by rw [HLD.out]; omega)
                    have hgd : l.getD (k + 1 + m) 0 = (l.drop (k + 1)).getD m 0 := by rw [List.getD_eq_getElem?_getD, List.getD_eq_getElem?_getD, List.getElem?_drop]
                    rw [hgd] at hc7
                    clear hgd
                    have HST := hide (runP_is isF (l.drop (k + 1)) m hm1 (by rw [HLD.out]; omega) hall.out)
                    have HSU := hide (fun (h : isF ((l.drop (k + 1)).getD m 0) = true) => run_more hall.out h)
                    clear hall
                    generalize (l.drop (k + 1)).getD m 0 = y at *
                    have hidx : ((k : Int) + 1 + (m : Int)).toNat = k + 1 + m := by omega
                    by_cases hz : zs y 8 ≤ 1
                    · have HALL := hide (HSU.out (by unfold isF; exact decide_eq_true hz))
                      have hzb : ((zs y 8 : Nat) : Int) < 2 := by omega
                      clear HSU HST
                      go_wp2_with fail
                      refine (refNoughts_any y hy.1 hy.2 _).mono ?_
                      rintro e w9 ⟨rfl, hb9⟩
                      go_wp2_with fail
                      go_roundw
                      case rel => exact ⟨m + 1, by go_num, by omega, by omega, HALL, ownsRow_below hown7 hb9, hbe7.trans (hb9.mono hbe7.size)⟩
                      case measure => simp [intOf]; omega
                    · have HP := hide (HST.out (.inr (.inr (by unfold isF; exact decide_eq_false hz))))
                      have hzb : ¬ ((zs y 8 : Nat) : Int) < 2 := by omega
                      clear HSU HST
                      go_wp2_with fail
                      refine (refNoughts_any y hy.1 hy.2 _).mono ?_
                      rintro e w9 ⟨rfl, hb9⟩
                      have hown7 := ownsRow_below hown7 hb9
                      have hbe7 := hbe7.trans (hb9.mono hbe7.size)
                      have HLT : Hid (m = ((l.drop (k + 1)).take m).length) := by show _ = _; rw [List.length_take, HLD.out]; omega
                      have HRT : Hid (Reads w b0 (some ⟨bx, ox + (k + 1), none⟩) (((l.drop (k + 1)).take m).map (Value.int .u64))) := (HX.out.sub (k + 1) m)
                      have HUT : Hid (∀ x ∈ (l.drop (k + 1)).take m, 0 ≤ x ∧ x ≤ 18446744073709551615) := fun x hx => HUD.out x (List.mem_of_mem_take hx)
                      have hi1 : ((k : Int) + 1).toNat = k + 1 := by omega
                      have hi2 : ((k : Int) + 1 + (m : Int)).toNat = k + 1 + m := by omega
                      have hc9 : n ≤ c := hc
                      have HB0 := hide hb0
                      go_wp2_with (at_builtin; refine wpList_append_any _ rfl (.tmp 88) (.tmp 91) _ rfl w.heap.size 5 i0 _ 1 1 Try.underlying25 hi hz0 hz1 hz2 rfl (by decide) _ _ _ rfl (hown7.alloc _) (some ⟨_, 0, none⟩) 1 1 ([(m : Int)].map (Value.int .u8)) rfl rfl (new_one _ _).out (oneCells _ _) (by unfold maxLen; omega) (by omega) (by have := hbe7.size; simp; omega) ?_; intro v8 w8 hown8 hg8 hat8)
                      all_goals
                        have hbe8 := (hbe7.alloc hbe7.size (.cells #[.int .u8 (m : Int)] 5)).grown hg8 (by have := hbe7.size; simp; omega) (fun k hk => (hown7.lt k hk).1)
                        clear hg8 hat8 hown7 hbe7
                        have HM0 : Hid (c = k + 1 → m = 0) := fun e => by omega
                        (try (rw [show Value.slice (some ⟨bx, ox, none⟩) n (k + 1) = Value.slice (some ⟨bx, ox, none⟩) n c from by rw [h]]; have HM0 := hide (HM0.out h); clear h))
                        refine (refFlat_any _ m _ b0 ((l.drop (k + 1)).take m) _ HLT.out (by first | exact HRT.out.below hbe8 hb0 | (rw [List.eq_nil_of_length_eq_zero (l := (l.drop (k + 1)).take m) (by rw [← HLT.out]; exact HM0.out)]; exact Reads.none_)) (Nat.le_trans hb0 hbe8.size) HUT.out (by omega)).mono ?_
                        rintro e w9 ⟨hb9, A9, n9, c9, rfl, hn9, -, -, -, hr9⟩
                        have hown9 := ownsRow_below hown8 hb9
                        have hbe9 := hbe8.trans (hb9.mono hbe8.size)
                        have hfl := flatOf_len ((l.drop (k + 1)).take m)
                        rw [← HLT.out] at hfl
                        have HPK3 : Hid (o ++ (255 :: zb ++ (m : Int) :: (flatOf ((l.drop (k + 1)).take m) ++ packL (l.drop (k + 1 + m)))) = packL l) := by
                          show _ = _
                          have := HPK2.out
                          rw [HP.out, List.drop_drop] at this
                          exact this
                        clear hb9 hown8 hbe8 HRT HLT HPK2
                        generalize flatOf ((l.drop (k + 1)).take m) = F at *
                        have HR9 := hide hr9
                        have hn9' : n9 = 8 * m := by omega
                        have HF9 := hide hfl
                        clear hr9 hn9 hfl
                        subst hn9'
                        go_wp2_with (at_builtin; refine wpList_append_any _ rfl (.tmp 95) (.tmp 102) _ rfl w.heap.size 5 i0 _ 1 1 Try.underlying25 hi hz0 hz1 hz2 rfl (by decide) _ _ _ rfl hown9 A9 (8 * m) c9 (F.map (Value.int .u8)) rfl (by rw [List.length_map, HF9.out, Nat.mul_one]) HR9.out.src (oneCells _ _) (by unfold maxLen; omega) (by omega) hbe9.size ?_; intro va wa howna hga hata)
                        go_roundw
                        case rel =>
                          refine ⟨k + 1 + m, o ++ [255] ++ zb ++ [(m : Int)] ++ F, by go_num, by omega, ?_, ?_, ?_, hbe9.grown hga hbe9.size (fun k hk => (hown9.lt k hk).1)⟩
                          · show _ = _
                            have := HPK3.out
                            simpa using this
                          · simp; have := HF9.out; omega
                          · have e : (o ++ [255] ++ zb ++ [(m : Int)] ++ F).length = o.length + 1 + zb.length + 1 + 8 * m := by simp; have := HF9.out; omega
                            rw [e]
                            simpa using howna
                        case measure => simp [intOf]; omega
                  · have HP := hide (runP_is isF (l.drop (k + 1)) m hm1 (by rw [HLD.out]; omega) hall.out (.inr (.inl (by rw [HLD.out]; omega))))
                    clear hall
                    have HLT : Hid (m = ((l.drop (k + 1)).take m).length) := by show _ = _; rw [List.length_take, HLD.out]; omega
                    have HRT : Hid (Reads w b0 (some ⟨bx, ox + (k + 1), none⟩) (((l.drop (k + 1)).take m).map (Value.int .u64))) := (HX.out.sub (k + 1) m)
                    have HUT : Hid (∀ x ∈ (l.drop (k + 1)).take m, 0 ≤ x ∧ x ≤ 18446744073709551615) := fun x hx => HUD.out x (List.mem_of_mem_take hx)
                    have hi1 : ((k : Int) + 1).toNat = k + 1 := by omega
                    have hi2 : ((k : Int) + 1 + (m : Int)).toNat = k + 1 + m := by omega
                    have hc9 : n ≤ c := hc
                    have HB0 := hide hb0
                    go_wp2_with (at_builtin; refine wpList_append_any _ rfl (.tmp 88) (.tmp 91) _ rfl w.heap.size 5 i0 _ 1 1 Try.underlying25 hi hz0 hz1 hz2 rfl (by decide) _ _ _ rfl (hown7.alloc _) (some ⟨_, 0, none⟩) 1 1 ([(m : Int)].map (Value.int .u8)) rfl rfl (new_one _ _).out (oneCells _ _) (by unfold maxLen; omega) (by omega) (by have := hbe7.size; simp; omega) ?_; intro v8 w8 hown8 hg8 hat8)
                    all_goals
                      have hbe8 := (hbe7.alloc hbe7.size (.cells #[.int .u8 (m : Int)] 5)).grown hg8 (by have := hbe7.size; simp; omega) (fun k hk => (hown7.lt k hk).1)
                      clear hg8 hat8 hown7 hbe7
                      have HM0 : Hid (c = k + 1 → m = 0) := fun e => by omega
                      (try (rw [show Value.slice (some ⟨bx, ox, none⟩) n (k + 1) = Value.slice (some ⟨bx, ox, none⟩) n c from by rw [h]]; have HM0 := hide (HM0.out h); clear h))
                      refine (refFlat_any _ m _ b0 ((l.drop (k + 1)).take m) _ HLT.out (by first | exact HRT.out.below hbe8 hb0 | (rw [List.eq_nil_of_length_eq_zero (l := (l.drop (k + 1)).take m) (by rw [← HLT.out]; exact HM0.out)]; exact Reads.none_)) (Nat.le_trans hb0 hbe8.size) HUT.out (by omega)).mono ?_
                      rintro e w9 ⟨hb9, A9, n9, c9, rfl, hn9, -, -, -, hr9⟩
                      have hown9 := ownsRow_below hown8 hb9
                      have hbe9 := hbe8.trans (hb9.mono hbe8.size)
                      have hfl := flatOf_len ((l.drop (k + 1)).take m)
                      rw [← HLT.out] at hfl
                      have HPK3 : Hid (o ++ (255 :: zb ++ (m : Int) :: (flatOf ((l.drop (k + 1)).take m) ++ packL (l.drop (k + 1 + m)))) = packL l) := by
                        show _ = _
                        have := HPK2.out
                        rw [HP.out, List.drop_drop] at this
                        exact this
                      clear hb9 hown8 hbe8 HRT HLT HPK2
                      generalize flatOf ((l.drop (k + 1)).take m) = F at *
                      have HR9 := hide hr9
                      have hn9' : n9 = 8 * m := by omega
                      have HF9 := hide hfl
                      clear hr9 hn9 hfl
                      subst hn9'
                      go_wp2_with (at_builtin; refine wpList_append_any _ rfl (.tmp 95) (.tmp 102) _ rfl w.heap.size 5 i0 _ 1 1 Try.underlying25 hi hz0 hz1 hz2 rfl (by decide) _ _ _ rfl hown9 A9 (8 * m) c9 (F.map (Value.int .u8)) rfl (by rw [List.length_map, HF9.out, Nat.mul_one]) HR9.out.src (oneCells _ _) (by unfold maxLen; omega) (by omega) hbe9.size ?_; intro va wa howna hga hata)
                      go_roundw
                      case rel =>
                        refine ⟨k + 1 + m, o ++ [255] ++ zb ++ [(m : Int)] ++ F, by go_num, by omega, ?_, ?_, ?_, hbe9.grown hga hbe9.size (fun k hk => (hown9.lt k hk).1)⟩
                        · show _ = _
                          have := HPK3.out
                          simpa using this
                        · simp; have := HF9.out; omega
                        · have e : (o ++ [255] ++ zb ++ [(m : Int)] ++ F).length = o.length + 1 + zb.length + 1 + 8 * m := by simp; have := HF9.out; omega
                          rw [e]
                          simpa using howna
                      case measure => simp [intOf]; omega
                · have HP := hide (runP_is isF (l.drop (k + 1)) m hm1 (by rw [HLD.out]; omega) hall.out (.inl (by omega)))
                  clear hall
                  have HLT : Hid (m = ((l.drop (k + 1)).take m).length) := by show _ = _; rw [List.length_take, HLD.out]; omega
                  have HRT : Hid (Reads w b0 (some ⟨bx, ox + (k + 1), none⟩) (((l.drop (k + 1)).take m).map (Value.int .u64))) := (HX.out.sub (k + 1) m)
                  have HUT : Hid (∀ x ∈ (l.drop (k + 1)).take m, 0 ≤ x ∧ x ≤ 18446744073709551615) := fun x hx => HUD.out x (List.mem_of_mem_take hx)
                  have hi1 : ((k : Int) + 1).toNat = k + 1 := by omega
                  have hi2 : ((k : Int) + 1 + (m : Int)).toNat = k + 1 + m := by omega
                  have hc9 : n ≤ c := hc
                  have HB0 := hide hb0
                  go_wp2_with (at_builtin; refine wpList_append_any _ rfl (.tmp 88) (.tmp 91) _ rfl w.heap.size 5 i0 _ 1 1 Try.underlying25 hi hz0 hz1 hz2 rfl (by decide) _ _ _ rfl (hown7.alloc _) (some ⟨_, 0, none⟩) 1 1 ([(m : Int)].map (Value.int .u8)) rfl rfl (new_one _ _).out (oneCells _ _) (by unfold maxLen; omega) (by omega) (by have := hbe7.size; simp; omega) ?_; intro v8 w8 hown8 hg8 hat8)
                  all_goals
                    have hbe8 := (hbe7.alloc hbe7.size (.cells #[.int .u8 (m : Int)] 5)).grown hg8 (by have := hbe7.size; simp; omega) (fun k hk => (hown7.lt k hk).1)
                    clear hg8 hat8 hown7 hbe7
                    have HM0 : Hid (c = k + 1 → m = 0) := fun e => by omega
                    (try (rw [show Value.slice (some ⟨bx, ox, none⟩) n (k + 1) = Value.slice (some ⟨bx, ox, none⟩) n c from by rw [h]]; have HM0 := hide (HM0.out h); clear h))
                    refine (refFlat_any _ m _ b0 ((l.drop (k + 1)).take m) _ HLT.out (by first | exact HRT.out.below hbe8 hb0 | (rw [List.eq_nil_of_length_eq_zero (l := (l.drop (k + 1)).take m) (by rw [← HLT.out]; exact HM0.out)]; exact Reads.none_)) (Nat.le_trans hb0 hbe8.size) HUT.out (by omega)).mono ?_
                    rintro e w9 ⟨hb9, A9, n9, c9, rfl, hn9, -, -, -, hr9⟩
                    have hown9 := ownsRow_below hown8 hb9
                    have hbe9 := hbe8.trans (hb9.mono hbe8.size)
                    have hfl := flatOf_len ((l.drop (k + 1)).take m)
                    rw [← HLT.out] at hfl
                    have HPK3 : Hid (o ++ (255 :: zb ++ (m : Int) :: (flatOf ((l.drop (k + 1)).take m) ++ packL (l.drop (k + 1 + m)))) = packL l) := by
                      show _ = _
                      have := HPK2.out
                      rw [HP.out, List.drop_drop] at this
                      exact this
                    clear hb9 hown8 hbe8 HRT HLT HPK2
                    generalize flatOf ((l.drop (k + 1)).take m) = F at *
                    have HR9 := hide hr9
                    have hn9' : n9 = 8 * m := by omega
                    have HF9 := hide hfl
                    clear hr9 hn9 hfl
                    subst hn9'
                    go_wp2_with (at_builtin; refine wpList_append_any _ rfl (.tmp 95) (.tmp 102) _ rfl w.heap.size 5 i0 _ 1 1 Try.underlying25 hi hz0 hz1 hz2 rfl (by decide) _ _ _ rfl hown9 A9 (8 * m) c9 (F.map (Value.int .u8)) rfl (by rw [List.length_map, HF9.out, Nat.mul_one]) HR9.out.src (oneCells _ _) (by unfold maxLen; omega) (by omega) hbe9.size ?_; intro va wa howna hga hata)
                    go_roundw
                    case rel =>
                      refine ⟨k + 1 + m, o ++ [255] ++ zb ++ [(m : Int)] ++ F, by go_num, by omega, ?_, ?_, ?_, hbe9.grown hga hbe9.size (fun k hk => (hown9.lt k hk).1)⟩
                      · show _ = _
                        have := HPK3.out
                        simpa using this
                      · simp; have := HF9.out; omega
                      · have e : (o ++ [255] ++ zb ++ [(m : Int)] ++ F).length = o.length + 1 + zb.length + 1 + 8 * m := by simp; have := HF9.out; omega
                        rw [e]
                        simpa using howna
                    case measure => simp [intOf]; omega
            · rw [if_neg hT1] at hpk2
              have hd1 : (T != 0) = true := by simpa using hT0
              have hd2 : (T != 255) = true := by simpa using hT1
              have HPK2 := hide hpk2
              have HLM : Hid (∀ q : List Int, (o ++ [T] ++ zb ++ q) = o ++ (T :: zb ++ q)) := fun q => by simp
              clear hpk2 hpk HPU hT0 hT1
              go_wp2_with fail
              go_roundw
              case rel =>
                refine ⟨k + 1, o ++ [T] ++ zb, by go_num, by omega, ?_, ?_, ?_, hbe5⟩
                · show _ = _
                  rw [HLM.out]
                  exact HPK2.out
                · simp; omega
                · rw [List.length_append, List.length_append]
                  exact hown5
              case measure => simp [intOf]; omega
    · have h0 : k = n := by omega
      subst h0
      have HE : Hid (o = packL l) := by
        show _ = _
        have := hpk.out
        rw [List.drop_of_length_le (by rw [← HN.out]; omega), packL_nil, List.append_nil] at this
        exact this
      clear hpk
      go_wp2_with fail
      go_ret
      obtain ⟨A', c', hv, hle, hA'⟩ := ownsRow_slice hown
      rw [HE.out] at hown hle hv
      exact ⟨hbe, A', _, c', by rw [← hv]; rfl, rfl, hle, ownsRow_cap (by rw [← hv]; exact hown), hA', Reads.of_own hown hv⟩
end Go.Proofs.Ytfmdnglcmbgpcaa
