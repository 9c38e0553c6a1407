/-
  The reference's Unpack.
-/
import Derived.Test.YtfmdnglcmbgpcaaPkK
import Derived.Deep.DeepCutAuto
namespace Go.Proofs.Ytfmdnglcmbgpcaa
open Go.RowKit Go.Proofs.Ytfmdnglcmbgpcaa.Pk

theorem gotB_zero (t : Int) (bs : List Int) : ∀ i, gotB t bs 0 i = 0 := fun i => by unfold gotB; simp
theorem Reads.cellD {w : World} {B b o : Nat} {ys : List Int} (h : Reads w B (some ⟨b, o, none⟩) (ys.map (Value.int .u8))) (p j : Nat) (hj : j < (ys.drop p).length) : w.cell? ⟨b, o + (p + j), none⟩ = some (.int .u8 ((ys.drop p).getD j 0)) := by
  rw [List.length_drop] at hj
  have := h.intLit (k := p + j) (by omega)
  rw [List.getD_eq_getElem?_getD] at this
  rw [List.getD_eq_getElem?_getD, List.getElem?_drop]
  exact this
theorem nm_step (t : Int) (bs : List Int) (k : Nat) (hnm : nm t k = true) : gotB t bs (k + 1) k = bs.getD (nb t k) 0 ∧ ∀ i, i ≠ k → gotB t bs (k + 1) i = gotB t bs k i := by
  refine ⟨?_, fun i hi => ?_⟩
  · unfold gotB
    rw [if_pos ⟨by omega, hnm⟩]
  · unfold gotB
    by_cases h1 : i < k
    · simp [h1, show i < k + 1 from by omega]
    · simp [h1, show ¬ i < k + 1 from by omega]
theorem nm_skip (t : Int) (bs : List Int) (k : Nat) (hnm : nm t k = false) : ∀ i, gotB t bs (k + 1) i = gotB t bs k i := fun i => by
  unfold gotB
  by_cases e : i = k
  · subst e; simp [hnm]
  · by_cases h1 : i < k
    · simp [h1, show i < k + 1 from by omega]
    · simp [h1, show ¬ i < k + 1 from by omega]

set_option maxRecDepth 100000 in
set_option maxHeartbeats 8000000 in
theorem refUnpack_any (A : Option Addr) (n c b0 : Nat) (b : List Int) (most : Int) (w : World) (hn : n = b.length) (hr : Reads w b0 A (b.map (Value.int .u8))) (hb0 : b0 ≤ w.heap.size) (hnc : n ≤ c) (hc : c ≤ maxLen) (hb : u8s b) (hs : n ≤ 1000000) (hm : most ≤ 9223372036854775807) :
    Calls Try.prog 13 #[.slice A n c, .int .i64 most] w (UnpPost (unp b.length b most.toNat []) w) := by
  obtain ⟨i0, hi, hz0, hz1, hz2⟩ := info_parts infoWord
  have HB := hide hb
  have HX := hide hr
  have HN := hide hn
  unfold maxLen at hc
  have HMM : Hid (most.toNat ≤ 9223372036854775807) := by show _ ≤ _; omega
  have HMN : Hid (most < 0 → most.toNat = 0) := fun _ => by omega
  have HMP : Hid (¬ most < 0 → most = (most.toNat : Int)) := fun _ => by omega
  clear hn hr hb hm
  go_enter Try.func13, Try.ntmps13
  go_upto_if 14 with (fail)
  go_cut [1] (fun s1 wx => s1 = .int .i64 (most.toNat : Int) ∧ w = wx)
  case first =>
    by_cases hneg : most < 0
    · go_wp2_with fail
      go_meet
      exact ⟨by rw [HMN.out hneg]; rfl, rfl⟩
    · go_wp2_with fail
      go_meet
      exact ⟨congrArg _ (HMP.out hneg), rfl⟩
  case rest =>
    obtain ⟨rfl, rfl⟩ := hcut
    have hM := HMM.out
    generalize most.toNat = M at *
    clear HMM HMN HMP
    go_wp2_with fail
    go_loopw [6, 7] (fun v a wr => ∃ (p : Nat) (o : List Int), a = .int .i64 (p : Int) ∧ p ≤ n ∧ Hid (unp (b.drop p).length (b.drop p) M o = unp b.length b M []) ∧ o.length ≤ 256 * p ∧ wr.ownsRow w.heap.size 38 1 v o.length (o.map (Value.int .u64)) ∧ Below w.heap.size w wr) (fun _ a _ => n - (intOf a).toNat)
    case atStart => exact ⟨0, [], rfl, by omega, rfl, by simp, World.ownsRow_nil _ _ _ _, Below.refl _ _⟩
    case round =>
      obtain ⟨p, o, rfl, hp, hun, hol, hown, hbe⟩ := hrel
      by_cases hlt : p < n
      · have hl1 : p < b.length := by rw [← HN.out]; exact hlt
        have ht := HB.out _ (List.getElem_mem hl1)
        have HD := hide (List.drop_eq_getElem_cons hl1)
        obtain ⟨bx, ox, rfl, hbx, d0⟩ := (HX.out.below hbe hb0).intAt hl1
        generalize b[p] = t at *
        have HRL : Hid ((b.drop (p + 1)).length = n - (p + 1)) := by show _ = _; rw [List.length_drop, ← HN.out]
        have HRU : Hid (u8s (b.drop (p + 1))) := HB.out.drop _
        have HDD : Hid (∀ j, (b.drop (p + 1)).drop j = b.drop (p + 1 + j)) := fun j => by rw [List.drop_drop]
        have HCE : Hid (∀ (W : World) (j : Nat), Below w.heap.size w W → j < (b.drop (p + 1)).length → W.cell? ⟨bx, ox + (p + 1 + j), none⟩ = some (.int .u8 ((b.drop (p + 1)).getD j 0))) := fun W j hW hj => (HX.out.below hW hb0).cellD (p + 1) j hj
        have hu0 := hun.out
        rw [HD.out, List.length_cons, unp_step] at hu0
        have HU := hide hu0
        have hbs := hbe.size
        have hbxw : bx < w.heap.size := by omega
        clear hu0 hun HD
        generalize b.drop (p + 1) = r at *
        have hrl := HRL.out
        have hown2 := hown.alloc (.cells (arrI (fun _ => 0)) 39)
        have hbe2 := hbe.alloc hbe.size (.cells (arrI (fun _ => 0)) 39)
        have hB2 := Blk.new wr 39 (arrI (fun _ => 0))
        have hne2 : u6.ownBlock ≠ some wr.heap.size := fun e => by have := (hown.lt _ e).2; omega
        have HZ : Hid (∀ i, gotB t r 0 i = 0) := gotB_zero t r
        clear hown hbe
        go_wp2_with fail
        generalize wr.heap.size = g9 at *
        go_loopw [7, 10] (fun a i wr' => ∃ k : Nat, k ≤ 8 ∧ i = .int .i64 (k : Int) ∧ a = .int .i64 ((p : Int) + 1 + (nb t k : Nat)) ∧ nb t k ≤ r.length ∧ Blk wr' g9 39 (arrI (gotB t r k)) ∧ wr'.ownsRow w.heap.size 38 1 u6 o.length (o.map (Value.int .u64)) ∧ Below w.heap.size w wr') (fun _ i _ => 8 - (intOf i).toNat)
        case atStart => exact ⟨0, by omega, rfl, by simp [nb], by simp [nb], by rw [arrI_congr (fun _ => 0) (gotB t r 0) HZ.out]; exact hB2, hown2, hbe2⟩
        case round =>
          obtain ⟨k, hk, rfl, rfl, hnk, hblk, hown3, hbe3⟩ := hrel
          clear hown2 hbe2 hB2
          have hmo := nb_mono t k 8 hk
          by_cases hk8 : k < 8
          · have hmo1 := nb_mono t (k + 1) 8 (by omega)
            have k100 : (k : Int) ≤ 100 := by omega
            go_wp2_with fail
            refine (named_any t k ht.1 ht.2 (by omega) k100 _).mono ?_
            rintro e w4 ⟨rfl, rfl⟩
            rw [Int.toNat_natCast]
            cases hnm : nm t k
            · have hnb : nb t (k + 1) = nb t k := by rw [nb, hnm]; simp
              have HGS := hide (nm_skip t r k hnm)
              clear hnm
              go_wp2_with fail
              go_roundw
              case rel => exact ⟨k + 1, by omega, by go_num, by rw [hnb], by omega, by rw [arrI_congr (gotB t r k) (gotB t r (k + 1)) HGS.out]; exact hblk, hown3, hbe3⟩
              case measure => simp [intOf]; omega
            · have hnb : nb t (k + 1) = nb t k + 1 := by rw [nb, hnm]; simp
              have HGS := hide (nm_step t r k hnm)
              clear hnm
              by_cases hl : nb t k < r.length
              · have hcell := HCE.out _ (nb t k) hbe3 hl
                have hidx : ((p : Int) + 1 + ((nb t k : Nat) : Int)).toNat = p + 1 + nb t k := by omega
                have hk2 := (hblk.cell k).trans (arrI_get (gotB t r k) k hk8)
                have hf2 := hblk.frozen k
                have hlow := hblk.lt
                have HBS := hide (hblk.set_ k (.int .u8 (r.getD (nb t k) 0)))
                have hg1 : ¬ ((n : Int) ≤ (p : Int) + 1 + ((nb t k : Nat) : Int)) := by omega
                generalize r.getD (nb t k) 0 = y at *
                have hbs' := HBS.out
                rw [← HGS.out.1, arrI_set _ _ k hk8 HGS.out.2] at hbs'
                have HBS2 : Hid (Blk (wr.setCell ⟨g9, k, none⟩ (.int .u8 y)) g9 39 (arrI (gotB t r (k + 1)))) := by
                  show Blk _ _ _ _
                  rw [← HGS.out.1]
                  exact hbs'
                clear hbs' HBS HGS
                go_wp2_with fail
                go_roundw
                case rel => exact ⟨k + 1, by omega, by go_num, by rw [hnb]; exact congrArg (Value.int .i64) (by omega), by omega, HBS2.out, ownsRow_far hown3 hne2 _, hbe3.setCell (by show w.heap.size ≤ g9; omega) _⟩
                case measure => simp [intOf]; omega
              · have hg1 : (n : Int) ≤ (p : Int) + 1 + ((nb t k : Nat) : Int) := by omega
                have hu := HU.out
                rw [if_pos (by omega)] at hu
                have HUE := hide hu
                clear hu HU HGS
                go_wp2_with fail
                go_ret2
                rw [← HUE.out]
                exact ⟨hbe3, none, 0, 0, rfl, rfl, by omega, Reads.none_⟩
          · have e8 : k = 8 := by omega
            rw [e8] at hnk hblk
            have k8 : ¬ ((k : Int) < 8) := by omega
            have enb : nb t k = nb t 8 := by rw [e8]
            have hu := HU.out
            rw [if_neg (by omega)] at hu
            by_cases hml : M ≤ o.length
            · rw [if_pos hml] at hu
              have hml2 : (M : Int) ≤ (o.length : Int) := by omega
              obtain ⟨Av, cv, rfl, hle, hA⟩ := ownsRow_slice hown3
              have HUE := hide hu
              clear hu HU e8 enb
              go_wp2_with fail
              go_ret2
              rw [← HUE.out]
              exact ⟨hbe3, none, 0, 0, rfl, rfl, by omega, Reads.none_⟩
            · rw [if_neg hml] at hu
              have hml2 : ¬ (M : Int) ≤ (o.length : Int) := by omega
              obtain ⟨Av, cv, rfl, hle, hA⟩ := ownsRow_slice hown3
              have HUM := hide hu
              have HC8 : Hid (∀ i, i < 8 → wr.cell? ⟨g9, 0 + ((0 : Int).toNat + i), none⟩ = some (.int .u8 (gotB t r 8 i))) := fun i hi => by
                have := (hblk.cell i).trans (arrI_get (gotB t r 8) i hi)
                simpa using this
              have HG8 : Hid (∀ i, 0 ≤ gotB t r 8 i ∧ gotB t r 8 i ≤ 255) := fun i => gotB_bd HRU.out 8 i
              have HW8 := hide (gotB_word t r)
              clear hu HU
              go_wp2_with fail
              refine (refOf_any g9 0 8 8 0 (gotB t r 8) HG8.out _ (by decide) (by decide) (by unfold maxLen; omega) HC8.out).mono ?_
              rintro e w4 ⟨rfl, rfl⟩
              rw [HW8.out]
              clear HW8 HC8 HG8 hblk
              generalize nb t 8 = N8 at *
              generalize wordU t r = W8 at *
              have ho1 : (o ++ [W8]).length = o.length + 1 := by simp
              by_cases hT0 : t = 0
              · subst hT0
                by_cases hq : N8 < r.length
                · have HCY : Hid (∀ W, Below w.heap.size w W → W.cell? ⟨bx, ox + (p + 1 + N8), none⟩ = some (.int .u8 (r.getD N8 0))) := fun W hW => HCE.out W N8 hW hq
                  have hcy := HRU.out.getD N8
                  have HDC : Hid (r.drop N8 = r.getD N8 0 :: r.drop (N8 + 1)) := by
                    show _ = _
                    rw [List.drop_eq_getElem_cons hq, List.getD_eq_getElem?_getD, List.getElem?_eq_getElem hq, Option.getD_some]
                  have hg1 : ¬ (n : Int) ≤ (p : Int) + 1 + (N8 : Int) := by omega
                  have hidx : ((p : Int) + 1 + (N8 : Int)).toNat = p + 1 + N8 := by omega
                  generalize r.getD N8 0 = y at *
                  obtain ⟨m, rfl⟩ := Int.eq_ofNat_of_zero_le hcy.1
                  have HQL : Hid ((r.drop (N8 + 1)).length = r.length - (N8 + 1)) := List.length_drop ..
                  have HQG : Hid (∀ x, (r.drop (N8 + 1)).getD x 0 = r.getD (N8 + 1 + x) 0) := fun x => by rw [List.getD_eq_getElem?_getD, List.getD_eq_getElem?_getD, List.getElem?_drop]
                  have HDQ : Hid (∀ x, (r.drop (N8 + 1)).drop x = b.drop (p + 1 + (N8 + 1 + x))) := fun x => by rw [List.drop_drop]; exact HDD.out _
                  have HQU : Hid (u8s (r.drop (N8 + 1))) := HRU.out.drop _
                  have hum := HUM.out
                  rw [HDC.out] at hum
                  have hql := HQL.out
                  clear HUM HDC
                  generalize r.drop (N8 + 1) = q at *
                  by_cases hml3 : M < (o ++ [W8]).length + m
                  · have hg4 : (M : Int) < (o.length : Int) + 1 + (m : Int) := by omega
                    have HUE : Hid (([], 3) = unp b.length b M []) := by
                      show _ = _
                      rw [← hum]
                      unfold moreR
                      rw [if_neg (by decide)]
                      simp only [Int.toNat_natCast]
                      rw [if_neg (fun h => absurd h.1 (by decide)), if_pos hml3]
                    clear hum
                    go_wp2_with (at_builtin; refine wpList_append_any _ rfl (.tmp 50) (.tmp 53) _ rfl w.heap.size 38 i0 _ 1 8 Try.underlying22 hi hz0 hz1 hz2 rfl (by decide) _ _ _ rfl (hown3.alloc _) (some ⟨_, 0, none⟩) 1 1 ([W8].map (Value.int .u64)) rfl rfl (new_one64 _ _).src (oneCells _ _) (by unfold maxLen; omega) (by omega) (by have := hbe3.size; simp; omega) ?_; intro v6 w6 hown6 hg6 hat6; have hbe6 := (hbe3.alloc hbe3.size _).grown hg6 (by have := hbe3.size; simp; omega) (fun k hk => (hown3.lt k hk).1); (try (have hcell := HCY.out _ hbe6)); obtain ⟨A6, c6, rfl, hle6, hA6⟩ := ownsRow_slice hown6)
                    go_ret2
                    rw [← HUE.out]
                    exact ⟨hbe6, none, 0, 0, rfl, rfl, by omega, Reads.none_⟩
                  · have hg4 : ¬ (M : Int) < (o.length : Int) + 1 + (m : Int) := by omega
                    have HUM : Hid (unp q.length q M (o ++ [W8] ++ List.replicate m 0) = unp b.length b M []) := by
                      show _ = _
                      rw [← hum]
                      unfold moreR
                      rw [if_neg (by decide)]
                      simp only [Int.toNat_natCast]
                      rw [if_neg (fun h => absurd h.1 (by decide)), if_neg hml3, if_pos trivial]
                    clear hum
                    go_wp2_with (at_builtin; refine wpList_append_any _ rfl (.tmp 50) (.tmp 53) _ rfl w.heap.size 38 i0 _ 1 8 Try.underlying22 hi hz0 hz1 hz2 rfl (by decide) _ _ _ rfl (hown3.alloc _) (some ⟨_, 0, none⟩) 1 1 ([W8].map (Value.int .u64)) rfl rfl (new_one64 _ _).src (oneCells _ _) (by unfold maxLen; omega) (by omega) (by have := hbe3.size; simp; omega) ?_; intro v6 w6 hown6 hg6 hat6; have hbe6 := (hbe3.alloc hbe3.size _).grown hg6 (by have := hbe3.size; simp; omega) (fun k hk => (hown3.lt k hk).1); (try (have hcell := HCY.out _ hbe6)); obtain ⟨A6, c6, rfl, hle6, hA6⟩ := ownsRow_slice hown6)
                    have hown6' : w6.ownsRow w.heap.size 38 1 (Value.slice A6 (o.length + 1) c6) (o.length + 1) ((o ++ [W8]).map (Value.int .u64)) := by (rw [List.map_append]; exact hown6)
                    have hown6 := hown6'
                    clear hown6'
                    go_loopw [6, 7, 12] (fun v a i wr' => ∃ j : Nat, j ≤ m ∧ i = .int .i64 (j : Int) ∧ a = .int .i64 ((p : Int) + 1 + (N8 : Int) + 1) ∧ wr'.ownsRow w.heap.size 38 1 v (o.length + 1 + j) ((o ++ [W8] ++ List.replicate j 0).map (Value.int .u64)) ∧ Below w.heap.size w wr') (fun _ _ i _ => m - (intOf i).toNat)
                    case atStart => exact ⟨0, by omega, rfl, rfl, by simpa using hown6, hbe6⟩
                    case round =>
                      obtain ⟨j, hj, rfl, rfl, hown7, hbe7⟩ := hrel
                      clear hown6 hbe6
                      by_cases hjm : j < m
                      · go_wp2_with (at_builtin; refine wpList_append_any _ rfl (.tmp 96) (.tmp 97) _ rfl w.heap.size 38 i0 _ 1 8 Try.underlying22 hi hz0 hz1 hz2 rfl (by decide) _ _ _ rfl (hown7.alloc _) (some ⟨_, 0, none⟩) 1 1 ([(0 : Int)].map (Value.int .u64)) rfl rfl (new_one64 _ _).src (oneCells _ _) (by unfold maxLen; omega) (by omega) (by have := hbe7.size; simp; omega) ?_; intro v8 w8 hown8 hg8 hat8)
                        go_roundw
                        case rel =>
                          refine ⟨j + 1, by omega, by go_num, rfl, ?_, (hbe7.alloc hbe7.size _).grown hg8 (by have := hbe7.size; simp; omega) (fun k hk => (hown7.lt k hk).1)⟩
                          rw [List.replicate_succ', ← List.append_assoc, List.map_append]
                          exact hown8
                        case measure => simp [intOf]; omega
                      · have ej : j = m := by omega
                        rw [ej] at hown7
                        have hjm2 : ¬ ((j : Int) < (m : Int)) := by omega
                        clear ej
                        go_wp2_with fail
                        go_roundw
                        case rel =>
                          refine ⟨p + 1 + (N8 + 1), (o ++ [W8]) ++ List.replicate m 0, congrArg (Value.int .i64) (by omega), by omega, ?_, by simp; omega, ?_, hbe7⟩
                          · show _ = _
                            have e := HDQ.out 0
                            rw [Nat.add_zero, List.drop_zero] at e
                            rw [← e]
                            exact HUM.out
                          · have e : (o ++ [W8] ++ List.replicate m (0 : Int)).length = o.length + 1 + m := by simp; omega
                            rw [e]
                            exact hown7
                        case measure => simp [intOf]; omega
                · have hg1 : (n : Int) ≤ (p : Int) + 1 + (N8 : Int) := by omega
                  have HUE : Hid (([], 4) = unp b.length b M []) := by
                    show _ = _
                    rw [← HUM.out, List.drop_of_length_le (by omega)]
                    unfold moreR
                    rw [if_neg (by decide)]
                  clear HUM
                  go_wp2_with (at_builtin; refine wpList_append_any _ rfl (.tmp 50) (.tmp 53) _ rfl w.heap.size 38 i0 _ 1 8 Try.underlying22 hi hz0 hz1 hz2 rfl (by decide) _ _ _ rfl (hown3.alloc _) (some ⟨_, 0, none⟩) 1 1 ([W8].map (Value.int .u64)) rfl rfl (new_one64 _ _).src (oneCells _ _) (by unfold maxLen; omega) (by omega) (by have := hbe3.size; simp; omega) ?_; intro v6 w6 hown6 hg6 hat6; have hbe6 := (hbe3.alloc hbe3.size _).grown hg6 (by have := hbe3.size; simp; omega) (fun k hk => (hown3.lt k hk).1); (try (have hcell := HCY.out _ hbe6)); obtain ⟨A6, c6, rfl, hle6, hA6⟩ := ownsRow_slice hown6)
                  go_ret2
                  rw [← HUE.out]
                  exact ⟨hbe6, none, 0, 0, rfl, rfl, by omega, Reads.none_⟩
              · by_cases hT1 : t = 255
                · subst hT1
                  by_cases hq : N8 < r.length
                  · have HCY : Hid (∀ W, Below w.heap.size w W → W.cell? ⟨bx, ox + (p + 1 + N8), none⟩ = some (.int .u8 (r.getD N8 0))) := fun W hW => HCE.out W N8 hW hq
                    have hcy := HRU.out.getD N8
                    have HDC : Hid (r.drop N8 = r.getD N8 0 :: r.drop (N8 + 1)) := by
                      show _ = _
                      rw [List.drop_eq_getElem_cons hq, List.getD_eq_getElem?_getD, List.getElem?_eq_getElem hq, Option.getD_some]
                    have hg1 : ¬ (n : Int) ≤ (p : Int) + 1 + (N8 : Int) := by omega
                    have hidx : ((p : Int) + 1 + (N8 : Int)).toNat = p + 1 + N8 := by omega
                    generalize r.getD N8 0 = y at *
                    obtain ⟨m, rfl⟩ := Int.eq_ofNat_of_zero_le hcy.1
                    have HQL : Hid ((r.drop (N8 + 1)).length = r.length - (N8 + 1)) := List.length_drop ..
                    have HQG : Hid (∀ x, (r.drop (N8 + 1)).getD x 0 = r.getD (N8 + 1 + x) 0) := fun x => by rw [List.getD_eq_getElem?_getD, List.getD_eq_getElem?_getD, List.getElem?_drop]
                    have HDQ : Hid (∀ x, (r.drop (N8 + 1)).drop x = b.drop (p + 1 + (N8 + 1 + x))) := fun x => by rw [List.drop_drop]; exact HDD.out _
                    have HQU : Hid (u8s (r.drop (N8 + 1))) := HRU.out.drop _
                    have hum := HUM.out
                    rw [HDC.out] at hum
                    have hql := HQL.out
                    clear HUM HDC
                    generalize r.drop (N8 + 1) = q at *
                    by_cases h8 : q.length < 8 * m
                    · have hg3 : (n : Int) < (p : Int) + 1 + (N8 : Int) + 1 + 8 * (m : Int) := by omega
                      have HUE : Hid (([], 4) = unp b.length b M []) := by
                        show _ = _
                        rw [← hum]
                        unfold moreR
                        rw [if_neg (by decide)]
                        simp [h8]
                      clear hum
                      go_wp2_with (at_builtin; refine wpList_append_any _ rfl (.tmp 50) (.tmp 53) _ rfl w.heap.size 38 i0 _ 1 8 Try.underlying22 hi hz0 hz1 hz2 rfl (by decide) _ _ _ rfl (hown3.alloc _) (some ⟨_, 0, none⟩) 1 1 ([W8].map (Value.int .u64)) rfl rfl (new_one64 _ _).src (oneCells _ _) (by unfold maxLen; omega) (by omega) (by have := hbe3.size; simp; omega) ?_; intro v6 w6 hown6 hg6 hat6; have hbe6 := (hbe3.alloc hbe3.size _).grown hg6 (by have := hbe3.size; simp; omega) (fun k hk => (hown3.lt k hk).1); (try (have hcell := HCY.out _ hbe6)); obtain ⟨A6, c6, rfl, hle6, hA6⟩ := ownsRow_slice hown6)
                      go_ret2
                      rw [← HUE.out]
                      exact ⟨hbe6, none, 0, 0, rfl, rfl, by omega, Reads.none_⟩
                    have hg3 : ¬ (n : Int) < (p : Int) + 1 + (N8 : Int) + 1 + 8 * (m : Int) := by omega
                    by_cases hml3 : M < (o ++ [W8]).length + m
                    · have hg4 : (M : Int) < (o.length : Int) + 1 + (m : Int) := by omega
                      have HUE : Hid (([], 3) = unp b.length b M []) := by
                        show _ = _
                        rw [← hum]
                        unfold moreR
                        rw [if_neg (by decide)]
                        simp only [Int.toNat_natCast]
                        rw [if_neg (fun h => h8 h.2), if_pos hml3]
                      clear hum
                      go_wp2_with (at_builtin; refine wpList_append_any _ rfl (.tmp 50) (.tmp 53) _ rfl w.heap.size 38 i0 _ 1 8 Try.underlying22 hi hz0 hz1 hz2 rfl (by decide) _ _ _ rfl (hown3.alloc _) (some ⟨_, 0, none⟩) 1 1 ([W8].map (Value.int .u64)) rfl rfl (new_one64 _ _).src (oneCells _ _) (by unfold maxLen; omega) (by omega) (by have := hbe3.size; simp; omega) ?_; intro v6 w6 hown6 hg6 hat6; have hbe6 := (hbe3.alloc hbe3.size _).grown hg6 (by have := hbe3.size; simp; omega) (fun k hk => (hown3.lt k hk).1); (try (have hcell := HCY.out _ hbe6)); obtain ⟨A6, c6, rfl, hle6, hA6⟩ := ownsRow_slice hown6)
                      go_ret2
                      rw [← HUE.out]
                      exact ⟨hbe6, none, 0, 0, rfl, rfl, by omega, Reads.none_⟩
                    · have hg4 : ¬ (M : Int) < (o.length : Int) + 1 + (m : Int) := by omega
                      have HUM : Hid (unp (q.drop (8 * m)).length (q.drop (8 * m)) M (o ++ [W8] ++ wordsOf q m) = unp b.length b M []) := by
                        show _ = _
                        rw [← hum]
                        unfold moreR
                        rw [if_neg (by decide)]
                        simp only [Int.toNat_natCast]
                        rw [if_neg (fun h => h8 h.2), if_neg hml3, if_neg (by decide)]
                      clear hum
                      go_wp2_with (at_builtin; refine wpList_append_any _ rfl (.tmp 50) (.tmp 53) _ rfl w.heap.size 38 i0 _ 1 8 Try.underlying22 hi hz0 hz1 hz2 rfl (by decide) _ _ _ rfl (hown3.alloc _) (some ⟨_, 0, none⟩) 1 1 ([W8].map (Value.int .u64)) rfl rfl (new_one64 _ _).src (oneCells _ _) (by unfold maxLen; omega) (by omega) (by have := hbe3.size; simp; omega) ?_; intro v6 w6 hown6 hg6 hat6; have hbe6 := (hbe3.alloc hbe3.size _).grown hg6 (by have := hbe3.size; simp; omega) (fun k hk => (hown3.lt k hk).1); (try (have hcell := HCY.out _ hbe6)); obtain ⟨A6, c6, rfl, hle6, hA6⟩ := ownsRow_slice hown6)
                      have hown6' : w6.ownsRow w.heap.size 38 1 (Value.slice A6 (o.length + 1) c6) (o.length + 1) ((o ++ [W8]).map (Value.int .u64)) := by (rw [List.map_append]; exact hown6)
                      have hown6 := hown6'
                      clear hown6'
                      go_loopw [6, 7, 12] (fun v a i wr' => ∃ j : Nat, j ≤ m ∧ i = .int .i64 (j : Int) ∧ a = .int .i64 ((p : Int) + 1 + (N8 : Int) + 1 + 8 * (j : Int)) ∧ wr'.ownsRow w.heap.size 38 1 v (o.length + 1 + j) ((o ++ [W8] ++ wordsOf q j).map (Value.int .u64)) ∧ Below w.heap.size w wr') (fun _ _ i _ => m - (intOf i).toNat)
                      case atStart => exact ⟨0, by omega, rfl, by simp, by simpa [wordsOf] using hown6, hbe6⟩
                      case round =>
                        obtain ⟨j, hj, rfl, rfl, hown7, hbe7⟩ := hrel
                        clear hown6 hbe6
                        by_cases hjm : j < m
                        · have HO : Hid (∀ i, i < 8 → wr.cell? ⟨bx, ox + (((p : Int) + 1 + (N8 : Int) + 1 + 8 * (j : Int)).toNat + i), none⟩ = some (.int .u8 (q.getD (8 * j + i) 0))) := fun i hi => by
                            rw [HQG.out, show ((p : Int) + 1 + (N8 : Int) + 1 + 8 * (j : Int)).toNat + i = p + 1 + (N8 + 1 + (8 * j + i)) from by omega]
                            exact HCE.out _ _ hbe7 (by omega)
                          have HG9 : Hid (∀ i, 0 ≤ q.getD (8 * j + i) 0 ∧ q.getD (8 * j + i) 0 ≤ 255) := fun i => HQU.out.getD _
                          have HWS := hide (wordsOf_snoc q j)
                          have hfr : (0 : Int) ≤ (p : Int) + 1 + (N8 : Int) + 1 + 8 * (j : Int) := by omega
                          have hfn : (p : Int) + 1 + (N8 : Int) + 1 + 8 * (j : Int) + 8 ≤ (n : Int) := by omega
                          go_wp2_with fail
                          refine (refOf_any bx ox n c _ (fun i => q.getD (8 * j + i) 0) HG9.out _ hfr hfn (by unfold maxLen; omega) HO.out).mono ?_
                          rintro e w7 ⟨rfl, rfl⟩
                          have eW : join8 (fun i => q.getD (8 * j + i) 0) = wordAt q j := rfl
                          rw [eW]
                          generalize wordAt q j = x at *
                          clear eW HO HG9
                          go_wp2_with (at_builtin; refine wpList_append_any _ rfl (.tmp 99) (.tmp 103) _ rfl w.heap.size 38 i0 _ 1 8 Try.underlying22 hi hz0 hz1 hz2 rfl (by decide) _ _ _ rfl (hown7.alloc _) (some ⟨_, 0, none⟩) 1 1 ([x].map (Value.int .u64)) rfl rfl (new_one64 _ _).src (oneCells _ _) (by unfold maxLen; omega) (by omega) (by have := hbe7.size; simp; omega) ?_; intro v8 w8 hown8 hg8 hat8)
                          go_roundw
                          case rel =>
                            refine ⟨j + 1, by omega, by go_num, congrArg (Value.int .i64) (by omega), ?_, (hbe7.alloc hbe7.size _).grown hg8 (by have := hbe7.size; simp; omega) (fun k hk => (hown7.lt k hk).1)⟩
                            rw [HWS.out, ← List.append_assoc, List.map_append]
                            exact hown8
                          case measure => simp [intOf]; omega
                        · have ej : j = m := by omega
                          rw [ej] at hown7
                          have hjm2 : ¬ ((j : Int) < (m : Int)) := by omega
                          have hwl := wordsOf_len q m
                          go_wp2_with fail
                          go_roundw
                          case rel =>
                            refine ⟨p + 1 + (N8 + 1 + 8 * m), (o ++ [W8]) ++ wordsOf q m, congrArg (Value.int .i64) (by omega), by omega, ?_, by rw [List.length_append, hwl]; omega, ?_, hbe7⟩
                            · show _ = _
                              rw [← HDQ.out (8 * m)]
                              exact HUM.out
                            · rw [List.length_append, hwl, ho1]
                              exact hown7
                          case measure => simp [intOf]; omega
                  · have hg1 : (n : Int) ≤ (p : Int) + 1 + (N8 : Int) := by omega
                    have HUE : Hid (([], 4) = unp b.length b M []) := by
                      show _ = _
                      rw [← HUM.out, List.drop_of_length_le (by omega)]
                      unfold moreR
                      rw [if_neg (by decide)]
                    clear HUM
                    go_wp2_with (at_builtin; refine wpList_append_any _ rfl (.tmp 50) (.tmp 53) _ rfl w.heap.size 38 i0 _ 1 8 Try.underlying22 hi hz0 hz1 hz2 rfl (by decide) _ _ _ rfl (hown3.alloc _) (some ⟨_, 0, none⟩) 1 1 ([W8].map (Value.int .u64)) rfl rfl (new_one64 _ _).src (oneCells _ _) (by unfold maxLen; omega) (by omega) (by have := hbe3.size; simp; omega) ?_; intro v6 w6 hown6 hg6 hat6; have hbe6 := (hbe3.alloc hbe3.size _).grown hg6 (by have := hbe3.size; simp; omega) (fun k hk => (hown3.lt k hk).1); (try (have hcell := HCY.out _ hbe6)); obtain ⟨A6, c6, rfl, hle6, hA6⟩ := ownsRow_slice hown6)
                    go_ret2
                    rw [← HUE.out]
                    exact ⟨hbe6, none, 0, 0, rfl, rfl, by omega, Reads.none_⟩
                · have hd1 : (t != 0) = true := by simpa using hT0
                  have hd2 : (t != 255) = true := by simpa using hT1
                  have HUM2 : Hid (unp (b.drop (p + 1 + N8)).length (b.drop (p + 1 + N8)) M (o ++ [W8]) = unp b.length b M []) := by
                    show _ = _
                    rw [← HUM.out, HDD.out]
                    unfold moreR
                    rw [if_pos ⟨hT0, hT1⟩]
                  clear HUM hT0 hT1
                  go_wp2_with (at_builtin; refine wpList_append_any _ rfl (.tmp 50) (.tmp 53) _ rfl w.heap.size 38 i0 _ 1 8 Try.underlying22 hi hz0 hz1 hz2 rfl (by decide) _ _ _ rfl (hown3.alloc _) (some ⟨_, 0, none⟩) 1 1 ([W8].map (Value.int .u64)) rfl rfl (new_one64 _ _).src (oneCells _ _) (by unfold maxLen; omega) (by omega) (by have := hbe3.size; simp; omega) ?_; intro v6 w6 hown6 hg6 hat6; have hbe6 := (hbe3.alloc hbe3.size _).grown hg6 (by have := hbe3.size; simp; omega) (fun k hk => (hown3.lt k hk).1); (try (have hcell := HCY.out _ hbe6)); obtain ⟨A6, c6, rfl, hle6, hA6⟩ := ownsRow_slice hown6)
                  have hown6' : w6.ownsRow w.heap.size 38 1 (Value.slice A6 (o.length + 1) c6) (o.length + 1) ((o ++ [W8]).map (Value.int .u64)) := by (rw [List.map_append]; exact hown6)
                  have hown6 := hown6'
                  clear hown6'
                  go_roundw
                  case rel =>
                    refine ⟨p + 1 + N8, (o ++ [W8]), congrArg (Value.int .i64) (by omega), by omega, HUM2, by omega, ?_, hbe6⟩
                    rw [ho1]
                    exact hown6
                  case measure => simp [intOf]; omega
      · have e0 : p = n := by omega
        have HUE : Hid ((o, 0) = unp b.length b M []) := by
          show _ = _
          rw [← hun.out, List.drop_of_length_le (by rw [← HN.out]; omega)]
          rfl
        obtain ⟨Av, cv, rfl, hle, hA⟩ := ownsRow_slice hown
        have hp2 : ¬ ((p : Int) < (n : Int)) := by omega
        clear hun e0
        go_wp2_with fail
        go_ret2
        rw [← HUE.out]
        exact ⟨hbe, Av, _, cv, rfl, rfl, by show o.length ≤ _; omega, Reads.of_own hown rfl⟩
end Go.Proofs.Ytfmdnglcmbgpcaa
