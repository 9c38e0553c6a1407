/-
  Right and Few of the document's trees.
-/
import Derived.Test.YtmlmmajdeclpoaaPthN
import Derived.BigQuiet
import Derived.IntWalk
namespace Go.Proofs.Ytmlmmajdeclpoaa
open Go.RowKit

inductive Rt : T → Prop
  | mk (k : Int) (ws : List Int) (ks : List T) : 0 ≤ k → k ≤ 10 → (k = 0 → ks = []) → (k = 10 → ks = []) → (k = 10 → ws.length = 1) → (∀ i (h : i < ks.length), Rt ks[i]) → Rt (.node k ws ks)
def widthS (k : Int) : Int := if k = 0 then 0 else if k = 1 then 1 else if k = 2 then 8 else if k = 3 then 16 else if k = 4 then 32 else if k = 5 then 64 else -1
theorem widthS_bd (k : Int) : -1 ≤ widthS k ∧ widthS k ≤ 64 := by
  unfold widthS
  repeat' split
  all_goals omega
theorem width_any (k : Int) (w : World) : Calls Try.prog 25 #[.int .i64 k] w fun e w' => e = .returned (.int .i64 (widthS k)) ∧ w = w' := by
  unfold widthS
  by_cases h0 : k = 0
  · have f0 : (k == 0) = true := by simpa using h0
    rw [if_pos h0]
    replace h0 := hide h0
    go_enter Try.func25, Try.ntmps25
    go_wp2_with fail
    go_ret
    exact ⟨rfl, rfl⟩
  · have f0 : (k == 0) = false := by simpa using h0
    rw [if_neg h0]
    by_cases h1 : k = 1
    · have f1 : (k == 1) = true := by simpa using h1
      rw [if_pos h1]
      replace h1 := hide h1
      go_enter Try.func25, Try.ntmps25
      go_wp2_with fail
      go_ret
      exact ⟨rfl, rfl⟩
    · have f1 : (k == 1) = false := by simpa using h1
      rw [if_neg h1]
      by_cases h2 : k = 2
      · have f2 : (k == 2) = true := by simpa using h2
        rw [if_pos h2]
        replace h2 := hide h2
        go_enter Try.func25, Try.ntmps25
        go_wp2_with fail
        go_ret
        exact ⟨rfl, rfl⟩
      · have f2 : (k == 2) = false := by simpa using h2
        rw [if_neg h2]
        by_cases h3 : k = 3
        · have f3 : (k == 3) = true := by simpa using h3
          rw [if_pos h3]
          replace h3 := hide h3
          go_enter Try.func25, Try.ntmps25
          go_wp2_with fail
          go_ret
          exact ⟨rfl, rfl⟩
        · have f3 : (k == 3) = false := by simpa using h3
          rw [if_neg h3]
          by_cases h4 : k = 4
          · have f4 : (k == 4) = true := by simpa using h4
            rw [if_pos h4]
            replace h4 := hide h4
            go_enter Try.func25, Try.ntmps25
            go_wp2_with fail
            go_ret
            exact ⟨rfl, rfl⟩
          · have f4 : (k == 4) = false := by simpa using h4
            rw [if_neg h4]
            by_cases h5 : k = 5
            · have f5 : (k == 5) = true := by simpa using h5
              rw [if_pos h5]
              replace h5 := hide h5
              go_enter Try.func25, Try.ntmps25
              go_wp2_with fail
              go_ret
              exact ⟨rfl, rfl⟩
            · have f5 : (k == 5) = false := by simpa using h5
              rw [if_neg h5]
              go_enter Try.func25, Try.ntmps25
              go_wp2_with fail
              go_ret
              exact ⟨rfl, rfl⟩
def fitsS (k x : Int) : Bool := decide (0 ≤ widthS k) && decide (x / 2 ^ (widthS k).toNat = 0)
theorem fits_any (k x : Int) (hx : 0 ≤ x ∧ x ≤ 18446744073709551615) (w : World) : Calls Try.prog 15 #[.int .i64 k, .int .u64 x] w fun e w' => e = .returned (.bool (fitsS k x)) ∧ w = w' := by
  have HB := hide (widthS_bd k)
  have HR : Hid (∀ r, widthS k = r → fitsS k x = (decide (0 ≤ r) && decide (x / 2 ^ r.toNat = 0))) := fun r h => by unfold fitsS; rw [h]
  go_enter Try.func15, Try.ntmps15
  go_wp2_with fail
  refine (width_any k _).mono ?_
  rintro e w1 ⟨rfl, rfl⟩
  have h1 := HB.out.1
  have h2 := HB.out.2
  have HRR := hide (HR.out _ rfl)
  clear HR HB
  generalize widthS k = r at *
  by_cases hr : r < 0
  · have g0 : decide (r < 0) = true := by simpa using hr
    have HF : Hid (fitsS k x = false) := by show _ = _; rw [HRR.out]; simp; omega
    go_wp2_with fail
    go_ret
    exact ⟨by rw [HF.out]; (try rfl), rfl⟩
  · have g0 : decide (r < 0) = false := by simpa using hr
    obtain ⟨m, rfl⟩ := Int.eq_ofNat_of_zero_le (show 0 ≤ r by omega)
    go_wp2_with fail
    go_loopw [1, 6] (fun xv iv wr => ∃ (y : Int) (i : Nat), xv = .int .u64 y ∧ iv = .int .i64 i ∧ 0 ≤ y ∧ y ≤ 18446744073709551615 ∧ i ≤ m ∧ Hid (y = x / 2 ^ i) ∧ w = wr) (fun _ iv _ => 64 - (intOf iv).toNat)
    case atStart => exact ⟨x, 0, rfl, rfl, hx.1, hx.2, by omega, (by show _ = _; simp), by first | rfl | trivial⟩
    case round =>
      obtain ⟨y, i, rfl, rfl, hy0, hy1, hi, HY, rfl⟩ := hrel
      by_cases hlt : (i : Int) < (m : Int)
      · have g1 : decide ((i : Int) < (m : Int)) = true := by simpa using hlt
        have hq : y.tdiv 2 = y / 2 := by rw [Int.tdiv_eq_ediv_of_nonneg hy0]
        go_wp2_with fail
        go_roundw
        case rel =>
          refine ⟨y / 2, i + 1, by first | rfl | (rw [hq]), by go_num, by omega, by omega, by omega, ?_, by first | rfl | trivial⟩
          show _ = _
          rw [HY.out, Int.ediv_ediv_of_nonneg (Int.pow_nonneg (by decide)), Int.pow_succ]
        case measure => simp [intOf]; omega
      · have g1 : decide ((i : Int) < (m : Int)) = false := by simpa using hlt
        have him : i = m := by omega
        subst him
        have HF : Hid (fitsS k x = (y == 0)) := by
          show _ = _
          rw [HRR.out, HY.out]
          simp
          rfl
        go_wp2_with fail
        go_ret
        exact ⟨by rw [HF.out]; (try rfl), rfl⟩

def RightPost (t : T) (w : World) (e : Ending) (w' : World) : Prop := ∃ b, e = .returned (.bool b) ∧ (b = true → Rt t) ∧ Below w.heap.size w w'
set_option maxRecDepth 100000 in
set_option maxHeartbeats 16000000 in
theorem right_any (N : Nat) : ∀ (t : T) (v : Tv) (S : Nat → Prop) (deep : Int) (w : World), SizeOf.sizeOf t ≤ N → TreeAt w S t v → (∀ b, S b → b < w.heap.size) → 0 ≤ deep → deep ≤ 64 →
    Calls Try.prog 6 #[v.val, .int .i64 deep] w (RightPost t w) := by
  induction N with
  | zero =>
    intro t v S deep w hN
    obtain ⟨k, ws, ks⟩ := t
    rw [T.node.sizeOf_spec] at hN
    omega
  | succ N ih =>
    intro t v S deep w hN h hS hd0 hd1
    obtain ⟨k, ws, ks⟩ := t
    have hW := h.words
    obtain ⟨kv, hK⟩ := h.kids
    have hkk : k = v.k := h.kind
    obtain ⟨k', A, n, c, K, m, d⟩ := v
    simp only at hW hK hkk
    subst hkk
    have HIH : Hid (∀ i (hi : i < ks.length), SizeOf.sizeOf ks[i] ≤ N) := fun i hi => by have := T.size_kid (k := k) (ws := ws) hi; omega
    have HM : Hid (m = ks.length) := hK.len
    have HN : Hid (n = ws.length) := hW.len
    have hmb : m ≤ 2513169434843 := by rw [hK.len]; exact hK.few
    have hnb : n ≤ 17592186043904 := by rw [hW.len]; exact hW.few
    have HK := hide hK
    have HS := hide hS
    clear h hN hW hK hS
    show Calls _ _ #[.agg #[.int .i64 k, .slice A n c, .slice K m d], _] _ _
    have hB1 := Blk.new w 25 #[.int .i64 k, .slice A n c, .slice K m d]
    have hb1 : Below w.heap.size w (w.alloc (.cells #[.int .i64 k, .slice A n c, .slice K m d] 25)) := (Below.refl _ _).alloc (Nat.le_refl _) _
    go_enter Try.func6, Try.ntmps6
    go_upto_region 1 with fail
    generalize w.alloc (.cells #[.int .i64 k, .slice A n c, .slice K m d] 25) = w1 at *
    have c0 := hB1.cell 0
    have c1 := hB1.cell 1
    have c2 := hB1.cell 2
    simp at c0 c1 c2
    by_cases d0 : k = 0
    · have f0 : (k == 0) = true := by simp; omega
      replace d0 := hide d0
      by_cases dn : n = 0
      · have g1 : ((n : Int) == 0) = true := by simp; omega
        replace dn := hide dn
        by_cases dm : m = 0
        · have g2 : ((m : Int) == 0) = true := by simp; omega
          replace dm := hide dm
          go_wp2_with fail
          go_ret
          exact ⟨true, rfl, fun _ => by
            have e0 := d0.out
            subst e0
            have e1 : ks = [] := List.eq_nil_of_length_eq_zero (by rw [← HM.out]; exact dm.out)
            subst e1
            exact .mk 0 ws [] (by decide) (by decide) (fun _ => rfl) (fun _ => rfl) (fun h => absurd h (by decide)) (fun i h => by simp at h), hb1⟩
        · have g2 : ((m : Int) == 0) = false := by simp; omega
          go_wp2_with fail
          go_ret
          exact ⟨false, rfl, (fun h => by cases h), hb1⟩
      · have g1 : ((n : Int) == 0) = false := by simp; omega
        go_wp2_with fail
        go_ret
        exact ⟨false, rfl, (fun h => by cases h), hb1⟩
    · have f0 : (k == 0) = false := by simp; omega
      by_cases d10 : k = 10
      · have ft : (k == 10) = true := by simp; omega
        replace d10 := hide d10
        by_cases dn : n = 1
        · have g1 : ((n : Int) == 1) = true := by simp; omega
          replace dn := hide dn
          by_cases dm : m = 0
          · have g2 : ((m : Int) == 0) = true := by simp; omega
            replace dm := hide dm
            go_wp2_with fail
            go_ret
            exact ⟨true, rfl, fun _ => by
              have e0 := d10.out
              subst e0
              have e1 : ks = [] := List.eq_nil_of_length_eq_zero (by rw [← HM.out]; exact dm.out)
              subst e1
              exact .mk 10 ws [] (by decide) (by decide) (fun _ => rfl) (fun _ => rfl) (fun _ => by rw [← HN.out]; exact dn.out) (fun i h => by simp at h), hb1⟩
          · have g2 : ((m : Int) == 0) = false := by simp; omega
            go_wp2_with fail
            go_ret
            exact ⟨false, rfl, (fun h => by cases h), hb1⟩
        · have g1 : ((n : Int) == 1) = false := by simp; omega
          go_wp2_with fail
          go_ret
          exact ⟨false, rfl, (fun h => by cases h), hb1⟩
      · have ft : (k == 10) = false := by simp; omega
        by_cases dk0 : k < 0
        · have g0 : decide (k < 0) = true := by simpa using dk0
          go_wp2_with fail
          go_ret
          exact ⟨false, rfl, (fun h => by cases h), hb1⟩
        · have g0 : decide (k < 0) = false := by simpa using dk0
          by_cases dk1 : 10 < k
          · have ga : decide (10 < k) = true := by simpa using dk1
            go_wp2_with fail
            go_ret
            exact ⟨false, rfl, (fun h => by cases h), hb1⟩
          · have ga : decide (10 < k) = false := by simpa using dk1
            by_cases dd : deep = 0
            · have gd : (deep == 0) = true := by simp; omega
              replace dd := hide dd
              go_wp2_with fail
              go_ret
              exact ⟨false, rfl, (fun h => by cases h), hb1⟩
            · have gd : (deep == 0) = false := by simp; omega
              by_cases dn6 : 65536 ≤ n
              · have gn6 : decide (65536 ≤ (n : Int)) = true := by simp; omega
                go_wp2_with fail
                go_ret
                exact ⟨false, rfl, (fun h => by cases h), hb1⟩
              · have gn6 : decide (65536 ≤ (n : Int)) = false := by simp; omega
                by_cases dm6 : 1048576 ≤ m
                · have gm : decide (1048576 ≤ (m : Int)) = true := by simp; omega
                  by_cases ek : k = 1
                  · have f1 : (k == 1) = true := by simp; omega
                    have fm : decide (65536 ≤ (m : Int)) = true := by simp; omega
                    replace ek := hide ek
                    go_wp2_with fail
                    go_ret
                    exact ⟨false, rfl, (fun h => by cases h), hb1⟩
                  · have f1 : (k == 1) = false := by simp; omega
                    go_wp2_with fail
                    go_ret
                    exact ⟨false, rfl, (fun h => by cases h), hb1⟩
                · have gm : decide (1048576 ≤ (m : Int)) = false := by simp; omega
                  by_cases ek : k = 1
                  · have f1 : (k == 1) = true := by simp; omega
                    have g1 : decide (1 < k) = false := by simp; omega
                    replace ek := hide ek
                    by_cases dm5 : 65536 ≤ m
                    · have gm5 : decide (65536 ≤ (m : Int)) = true := by simp; omega
                      go_wp2_with fail
                      go_ret
                      exact ⟨false, rfl, (fun h => by cases h), hb1⟩
                    · have gm5 : decide (65536 ≤ (m : Int)) = false := by simp; omega
                      go_wp2_with fail
                      go_loopw [5] (fun ix wr => ∃ i : Nat, i ≤ m ∧ ix = .int .i64 i ∧ Blk wr w.heap.size 25 #[.int .i64 k, .slice A n c, .slice K m d] ∧ Hid (∀ j (hj : j < ks.length), j < i → Rt ks[j]) ∧ Below w.heap.size w wr) (fun ix _ => m - (intOf ix).toNat)
                      case atStart => exact ⟨0, by omega, rfl, hB1, (fun j hj h => by omega), hb1⟩
                      case round =>
                        obtain ⟨i, hi, rfl, hB1r, HR, hbr⟩ := hrel
                        clear c0 c1 c2 hB1 hb1
                        have c0 := hB1r.cell 0
                        have c1 := hB1r.cell 1
                        have c2 := hB1r.cell 2
                        simp at c0 c1 c2
                        by_cases hlt : i < m
                        · have hl1 : i < ks.length := by rw [← HM.out]; exact hlt
                          obtain ⟨bK, oK, v, rfl, hbK, x0, x1, x2, hkt⟩ := HK.out.at hl1
                          obtain ⟨k3, A3, n3, c3, K3, m3, d3⟩ := v
                          simp only at x0 x1 x2
                          have hbK' := HS.out bK hbK
                          have y0 := (hbr.cell (p := ⟨bK, oK + i * 3, none⟩) hbK').trans x0
                          have y1 := (hbr.cell (p := ⟨bK, oK + i * 3 + 1, none⟩) hbK').trans x1
                          have y2 := (hbr.cell (p := ⟨bK, oK + i * 3 + 2, none⟩) hbK').trans x2
                          (try simp only at y0 y1 y2)
                          clear x0 x1 x2
                          have g1r := hB1r.lt
                          have HIHC : Hid (∀ W, Below w.heap.size w W → Calls Try.prog 6 #[.agg #[.int .i64 k3, .slice A3 n3 c3, .slice K3 m3 d3], .int .i64 (deep - 1)] W (RightPost ks[i] W)) := fun W hW =>
                            ih _ ⟨k3, A3, n3, c3, K3, m3, d3⟩ S (deep - 1) W (HIH.out i hl1) (hkt.keep (fun p hp => hW.cell (HS.out _ hp))) (fun b hb => Nat.lt_of_lt_of_le (HS.out b hb) hW.size) (by omega) (by omega)
                          have HKT := hide hkt
                          clear hkt
                          go_upto_region 13 with fail
                          have hB6 := Blk.new wr 25 #[.int .i64 k3, .slice A3 n3 c3, .slice K3 m3 d3]
                          have hB1s := hB1r.alloc (.cells #[.int .i64 k3, .slice A3 n3 c3, .slice K3 m3 d3] 25)
                          have hbs : Below w.heap.size w (wr.alloc (.cells #[.int .i64 k3, .slice A3 n3 c3, .slice K3 m3 d3] 25)) := hbr.alloc hbr.size _
                          generalize wr.alloc (.cells #[.int .i64 k3, .slice A3 n3 c3, .slice K3 m3 d3] 25) = w2 at *
                          generalize wr.heap.size = g6 at *
                          have e0 := hB6.cell 0
                          have e1 := hB6.cell 1
                          have e2 := hB6.cell 2
                          simp at e0 e1 e2
                          clear y0 y1 y2 c0 c1 c2
                          go_wp2_with fail
                          refine (HIHC.out w2 hbs).mono ?_
                          rintro e w3 ⟨b, rfl, hbR, hb3⟩
                          have hbt : Below w.heap.size w w3 := hbs.trans (hb3.mono hbs.size)
                          cases b
                          · go_wp2_with fail
                            go_ret
                            exact ⟨false, rfl, fun h => (by cases h), hbt⟩
                          · have HRK : Hid (Rt ks[i]) := hbR rfl
                            clear hbR e0 e1 e2
                            have hB1t := hB1s.below hb3 hB1s.lt
                            have hB6t := hB6.below hb3 hB6.lt
                            have g1t := hB1t.lt
                            have g6t := hB6t.lt
                            have c0 := hB1t.cell 0
                            have e0 := hB6t.cell 0
                            have e1 := hB6t.cell 1
                            simp at c0 e0 e1
                            have g2 : decide (2 ≤ k) = false := by have := ek.out; simp; omega
                            by_cases d3a : k3 = 10
                            · have f3a : (k3 == 10) = true := by simpa using d3a
                              replace d3a := hide d3a
                              go_wp2_with fail
                              go_quiet (fail)
                              go_wp2_with fail
                              go_ret
                              exact ⟨false, rfl, (fun h => by cases h), below_drewN hbt _⟩
                            · have f3a : (k3 == 10) = false := by simpa using d3a
                              by_cases d9 : k = 9
                              · have f9 : (k == 9) = true := by simpa using d9
                                replace d9 := hide d9
                                by_cases d31 : k3 = 1
                                · have f31 : (k3 != 1) = false := by simpa using d31
                                  replace d31 := hide d31
                                  go_wp2_with fail
                                  go_quiet (fail)
                                  have hB1W := hB1t.drewN nq
                                  have hbW := below_drewN hbt nq
                                  go_wp2_with fail
                                  go_roundw
                                  case rel =>
                                    exact ⟨i + 1, by omega, by go_num, hB1W, (fun j hj h => by
                                      by_cases hji : j < i
                                      · exact HR.out j hj hji
                                      · have hj2 : j = i := by omega
                                        subst hj2
                                        exact HRK.out), hbW⟩
                                  case measure => simp [intOf]; omega
                                · have f31 : (k3 != 1) = true := by simpa using d31
                                  go_wp2_with fail
                                  go_quiet (fail)
                                  go_wp2_with fail
                                  go_ret
                                  exact ⟨false, rfl, (fun h => by cases h), below_drewN hbt _⟩
                              · have f9 : (k == 9) = false := by simpa using d9
                                go_wp2_with fail
                                go_quiet (fail)
                                have hB1W := hB1t.drewN nq
                                have hbW := below_drewN hbt nq
                                go_wp2_with fail
                                go_roundw
                                case rel =>
                                  exact ⟨i + 1, by omega, by go_num, hB1W, (fun j hj h => by
                                    by_cases hji : j < i
                                    · exact HR.out j hj hji
                                    · have hj2 : j = i := by omega
                                      subst hj2
                                      exact HRK.out), hbW⟩
                                case measure => simp [intOf]; omega
                        · have g8 : decide ((i : Int) < (m : Int)) = false := by simp; omega
                          go_wp2_with fail
                          go_ret
                          exact ⟨true, rfl, fun _ => .mk k ws ks (by omega) (by omega) (fun h => absurd h d0) (fun h => absurd h d10) (fun h => absurd h d10) (fun j hj => HR.out j hj (by rw [← HM.out] at hj; omega)), hbr⟩
                  · have f1 : (k == 1) = false := by simp; omega
                    have g1 : decide (1 < k) = true := by simp; omega
                    by_cases dw : 0 < n
                    · have gw : decide (0 < (n : Int)) = true := by simpa using dw
                      go_wp2_with fail
                      go_ret
                      exact ⟨false, rfl, (fun h => by cases h), hb1⟩
                    · have gw : decide (0 < (n : Int)) = false := by simp; omega
                      go_wp2_with fail
                      go_loopw [5] (fun ix wr => ∃ i : Nat, i ≤ m ∧ ix = .int .i64 i ∧ Blk wr w.heap.size 25 #[.int .i64 k, .slice A n c, .slice K m d] ∧ Hid (∀ j (hj : j < ks.length), j < i → Rt ks[j]) ∧ Below w.heap.size w wr) (fun ix _ => m - (intOf ix).toNat)
                      case atStart => exact ⟨0, by omega, rfl, hB1, (fun j hj h => by omega), hb1⟩
                      case round =>
                        obtain ⟨i, hi, rfl, hB1r, HR, hbr⟩ := hrel
                        clear c0 c1 c2 hB1 hb1
                        have c0 := hB1r.cell 0
                        have c1 := hB1r.cell 1
                        have c2 := hB1r.cell 2
                        simp at c0 c1 c2
                        by_cases hlt : i < m
                        · have hl1 : i < ks.length := by rw [← HM.out]; exact hlt
                          obtain ⟨bK, oK, v, rfl, hbK, x0, x1, x2, hkt⟩ := HK.out.at hl1
                          obtain ⟨k3, A3, n3, c3, K3, m3, d3⟩ := v
                          simp only at x0 x1 x2
                          have hbK' := HS.out bK hbK
                          have y0 := (hbr.cell (p := ⟨bK, oK + i * 3, none⟩) hbK').trans x0
                          have y1 := (hbr.cell (p := ⟨bK, oK + i * 3 + 1, none⟩) hbK').trans x1
                          have y2 := (hbr.cell (p := ⟨bK, oK + i * 3 + 2, none⟩) hbK').trans x2
                          (try simp only at y0 y1 y2)
                          clear x0 x1 x2
                          have g1r := hB1r.lt
                          have HIHC : Hid (∀ W, Below w.heap.size w W → Calls Try.prog 6 #[.agg #[.int .i64 k3, .slice A3 n3 c3, .slice K3 m3 d3], .int .i64 (deep - 1)] W (RightPost ks[i] W)) := fun W hW =>
                            ih _ ⟨k3, A3, n3, c3, K3, m3, d3⟩ S (deep - 1) W (HIH.out i hl1) (hkt.keep (fun p hp => hW.cell (HS.out _ hp))) (fun b hb => Nat.lt_of_lt_of_le (HS.out b hb) hW.size) (by omega) (by omega)
                          have HKT := hide hkt
                          clear hkt
                          go_upto_region 13 with fail
                          have hB6 := Blk.new wr 25 #[.int .i64 k3, .slice A3 n3 c3, .slice K3 m3 d3]
                          have hB1s := hB1r.alloc (.cells #[.int .i64 k3, .slice A3 n3 c3, .slice K3 m3 d3] 25)
                          have hbs : Below w.heap.size w (wr.alloc (.cells #[.int .i64 k3, .slice A3 n3 c3, .slice K3 m3 d3] 25)) := hbr.alloc hbr.size _
                          generalize wr.alloc (.cells #[.int .i64 k3, .slice A3 n3 c3, .slice K3 m3 d3] 25) = w2 at *
                          generalize wr.heap.size = g6 at *
                          have e0 := hB6.cell 0
                          have e1 := hB6.cell 1
                          have e2 := hB6.cell 2
                          simp at e0 e1 e2
                          clear y0 y1 y2 c0 c1 c2
                          go_wp2_with fail
                          refine (HIHC.out w2 hbs).mono ?_
                          rintro e w3 ⟨b, rfl, hbR, hb3⟩
                          have hbt : Below w.heap.size w w3 := hbs.trans (hb3.mono hbs.size)
                          cases b
                          · go_wp2_with fail
                            go_ret
                            exact ⟨false, rfl, fun h => (by cases h), hbt⟩
                          · have HRK : Hid (Rt ks[i]) := hbR rfl
                            clear hbR e0 e1 e2
                            have hB1t := hB1s.below hb3 hB1s.lt
                            have hB6t := hB6.below hb3 hB6.lt
                            have g1t := hB1t.lt
                            have g6t := hB6t.lt
                            have c0 := hB1t.cell 0
                            have e0 := hB6t.cell 0
                            have e1 := hB6t.cell 1
                            simp at c0 e0 e1
                            have g2 : decide (2 ≤ k) = true := by simp; omega
                            by_cases d7 : k ≤ 7
                            · have g7 : decide (k ≤ 7) = true := by simpa using d7
                              have f9 : (k == 9) = false := by simp; omega
                              by_cases d3a : k3 = 10
                              · have f3a : (k3 == 10) = true := by simpa using d3a
                                replace d3a := hide d3a
                                have HKT3 : Hid (TreeAt w3 S ks[i] ⟨k3, A3, n3, c3, K3, m3, d3⟩) := HKT.out.keep (fun p hp => hbt.cell (HS.out _ hp))
                                have HX : Hid (n3 = 1 ∧ ∃ b o x, A3 = some ⟨b, o, none⟩ ∧ b < w.heap.size ∧ w3.cell? ⟨b, o, none⟩ = some (.int .u64 x) ∧ 0 ≤ x ∧ x ≤ 18446744073709551615) := by
                                  have hw := HRK.out
                                  have ht := HKT3.out
                                  generalize ks[i] = tk at *
                                  obtain ⟨kk, ww, kss⟩ := tk
                                  have hkd : kk = k3 := ht.kind
                                  have hww := ht.words
                                  cases hw with
                                  | mk _ _ _ _ _ _ _ h10 _ =>
                                    have hl : ww.length = 1 := h10 (by rw [hkd]; exact d3a.out)
                                    obtain ⟨b, o, e, hb, hc⟩ := hww.at (i := 0) (by omega)
                                    exact ⟨by have := hww.len; simp only at this; omega, b, o, ww[0], e, HS.out b hb, hc, hww.u64 _ (List.getElem_mem _)⟩
                                obtain ⟨hn3, bx, ox, x, hA3, hbx, hcx, hx0, hx1⟩ := HX.out
                                subst hn3 hA3
                                clear HX HKT3
                                have hwk : IntKind.i64.wrap (k - 2) = k - 2 := IntWalk.i64_in _ (by omega)
                                have HFT : Hid (∀ W, Calls Try.prog 15 #[.int .i64 (k - 2), .int .u64 x] W fun e w' => e = .returned (.bool (fitsS (k - 2) x)) ∧ W = w') := fun W => fits_any (k - 2) x ⟨hx0, hx1⟩ W
                                generalize fitsS (k - 2) x = b9 at *
                                go_wp2_with fail
                                go_quiet ((go_at_call 15; exact Calls.quiet_of_same ((HFT.out _).mono (fun _ _ h => ⟨h.1, h.2.symm⟩))))
                                have hB1W := hB1t.drewN nq
                                have hbW := below_drewN hbt nq
                                cases b9
                                · go_wp2_with fail
                                  go_ret
                                  exact ⟨false, rfl, fun h => (by cases h), hbW⟩
                                · skip
                                  go_wp2_with fail
                                  go_roundw
                                  case rel =>
                                    exact ⟨i + 1, by omega, by go_num, hB1W, (fun j hj h => by
                                      by_cases hji : j < i
                                      · exact HR.out j hj hji
                                      · have hj2 : j = i := by omega
                                        subst hj2
                                        exact HRK.out), hbW⟩
                                  case measure => simp [intOf]; omega
                              · have f3a : (k3 == 10) = false := by simpa using d3a
                                go_wp2_with fail
                                go_quiet (fail)
                                go_wp2_with fail
                                go_ret
                                exact ⟨false, rfl, (fun h => by cases h), below_drewN hbt _⟩
                            · have g7 : decide (k ≤ 7) = false := by simpa using d7
                              by_cases d3a : k3 = 10
                              · have f3a : (k3 == 10) = true := by simpa using d3a
                                replace d3a := hide d3a
                                go_wp2_with fail
                                go_quiet (fail)
                                go_wp2_with fail
                                go_ret
                                exact ⟨false, rfl, (fun h => by cases h), below_drewN hbt _⟩
                              · have f3a : (k3 == 10) = false := by simpa using d3a
                                by_cases d9 : k = 9
                                · have f9 : (k == 9) = true := by simpa using d9
                                  replace d9 := hide d9
                                  by_cases d31 : k3 = 1
                                  · have f31 : (k3 != 1) = false := by simpa using d31
                                    replace d31 := hide d31
                                    go_wp2_with fail
                                    go_quiet (fail)
                                    have hB1W := hB1t.drewN nq
                                    have hbW := below_drewN hbt nq
                                    go_wp2_with fail
                                    go_roundw
                                    case rel =>
                                      exact ⟨i + 1, by omega, by go_num, hB1W, (fun j hj h => by
                                        by_cases hji : j < i
                                        · exact HR.out j hj hji
                                        · have hj2 : j = i := by omega
                                          subst hj2
                                          exact HRK.out), hbW⟩
                                    case measure => simp [intOf]; omega
                                  · have f31 : (k3 != 1) = true := by simpa using d31
                                    go_wp2_with fail
                                    go_quiet (fail)
                                    go_wp2_with fail
                                    go_ret
                                    exact ⟨false, rfl, (fun h => by cases h), below_drewN hbt _⟩
                                · have f9 : (k == 9) = false := by simpa using d9
                                  go_wp2_with fail
                                  go_quiet (fail)
                                  have hB1W := hB1t.drewN nq
                                  have hbW := below_drewN hbt nq
                                  go_wp2_with fail
                                  go_roundw
                                  case rel =>
                                    exact ⟨i + 1, by omega, by go_num, hB1W, (fun j hj h => by
                                      by_cases hji : j < i
                                      · exact HR.out j hj hji
                                      · have hj2 : j = i := by omega
                                        subst hj2
                                        exact HRK.out), hbW⟩
                                  case measure => simp [intOf]; omega
                        · have g8 : decide ((i : Int) < (m : Int)) = false := by simp; omega
                          go_wp2_with fail
                          go_ret
                          exact ⟨true, rfl, fun _ => .mk k ws ks (by omega) (by omega) (fun h => absurd h d0) (fun h => absurd h d10) (fun h => absurd h d10) (fun j hj => HR.out j hj (by rw [← HM.out] at hj; omega)), hbr⟩
end Go.Proofs.Ytmlmmajdeclpoaa
