/-
  Comparing paths: slices.CompareFunc, path.Compare and the reference's.
-/
import Derived.Test.YtmlmmajdeclpoaaPthB
namespace Go.Proofs.Ytmlmmajdeclpoaa
open Go.RowKit

set_option maxRecDepth 100000 in
set_option maxHeartbeats 2000000 in
theorem cmpF_any (A B : Option Addr) (n m c d b0 : Nat) (l k : List Step) (w : World) (hn : n = l.length) (hm : m = k.length)
   (hx : Reads w b0 A (stepCells l)) (hy : Reads w b0 B (stepCells k)) (hb0 : b0 ≤ w.heap.size) (lx : n ≤ maxLen) (ly : m ≤ maxLen) :
    Calls Try.prog 23 #[.slice A n c, .slice B m d, .func (.func 24) #[] #[]] w fun e w' => e = .returned (.int .i64 (cmpP l k)) ∧ Below w.heap.size w w' := by
  unfold maxLen at lx ly
  have HX := hide hx
  have HY := hide hy
  have HN := hide hn
  have HM := hide hm
  clear hx hy hn hm
  go_enter Try.func23, Try.ntmps23
  go_wp2_with fail
  go_loopw [13] (fun i wr => ∃ q : Nat, q ≤ n ∧ q ≤ m ∧ i = .int .i64 (q : Int) ∧ Hid (cmpP (l.drop q) (k.drop q) = cmpP l k) ∧ Below w.heap.size w wr) (fun i _ => n - (intOf i).toNat)
  case atStart => exact ⟨0, by omega, by omega, rfl, rfl, Below.refl _ _⟩
  case round =>
    obtain ⟨q, hqn, hqm, rfl, hc, hbe⟩ := hrel
    by_cases hlt : q < n
    · have hl1 : q < l.length := by rw [← HN.out]; exact hlt
      obtain ⟨bx, ox, rfl, hbx, c0, c1⟩ := (HX.out.below hbe hb0).stepAt hl1
      have hbs := hbe.size
      have hbx' : bx < wr.heap.size := by omega
      by_cases hlt2 : q < m
      · have hl2 : q < k.length := by rw [← HM.out]; exact hlt2
        obtain ⟨bY, oy, rfl, hby, d0, d1⟩ := (HY.out.below hbe hb0).stepAt hl2
        have hby' : bY < wr.heap.size := by omega
        have HD := hide (cmpP_drop l k q hl1 hl2)
        generalize l[q] = s at *
        generalize k[q] = t at *
        obtain ⟨s1, s2⟩ := s
        obtain ⟨t1, t2⟩ := t
        simp only at c0 c1 d0 d1
        go_wp2_with fail
        refine (cmpS_any s1 s2 t1 t2 _).mono ?_
        rintro e w1 ⟨rfl, hb1⟩
        have hbw : Below w.heap.size w w1 := (((hbe.alloc hbs (.cells #[.int .i64 s1, .int .i64 s2] 41)).alloc (by simp; omega) (.cells #[.int .i64 t1, .int .i64 t2] 41))).trans (hb1.mono (by simp; omega))
        by_cases hst : (s1, s2) = (t1, t2)
        · have HZ := hide ((cmpS_zero (s1, s2) (t1, t2)).2 hst)
          have HC : Hid (cmpP (l.drop (q + 1)) (k.drop (q + 1)) = cmpP l k) := by
            show _ = _
            rw [← hc.out, HD.out, if_pos hst]
          rw [HZ.out]
          clear hst HD hc hbe
          go_wp2_with fail
          go_roundw
          case rel => exact ⟨q + 1, by omega, by omega, by go_num, HC, hbw⟩
          case measure => simp [intOf]; omega
        · have hz : cmpS (s1, s2) (t1, t2) ≠ 0 := fun h => hst ((cmpS_zero _ _).1 h)
          have HC : Hid (cmpS (s1, s2) (t1, t2) = cmpP l k) := by
            show _ = _
            rw [← hc.out, HD.out, if_neg hst]
          generalize cmpS (s1, s2) (t1, t2) = z at *
          have hz1 : (z != 0) = true := by simpa using hz
          have hz2 : (z == 0) = false := by simpa using hz
          clear hst HD hc hbe hz
          go_wp2_with fail
          go_ret
          exact ⟨ret_int HC.out, hbw⟩
      · have hqe : (m : Int) ≤ (q : Int) := by omega
        have HC : Hid ((1 : Int) = cmpP l k) := by
          show _ = _
          rw [← hc.out, List.drop_of_length_le (l := k) (by rw [← HM.out]; omega), List.drop_eq_getElem_cons hl1]
          rfl
        have hbw : Below w.heap.size w (wr.alloc (.cells #[.int .i64 l[q].1, .int .i64 l[q].2] 41)) := hbe.alloc hbs _
        generalize l[q] = s at *
        clear hc hbe
        go_wp2_with fail
        go_ret
        exact ⟨ret_int HC.out, hbw⟩
    · have hqe : ¬ (q : Int) < (n : Int) := by omega
      by_cases hlm : n < m
      · have hlm2 : (n : Int) < (m : Int) := by omega
        have HC : Hid ((-1 : Int) = cmpP l k) := by
          show _ = _
          rw [← hc.out, List.drop_of_length_le (l := l) (by rw [← HN.out]; omega), List.drop_eq_getElem_cons (l := k) (by rw [← HM.out]; omega)]
          rfl
        clear hc
        go_wp2_with fail
        go_ret
        exact ⟨ret_int HC.out, hbe⟩
      · have hlm2 : ¬ (n : Int) < (m : Int) := by omega
        have HC : Hid ((0 : Int) = cmpP l k) := by
          show _ = _
          rw [← hc.out, List.drop_of_length_le (l := l) (by rw [← HN.out]; omega), List.drop_of_length_le (l := k) (by rw [← HM.out]; omega)]
          rfl
        clear hc
        go_wp2_with fail
        go_ret
        exact ⟨ret_int HC.out, hbe⟩

theorem cmp_any (A B : Option Addr) (n m c d b0 : Nat) (l k : List Step) (w : World) (hn : n = l.length) (hm : m = k.length)
   (hx : Reads w b0 A (stepCells l)) (hy : Reads w b0 B (stepCells k)) (hb0 : b0 ≤ w.heap.size) (lx : n ≤ maxLen) (ly : m ≤ maxLen) :
    Calls Try.prog 11 #[.slice A n c, .slice B m d] w fun e w' => e = .returned (.int .i64 (cmpP l k)) ∧ Below w.heap.size w w' := by
  have HC := hide (cmpF_any A B n m c d b0 l k w hn hm hx hy hb0 lx ly)
  clear hn hm hx hy
  go_enter Try.func11, Try.ntmps11
  go_wp2_with fail
  refine HC.out.mono ?_
  rintro e w1 ⟨rfl, hb1⟩
  go_wp2_with fail
  go_ret
  exact ⟨rfl, hb1⟩

set_option maxRecDepth 100000 in
set_option maxHeartbeats 4000000 in
theorem refCmp_any (A B : Option Addr) (n m c d b0 : Nat) (l k : List Step) (w : World) (hn : n = l.length) (hm : m = k.length)
   (hx : Reads w b0 A (stepCells l)) (hy : Reads w b0 B (stepCells k)) (lx : n ≤ maxLen) (ly : m ≤ maxLen) :
    Calls Try.prog 12 #[.slice A n c, .slice B m d] w fun e w' => e = .returned (.int .i64 (cmpP l k)) ∧ ∃ q, w' = w.drewN q := by
  unfold maxLen at lx ly
  have HX := hide hx
  have HY := hide hy
  have HN := hide hn
  have HM := hide hm
  clear hx hy hn hm
  go_enter Try.func12, Try.ntmps12
  go_wp2_with fail
  go_loopw [5] (fun i wr => ∃ q : Nat, q ≤ n ∧ q ≤ m ∧ i = .int .i64 (q : Int) ∧ Hid (cmpP (l.drop q) (k.drop q) = cmpP l k) ∧ ∃ j, wr = w.drewN j) (fun i _ => n - (intOf i).toNat)
  case atStart => exact ⟨0, by omega, by omega, rfl, rfl, 0, rfl⟩
  case round =>
    obtain ⟨q, hqn, hqm, rfl, hc, j, rfl⟩ := hrel
    by_cases hlt : q < n
    · have hl1 : q < l.length := by rw [← HN.out]; exact hlt
      by_cases hlt2 : q < m
      · obtain ⟨bx, ox, rfl, hbx, c0, c1⟩ := HX.out.stepAt hl1
        have hl2 : q < k.length := by rw [← HM.out]; exact hlt2
        obtain ⟨bY, oy, rfl, hby, d0, d1⟩ := HY.out.stepAt hl2
        have HD := hide (cmpP_drop l k q hl1 hl2)
        generalize l[q] = s at *
        generalize k[q] = t at *
        obtain ⟨s1, s2⟩ := s
        obtain ⟨t1, t2⟩ := t
        simp only at c0 c1 d0 d1
        by_cases h1 : s1 = t1
        · have e1 : (s1 != t1) = false := by simp [h1]
          by_cases h2 : s2 = t2
          · have e2 : (s2 != t2) = false := by simp [h2]
            have HC : Hid (cmpP (l.drop (q + 1)) (k.drop (q + 1)) = cmpP l k) := by
              show _ = _
              rw [← hc.out, HD.out, if_pos (by rw [h1, h2])]
            clear hc HD h1 h2
            go_wp2_with fail
            go_quiet (fail)
            go_wp2_with fail
            go_quiet (fail)
            go_wp2_with fail
            go_roundw
            case rel => exact ⟨q + 1, by omega, by omega, by go_num, HC, _, by first | rfl | rw [World.drewN_drewN, World.drewN_drewN] | rw [World.drewN_drewN]⟩
            case measure => simp [intOf]; omega
          · have e2 : (s2 != t2) = true := by simp [h2]
            have hcs : cmpS (s1, s2) (t1, t2) = if s2 < t2 then -1 else 1 := by
              unfold cmpS
              rw [if_neg (fun h => h2 (congrArg Prod.snd h))]
              simp only [h1, Int.lt_irrefl, true_and, false_or]
            have HC : Hid ((if s2 < t2 then (-1 : Int) else 1) = cmpP l k) := by
              show _ = _
              rw [← hcs, ← hc.out, HD.out, if_neg (fun h => h2 (congrArg Prod.snd h))]
            clear hc HD h2 hcs
            by_cases h3 : s2 < t2
            all_goals
              first | rw [if_pos h3] at HC | rw [if_neg h3] at HC
              go_wp2_with fail
              go_quiet (fail)
              go_wp2_with fail
              go_quiet (fail)
              go_wp2_with fail
              go_quiet (fail)
              go_wp2_with fail
              go_ret
              exact ⟨ret_int HC.out, _, by first | rfl | rw [World.drewN_drewN, World.drewN_drewN, World.drewN_drewN] | rw [World.drewN_drewN, World.drewN_drewN] | rw [World.drewN_drewN]⟩
        · have e1 : (s1 != t1) = true := by simp [h1]
          have hcs : cmpS (s1, s2) (t1, t2) = if s1 < t1 then -1 else 1 := by
            unfold cmpS
            rw [if_neg (fun h => h1 (congrArg Prod.fst h))]
            simp only [h1, false_and, or_false]
          have HC : Hid ((if s1 < t1 then (-1 : Int) else 1) = cmpP l k) := by
            show _ = _
            rw [← hcs, ← hc.out, HD.out, if_neg (fun h => h1 (congrArg Prod.fst h))]
          clear hc HD hcs h1
          by_cases h3 : s1 < t1
          all_goals
            first | rw [if_pos h3] at HC | rw [if_neg h3] at HC
            go_wp2_with fail
            go_quiet (fail)
            go_wp2_with fail
            go_quiet (fail)
            go_wp2_with fail
            go_ret
            exact ⟨ret_int HC.out, _, by first | rfl | rw [World.drewN_drewN, World.drewN_drewN, World.drewN_drewN] | rw [World.drewN_drewN, World.drewN_drewN] | rw [World.drewN_drewN]⟩
      · have hqe : ¬ (q : Int) < (m : Int) := by omega
        have hnm : ((n : Int) == (m : Int)) = false := by simp; omega
        have hnm2 : ¬ (n : Int) < (m : Int) := by omega
        have HC : Hid ((1 : Int) = cmpP l k) := by
          show _ = _
          rw [← hc.out, List.drop_of_length_le (l := k) (by rw [← HM.out]; omega), List.drop_eq_getElem_cons hl1]
          rfl
        clear hc
        go_wp2_with fail
        go_ret
        exact ⟨ret_int HC.out, _, by first | rfl | rw [World.drewN_drewN, World.drewN_drewN, World.drewN_drewN] | rw [World.drewN_drewN, World.drewN_drewN] | rw [World.drewN_drewN]⟩
    · have hqe : ¬ (q : Int) < (n : Int) := by omega
      by_cases hlm : n < m
      · have hnm : ((n : Int) == (m : Int)) = false := by simp; omega
        have hlm2 : (n : Int) < (m : Int) := by omega
        have HC : Hid ((-1 : Int) = cmpP l k) := by
          show _ = _
          rw [← hc.out, List.drop_of_length_le (l := l) (by rw [← HN.out]; omega), List.drop_eq_getElem_cons (l := k) (by rw [← HM.out]; omega)]
          rfl
        clear hc
        go_wp2_with fail
        go_ret
        exact ⟨ret_int HC.out, _, by first | rfl | rw [World.drewN_drewN, World.drewN_drewN, World.drewN_drewN] | rw [World.drewN_drewN, World.drewN_drewN] | rw [World.drewN_drewN]⟩
      · have hnm : ((n : Int) == (m : Int)) = true := by simp; omega
        have HC : Hid ((0 : Int) = cmpP l k) := by
          show _ = _
          rw [← hc.out, List.drop_of_length_le (l := l) (by rw [← HN.out]; omega), List.drop_of_length_le (l := k) (by rw [← HM.out]; omega)]
          rfl
        clear hc
        go_wp2_with fail
        go_ret
        exact ⟨ret_int HC.out, _, by first | rfl | rw [World.drewN_drewN, World.drewN_drewN, World.drewN_drewN] | rw [World.drewN_drewN, World.drewN_drewN] | rw [World.drewN_drewN]⟩

set_option maxRecDepth 100000 in
set_option maxHeartbeats 4000000 in
theorem sameS_any (A B : Option Addr) (c d b0 n m : Nat) (l k : List Step) (w : World) (hn : n = l.length) (hm : m = k.length)
   (hx : Reads w b0 A (stepCells l)) (hy : Reads w b0 B (stepCells k)) (lx : n ≤ maxLen) (ly : m ≤ maxLen) :
    Calls Try.prog 13 #[.slice A n c, .slice B m d] w fun e w' => e = .returned (.bool (l == k)) ∧ ∃ q, w' = w.drewN q := by
  unfold maxLen at lx ly
  by_cases hl : n = m
  · subst hl
    have heq := eqStep
    have HX := hide hx
    have HY := hide hy
    have HN := hide hn
    have HM := hide hm
    clear hx hy hn hm
    go_enter Try.func13, Try.ntmps13
    go_wp2_with fail
    go_loopw [5] (fun i wr => ∃ q : Nat, q ≤ n ∧ i = .int .i64 q ∧ Hid (l.take q = k.take q) ∧ ∃ m, wr = w.drewN m) (fun i _ => n - (intOf i).toNat)
    case atStart => exact ⟨0, by omega, rfl, by exact rfl, 0, rfl⟩
    case round =>
      obtain ⟨q, hq, rfl, he, m, rfl⟩ := hrel
      by_cases hlt : q < n
      · have hl1 : q < l.length := by rw [← HN.out]; exact hlt
        have hl2 : q < k.length := by rw [← HM.out]; exact hlt
        obtain ⟨bx, ox, rfl, _, c0, c1⟩ := HX.out.stepAt hl1
        obtain ⟨bY, oy, rfl, _, d0, d1⟩ := HY.out.stepAt hl2
        have HT1 := hide (List.take_succ_eq_append_getElem hl1)
        have HT2 := hide (List.take_succ_eq_append_getElem hl2)
        have HNE : Hid (l[q] ≠ k[q] → (l == k) = false) := fun h => by
          apply Bool.eq_false_iff.2
          intro h2
          have h3 : l = k := by simpa using h2
          subst h3
          exact h rfl
        generalize l[q] = s at *
        generalize k[q] = t at *
        obtain ⟨s1, s2⟩ := s
        obtain ⟨t1, t2⟩ := t
        simp only at c0 c1 d0 d1
        go_wp2_with fail
        go_quiet (fail)
        go_wp2_with fail
        · have ht : (s1, s2) ≠ (t1, t2) := fun h => by
            injection h with h1 h2
            subst h1 h2
            simp_all
          go_ret
          exact ⟨ret_bool (HNE.out ht).symm, m + nq, by first | rfl | rw [World.drewN_drewN]⟩
        · have ht : (s1, s2) = (t1, t2) := by simp_all
          go_roundw
          case rel =>
            refine ⟨q + 1, by omega, by go_num, ?_, _, rfl⟩
            show _ = _
            rw [HT1.out, HT2.out, he.out, ht]
          case measure => simp [intOf]; omega
      · have hqe : q = n := by omega
        subst hqe
        go_wp2_with fail
        go_ret
        refine ⟨ret_bool ?_, _, rfl⟩
        have h1 := he.out
        rw [List.take_of_length_le (by rw [HN.out]; exact Nat.le_refl _), List.take_of_length_le (by rw [HM.out]; exact Nat.le_refl _)] at h1
        simp [h1]
  · have hl' : ((n : Int) != (m : Int)) = true := by rw [bne_iff_ne]; omega
    have hb : (l == k) = false := by
      apply Bool.eq_false_iff.2
      intro h
      have : l = k := by simpa using h
      exact hl (by rw [hn, hm, this])
    rw [hb]
    clear hx hy hn hm hb hl
    go_enter Try.func13, Try.ntmps13
    go_wp2_with fail
    go_ret
    exact ⟨rfl, 0, rfl⟩

end Go.Proofs.Ytmlmmajdeclpoaa
