/-
  Leads of the reference.
-/
import Derived.Test.YtpahgpmhnpfnhaaScrK
namespace Go.Proofs.Ytpahgpmhnpfnhaa
open Go.RowKit Go.Proofs.Ytpahgpmhnpfnhaa.Scr

theorem getD_at (l : List Int) (k : Nat) (h : k < l.length) : l.getD k 0 = l[k] := by rw [List.getD_eq_getElem?_getD, List.getElem?_eq_getElem h, Option.getD_some]

set_option maxRecDepth 100000 in
set_option maxHeartbeats 8000000 in
theorem refLeads_any (A : Option Addr) (n c b0 : Nat) (l : List Step) (A1 : Option Addr) (n1 c1 : Nat) (a : List Int) (A2 : Option Addr) (n2 c2 : Nat) (b : List Int) (w : World)
    (hn : n = l.length) (hx : Reads w b0 A (stepCells l)) (hn1 : n1 = a.length) (ha : Reads w b0 A1 (a.map (Value.int .i64))) (hn2 : n2 = b.length) (hb : Reads w b0 A2 (b.map (Value.int .i64)))
    (hb0 : b0 ≤ w.heap.size) (hs : n ≤ 8796093021952) (hm1 : n1 ≤ 1048576) (hm2 : n2 ≤ 1048576) :
    Calls Try.prog 16 #[.slice A n c, .slice A1 n1 c1, .slice A2 n2 c2] w fun e w' => e = .returned (.bool (leadsS l a b)) ∧ Below w.heap.size w w' := by
  have HX := hide hx
  have HN := hide hn
  have HA := hide ha
  have HB := hide hb
  have HN1 := hide hn1
  have HN2 := hide hn2
  clear hx hn ha hb hn1 hn2
  cases hok : allOk l
  · have HR : Hid (leadsS l a b = false) := by show _ = _; unfold leadsS; rw [hok]; rfl
    have HSZ : Hid (sizesS l = .tuple #[.int .i64 0, .int .i64 0, .bool false]) := by show _ = _; unfold sizesS; rw [hok]; rfl
    clear hok
    go_enter Try.func16, Try.ntmps16
    go_wp2_with fail
    refine (refSizes_any A n c b0 l _ HN.out HX.out hb0 hs).mono ?_
    rintro e w1 ⟨rfl, hb1⟩
    rw [HSZ.out]
    go_wp2_with fail
    go_ret
    exact ⟨ret_bool HR.out.symm, hb1⟩
  · have HSZ : Hid (sizesS l = .tuple #[.int .i64 (sum ahdN l), .int .i64 (sum bhdN l), .bool true]) := by show _ = _; unfold sizesS; rw [hok]; rfl
    have HOK := hide hok
    clear hok
    by_cases hX : sum ahdN l = n1
    · by_cases hY : sum bhdN l = n2
      · rw [hX, hY] at HSZ
        have hnn := ahd_nonneg l HOK.out
        have HP1 : Hid (∀ k (hk : k < l.length), posN ahdN l (k + 1) = posN ahdN l k + (ahdN l[k]).toNat ∧ posN ahdN l k + (ahdN l[k]).toNat ≤ n1) := fun k hk => pos_step ahdN l hnn.1 k n1 hk hX
        have HP2 : Hid (∀ k (hk : k < l.length), posN bhdN l (k + 1) = posN bhdN l k + (bhdN l[k]).toNat ∧ posN bhdN l k + (bhdN l[k]).toNat ≤ n2) := fun k hk => pos_step bhdN l hnn.2 k n2 hk hY
        have HR : Hid (leadsS l a b = led a b l l.length) := by
          show _ = _
          unfold leadsS
          rw [HOK.out, hX, hY, HN1.out, HN2.out]
          simp
        clear hnn hX hY
        have hdx : ((n1 : Int) != (n1 : Int)) = false := by simp
        have hdy : ((n2 : Int) != (n2 : Int)) = false := by simp
        go_enter Try.func16, Try.ntmps16
        go_wp2_with fail
        refine (refSizes_any A n c b0 l _ HN.out HX.out hb0 hs).mono ?_
        rintro e w1 ⟨rfl, hb1⟩
        rw [HSZ.out]
        go_wp2_with fail
        clear hdx hdy
        go_loopw [10, 11, 12] (fun iv jv kv wr => ∃ (q i j : Nat), q ≤ n ∧ kv = .int .i64 q ∧ iv = .int .i64 i ∧ jv = .int .i64 j ∧ Hid (i = posN ahdN l q ∧ j = posN bhdN l q) ∧ i ≤ n1 ∧ j ≤ n2 ∧ Hid (led a b l q = true) ∧ Below w.heap.size w wr) (fun _ _ kv _ => n - (intOf kv).toNat)
        case atStart =>
          exact ⟨0, 0, 0, by omega, rfl, rfl, rfl, ⟨rfl, rfl⟩, by omega, by omega, rfl, hb1⟩
        case round =>
          obtain ⟨q, i, j, hq, rfl, rfl, rfl, hpos, hi, hj, hled, hbe⟩ := hrel
          by_cases hlt : q < n
          · have hl1 : q < l.length := by rw [← HN.out]; exact hlt
            obtain ⟨bx, ox, rfl, hbx, d0, d1⟩ := (HX.out.below hbe hb0).stepAt hl1
            have hp1 := HP1.out q hl1
            have hp2 := HP2.out q hl1
            have hok := (okS_iff _).1 (allOk_at l HOK.out q hl1)
            have HLK := hide (ledAt_keep a b l q hl1)
            have HLO := hide (ledAt_other a b l q hl1)
            have HLS := hide (led_succ a b l q)
            have HLH := hide (led_hit a b l q l.length hl1)
            rw [← hpos.out.1] at hp1 HLK
            rw [← hpos.out.2] at hp2 HLK
            generalize l[q] = s at *
            obtain ⟨s1, s2⟩ := s
            simp only at d0 d1 hok
            obtain ⟨N, rfl⟩ := Int.eq_ofNat_of_zero_le (show 0 ≤ s2 by omega)
            have hN1 : 1 ≤ N := by omega
            have hN2 : N ≤ 1048576 := by omega
            have hbr : bx < wr.heap.size := by have := hbe.size; omega
            have q0 : (0 : Int) ≤ (q : Int) := by omega
            have q1 : (q : Int) < (n : Int) := by omega
            have HRA := hide (HA.out.below hbe hb0)
            have HRB := hide (HB.out.below hbe hb0)
            rcases (show s1 = 1 ∨ s1 = 2 ∨ s1 = 0 by omega) with rfl | rfl | rfl
            · have hp1' : i + N ≤ n1 := by have := hp1.2; simpa [ahdN] using this
              have HPI : Hid (posN ahdN l (q + 1) = i + N) := by show _ = _; have := hp1.1; simpa [ahdN] using this
              have HPJ : Hid (posN bhdN l (q + 1) = j) := by show _ = _; have := hp2.1; simpa [bhdN] using this
              have HLE : Hid (led a b l (q + 1) = true) := by
                show _ = _
                rw [HLS.out, hled.out, HLO.out (by simp)]
                rfl
              clear hp1 hp2 hok
              go_wp2_with fail
              go_loopw [10, 11, 13] (fun iv jv tv wr' => ∃ (t m : Nat), t ≤ N ∧ tv = .int .i64 t ∧ iv = .int .i64 ((i : Int) + t) ∧ jv = .int .i64 j ∧ wr' = wr.drewN m) (fun _ _ tv _ => N - (intOf tv).toNat)
              case atStart => exact ⟨0, 0, by omega, rfl, by go_num, by go_num, rfl⟩
              case round =>
                obtain ⟨t, m, ht, rfl, rfl, rfl, rfl⟩ := hrel
                by_cases hlt2 : t < N
                · go_wp2_with fail
                  go_quiet (fail)
                  go_wp2_with fail
                  go_roundw
                  case rel => exact ⟨t + 1, _, by omega, by go_num, by go_num, by go_num, rfl⟩
                  case measure => simp [intOf]; omega
                · have hte : t = N := by omega
                  subst hte
                  go_wp2_with fail
                  go_roundw
                  case rel => exact ⟨q + 1, i + t, j, by omega, by go_num, by go_num, by go_num, ⟨HPI.out.symm, HPJ.out.symm⟩, by omega, by omega, HLE, below_drewN hbe _⟩
                  case measure => simp [intOf]; omega
            · have hp2' : j + N ≤ n2 := by have := hp2.2; simpa [bhdN] using this
              have HPI : Hid (posN ahdN l (q + 1) = i) := by show _ = _; have := hp1.1; simpa [ahdN] using this
              have HPJ : Hid (posN bhdN l (q + 1) = j + N) := by show _ = _; have := hp2.1; simpa [bhdN] using this
              have HLE : Hid (led a b l (q + 1) = true) := by
                show _ = _
                rw [HLS.out, hled.out, HLO.out (by simp)]
                rfl
              clear hp1 hp2 hok
              go_wp2_with fail
              go_loopw [10, 11, 13] (fun iv jv tv wr' => ∃ (t m : Nat), t ≤ N ∧ tv = .int .i64 t ∧ iv = .int .i64 i ∧ jv = .int .i64 ((j : Int) + t) ∧ wr' = wr.drewN m) (fun _ _ tv _ => N - (intOf tv).toNat)
              case atStart => exact ⟨0, 0, by omega, rfl, by go_num, by go_num, rfl⟩
              case round =>
                obtain ⟨t, m, ht, rfl, rfl, rfl, rfl⟩ := hrel
                by_cases hlt2 : t < N
                · go_wp2_with fail
                  go_quiet (fail)
                  go_wp2_with fail
                  go_roundw
                  case rel => exact ⟨t + 1, _, by omega, by go_num, by go_num, by go_num, rfl⟩
                  case measure => simp [intOf]; omega
                · have hte : t = N := by omega
                  subst hte
                  go_wp2_with fail
                  go_roundw
                  case rel => exact ⟨q + 1, i, j + t, by omega, by go_num, by go_num, by go_num, ⟨HPI.out.symm, HPJ.out.symm⟩, by omega, by omega, HLE, below_drewN hbe _⟩
                  case measure => simp [intOf]; omega
            · have hp1' : i + N ≤ n1 := by have := hp1.2; simpa [ahdN] using this
              have hp2' : j + N ≤ n2 := by have := hp2.2; simpa [bhdN] using this
              have HPI : Hid (posN ahdN l (q + 1) = i + N) := by show _ = _; have := hp1.1; simpa [ahdN] using this
              have HPJ : Hid (posN bhdN l (q + 1) = j + N) := by show _ = _; have := hp2.1; simpa [bhdN] using this
              have HLA : Hid (ledAt a b l q = pairsB a b i j N) := by
                show _ = _
                rw [HLK.out (N : Int) rfl, Int.toNat_natCast]
              clear hp1 hp2 hok
              go_wp2_with fail
              go_loopw [10, 11, 13] (fun iv jv tv wr' => ∃ (t m : Nat), t ≤ N ∧ tv = .int .i64 t ∧ iv = .int .i64 ((i : Int) + t) ∧ jv = .int .i64 ((j : Int) + t) ∧ Hid (pairsB a b i j t = true) ∧ wr' = wr.drewN m) (fun _ _ tv _ => N - (intOf tv).toNat)
              case atStart => exact ⟨0, 0, by omega, rfl, by go_num, by go_num, rfl, rfl⟩
              case round =>
                obtain ⟨t, m, ht, rfl, rfl, rfl, hpr, rfl⟩ := hrel
                by_cases hlt2 : t < N
                · obtain ⟨by1, oy1, hA1, hby1, e1⟩ := HRA.out.intAt (k := i + t) (by rw [← HN1.out]; omega)
                  obtain ⟨by2, oy2, hA2, hby2, e2⟩ := HRB.out.intAt (k := j + t) (by rw [← HN2.out]; omega)
                  rw [← getD_at a (i + t) (by rw [← HN1.out]; omega)] at e1
                  rw [← getD_at b (j + t) (by rw [← HN2.out]; omega)] at e2
                  subst hA1 hA2
                  have HPS := hide (pairsB_succ a b i j t)
                  have HPH := hide (pairsB_hit a b i j N t hlt2)
                  have g1 : (i : Int) + (t : Int) < (n1 : Int) := by omega
                  have g2 : (j : Int) + (t : Int) < (n2 : Int) := by omega
                  have g0 : (0 : Int) ≤ (i : Int) + (t : Int) := by omega
                  have g3 : (0 : Int) ≤ (j : Int) + (t : Int) := by omega
                  have g4 : ((i : Int) + (t : Int)).toNat = i + t := by omega
                  have g5 : ((j : Int) + (t : Int)).toNat = j + t := by omega
                  generalize a.getD (i + t) 0 = x at *
                  generalize b.getD (j + t) 0 = y at *
                  by_cases hxy : x = y
                  · subst hxy
                    have hne : (x != x) = false := by simp
                    go_wp2_with fail
                    go_quiet (fail)
                    go_wp2_with fail
                    go_roundw
                    case rel => exact ⟨t + 1, _, by omega, by go_num, by go_num, by go_num, (by show _ = _; rw [HPS.out, hpr.out]; simp), rfl⟩
                    case measure => simp [intOf]; omega
                  · have hne : (x != y) = true := by simpa using hxy
                    have HF : Hid (leadsS l a b = false) := by
                      show _ = _
                      rw [HR.out]
                      refine HLH.out ?_
                      rw [HLA.out]
                      exact HPH.out (by simpa using hxy)
                    go_wp2_with fail
                    go_quiet (fail)
                    go_wp2_with fail
                    go_ret
                    exact ⟨ret_bool HF.out.symm, by first | exact below_drewN hbe _ | exact below_drewN (below_drewN hbe _) _⟩
                · have hte : t = N := by omega
                  subst hte
                  have HLE : Hid (led a b l (q + 1) = true) := by
                    show _ = _
                    rw [HLS.out, hled.out, HLA.out, hpr.out]
                    rfl
                  go_wp2_with fail
                  go_roundw
                  case rel => exact ⟨q + 1, i + t, j + t, by omega, by go_num, by go_num, by go_num, ⟨HPI.out.symm, HPJ.out.symm⟩, by omega, by omega, HLE, below_drewN hbe _⟩
                  case measure => simp [intOf]; omega
          · have hqe : q = n := by omega
            subst hqe
            go_wp2_with fail
            go_ret
            refine ⟨ret_bool ?_, hbe⟩
            rw [HR.out, ← HN.out, hled.out]
      · have HR : Hid (leadsS l a b = false) := by
          show _ = _
          unfold leadsS
          rw [show decide (sum bhdN l = b.length) = false from by rw [← HN2.out]; simpa using hY]
          simp
        have hd1 : (sum ahdN l != (n1 : Int)) = false := by simpa using hX
        have hd2 : (sum bhdN l != (n2 : Int)) = true := by simpa using hY
        clear hX hY
        generalize sum ahdN l = x at *
        generalize sum bhdN l = y at *
        go_enter Try.func16, Try.ntmps16
        go_wp2_with fail
        refine (refSizes_any A n c b0 l _ HN.out HX.out hb0 hs).mono ?_
        rintro e w1 ⟨rfl, hb1⟩
        rw [HSZ.out]
        go_wp2_with fail
        go_ret
        exact ⟨ret_bool HR.out.symm, hb1⟩
    · have HR : Hid (leadsS l a b = false) := by
        show _ = _
        unfold leadsS
        rw [show decide (sum ahdN l = a.length) = false from by rw [← HN1.out]; simpa using hX]
        simp
      have hd1 : (sum ahdN l != (n1 : Int)) = true := by simpa using hX
      clear hX
      generalize sum ahdN l = x at *
      generalize sum bhdN l = y at *
      go_enter Try.func16, Try.ntmps16
      go_wp2_with fail
      refine (refSizes_any A n c b0 l _ HN.out HX.out hb0 hs).mono ?_
      rintro e w1 ⟨rfl, hb1⟩
      rw [HSZ.out]
      go_wp2_with fail
      go_ret
      exact ⟨ret_bool HR.out.symm, hb1⟩
end Go.Proofs.Ytpahgpmhnpfnhaa
