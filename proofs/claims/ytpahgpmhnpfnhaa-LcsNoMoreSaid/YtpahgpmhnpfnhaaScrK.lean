/-
  Leads of package script.
-/
import Derived.Test.YtpahgpmhnpfnhaaScrE
namespace Go.Proofs.Ytpahgpmhnpfnhaa
open Go.RowKit Go.Proofs.Ytpahgpmhnpfnhaa.Scr

def posN (f : Step → Int) (l : List Step) (k : Nat) : Nat := (sum f (l.take k)).toNat
def pairsB (a b : List Int) (i j n : Nat) : Bool := (List.range n).all fun t => a.getD (i + t) 0 == b.getD (j + t) 0
def ledAt (a b : List Int) (l : List Step) (k : Nat) : Bool := if (l.getD k (1, 0)).1 = 0 then pairsB a b (posN ahdN l k) (posN bhdN l k) (l.getD k (1, 0)).2.toNat else true
def led (a b : List Int) (l : List Step) (q : Nat) : Bool := (List.range q).all (ledAt a b l)
def leadsS (l : List Step) (a b : List Int) : Bool := allOk l && decide (sum ahdN l = a.length) && decide (sum bhdN l = b.length) && led a b l l.length
theorem led_succ (a b : List Int) (l : List Step) (q : Nat) : led a b l (q + 1) = (led a b l q && ledAt a b l q) := by
  simp [led, List.range_succ]
theorem led_hit (a b : List Int) (l : List Step) (q m : Nat) (h : q < m) (hf : ledAt a b l q = false) : led a b l m = false := by
  unfold led
  rw [List.all_eq_false]
  exact ⟨q, List.mem_range.2 h, by rw [hf]; decide⟩
theorem pairsB_succ (a b : List Int) (i j n : Nat) : pairsB a b i j (n + 1) = (pairsB a b i j n && (a.getD (i + n) 0 == b.getD (j + n) 0)) := by
  simp [pairsB, List.range_succ]
theorem pairsB_hit (a b : List Int) (i j n t : Nat) (h : t < n) (hf : (a.getD (i + t) 0 == b.getD (j + t) 0) = false) : pairsB a b i j n = false := by
  unfold pairsB
  rw [List.all_eq_false]
  exact ⟨t, List.mem_range.2 h, by rw [hf]; decide⟩
theorem ledAt_keep (a b : List Int) (l : List Step) (k : Nat) (h : k < l.length) (y : Int) (hs : l[k] = (0, y)) : ledAt a b l k = pairsB a b (posN ahdN l k) (posN bhdN l k) y.toNat := by
  unfold ledAt
  rw [List.getD_eq_getElem?_getD, List.getElem?_eq_getElem h, Option.getD_some, hs]
  rfl
theorem ledAt_other (a b : List Int) (l : List Step) (k : Nat) (h : k < l.length) (hs : l[k].1 ≠ 0) : ledAt a b l k = true := by
  unfold ledAt
  rw [List.getD_eq_getElem?_getD, List.getElem?_eq_getElem h, Option.getD_some, if_neg hs]
theorem allOk_at (l : List Step) (h : allOk l = true) (k : Nat) (hk : k < l.length) : okS l[k] = true := List.all_eq_true.1 h _ (List.getElem_mem hk)
theorem allOk_takes (l : List Step) (h : allOk l = true) (k : Nat) : allOk (l.take k) = true := List.all_eq_true.2 fun s hs => List.all_eq_true.1 h s (List.mem_of_mem_take hs)
theorem sum_nonneg (f : Step → Int) (l : List Step) (hf : ∀ s ∈ l, 0 ≤ f s) : 0 ≤ sum f l := by
  have key : ∀ k, k ≤ l.length → 0 ≤ sum f (l.take k) := by
    intro k
    induction k with
    | zero => intro _; simp [sum]
    | succ k ih =>
      intro hk
      rw [sum_take f l k (by omega)]
      have := hf _ (List.getElem_mem (show k < l.length by omega))
      have := ih (by omega)
      omega
  have := key l.length (Nat.le_refl _)
  rwa [List.take_of_length_le (Nat.le_refl _)] at this
theorem sum_mono (f : Step → Int) (l : List Step) (hf : ∀ s ∈ l, 0 ≤ f s) (i j : Nat) (h : i ≤ j) (hj : j ≤ l.length) : sum f (l.take i) ≤ sum f (l.take j) := by
  induction j with
  | zero => have : i = 0 := by omega
            subst this; exact Int.le_refl _
  | succ j ih =>
    by_cases e : i = j + 1
    · subst e; exact Int.le_refl _
    · rw [sum_take f l j (by omega)]
      have := hf _ (List.getElem_mem (show j < l.length by omega))
      have := ih (by omega) (by omega)
      omega
theorem pos_step (f : Step → Int) (l : List Step) (hf : ∀ s ∈ l, 0 ≤ f s) (k m : Nat) (hk : k < l.length) (hs : sum f l = m) : posN f l (k + 1) = posN f l k + (f l[k]).toNat ∧ posN f l k + (f l[k]).toNat ≤ m := by
  have h0 := sum_nonneg f (l.take k) (fun s h => hf s (List.mem_of_mem_take h))
  have h1 := sum_take f l k hk
  have h2 := hf _ (List.getElem_mem hk)
  have h3 := sum_mono f l hf (k + 1) l.length (by omega) (Nat.le_refl _)
  rw [List.take_of_length_le (Nat.le_refl _), hs] at h3
  unfold posN
  rw [h1] at *
  omega
theorem ahd_nonneg (l : List Step) (h : allOk l = true) : (∀ s ∈ l, 0 ≤ ahdN s) ∧ (∀ s ∈ l, 0 ≤ bhdN s) :=
  ⟨fun s hs => by
      have := (okS_iff s).1 (List.all_eq_true.1 h s hs)
      unfold ahdN
      split <;> omega, fun s hs => by
      have := (okS_iff s).1 (List.all_eq_true.1 h s hs)
      unfold bhdN
      split <;> omega⟩
theorem Reads.cutLit {w : World} {B b o k cap : Nat} {xs : List Value} (h : Reads w B (some ⟨b, o, none⟩) xs) (hc : xs.length ≤ cap) :
    Reads w B (if cap = k then some ⟨b, o, none⟩ else some ⟨b, o + k, none⟩) (xs.drop k) := by
  have h1 := h.cut (k := k) hc
  rw [Option.map_some, add_lit] at h1
  exact h1
theorem Reads.cutAny {w : World} {B b o k cap : Nat} {xs : List Value} (h : Reads w B (some ⟨b, o, none⟩) xs) (hc : xs.length ≤ cap) :
    ∃ o', (if cap = k then (some ⟨b, o, none⟩ : Option Addr) else some ⟨b, o + k, none⟩) = some ⟨b, o', none⟩ ∧ Reads w B (some ⟨b, o', none⟩) (xs.drop k) := by
  have h1 := h.cut (k := k) hc
  rw [Option.map_some, add_lit] at h1
  by_cases hk : cap = k
  · rw [if_pos hk] at h1 ⊢
    exact ⟨o, rfl, h1⟩
  · rw [if_neg hk] at h1 ⊢
    exact ⟨o + k, rfl, h1⟩

set_option maxRecDepth 100000 in
set_option maxHeartbeats 4000000 in
theorem leads_any (A : Option Addr) (n c b0 : Nat) (l : List Step) (A1 : Option Addr) (n1 c1 : Nat) (a : List Int) (A2 : Option Addr) (n2 c2 : Nat) (b : List Int) (w : World)
    (hn : n = l.length) (hx : Reads w b0 A (stepCells l)) (hn1 : n1 = a.length) (ha : Reads w b0 A1 (a.map (Value.int .i64))) (hn2 : n2 = b.length) (hb : Reads w b0 A2 (b.map (Value.int .i64)))
    (hb0 : b0 ≤ w.heap.size) (hs : n ≤ 1048576) (hc1 : n1 ≤ c1) (hm1 : c1 ≤ maxLen) (hc2 : n2 ≤ c2) (hm2 : c2 ≤ maxLen) :
    Calls Try.prog 19 #[.slice A n c, .slice A1 n1 c1, .slice A2 n2 c2] w fun e w' => e = .returned (.bool (leadsS l a b)) ∧ Below w.heap.size w w' := by
  unfold maxLen at hm1 hm2
  have HX := hide hx
  have HN := hide hn
  have HA := hide ha
  have HB := hide hb
  have HN1 := hide hn1
  have HN2 := hide hn2
  clear hx hn ha hb hn1 hn2
  cases hok : allOk l
  · have HR : Hid (leadsS l a b = false) := by show _ = _; unfold leadsS; rw [hok]; rfl
    have HSZ : Hid (sizesS l = .tuple #[.int .i64 0, .int .i64 0, .bool false]) := by show _ = _; unfold sizesS; rw [hok]; rfl
    clear hok
    go_enter Try.func19, Try.ntmps19
    go_wp2_with fail
    refine (sizes_any A n c b0 l _ HN.out HX.out hb0 (Nat.le_trans hs (by decide))).mono ?_
    rintro e w1 ⟨rfl, hb1⟩
    rw [HSZ.out]
    go_wp2_with fail
    go_ret
    exact ⟨ret_bool HR.out.symm, hb1⟩
  · have hb1 := sums_bd l l.length (Nat.le_refl _) (allOk_takes l hok _)
    rw [List.take_of_length_le (Nat.le_refl _), ← HN.out] at hb1
    have HSZ : Hid (sizesS l = .tuple #[.int .i64 (sum ahdN l), .int .i64 (sum bhdN l), .bool true]) := by show _ = _; unfold sizesS; rw [hok]; rfl
    have HOK := hide hok
    clear hok
    by_cases hX : sum ahdN l = n1
    · by_cases hY : sum bhdN l = n2
      · rw [hX, hY] at HSZ
        have hnn := ahd_nonneg l HOK.out
        have HP1 : Hid (∀ k (hk : k < l.length), posN ahdN l (k + 1) = posN ahdN l k + (ahdN l[k]).toNat ∧ posN ahdN l k + (ahdN l[k]).toNat ≤ n1) := fun k hk => pos_step ahdN l hnn.1 k n1 hk hX
        have HP2 : Hid (∀ k (hk : k < l.length), posN bhdN l (k + 1) = posN bhdN l k + (bhdN l[k]).toNat ∧ posN bhdN l k + (bhdN l[k]).toNat ≤ n2) := fun k hk => pos_step bhdN l hnn.2 k n2 hk hY
        have HR : Hid (leadsS l a b = led a b l l.length) := by
          show _ = _
          unfold leadsS
          rw [HOK.out, hX, hY, HN1.out, HN2.out]
          simp
        clear hnn hX hY hb1
        have hdx : ((n1 : Int) != (n1 : Int)) = false := by simp
        have hdy : ((n2 : Int) != (n2 : Int)) = false := by simp
        go_enter Try.func19, Try.ntmps19
        go_wp2_with fail
        refine (sizes_any A n c b0 l _ HN.out HX.out hb0 (Nat.le_trans hs (by decide))).mono ?_
        rintro e w1 ⟨rfl, hb1⟩
        rw [HSZ.out]
        go_wp2_with fail
        go_loopw [1, 2, 35] (fun s1 s2 ix wr => ∃ (q i j n1' c1' n2' c2' : Nat) (A1' A2' : Option Addr), q ≤ n ∧ ix = .int .i64 q ∧ s1 = .slice A1' n1' c1' ∧ s2 = .slice A2' n2' c2' ∧ Hid (i = posN ahdN l q ∧ j = posN bhdN l q) ∧ n1' + i = n1 ∧ n2' + j = n2 ∧ n1' ≤ c1' ∧ c1' ≤ 9223372036854775807 ∧ n2' ≤ c2' ∧ c2' ≤ 9223372036854775807 ∧ Hid (Reads w b0 A1' ((a.drop i).map (Value.int .i64))) ∧ Hid (Reads w b0 A2' ((b.drop j).map (Value.int .i64))) ∧ Hid (led a b l q = true) ∧ Below w.heap.size w wr) (fun _ _ ix _ => n - (intOf ix).toNat)
        case atStart =>
          exact ⟨0, 0, 0, n1, c1, n2, c2, A1, A2, by omega, rfl, rfl, rfl, ⟨rfl, rfl⟩, rfl, rfl, hc1, by omega, hc2, by omega, HA, HB, rfl, hb1⟩
        case round =>
          obtain ⟨q, i, j, n1', c1', n2', c2', A1', A2', hq, rfl, rfl, rfl, hpos, hi, hj, hc1', hm1', hc2', hm2', hr1, hr2, hled, hbe⟩ := hrel
          by_cases hlt : q < n
          · have hl1 : q < l.length := by rw [← HN.out]; exact hlt
            obtain ⟨bx, ox, rfl, hbx, d0, d1⟩ := (HX.out.below hbe hb0).stepAt hl1
            have hp1 := HP1.out q hl1
            have hp2 := HP2.out q hl1
            have hok := (okS_iff _).1 (allOk_at l HOK.out q hl1)
            have HLK := hide (ledAt_keep a b l q hl1)
            have HLO := hide (ledAt_other a b l q hl1)
            have HLS := hide (led_succ a b l q)
            have HLH := hide (led_hit a b l q l.length hl1)
            rw [← hpos.out.1] at hp1 HLK
            rw [← hpos.out.2] at hp2 HLK
            generalize l[q] = s at *
            obtain ⟨s1, s2⟩ := s
            simp only at d0 d1 hok
            obtain ⟨N, rfl⟩ := Int.eq_ofNat_of_zero_le (show 0 ≤ s2 by omega)
            have hN1 : 1 ≤ N := by omega
            have hN2 : N ≤ 1048576 := by omega
            have hbr : bx < wr.heap.size := by have := hbe.size; omega
            rcases (show s1 = 1 ∨ s1 = 2 ∨ s1 = 0 by omega) with rfl | rfl | rfl
            · have hp1' : i + N ≤ n1 := by have := hp1.2; simpa [ahdN] using this
              have HPI : Hid (posN ahdN l (q + 1) = i + N) := by show _ = _; have := hp1.1; simpa [ahdN] using this
              have HPJ : Hid (posN bhdN l (q + 1) = j) := by show _ = _; have := hp2.1; simpa [bhdN] using this
              have HLE : Hid (led a b l (q + 1) = true) := by
                show _ = _
                rw [HLS.out, hled.out, HLO.out (by simp)]
                rfl
              clear hp1 hp2
              obtain ⟨by1, oy1, rfl, _, _⟩ := hr1.out.all (by simp; rw [← HN1.out]; omega)
              have hcut := hide (hr1.out.cutLit (k := N) (cap := c1') (by rw [List.length_map, List.length_drop, ← HN1.out]; omega))
              go_wp2_with fail
              go_roundw
              case rel =>
                refine ⟨q + 1, i + N, j, n1' - N, c1' - N, n2', c2', _, A2', by omega, by go_num, rfl, rfl, ⟨HPI.out.symm, HPJ.out.symm⟩, by omega, by omega, by omega, by omega, by omega, by omega, ?_, hr2, HLE, ((hbe.alloc hbe.size _))⟩
                show Reads _ _ _ _
                rw [← List.drop_drop, List.map_drop]
                exact hcut.out
              case measure => simp [intOf]; omega
            · have hp2' : j + N ≤ n2 := by have := hp2.2; simpa [bhdN] using this
              have HPI : Hid (posN ahdN l (q + 1) = i) := by show _ = _; have := hp1.1; simpa [ahdN] using this
              have HPJ : Hid (posN bhdN l (q + 1) = j + N) := by show _ = _; have := hp2.1; simpa [bhdN] using this
              have HLE : Hid (led a b l (q + 1) = true) := by
                show _ = _
                rw [HLS.out, hled.out, HLO.out (by simp)]
                rfl
              clear hp1 hp2
              obtain ⟨by1, oy1, rfl, _, _⟩ := hr2.out.all (by simp; rw [← HN2.out]; omega)
              have hcut := hide (hr2.out.cutLit (k := N) (cap := c2') (by rw [List.length_map, List.length_drop, ← HN2.out]; omega))
              go_wp2_with fail
              go_roundw
              case rel =>
                refine ⟨q + 1, i, j + N, n1', c1', n2' - N, c2' - N, A1', _, by omega, by go_num, rfl, rfl, ⟨HPI.out.symm, HPJ.out.symm⟩, by omega, by omega, by omega, by omega, by omega, by omega, hr1, ?_, HLE, ((hbe.alloc hbe.size _))⟩
                show Reads _ _ _ _
                rw [← List.drop_drop, List.map_drop]
                exact hcut.out
              case measure => simp [intOf]; omega
            · have hp1' : i + N ≤ n1 := by have := hp1.2; simpa [ahdN] using this
              have hp2' : j + N ≤ n2 := by have := hp2.2; simpa [bhdN] using this
              have HPI : Hid (posN ahdN l (q + 1) = i + N) := by show _ = _; have := hp1.1; simpa [ahdN] using this
              have HPJ : Hid (posN bhdN l (q + 1) = j + N) := by show _ = _; have := hp2.1; simpa [bhdN] using this
              have HLA : Hid (ledAt a b l q = pairsB a b i j N) := by
                show _ = _
                rw [HLK.out (N : Int) rfl, Int.toNat_natCast]
              clear hp1 hp2
              obtain ⟨by1, oy1, rfl, hby1, _⟩ := hr1.out.all (by simp; rw [← HN1.out]; omega)
              obtain ⟨by2, oy2, rfl, hby2, _⟩ := hr2.out.all (by simp; rw [← HN2.out]; omega)
              have hcut1 := hide (hr1.out.cutLit (k := N) (cap := c1') (by rw [List.length_map, List.length_drop, ← HN1.out]; omega))
              have hcut2 := hide (hr2.out.cutLit (k := N) (cap := c2') (by rw [List.length_map, List.length_drop, ← HN2.out]; omega))
              have hbo : Below w.heap.size w (wr.alloc (.cells #[.int .i64 0, .int .i64 (N : Int)] 52)) := hbe.alloc hbe.size _
              have f0 : (wr.alloc (.cells #[.int .i64 0, .int .i64 (N : Int)] 52)).cell? ⟨wr.heap.size, 0, none⟩ = some (.int .i64 0) := by simp [go_sem]
              have f1 : (wr.alloc (.cells #[.int .i64 0, .int .i64 (N : Int)] 52)).cell? ⟨wr.heap.size, 1, none⟩ = some (.int .i64 (N : Int)) := by simp [go_sem]
              go_wp2_with fail
              generalize (wr.alloc (.cells #[.int .i64 0, .int .i64 (N : Int)] 52)) = wo at *
              have HRA := hide (hr1.out.below hbo hb0)
              have HRB := hide (hr2.out.below hbo hb0)
              go_loopw [43] (fun ix wr' => ∃ (t m : Nat), t ≤ N ∧ ix = .int .i64 t ∧ Hid (pairsB a b i j t = true) ∧ wr' = wo.drewN m) (fun ix _ => N - (intOf ix).toNat)
              case atStart => exact ⟨0, 0, by omega, rfl, rfl, rfl⟩
              case round =>
                obtain ⟨t, m, ht, rfl, hpr, rfl⟩ := hrel
                by_cases hlt2 : t < N
                · have e1 : wo.cell? ⟨by1, oy1 + t, none⟩ = some (.int .i64 (a.getD (i + t) 0)) := by
                    obtain ⟨b', o', e', _, hc'⟩ := HRA.out t (.int .i64 (a.getD (i + t) 0)) (by
                      rw [List.getElem?_map, List.getElem?_drop, List.getD_eq_getElem?_getD, List.getElem?_eq_getElem (by rw [← HN1.out]; omega)]
                      rfl)
                    injection e' with e'
                    injection e' with e1 e2
                    subst e1 e2
                    exact hc'
                  have e2 : wo.cell? ⟨by2, oy2 + t, none⟩ = some (.int .i64 (b.getD (j + t) 0)) := by
                    obtain ⟨b', o', e', _, hc'⟩ := HRB.out t (.int .i64 (b.getD (j + t) 0)) (by
                      rw [List.getElem?_map, List.getElem?_drop, List.getD_eq_getElem?_getD, List.getElem?_eq_getElem (by rw [← HN2.out]; omega)]
                      rfl)
                    injection e' with e'
                    injection e' with e1 e2
                    subst e1 e2
                    exact hc'
                  have HPS := hide (pairsB_succ a b i j t)
                  have HPH := hide (pairsB_hit a b i j N t hlt2)
                  have g1 : (t : Int) < (n1' : Int) := by omega
                  have g2 : (t : Int) < (n2' : Int) := by omega
                  have g0 : (0 : Int) ≤ (t : Int) := by omega
                  generalize a.getD (i + t) 0 = x at *
                  generalize b.getD (j + t) 0 = y at *
                  by_cases hxy : x = y
                  · subst hxy
                    have hne : (x != x) = false := by simp
                    go_wp2_with fail
                    go_quiet (fail)
                    go_wp2_with fail
                    go_roundw
                    case rel => exact ⟨t + 1, _, by omega, by go_num, (by show _ = _; rw [HPS.out, hpr.out]; simp), rfl⟩
                    case measure => simp [intOf]; omega
                  · have hne : (x != y) = true := by simpa using hxy
                    have HF : Hid (leadsS l a b = false) := by
                      show _ = _
                      rw [HR.out]
                      refine HLH.out ?_
                      rw [HLA.out]
                      exact HPH.out (by simpa using hxy)
                    go_wp2_with fail
                    go_quiet (fail)
                    go_wp2_with fail
                    go_ret
                    exact ⟨ret_bool HF.out.symm, by first | exact below_drewN hbo _ | exact below_drewN (below_drewN hbo _) _⟩
                · have hte : t = N := by omega
                  subst hte
                  have HLE : Hid (led a b l (q + 1) = true) := by
                    show _ = _
                    rw [HLS.out, hled.out, HLA.out, hpr.out]
                    rfl
                  have g1 : (t : Int) ≤ (n1' : Int) := by omega
                  have g2 : (t : Int) ≤ (n2' : Int) := by omega
                  have g3 : (n1' : Int) ≤ (c1' : Int) := by omega
                  have g4 : (n2' : Int) ≤ (c2' : Int) := by omega
                  go_wp2_with fail
                  go_quiet (fail)
                  go_wp2_with fail
                  go_roundw
                  case rel =>
                    refine ⟨q + 1, i + t, j + t, n1' - t, c1' - t, n2' - t, c2' - t, _, _, by omega, by go_num, rfl, rfl, ⟨HPI.out.symm, HPJ.out.symm⟩, by omega, by omega, by omega, by omega, by omega, by omega, ?_, ?_, HLE, below_drewN hbo _⟩
                    · show Reads _ _ _ _
                      rw [← List.drop_drop, List.map_drop]
                      exact hcut1.out
                    · show Reads _ _ _ _
                      rw [← List.drop_drop, List.map_drop]
                      exact hcut2.out
                  case measure => simp [intOf]; omega
          · have hqe : q = n := by omega
            subst hqe
            go_wp2_with fail
            go_ret
            refine ⟨ret_bool ?_, hbe⟩
            rw [HR.out, ← HN.out, hled.out]
      · have HR : Hid (leadsS l a b = false) := by
          show _ = _
          unfold leadsS
          rw [show decide (sum bhdN l = b.length) = false from by rw [← HN2.out]; simpa using hY]
          simp
        have hd1 : (sum ahdN l != (n1 : Int)) = false := by simpa using hX
        have hd2 : (sum bhdN l != (n2 : Int)) = true := by simpa using hY
        clear hX hY
        generalize sum ahdN l = x at *
        generalize sum bhdN l = y at *
        go_enter Try.func19, Try.ntmps19
        go_wp2_with fail
        refine (sizes_any A n c b0 l _ HN.out HX.out hb0 (Nat.le_trans hs (by decide))).mono ?_
        rintro e w1 ⟨rfl, hb1⟩
        rw [HSZ.out]
        go_wp2_with fail
        go_ret
        exact ⟨ret_bool HR.out.symm, hb1⟩
    · have HR : Hid (leadsS l a b = false) := by
        show _ = _
        unfold leadsS
        rw [show decide (sum ahdN l = a.length) = false from by rw [← HN1.out]; simpa using hX]
        simp
      have hd1 : (sum ahdN l != (n1 : Int)) = true := by simpa using hX
      clear hX
      generalize sum ahdN l = x at *
      generalize sum bhdN l = y at *
      go_enter Try.func19, Try.ntmps19
      go_wp2_with fail
      refine (sizes_any A n c b0 l _ HN.out HX.out hb0 (Nat.le_trans hs (by decide))).mono ?_
      rintro e w1 ⟨rfl, hb1⟩
      rw [HSZ.out]
      go_wp2_with fail
      go_ret
      exact ⟨ret_bool HR.out.symm, hb1⟩
end Go.Proofs.Ytpahgpmhnpfnhaa
