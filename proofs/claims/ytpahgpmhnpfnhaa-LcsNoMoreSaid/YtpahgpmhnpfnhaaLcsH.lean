/-
  reach and Distance of package lcs.
-/
import Derived.Test.YtpahgpmhnpfnhaaLcsD
import Derived.Test.YtpahgpmhnpfnhaaLcsM
namespace Go.Proofs.Ytpahgpmhnpfnhaa
open Go.RowKit Go.Proofs.Ytpahgpmhnpfnhaa.Lcs

theorem reach_both (g N c q : Nat) (w : World) : Calls Try.prog 25 #[.slice (some ⟨g, 0, none⟩) N c, .int .i64 q, .bool true, .bool true] w fun e w' => e = .returned (.int .i64 0) ∧ w = w' := by
  go_enter Try.func25, Try.ntmps25
  go_wp2_with fail
  go_ret
  exact ⟨rfl, rfl⟩
section
variable (g N c q : Nat) (xs : List Int) (w : World) (hb : IBlk w g xs) (hq0 : 1 ≤ q) (hq : q + 1 < N) (hN : N = xs.length) (hn : N ≤ 1000000)
include hb hq0 hq hN hn
theorem reach_low (u : Int) (hu : xs.getD (q + 1) 0 = u) : Calls Try.prog 25 #[.slice (some ⟨g, 0, none⟩) N c, .int .i64 q, .bool true, .bool false] w fun e w' => e = .returned (.int .i64 u) ∧ ∃ k, w' = w.drewN k := by
  have c1 := hb.cell (i := q + 1) (by omega)
  have e1 : xs[q + 1]'(by omega) = u := by
    rw [← hu, List.getD_eq_getElem?_getD, List.getElem?_eq_getElem (by omega)]
    rfl
  rw [e1] at c1
  have i1 : (q : Int) + 1 < (N : Int) := by omega
  clear hN hb hu e1
  go_enter Try.func25, Try.ntmps25
  go_wp2_with fail
  go_quiet (fail)
  go_wp2_with fail
  go_ret
  exact ⟨rfl, _, rfl⟩
theorem reach_high (u : Int) (hu : xs.getD (q - 1) 0 = u) (hub : 0 ≤ u ∧ u ≤ 1000000000) : Calls Try.prog 25 #[.slice (some ⟨g, 0, none⟩) N c, .int .i64 q, .bool false, .bool true] w fun e w' => e = .returned (.int .i64 (u + 1)) ∧ ∃ k, w' = w.drewN k := by
  have c1 := hb.cell (i := q - 1) (by omega)
  have e1 : xs[q - 1]'(by omega) = u := by
    rw [← hu, List.getD_eq_getElem?_getD, List.getElem?_eq_getElem (by omega)]
    rfl
  rw [e1] at c1
  have i1 : ((q : Int) - 1).toNat = q - 1 := by omega
  have i2 : (0 : Int) ≤ (q : Int) - 1 := by omega
  have i3 : (q : Int) - 1 < (N : Int) := by omega
  clear hN hb hu e1
  go_enter Try.func25, Try.ntmps25
  go_wp2_with fail
  go_quiet (fail)
  go_wp2_with fail
  go_ret
  exact ⟨rfl, _, rfl⟩
theorem reach_mid (u v : Int) (hu : xs.getD (q - 1) 0 = u) (hv : xs.getD (q + 1) 0 = v) (hub : 0 ≤ u ∧ u ≤ 1000000000) : Calls Try.prog 25 #[.slice (some ⟨g, 0, none⟩) N c, .int .i64 q, .bool false, .bool false] w fun e w' => e = .returned (.int .i64 (if u < v then v else u + 1)) ∧ ∃ k, w' = w.drewN k := by
  have c1 := hb.cell (i := q - 1) (by omega)
  have e1 : xs[q - 1]'(by omega) = u := by
    rw [← hu, List.getD_eq_getElem?_getD, List.getElem?_eq_getElem (by omega)]
    rfl
  rw [e1] at c1
  have c2 := hb.cell (i := q + 1) (by omega)
  have e2 : xs[q + 1]'(by omega) = v := by
    rw [← hv, List.getD_eq_getElem?_getD, List.getElem?_eq_getElem (by omega)]
    rfl
  rw [e2] at c2
  have i1 : ((q : Int) - 1).toNat = q - 1 := by omega
  have i2 : (0 : Int) ≤ (q : Int) - 1 := by omega
  have i3 : (q : Int) - 1 < (N : Int) := by omega
  have i4 : (q : Int) + 1 < (N : Int) := by omega
  clear hN hb hu hv e1 e2
  by_cases hlt : u < v
  · rw [if_pos hlt]
    go_enter Try.func25, Try.ntmps25
    go_wp2_with fail
    go_quiet (fail)
    go_wp2_with fail
    go_ret
    exact ⟨rfl, _, rfl⟩
  · rw [if_neg hlt]
    have hd : decide (u < v) = false := by simpa using hlt
    go_enter Try.func25, Try.ntmps25
    go_wp2_with fail
    go_quiet (fail)
    go_wp2_with fail
    go_ret
    exact ⟨rfl, _, rfl⟩
end

def reachV (lo hi : Bool) (u v : Int) : Int := if lo = true then (if hi = true then 0 else v) else (if hi = true then u + 1 else if u < v then v else u + 1)
theorem reach_all (g N c q : Nat) (xs : List Int) (lo hi : Bool) (w : World) (hb : IBlk w g xs) (hq0 : 1 ≤ q) (hq : q + 1 < N) (hN : N = xs.length) (hn : N ≤ 1000000) (hub : lo = false → 0 ≤ xs.getD (q - 1) 0 ∧ xs.getD (q - 1) 0 ≤ 1000000000) :
    Calls Try.prog 25 #[.slice (some ⟨g, 0, none⟩) N c, .int .i64 q, .bool lo, .bool hi] w fun e w' => e = .returned (.int .i64 (reachV lo hi (xs.getD (q - 1) 0) (xs.getD (q + 1) 0))) ∧ ∃ k, w' = w.drewN k := by
  cases lo <;> cases hi
  · exact (reach_mid g N c q xs w hb hq0 hq hN hn _ _ rfl rfl (hub rfl)).mono fun e w' ⟨he, hk⟩ => ⟨he, hk⟩
  · exact (reach_high g N c q xs w hb hq0 hq hN hn _ rfl (hub rfl)).mono fun e w' ⟨he, hk⟩ => ⟨he, hk⟩
  · exact (reach_low g N c q xs w hb hq0 hq hN hn _ rfl).mono fun e w' ⟨he, hk⟩ => ⟨he, hk⟩
  · exact (reach_both g N c q w).mono fun e w' ⟨he, hk⟩ => ⟨he, 0, hk.symm⟩

/-- the distance within a limit -/
def distV (T : Nat) (most : Int) : Value := if (T : Int) ≤ most then .tuple #[.int .i64 (T : Nat), .bool true] else .tuple #[.int .i64 0, .bool false]
def FarRow (M : Nat → Nat → Bool) (P D : Nat) (xs : List Int) (cnt : Nat) : Prop := ∀ t, t < cnt → Far M D (2 * (t : Int) - (D : Int)) (xs.getD (P + 1 + 2 * t - D) 0)
theorem FarRow.set {M : Nat → Nat → Bool} {P D : Nat} {xs : List Int} {cnt : Nat} (h : FarRow M P D xs cnt) (q : Nat) (x : Int) (hq : ∀ t, t < cnt → P + 1 + 2 * t - D ≠ q) : FarRow M P D (xs.set q x) cnt := fun t ht => by
  have := h t ht
  rw [List.getD_eq_getElem?_getD, List.getElem?_set_ne (Ne.symm (hq t ht)), ← List.getD_eq_getElem?_getD]
  exact this
theorem getD_set_self (xs : List Int) (q : Nat) (x : Int) (h : q < xs.length) : (xs.set q x).getD q 0 = x := by
  rw [List.getD_eq_getElem?_getD, List.getElem?_set_self h]
  rfl
theorem rch_dist {M : Nat → Nat → Bool} {n m D : Nat} (h1 : Rch M n m D) (h2 : 0 < D → ¬ Rch M n m (D - 1)) : n + m - 2 * C M n m = D := by
  unfold Rch at *
  have k1 := C_le_i M n m
  have k2 := C_le_j M n m
  omega

/-- where a way on a diagonal begins -/
structure StartOk (M : Nat → Nat → Bool) (D : Nat) (K i0 : Int) : Prop where
  p0 : 0 ≤ i0
  pk : K ≤ i0
  rch : Rch M i0.toNat (i0 - K).toNat D
  fin : ∀ i, i0 ≤ i → Rch M i.toNat (i - K).toNat D → M i.toNat (i - K).toNat = false → Far M D K i
theorem start_ok {M : Nat → Nat → Bool} {P D t : Nat} {xs : List Int} {K : Int} (hD : D ≤ P) (ht : t ≤ D) (hK : K = 2 * (t : Int) - (D : Int)) (hrow : 0 < D → FarRow M P (D - 1) xs D) :
    StartOk M D K (reachV (K == -(D : Int)) (K == (D : Int)) (xs.getD (P + 1 + 2 * t - D - 1) 0) (xs.getD (P + 1 + 2 * t - D + 1) 0)) := by
  by_cases h0 : D = 0
  · subst h0
    have hk0 : K = 0 := by omega
    subst hk0
    have e : reachV ((0 : Int) == -((0 : Nat) : Int)) ((0 : Int) == ((0 : Nat) : Int)) (xs.getD (P + 1 + 2 * t - 0 - 1) 0) (xs.getD (P + 1 + 2 * t - 0 + 1) 0) = 0 := by
      unfold reachV
      simp
    rw [e]
    exact ⟨by omega, by omega, Rch.zero, fun i hi hr hm => far_zero hi hr hm⟩
  · obtain ⟨E, rfl⟩ : ∃ E, D = E + 1 := ⟨D - 1, by omega⟩
    have hr := hrow (by omega)
    rw [Nat.add_sub_cancel] at hr
    have hlow : t < E + 1 → Far M E (K + 1) (xs.getD (P + 1 + 2 * t - (E + 1) + 1) 0) := fun h => by
      have := hr t h
      rwa [show 2 * (t : Int) - (E : Int) = K + 1 from by omega, show P + 1 + 2 * t - E = P + 1 + 2 * t - (E + 1) + 1 from by omega] at this
    have hhigh : 0 < t → Far M E (K - 1) (xs.getD (P + 1 + 2 * t - (E + 1) - 1) 0) := fun h => by
      have := hr (t - 1) (by omega)
      rwa [show 2 * ((t - 1 : Nat) : Int) - (E : Int) = K - 1 from by omega, show P + 1 + 2 * (t - 1) - E = P + 1 + 2 * t - (E + 1) - 1 from by omega] at this
    generalize xs.getD (P + 1 + 2 * t - (E + 1) + 1) 0 = v at *
    generalize xs.getD (P + 1 + 2 * t - (E + 1) - 1) 0 = u at *
    by_cases hl : t = 0
    · have b1 : (K == -((E + 1 : Nat) : Int)) = true := by simp; omega
      have b2 : (K == ((E + 1 : Nat) : Int)) = false := by simp; omega
      rw [b1, b2]
      have e : reachV true false u v = v := rfl
      rw [e]
      have h1 := hlow (by omega)
      obtain ⟨s1, s2, s3⟩ := far_low h1
      exact ⟨s1, s2, s3, fun i hi hr hm => far_end (f2 := 0) (.inl h1) (.inr (by omega)) (.inl hi) (.inr (by omega)) (by omega) (by omega) hr hm⟩
    · have b1 : (K == -((E + 1 : Nat) : Int)) = false := by simp; omega
      have h2 := hhigh (by omega)
      by_cases hh : t = E + 1
      · have b2 : (K == ((E + 1 : Nat) : Int)) = true := by simp; omega
        rw [b1, b2]
        have e : reachV false true u v = u + 1 := rfl
        rw [e]
        obtain ⟨s1, s2, s3⟩ := far_high h2
        exact ⟨s1, s2, s3, fun i hi hr hm => far_end (f1 := 0) (.inr (by omega)) (.inl h2) (.inr (by omega)) (.inl hi) (by omega) (by omega) hr hm⟩
      · have b2 : (K == ((E + 1 : Nat) : Int)) = false := by simp; omega
        rw [b1, b2]
        have e : reachV false false u v = if u < v then v else u + 1 := rfl
        rw [e]
        have h1 := hlow (by omega)
        obtain ⟨s1, s2, s3, s4, s5⟩ := far_start h1 h2
        exact ⟨s1, s2, s3, fun i hi hr hm => far_end (.inl h1) (.inl h2) (.inl (by omega)) (.inl (by omega)) (by omega) (by omega) hr hm⟩

set_option maxRecDepth 100000 in
set_option maxHeartbeats 16000000 in
theorem distance_any (A : Option Addr) (n c : Nat) (a : List Int) (B : Option Addr) (m d : Nat) (b : List Int) (most : Int) (b0 : Nat) (w : World) (hn : n = a.length) (hm : m = b.length)
    (ha : Reads w b0 A (a.map (Value.int .i64))) (hb : Reads w b0 B (b.map (Value.int .i64))) (hb0 : b0 ≤ w.heap.size) (hnl : n ≤ 100000) (hml : m ≤ 100000) (hmo : -9223372036854775808 ≤ most ∧ most ≤ 9223372036854775807) :
    Calls Try.prog 14 #[.slice A n c, .slice B m d, .int .i64 most] w fun e w' => e = .returned (distV (n + m - 2 * C (Lcs.mt a b) n m) most) ∧ Below w.heap.size w w' := by
  obtain ⟨i0, hi, hz0, hz1, hz2⟩ := info_parts infoInt
  have HA := hide ha
  have HB := hide hb
  have HN := hide hn
  have HM := hide hm
  have HSH : Hid (Shut (Lcs.mt a b) n m) := by
    show Shut _ _ _
    rw [hn, hm]
    exact mt_shut a b
  have HMT : Hid (∀ i j, i < n → j < m → Lcs.mt a b i j = (a.getD i 0 == b.getD j 0)) := fun i j hi hj => mt_in a b i j (by omega) (by omega)
  clear ha hb hn hm
  generalize Lcs.mt a b = M at *
  have kn := C_le_i M n m
  have km := C_le_j M n m
  by_cases hneg : most < 0
  · have HR : Hid (distV (n + m - 2 * C M n m) most = .tuple #[.int .i64 0, .bool false]) := by
      show _ = _
      unfold distV
      rw [if_neg (by omega)]
    clear kn km
    by_cases h1 : most < -1
    all_goals
      go_enter Try.func14, Try.ntmps14
      go_wp2_with fail
      go_ret2
      exact ⟨by rw [HR.out]; rfl, Below.refl _ _⟩
  · obtain ⟨P, hP⟩ : ∃ P : Nat, (most = (P : Int) ∧ P ≤ n + m) ∨ ((n : Int) + (m : Int) = (P : Int) ∧ (P : Int) < most) := by
      by_cases h : most ≤ n + m
      · exact ⟨most.toNat, .inl ⟨by omega, by omega⟩⟩
      · exact ⟨n + m, .inr ⟨by omega, by omega⟩⟩
    have hP6 : P ≤ 200000 := by omega
    have HYES : Hid (∀ D, D ≤ P → n + m - 2 * C M n m = D → distV (n + m - 2 * C M n m) most = .tuple #[.int .i64 (D : Nat), .bool true]) := fun D h1 h2 => by
      unfold distV
      rw [h2, if_pos (by omega)]
    have HNO : Hid (P < n + m - 2 * C M n m → distV (n + m - 2 * C M n m) most = .tuple #[.int .i64 0, .bool false]) := fun h1 => by
      unfold distV
      rw [if_neg (by omega)]
    have HW : Hid ((n : Int) - m ≤ ((n + m - 2 * C M n m : Nat) : Int) ∧ (m : Int) - n ≤ ((n + m - 2 * C M n m : Nat) : Int)) := by constructor <;> omega
    have HBIG : Hid (¬ Rch M n m P → P < n + m - 2 * C M n m) := fun h => by unfold Rch at h; omega
    have hmk : ∀ W : World, (Instr.makeSlice 22 (.int .i64 (2 * (P : Int) + 3)) (.int .i64 (2 * (P : Int) + 3))).run Try.prog W = .ok (.slice (some ⟨W.heap.size, 0, none⟩) (2 * P + 3) (2 * P + 3)) (W.alloc (.cells (madeCells #[.int .i64 0] (2 * P + 3)) 3)) := fun W => by
      have h := run_make (P := Try.prog) W 22 3 i0 (.int .i64 0) Try.underlying22 hi hz0 .i64 .i64 (2 * (P : Int) + 3) (2 * (P : Int) + 3) (by omega) (by omega) (by rw [hz2]; omega) (by omega)
      have e : (2 * (P : Int) + 3).toNat = 2 * P + 3 := by omega
      rw [e] at h
      simpa [hz1, Value.cells] using h
    clear kn km
    generalize hT : n + m - 2 * C M n m = T at *
    have HT := hide hT
    clear hT
    rcases hP with ⟨rfl, hPn⟩ | ⟨hPs, hPm⟩
    all_goals
      by_cases hf1 : (P : Int) < (n : Int) - (m : Int)
      · have HR := hide (HNO.out (by have := HW.out; omega))
        go_enter Try.func14, Try.ntmps14
        go_wp2_with fail
        go_ret2
        exact ⟨by rw [HR.out]; rfl, Below.refl _ _⟩
      by_cases hf2 : (P : Int) < (m : Int) - (n : Int)
      · have HR := hide (HNO.out (by have := HW.out; omega))
        go_enter Try.func14, Try.ntmps14
        go_wp2_with fail
        go_ret2
        exact ⟨by rw [HR.out]; rfl, Below.refl _ _⟩
      have hd1 : decide ((P : Int) < (n : Int) - (m : Int)) = false := by simpa using hf1
      have hd2 : decide ((P : Int) < (m : Int) - (n : Int)) = false := by simpa using hf2
      go_enter Try.func14, Try.ntmps14
      have hPl : P ≤ n + m := by omega
      go_wp2_with fail
      go_loopw [11] (fun ds wr => ∃ (D : Nat) (xs : List Int), D ≤ P + 1 ∧ ds = .int .i64 D ∧ Hid (IBlk wr w.heap.size xs ∧ xs.length = 2 * P + 3) ∧ Hid (0 < D → FarRow M P (D - 1) xs D) ∧ Hid (0 < D → ¬ Rch M n m (D - 1)) ∧ Below w.heap.size w wr) (fun ds _ => P + 1 - (intOf ds).toNat)
      case atStart => exact ⟨0, _, by omega, rfl, ⟨IBlk.made w (2 * P + 3), by simp⟩, fun h => by omega, fun h => by omega, (Below.refl _ _).alloc (Nat.le_refl _) _⟩
      case round =>
        obtain ⟨D, xs, hD, rfl, hblk, hrow, hprev, hbe⟩ := hrel
        by_cases hDP : D ≤ P
        · go_wp2_with fail
          obtain ⟨wo, rfl⟩ : ∃ wo : World, wo = wr := ⟨_, rfl⟩
          go_loopw [12] (fun ks wr => ∃ (t : Nat) (K : Int) (ys : List Int), t ≤ D + 1 ∧ ks = .int .i64 K ∧ Hid (K = 2 * (t : Int) - (D : Int)) ∧ Hid (IBlk wr w.heap.size ys ∧ ys.length = 2 * P + 3) ∧ Hid (FarRow M P D ys t) ∧ Hid (0 < D → FarRow M P (D - 1) ys D) ∧ Hid (∀ s, s < t → 2 * (s : Int) - (D : Int) = (n : Int) - m → ys.getD (P + 1 + 2 * s - D) 0 < n) ∧ Below w.heap.size w wr) (fun ks _ => ((D : Int) + 2 - intOf ks).toNat)
          case atStart => exact ⟨0, -(D : Int), xs, by omega, rfl, (by show _ = _; omega), hblk, fun s hs => by omega, hrow, fun s hs => by omega, hbe⟩
          case round =>
            obtain ⟨t, K, ys, ht, rfl, HK, hblk, hrow1, hrow2, hls, hbw⟩ := hrel
            by_cases htD : t ≤ D
            · obtain ⟨q, hq⟩ : ∃ q : Nat, P + 1 + 2 * t - D = q := ⟨_, rfl⟩
              have hqK : (P : Int) + 1 + K = (q : Int) := by have := HK.out; omega
              have hK1 : -(D : Int) ≤ K := by have := HK.out; omega
              have hK2 : K ≤ (D : Int) := by have := HK.out; omega
              have hq1 : 1 ≤ q := by omega
              have hq2 : q + 1 < 2 * P + 3 := by omega
              have HST := hide (start_ok (K := K) (xs := ys) hDP htD HK.out hrow2.out)
              rw [hq] at HST
              have HQ := hide hq
              have HQK := hide hqK
              have HUB : Hid ((K == -(D : Int)) = false → 0 ≤ ys.getD (q - 1) 0 ∧ ys.getD (q - 1) 0 ≤ 1000000000) := fun hlo => by
                have hne : K ≠ -(D : Int) := by simpa using hlo
                have hk := HK.out
                have hf := hrow2.out (by omega) (t - 1) (by omega)
                rw [show P + 1 + 2 * (t - 1) - (D - 1) = q - 1 from by omega] at hf
                have hbd := hf.bd HSH.out
                exact ⟨hf.1, by omega⟩
              clear hq hqK
              generalize hr0 : reachV (K == -(D : Int)) (K == (D : Int)) (ys.getD (q - 1) 0) (ys.getD (q + 1) 0) = i0 at *
              have HR0 := hide hr0
              have hi0b : i0 ≤ 1000000 := by
                have hw := HST.out.rch.wide
                have h1 := HST.out.p0
                have h2 := HST.out.pk
                by_cases hbx : (n : Int) ≤ i0 ∧ (m : Int) ≤ i0 - K
                · have hcn := HST.out.rch
                  obtain ⟨x, hx⟩ := Nat.exists_eq_add_of_le (show n ≤ i0.toNat by omega)
                  obtain ⟨y, hy⟩ := Nat.exists_eq_add_of_le (show m ≤ (i0 - K).toNat by omega)
                  unfold Rch at hcn
                  rw [hx, hy, shut_C HSH.out] at hcn
                  have g1 := C_le_i M n m
                  have g2 := C_le_j M n m
                  omega
                · omega
              have hi0p := HST.out.p0
              have hi0k := HST.out.pk
              clear hr0
              go_wp2_with fail
              rw [HQK.out]
              refine (reach_all w.heap.size (2 * P + 3) (2 * P + 3) q ys _ _ _ hblk.out.1 hq1 hq2 hblk.out.2.symm (by omega) HUB.out).mono ?_
              rintro e w1 ⟨rfl, k1, rfl⟩
              rw [HR0.out]
              have hblk := hide (show IBlk (wr.drewN k1) w.heap.size ys ∧ ys.length = 2 * P + 3 from ⟨hblk.out.1.drewN k1, hblk.out.2⟩)
              have hbw := below_drewN hbw k1
              generalize wr.drewN k1 = wq at *
              go_wp2_with fail
              go_loopw [13, 14] (fun s1 s2 wr => ∃ (i : Int) (mm : Nat), s1 = .int .i64 i ∧ s2 = .int .i64 (i - K) ∧ i0 ≤ i ∧ 0 ≤ i ∧ K ≤ i ∧ i ≤ 2000000 ∧ Hid (Rch M i.toNat (i - K).toNat D) ∧ wr = wq.drewN mm) (fun s1 _ _ => ((n : Int) - intOf s1).toNat)
              case atStart => exact ⟨i0, 0, rfl, rfl, Int.le_refl _, hi0p, hi0k, by omega, HST.out.rch, rfl⟩
              case round =>
                obtain ⟨i, mm, rfl, rfl, hi0, hip, hik, hib, hrc, rfl⟩ := hrel
                have hjp : (0 : Int) ≤ i - K := by omega
                by_cases h1 : i < (n : Int)
                · by_cases h2 : i - K < (m : Int)
                  · obtain ⟨bx, ox, rfl, hbx, c1⟩ := (HA.out.below hbw hb0).intGet (k := i.toNat) (by rw [← HN.out]; omega)
                    obtain ⟨by1, oy1, rfl, hby1, c2⟩ := (HB.out.below hbw hb0).intGet (k := (i - K).toNat) (by rw [← HM.out]; omega)
                    have hmt := HMT.out i.toNat (i - K).toNat (by omega) (by omega)
                    generalize a.getD i.toNat 0 = x at *
                    generalize b.getD (i - K).toNat 0 = y at *
                    by_cases hxy : x = y
                    · subst hxy
                      have HRC := hide (Rch.snake hrc.out (show M i.toNat (i - K).toNat = true by rw [hmt]; simp))
                      clear hmt
                      go_wp2_with fail
                      go_quiet (fail)
                      go_wp2_with fail
                      go_roundw
                      case rel =>
                        refine ⟨i + 1, _, by go_num, congrArg (Value.int .i64) (by omega), by omega, by omega, by omega, by omega, ?_, rfl⟩
                        show Rch _ _ _ _
                        have e1 : (i + 1).toNat = i.toNat + 1 := by omega
                        have e2 : (i + 1 - K).toNat = (i - K).toNat + 1 := by omega
                        rw [e1, e2]
                        exact HRC.out
                      case measure => simp [intOf]; omega
                    · have hxb : (x == y) = false := by simpa using hxy
                      have HMF : M i.toNat (i - K).toNat = false := by rw [hmt]; exact hxb
                      have HMF := hide HMF
                      clear hmt
                      have HNM : Hid (M i.toNat (i - K).toNat = false) := HMF
                      have HFAR := hide (HST.out.fin i hi0 hrc.out HNM.out)
                      have e1 := hblk.out.1.cell (i := q) (by rw [hblk.out.2]; omega)
                      generalize ys[q]'(by rw [hblk.out.2]; omega) = yq at e1
                      have e2 := hblk.out.1.frozen q
                      have e3 : ((P : Int) + 1 + K).toNat = q := by have := HQK.out; omega
                      have e4 : (0 : Int) ≤ (P : Int) + 1 + K := by have := HQK.out; omega
                      have e5 : (P : Int) + 1 + K < 2 * (P : Int) + 3 := by have := HQK.out; omega
                      have HNEW : Hid (IBlk ((wq.drewN mm).setCell ⟨w.heap.size, q, none⟩ (.int .i64 i)) w.heap.size (ys.set q i) ∧ (ys.set q i).length = 2 * P + 3) := ⟨(hblk.out.1.drewN mm).set_ q i, by rw [List.length_set]; exact hblk.out.2⟩
                      have HROW : Hid (FarRow M P D (ys.set q i) (t + 1)) := fun s hs => by
                        by_cases e : s = t
                        · subst e
                          rw [HQ.out, getD_set_self _ _ _ (by rw [hblk.out.2]; omega), ← HK.out]
                          exact HFAR.out
                        · exact hrow1.out.set q i (fun s' hs' => by have := HQ.out; omega) s (by omega)
                      have HROW2 : Hid (0 < D → FarRow M P (D - 1) (ys.set q i) D) := fun h => (hrow2.out h).set q i (fun s' hs' => by have := HQ.out; omega)
                      have hbq : Below w.heap.size w ((wq.drewN mm).setCell ⟨w.heap.size, q, none⟩ (.int .i64 i)) := (below_drewN hbw mm).setCell (by simp) _
                      by_cases hret : (n : Int) ≤ i ∧ (m : Int) ≤ i - K
                      · exfalso; omega
                      · have hlt3 : (n : Int) - m = K → i < n := fun h => by omega
                        have HLS : Hid (∀ s, s < t + 1 → 2 * (s : Int) - (D : Int) = (n : Int) - m → (ys.set q i).getD (P + 1 + 2 * s - D) 0 < n) := fun s hs hk => by
                          by_cases e : s = t
                          · subst e
                            rw [HQ.out, getD_set_self _ _ _ (by rw [hblk.out.2]; omega)]
                            exact hlt3 (by rw [HK.out]; omega)
                          · rw [List.getD_eq_getElem?_getD, List.getElem?_set_ne (by have := HQ.out; omega), ← List.getD_eq_getElem?_getD]
                            exact hls.out s (by omega) hk
                        have hcs : decide ((n : Int) ≤ i) = false := by simp; omega
                        go_wp2_with fail
                        go_quiet (fail)
                        go_wp2_with fail
                        go_roundw
                        case rel =>
                          refine ⟨t + 1, K + 2, ys.set q i, by omega, by go_num, (by show _ = _; rw [HK.out]; omega), ?_, HROW.out, HROW2.out, HLS.out, ?_⟩
                          · first | exact ⟨(hblk.out.1.drewN _).set_ q i, HNEW.out.2⟩ | exact ⟨((hblk.out.1.drewN _).drewN _).set_ q i, HNEW.out.2⟩
                          · first | exact (below_drewN hbw _).setCell (by simp) _ | exact ((below_drewN (below_drewN hbw _) _).setCell (by simp) _)
                        case measure => simp [intOf]; omega
                  · have hd2x : decide (i - K < (m : Int)) = false := by simpa using h2
                    have HMF := hide (HSH.out i.toNat (i - K).toNat (.inr (by omega)))
                    have HNM : Hid (M i.toNat (i - K).toNat = false) := HMF
                    have HFAR := hide (HST.out.fin i hi0 hrc.out HNM.out)
                    have e1 := hblk.out.1.cell (i := q) (by rw [hblk.out.2]; omega)
                    generalize ys[q]'(by rw [hblk.out.2]; omega) = yq at e1
                    have e2 := hblk.out.1.frozen q
                    have e3 : ((P : Int) + 1 + K).toNat = q := by have := HQK.out; omega
                    have e4 : (0 : Int) ≤ (P : Int) + 1 + K := by have := HQK.out; omega
                    have e5 : (P : Int) + 1 + K < 2 * (P : Int) + 3 := by have := HQK.out; omega
                    have HNEW : Hid (IBlk ((wq.drewN mm).setCell ⟨w.heap.size, q, none⟩ (.int .i64 i)) w.heap.size (ys.set q i) ∧ (ys.set q i).length = 2 * P + 3) := ⟨(hblk.out.1.drewN mm).set_ q i, by rw [List.length_set]; exact hblk.out.2⟩
                    have HROW : Hid (FarRow M P D (ys.set q i) (t + 1)) := fun s hs => by
                      by_cases e : s = t
                      · subst e
                        rw [HQ.out, getD_set_self _ _ _ (by rw [hblk.out.2]; omega), ← HK.out]
                        exact HFAR.out
                      · exact hrow1.out.set q i (fun s' hs' => by have := HQ.out; omega) s (by omega)
                    have HROW2 : Hid (0 < D → FarRow M P (D - 1) (ys.set q i) D) := fun h => (hrow2.out h).set q i (fun s' hs' => by have := HQ.out; omega)
                    have hbq : Below w.heap.size w ((wq.drewN mm).setCell ⟨w.heap.size, q, none⟩ (.int .i64 i)) := (below_drewN hbw mm).setCell (by simp) _
                    by_cases hret : (n : Int) ≤ i ∧ (m : Int) ≤ i - K
                    · exfalso; omega
                    · have hlt3 : (n : Int) - m = K → i < n := fun h => by omega
                      have HLS : Hid (∀ s, s < t + 1 → 2 * (s : Int) - (D : Int) = (n : Int) - m → (ys.set q i).getD (P + 1 + 2 * s - D) 0 < n) := fun s hs hk => by
                        by_cases e : s = t
                        · subst e
                          rw [HQ.out, getD_set_self _ _ _ (by rw [hblk.out.2]; omega)]
                          exact hlt3 (by rw [HK.out]; omega)
                        · rw [List.getD_eq_getElem?_getD, List.getElem?_set_ne (by have := HQ.out; omega), ← List.getD_eq_getElem?_getD]
                          exact hls.out s (by omega) hk
                      have hcs : decide ((n : Int) ≤ i) = false := by simp; omega
                      go_wp2_with fail
                      go_quiet (fail)
                      go_wp2_with fail
                      go_roundw
                      case rel =>
                        refine ⟨t + 1, K + 2, ys.set q i, by omega, by go_num, (by show _ = _; rw [HK.out]; omega), ?_, HROW.out, HROW2.out, HLS.out, ?_⟩
                        · first | exact ⟨(hblk.out.1.drewN _).set_ q i, HNEW.out.2⟩ | exact ⟨((hblk.out.1.drewN _).drewN _).set_ q i, HNEW.out.2⟩
                        · first | exact (below_drewN hbw _).setCell (by simp) _ | exact ((below_drewN (below_drewN hbw _) _).setCell (by simp) _)
                      case measure => simp [intOf]; omega
                · have hd1x : decide (i < (n : Int)) = false := by simpa using h1
                  have HMF := hide (HSH.out i.toNat (i - K).toNat (.inl (by omega)))
                  have HNM : Hid (M i.toNat (i - K).toNat = false) := HMF
                  have HFAR := hide (HST.out.fin i hi0 hrc.out HNM.out)
                  have e1 := hblk.out.1.cell (i := q) (by rw [hblk.out.2]; omega)
                  generalize ys[q]'(by rw [hblk.out.2]; omega) = yq at e1
                  have e2 := hblk.out.1.frozen q
                  have e3 : ((P : Int) + 1 + K).toNat = q := by have := HQK.out; omega
                  have e4 : (0 : Int) ≤ (P : Int) + 1 + K := by have := HQK.out; omega
                  have e5 : (P : Int) + 1 + K < 2 * (P : Int) + 3 := by have := HQK.out; omega
                  have HNEW : Hid (IBlk ((wq.drewN mm).setCell ⟨w.heap.size, q, none⟩ (.int .i64 i)) w.heap.size (ys.set q i) ∧ (ys.set q i).length = 2 * P + 3) := ⟨(hblk.out.1.drewN mm).set_ q i, by rw [List.length_set]; exact hblk.out.2⟩
                  have HROW : Hid (FarRow M P D (ys.set q i) (t + 1)) := fun s hs => by
                    by_cases e : s = t
                    · subst e
                      rw [HQ.out, getD_set_self _ _ _ (by rw [hblk.out.2]; omega), ← HK.out]
                      exact HFAR.out
                    · exact hrow1.out.set q i (fun s' hs' => by have := HQ.out; omega) s (by omega)
                  have HROW2 : Hid (0 < D → FarRow M P (D - 1) (ys.set q i) D) := fun h => (hrow2.out h).set q i (fun s' hs' => by have := HQ.out; omega)
                  have hbq : Below w.heap.size w ((wq.drewN mm).setCell ⟨w.heap.size, q, none⟩ (.int .i64 i)) := (below_drewN hbw mm).setCell (by simp) _
                  by_cases hret : (n : Int) ≤ i ∧ (m : Int) ≤ i - K
                  · obtain ⟨hr1, hr2⟩ := hret
                    have hcn := Rch.corner HSH.out hrc.out (show n ≤ i.toNat by omega) (show m ≤ (i - K).toNat by omega)
                    have hds := rch_dist hcn hprev.out
                    have HY := hide (HYES.out D hDP (by rw [← HT.out]; exact hds))
                    clear hcn hds
                    go_wp2_with fail
                    go_quiet (fail)
                    go_wp2_with fail
                    go_ret2
                    refine ⟨by rw [HY.out]; rfl, ?_⟩
                    first | exact (below_drewN hbw _).setCell (by simp) _ | exact ((below_drewN (below_drewN hbw _) _).setCell (by simp) _)
                  · have hlt3 : (n : Int) - m = K → i < n := fun h => by omega
                    have HLS : Hid (∀ s, s < t + 1 → 2 * (s : Int) - (D : Int) = (n : Int) - m → (ys.set q i).getD (P + 1 + 2 * s - D) 0 < n) := fun s hs hk => by
                      by_cases e : s = t
                      · subst e
                        rw [HQ.out, getD_set_self _ _ _ (by rw [hblk.out.2]; omega)]
                        exact hlt3 (by rw [HK.out]; omega)
                      · rw [List.getD_eq_getElem?_getD, List.getElem?_set_ne (by have := HQ.out; omega), ← List.getD_eq_getElem?_getD]
                        exact hls.out s (by omega) hk
                    have hcs1 : (n : Int) ≤ i := by omega
                    have hcs2 : decide ((m : Int) ≤ i - K) = false := by simp; omega
                    go_wp2_with fail
                    go_quiet (fail)
                    go_wp2_with fail
                    go_roundw
                    case rel =>
                      refine ⟨t + 1, K + 2, ys.set q i, by omega, by go_num, (by show _ = _; rw [HK.out]; omega), ?_, HROW.out, HROW2.out, HLS.out, ?_⟩
                      · first | exact ⟨(hblk.out.1.drewN _).set_ q i, HNEW.out.2⟩ | exact ⟨((hblk.out.1.drewN _).drewN _).set_ q i, HNEW.out.2⟩
                      · first | exact (below_drewN hbw _).setCell (by simp) _ | exact ((below_drewN (below_drewN hbw _) _).setCell (by simp) _)
                    case measure => simp [intOf]; omega
            · have hte : t = D + 1 := by omega
              subst hte
              have hKD : (D : Int) < K := by have := HK.out; omega
              have HNR : Hid (¬ Rch M n m D) := far_round hprev.out fun ⟨h1, h2, h3⟩ => by
                obtain ⟨s, hs⟩ : ∃ s : Nat, 2 * (s : Int) - (D : Int) = (n : Int) - m := ⟨(((n : Int) - m + D) / 2).toNat, by omega⟩
                have := hrow1.out s (by omega)
                rw [hs] at this
                exact ⟨_, this, hls.out s (by omega) hs⟩
              go_wp2_with fail
              go_roundw
              case rel => exact ⟨D + 1, ys, by omega, by go_num, hblk, (by intro _; rw [Nat.add_sub_cancel]; exact hrow1.out), (by intro _; rw [Nat.add_sub_cancel]; exact HNR.out), hbw⟩
              case measure => simp [intOf]; omega
        · have hDe : D = P + 1 := by omega
          subst hDe
          have hnr := hprev.out (by omega)
          rw [Nat.add_sub_cancel] at hnr
          have HR := hide (HNO.out (HBIG.out hnr))
          clear hnr
          go_wp2_with fail
          go_ret2
          exact ⟨by rw [HR.out]; rfl, hbe⟩
end Go.Proofs.Ytpahgpmhnpfnhaa
