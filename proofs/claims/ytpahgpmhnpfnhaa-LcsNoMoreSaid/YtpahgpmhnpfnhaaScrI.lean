/-
  Normal of the reference.
-/
import Derived.Test.YtpahgpmhnpfnhaaScrH
namespace Go.Proofs.Ytpahgpmhnpfnhaa
open Go.RowKit Go.Proofs.Ytpahgpmhnpfnhaa.Scr

def LastK (l : List Step) : Prop := l = [] ∨ ∃ k y, l = k ++ [((0 : Int), (y : Int))]
def Inv (t : St) : Prop := (t.K = 0 → LastK t.out) ∧ (t.K = 0 → t.D = 0 → t.I = 0 → t.out = [])
theorem Inv.stp {t : St} (h : Inv t) (hk : 0 ≤ t.K ∧ 0 ≤ t.D ∧ 0 ≤ t.I) (s : Step) : Inv (stp t s) := by
  unfold Scr.stp
  cases hs : okS s
  · rw [if_neg (by decide)]; exact h
  · rw [if_pos rfl]
    have ho := (okS_iff s).1 hs
    have hl : LastK (t.out ++ fl 0 t.K) := by
      by_cases h0 : t.K = 0
      · rw [h0, fl_0, List.append_nil]; exact h.1 h0
      · rw [fl_pos _ _ (by omega)]; exact .inr ⟨_, _, rfl⟩
    by_cases h0 : s.1 = 0
    · rw [if_pos h0]
      exact ⟨fun hz => by simp only at hz; omega, fun hz => by simp only at hz; omega⟩
    · rw [if_neg h0]
      by_cases h1 : s.1 = 1
      · rw [if_pos h1]
        exact ⟨fun _ => hl, fun _ hz => by simp only at hz; omega⟩
      · rw [if_neg h1]
        exact ⟨fun _ => hl, fun _ _ hz => by simp only at hz; omega⟩
theorem runS_inv (l : List Step) (k : Nat) (h : k ≤ l.length) : Inv (runS (l.take k)) := by
  induction k with
  | zero => exact ⟨fun _ => .inl rfl, fun _ _ _ => rfl⟩
  | succ k ih =>
    rw [runS_take l k (by omega)]
    have hb := runS_bd_take l k (by omega)
    exact (ih (by omega)).stp ⟨hb.k0, hb.d0, hb.i0⟩ _
theorem putS_last {l : List Step} (h : LastK l) (a b : Int) (ha : a ≠ 0) (hb : 0 ≤ b) : putS l (a, b) = l ++ fl a b := by
  by_cases h0 : b = 0
  · subst h0
    rw [fl_0, List.append_nil]
    rfl
  · rw [fl_pos _ _ (by omega)]
    rcases h with rfl | ⟨k, y, rfl⟩
    · rw [putS_nil _ _ h0]; rfl
    · rw [putS_snoc _ _ _ _ _ h0, if_neg (fun e => ha e.symm)]
theorem putS_one (l : List Step) (x y a b : Int) (hx : x ≠ a) (hb : 0 ≤ b) : putS (l ++ [(x, y)]) (a, b) = l ++ [(x, y)] ++ fl a b := by
  by_cases h0 : b = 0
  · subst h0
    rw [fl_0, List.append_nil]
    rfl
  · rw [fl_pos _ _ (by omega), putS_snoc _ _ _ _ _ h0, if_neg hx]
theorem flushR {t : St} (hi : Inv t) (hk : 0 ≤ t.K ∧ 0 ≤ t.D ∧ 0 ≤ t.I) (h1 : t.K = 0 ∨ (t.D = 0 ∧ t.I = 0)) :
    putS (putS (outR t) (1, t.D)) (2, t.I) = t.out ++ fl 0 t.K ++ fl 1 t.D ++ fl 2 t.I := by
  unfold outR
  rcases h1 with h1 | ⟨h1, h2⟩
  · have hl := hi.1 h1
    rw [h1, fl_0, List.append_nil, putS_last hl 1 t.D (by decide) hk.2.1]
    by_cases hd : t.D = 0
    · rw [hd, fl_0, List.append_nil, putS_last hl 2 t.I (by decide) hk.2.2]
    · rw [fl_pos 1 t.D (by omega), putS_one _ _ _ _ _ (by decide) hk.2.2]
  · rw [h1, h2, fl_0, fl_0, List.append_nil, List.append_nil]
    rfl
theorem keepR {t : St} (hi : Inv t) (hk : 0 ≤ t.K ∧ 0 ≤ t.D ∧ 0 ≤ t.I) (h1 : t.K = 0 ∨ (t.D = 0 ∧ t.I = 0)) (b : Int) (hb : 1 ≤ b) :
    putS (t.out ++ fl 0 t.K ++ fl 1 t.D ++ fl 2 t.I) (0, b) = t.out ++ fl 1 t.D ++ fl 2 t.I ++ fl 0 (t.K + b) := by
  rw [fl_pos 0 (t.K + b) (by omega)]
  by_cases hI : t.I = 0
  · by_cases hD : t.D = 0
    · rw [hI, hD, fl_0, fl_0, List.append_nil, List.append_nil, List.append_nil, List.append_nil]
      by_cases hK : t.K = 0
      · rw [hK, hi.2 hK hD hI, fl_0, List.append_nil, putS_nil _ _ (by omega)]
        simp
      · rw [fl_pos 0 t.K (by omega), putS_snoc _ _ _ _ _ (by omega), if_pos rfl]
    · have hK : t.K = 0 := by omega
      rw [hI, hK, fl_0, fl_0, List.append_nil, List.append_nil, List.append_nil, fl_pos 1 t.D (by omega), putS_snoc _ _ _ _ _ (by omega), if_neg (by decide)]
      simp
  · have hK : t.K = 0 := by omega
    rw [hK, fl_0, List.append_nil, fl_pos 2 t.I (by omega), putS_snoc _ _ _ _ _ (by omega), if_neg (by decide)]
    simp
theorem putS_len (l : List Step) (s : Step) : (putS l s).length ≤ l.length + 1 := by
  obtain ⟨a, b⟩ := s
  by_cases h0 : b = 0
  · subst h0; rw [putS_zero]; omega
  · rcases dropLast_or l with rfl | ⟨k, x, y, rfl⟩
    · rw [putS_nil _ _ h0]; simp
    · rw [putS_snoc _ _ _ _ _ h0]
      split <;> simp
theorem putS_vals (l : List Step) (a b m : Int) (h : ∀ s ∈ l, 0 ≤ s.2 ∧ s.2 ≤ m) (hb : 0 ≤ b ∧ b ≤ m) : ∀ s ∈ putS l (a, b), 0 ≤ s.2 ∧ s.2 ≤ m + b := by
  intro s hs
  by_cases h0 : b = 0
  · subst h0
    rw [putS_zero] at hs
    have := h s hs
    omega
  · rcases dropLast_or l with rfl | ⟨k, x, y, rfl⟩
    · rw [putS_nil _ _ h0] at hs
      simp only [List.mem_cons, List.not_mem_nil, or_false] at hs
      subst hs
      simp only
      omega
    · rw [putS_snoc _ _ _ _ _ h0] at hs
      have hy := h (x, y) (by simp)
      simp only at hy
      split at hs
      · simp only [List.mem_append, List.mem_cons, List.not_mem_nil, or_false] at hs
        rcases hs with hs | hs
        · have := h s (by simp [hs]); omega
        · subst hs; simp only; omega
      · simp only [List.mem_append, List.mem_cons, List.not_mem_nil, or_false] at hs
        rcases hs with (hs | hs) | hs
        · have := h s (by simp [hs]); omega
        · subst hs; simp only; omega
        · subst hs; simp only; omega
theorem outR_vals {t : St} {n : Nat} (h : t.Bd n) : ∀ s ∈ outR t, 0 ≤ s.2 ∧ s.2 ≤ 1048576 * n := by
  intro s hs
  unfold outR at hs
  rcases List.mem_append.1 hs with hs | hs
  · have := h.vals s hs; omega
  · have := fl_mem _ _ _ hs
    have h1 := h.le
    have h2 := h.d0
    have h3 := h.i0
    omega
theorem outR_len {t : St} {n : Nat} (h : t.Bd n) : (outR t).length ≤ 3 * n + 1 := by
  unfold outR
  rw [List.length_append]
  have := fl_len 0 t.K
  have := h.len
  omega

theorem rowL_ge {w : World} {base : Nat} {e : TypeId} {size n : Nat} {v : Value} {xs : List Value} (h : w.ownsRow base e size v n xs) : ∀ b ∈ rowL v, base ≤ b := fun b hb => by
  refine (h.lt b ?_).1
  unfold rowL at hb
  split at hb
  · rename_i g hg
    rw [List.mem_singleton.1 hb]
    exact hg
  · simp at hb

set_option maxRecDepth 100000 in
set_option maxHeartbeats 4000000 in
theorem refNormal_any (A : Option Addr) (n c b0 : Nat) (l : List Step) (w : World) (hn : n = l.length) (hx : Reads w b0 A (stepCells l)) (hb0 : b0 ≤ w.heap.size) (hs : n ≤ 300000) :
    Calls Try.prog 23 #[.slice A n c] w (StepsPost 50 (nrm l) w) := by
  have HX := hide hx
  have HN := hide hn
  clear hx hn
  go_enter Try.func23, Try.ntmps23
  go_wp2_with fail
  go_loopw [3, 4, 5, 6] (fun v x y i wr => ∃ (q : Nat) (L : List Step) (D I : Int), q ≤ n + 1 ∧ i = .int .i64 q ∧ x = .int .i64 D ∧ y = .int .i64 I ∧ 0 ≤ D ∧ D ≤ 1048576 * q ∧ 0 ≤ I ∧ I ≤ 1048576 * q ∧ Hid (wr.ownsRow w.heap.size 50 2 v L.length (stepCells L)) ∧ Below w.heap.size w wr ∧ Hid ((q ≤ n → L = outR (runS (l.take q)) ∧ D = (runS (l.take q)).D ∧ I = (runS (l.take q)).I) ∧ (q = n + 1 → L = nrm l))) (fun _ _ _ i _ => n + 1 - (intOf i).toNat)
  case atStart =>
    exact ⟨0, [], 0, 0, by omega, rfl, rfl, rfl, by omega, by omega, by omega, by omega, World.ownsRow_nil _ _ _ _, Below.refl _ _, ⟨fun _ => ⟨rfl, rfl, rfl⟩, fun h => by omega⟩⟩
  case round =>
    obtain ⟨q, L, D, I, hq, rfl, rfl, rfl, hD0, hD1, hI0, hI1, hown, hbe, hst⟩ := hrel
    by_cases hlt : q < n
    · have hl1 : q < l.length := by rw [← HN.out]; exact hlt
      obtain ⟨bx, ox, rfl, hbx, c0, c1⟩ := (HX.out.below hbe hb0).stepAt hl1
      have HST := hide (runS_take l q hl1)
      have hbd := runS_bd_take l q (by omega)
      have hinv := runS_inv l q (by omega)
      obtain ⟨hL, hD, hI⟩ := hst.out.1 (by omega)
      have HSTN : Hid (∀ L' D' I', L' = outR (runS (l.take (q + 1))) → D' = (runS (l.take (q + 1))).D → I' = (runS (l.take (q + 1))).I → ((q + 1 ≤ n → L' = outR (runS (l.take (q + 1))) ∧ D' = (runS (l.take (q + 1))).D ∧ I' = (runS (l.take (q + 1))).I) ∧ (q + 1 = n + 1 → L' = nrm l))) := fun L' D' I' h1 h2 h3 => ⟨fun _ => ⟨h1, h2, h3⟩, fun h => by omega⟩
      clear hst
      generalize l[q] = s at *
      generalize runS (l.take q) = t at *
      obtain ⟨s1, s2⟩ := s
      simp only at c0 c1
      have hbr : bx < wr.heap.size := by have := hbe.size; omega
      have HBD := hide hbd
      have HINV := hide hinv
      have HL := hide hL
      have HD := hide hD
      have HI := hide hI
      clear hbd hinv hL hD hI
      go_wp2_with fail
      refine (refRight_any s1 s2 _).mono ?_
      rintro e w1 ⟨rfl, hb1⟩
      have hbe1 : Below w.heap.size w w1 := hbe.trans (hb1.mono hbe.size)
      have d0 := (hb1.cell (p := ⟨bx, ox + q * 2, none⟩) hbr).trans c0
      have d1 := (hb1.cell (p := ⟨bx, ox + q * 2 + 1, none⟩) hbr).trans c1
      have hown1 := hide (ownsRow_below hown.out hb1)
      clear c0 c1
      cases hok : okS (s1, s2)
      · have HOK := hide (stp_no t _ hok)
        clear hok
        go_wp2_with fail
        go_roundw
        case rel =>
          exact ⟨q + 1, L, D, I, by omega, by go_num, rfl, rfl, by omega, by omega, by omega, by omega, hown1.out, hbe1, HSTN.out _ _ _ (by rw [HST.out, HOK.out]; exact HL.out) (by rw [HST.out, HOK.out]; exact HD.out) (by rw [HST.out, HOK.out]; exact HI.out)⟩
        case measure => simp [intOf]; omega
      · have hb := (okS_iff _).1 hok
        simp only at hb
        rcases (show s1 = 0 ∨ s1 = 1 ∨ s1 = 2 by omega) with rfl | rfl | rfl
        · have HOK := hide (stp_keep t s2 hok)
          clear hok
          have hvL : Hid (∀ s ∈ L, 0 ≤ s.2 ∧ s.2 ≤ 1048576 * (q : Int)) := by rw [HL.out]; exact outR_vals HBD.out
          have hlL : L.length ≤ 3 * q + 1 := by rw [HL.out]; exact outR_len HBD.out
          go_wp2_with fail
          have hvl : ∀ s ∈ L, 0 ≤ s.2 ∧ s.2 ≤ 314572800000 := fun s hs => by
            have := hvL.out s hs
            omega
          have hvl2 := putS_vals L 1 D 314572800000 hvl (by omega)
          have hln2 := putS_len L (1, D)
          have hvl3 := putS_vals (putS L (1, D)) 2 I 629145600000 (fun s hs => by have := hvl2 s hs; omega) (by omega)
          have hln3 := putS_len (putS L (1, D)) (2, I)
          have HVL := hide hvl
          have HVL2 := hide hvl2
          have HVL3 := hide hvl3
          clear hvl hvl2 hvl3
          refine (put_any w.heap.size u3 L 1 D _ hown1.out hbe1.size (by omega) (by omega) (fun s hs => by have := HVL.out s hs; omega)).mono ?_
          rintro e w2 ⟨v2, rfl, hown2, hon2⟩
          have hbe2 : Below w.heap.size w w2 := hbe1.trans (hon2.to_below (rowL_ge hown1.out) hbe1.size)
          have HW2 := hide hown2
          have HO2 := hide hon2
          clear hown2 hon2
          go_wp2_with fail
          refine (put_any w.heap.size v2 (putS L (1, D)) 2 I _ HW2.out hbe2.size (by omega) (by omega) (fun s hs => by have := HVL2.out s hs; omega)).mono ?_
          rintro e w3 ⟨v3, rfl, hown3, hon3⟩
          have hbe3 : Below w.heap.size w w3 := hbe2.trans (hon3.to_below (rowL_ge HW2.out) hbe2.size)
          have HW3 := hide hown3
          have HO3 := hide hon3
          clear hown3 hon3
          have f0 := (HO3.out.cell (g := bx) (o := ox + q * 2) (by have := hbe2.size; omega) (fun h => by have := rowL_ge HW2.out _ h; omega)).trans ((HO2.out.cell (g := bx) (o := ox + q * 2) (by have := hbe1.size; omega) (fun h => by have := rowL_ge hown1.out _ h; omega)).trans d0)
          have f1 := (HO3.out.cell (g := bx) (o := ox + q * 2 + 1) (by have := hbe2.size; omega) (fun h => by have := rowL_ge HW2.out _ h; omega)).trans ((HO2.out.cell (g := bx) (o := ox + q * 2 + 1) (by have := hbe1.size; omega) (fun h => by have := rowL_ge hown1.out _ h; omega)).trans d1)
          clear d0 d1
          go_wp2_with fail
          refine (put_any w.heap.size v3 (putS (putS L (1, D)) (2, I)) 0 s2 _ HW3.out hbe3.size (by omega) (by omega) (fun s hs => by have := HVL3.out s hs; omega)).mono ?_
          rintro e w4 ⟨v4, rfl, hown4, hon4⟩
          have hbe4 : Below w.heap.size w w4 := hbe3.trans (hon4.to_below (rowL_ge HW3.out) hbe3.size)
          have HW4 := hide hown4
          clear hown4 hon4
          have HKR : Hid (putS (putS (putS L (1, D)) (2, I)) (0, s2) = outR (stp t (0, s2))) := by
            show _ = _
            have hb := HBD.out
            rw [HL.out, HD.out, HI.out, flushR HINV.out ⟨hb.k0, hb.d0, hb.i0⟩ hb.one, keepR HINV.out ⟨hb.k0, hb.d0, hb.i0⟩ hb.one s2 (by omega), HOK.out]
            rfl
          go_wp2_with fail
          go_roundw
          case rel =>
            refine ⟨q + 1, _, 0, 0, by omega, by go_num, rfl, rfl, by omega, by omega, by omega, by omega, HW4.out, hbe4, HSTN.out _ _ _ ?_ ?_ ?_⟩
            · rw [HST.out]; exact HKR.out
            · rw [HST.out, HOK.out]
            · rw [HST.out, HOK.out]
          case measure => simp [intOf]; omega
        · have HOK := hide (stp_del t s2 hok)
          clear hok
          go_wp2_with fail
          go_roundw
          case rel =>
            refine ⟨q + 1, L, D + s2, I, by omega, by go_num, rfl, rfl, by omega, by omega, by omega, by omega, hown1.out, hbe1, HSTN.out _ _ _ ?_ ?_ ?_⟩
            · rw [HST.out, HOK.out, HL.out]
              show _ = (t.out ++ fl 0 t.K) ++ fl 0 0
              rw [fl_0, List.append_nil]
              rfl
            · rw [HST.out, HOK.out, HD.out]
              rfl
            · rw [HST.out, HOK.out, HI.out]
              rfl
          case measure => simp [intOf]; omega
        · have HOK := hide (stp_ins t s2 hok)
          clear hok
          go_wp2_with fail
          go_roundw
          case rel =>
            refine ⟨q + 1, L, D, I + s2, by omega, by go_num, rfl, rfl, by omega, by omega, by omega, by omega, hown1.out, hbe1, HSTN.out _ _ _ ?_ ?_ ?_⟩
            · rw [HST.out, HOK.out, HL.out]
              show _ = (t.out ++ fl 0 t.K) ++ fl 0 0
              rw [fl_0, List.append_nil]
              rfl
            · rw [HST.out, HOK.out, HD.out]
              rfl
            · rw [HST.out, HOK.out, HI.out]
              rfl
          case measure => simp [intOf]; omega
    · by_cases hqe : q = n
      · subst hqe
        obtain ⟨hL, hD, hI⟩ := hst.out.1 (by omega)
        rw [show l.take q = l from List.take_of_length_le (by rw [HN.out]; exact Nat.le_refl _)] at hL hD hI
        have hbd := runS_bd l
        rw [← HN.out] at hbd
        have hinv := runS_inv l q (by rw [HN.out]; exact Nat.le_refl _)
        rw [show l.take q = l from List.take_of_length_le (by rw [HN.out]; exact Nat.le_refl _)] at hinv
        have HNR : Hid (nrm l = fin (runS l)) := rfl
        clear hst
        generalize runS l = t at *
        have HBD := hide hbd
        have HINV := hide hinv
        have HL := hide hL
        have HD := hide hD
        have HI := hide hI
        clear hbd hinv hL hD hI
        have hvL : Hid (∀ s ∈ L, 0 ≤ s.2 ∧ s.2 ≤ 1048576 * (q : Int)) := by rw [HL.out]; exact outR_vals HBD.out
        have hlL : L.length ≤ 3 * q + 1 := by rw [HL.out]; exact outR_len HBD.out
        obtain ⟨w1, hw1⟩ : ∃ w1, w1 = wr := ⟨_, rfl⟩
        have hown1 : Hid (w1.ownsRow w.heap.size 50 2 u3 L.length (stepCells L)) := by rw [hw1]; exact hown
        have hbe1 : Below w.heap.size w w1 := by rw [hw1]; exact hbe
        subst hw1
        clear hown hbe
        go_wp2_with fail
        have hvl : ∀ s ∈ L, 0 ≤ s.2 ∧ s.2 ≤ 314572800000 := fun s hs => by
          have := hvL.out s hs
          omega
        have hvl2 := putS_vals L 1 D 314572800000 hvl (by omega)
        have hln2 := putS_len L (1, D)
        have hvl3 := putS_vals (putS L (1, D)) 2 I 629145600000 (fun s hs => by have := hvl2 s hs; omega) (by omega)
        have hln3 := putS_len (putS L (1, D)) (2, I)
        have HVL := hide hvl
        have HVL2 := hide hvl2
        have HVL3 := hide hvl3
        clear hvl hvl2 hvl3
        refine (put_any w.heap.size u3 L 1 D _ hown1.out hbe1.size (by omega) (by omega) (fun s hs => by have := HVL.out s hs; omega)).mono ?_
        rintro e w2 ⟨v2, rfl, hown2, hon2⟩
        have hbe2 : Below w.heap.size w w2 := hbe1.trans (hon2.to_below (rowL_ge hown1.out) hbe1.size)
        have HW2 := hide hown2
        have HO2 := hide hon2
        clear hown2 hon2
        go_wp2_with fail
        refine (put_any w.heap.size v2 (putS L (1, D)) 2 I _ HW2.out hbe2.size (by omega) (by omega) (fun s hs => by have := HVL2.out s hs; omega)).mono ?_
        rintro e w3 ⟨v3, rfl, hown3, hon3⟩
        have hbe3 : Below w.heap.size w w3 := hbe2.trans (hon3.to_below (rowL_ge HW2.out) hbe2.size)
        have HW3 := hide hown3
        have HO3 := hide hon3
        clear hown3 hon3
        have HKR : Hid (putS (putS L (1, D)) (2, I) = nrm l) := by
          show _ = _
          have hb := HBD.out
          rw [HL.out, HD.out, HI.out, flushR HINV.out ⟨hb.k0, hb.d0, hb.i0⟩ hb.one, HNR.out]
          rfl
        go_wp2_with fail
        go_roundw
        case rel =>
          exact ⟨q + 1, _, 0, 0, by omega, by go_num, rfl, rfl, by omega, by omega, by omega, by omega, HW3.out, hbe3, ⟨fun h => by omega, fun _ => HKR.out⟩⟩
        case measure => first | (simp [intOf]; done) | (simp [intOf]; omega)
      · have hqe : q = n + 1 := by omega
        subst hqe
        have HR := hide (hst.out.2 rfl)
        clear hst
        go_wp2_with fail
        go_ret
        refine ⟨hbe, _, rfl, ?_⟩
        rw [← HR.out]
        exact hown.out
end Go.Proofs.Ytpahgpmhnpfnhaa
