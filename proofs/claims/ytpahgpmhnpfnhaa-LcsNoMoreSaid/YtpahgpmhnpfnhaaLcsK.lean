/-
  Common of both, Way of the reference.
-/
import Derived.Test.YtpahgpmhnpfnhaaLcsJ
namespace Go.Proofs.Ytpahgpmhnpfnhaa
open Go.RowKit Go.Proofs.Ytpahgpmhnpfnhaa.Lcs

set_option maxHeartbeats 2000000 in
theorem common_any (A : Option Addr) (n c : Nat) (a : List Int) (B : Option Addr) (m d : Nat) (b : List Int) (b0 : Nat) (w : World) (hn : n = a.length) (hm : m = b.length)
    (ha : Reads w b0 A (a.map (Value.int .i64))) (hb : Reads w b0 B (b.map (Value.int .i64))) (hb0 : b0 ≤ w.heap.size) (hnl : n ≤ 100000) (hml : m ≤ 100000) :
    Calls Try.prog 15 #[.slice A n c, .slice B m d] w fun e w' => e = .returned (.int .i64 (C (Lcs.mt a b) n m : Nat)) ∧ Below w.heap.size w w' := by
  have HA := hide ha
  have HB := hide hb
  have HN := hide hn
  have HM := hide hm
  clear ha hb hn hm
  go_enter Try.func15, Try.ntmps15
  go_wp2_with fail
  refine (row_any A n c a B m d b b0 _ HN.out HM.out HA.out HB.out hb0 hnl hml).mono ?_
  rintro e w1 ⟨g, rfl, -, hbk, hb1⟩
  have c0 := hbk.cell (i := m) (by rw [rowV_len]; omega)
  rw [rowV_get] at c0
  clear hbk
  generalize hT : C (Lcs.mt a b) n m = T at *
  have HT := hide hT
  clear hT
  have i1 : (m : Int) < (m : Int) + 1 := by omega
  go_wp2_with fail
  go_ret
  exact ⟨by rw [HT.out]; rfl, hb1⟩

set_option maxHeartbeats 2000000 in
theorem refCommon_any (A : Option Addr) (n c : Nat) (a : List Int) (B : Option Addr) (m d : Nat) (b : List Int) (b0 : Nat) (w : World) (hn : n = a.length) (hm : m = b.length)
    (ha : Reads w b0 A (a.map (Value.int .i64))) (hb : Reads w b0 B (b.map (Value.int .i64))) (hb0 : b0 ≤ w.heap.size) (hnl : n ≤ 100000) (hml : m ≤ 100000) :
    Calls Try.prog 13 #[.slice A n c, .slice B m d] w fun e w' => e = .returned (.int .i64 (C (Lcs.mt a b) n m : Nat)) ∧ Below w.heap.size w w' := by
  have HA := hide ha
  have HB := hide hb
  have HN := hide hn
  have HM := hide hm
  clear ha hb hn hm
  go_enter Try.func13, Try.ntmps13
  go_wp2_with fail
  refine (table_any A n c a B m d b b0 _ HN.out HM.out HA.out HB.out hb0 hnl hml).mono ?_
  rintro e w1 ⟨v, gs, rfl, ht, hb1⟩
  obtain ⟨r, cap, rfl, -, -, hrow⟩ := ht.row (by omega)
  obtain ⟨g, -, c1, hbk⟩ := hrow n (by omega)
  have c0 := hbk.cell (i := m) (by rw [rowV_len]; omega)
  rw [rowV_get] at c0
  unfold slc at c1
  clear hbk ht hrow
  generalize hT : C (Lcs.mt a b) n m = T at *
  have HT := hide hT
  clear hT
  have i1 : (m : Int) < (m : Int) + 1 := by omega
  have i2 : (n : Int) < (n : Int) + 1 := by omega
  go_wp2_with fail
  go_ret
  exact ⟨by rw [HT.out]; rfl, hb1⟩

theorem tab_step {a b : World} {base : Nat} {v : Value} {M : Nat → Nat → Bool} {m k : Nat} {gs : List Nat} (h : Hid (TabAt a base v M m k gs)) (hb : Below a.heap.size a b) : Hid (TabAt b base v M m k gs) := h.out.step hb
theorem Jof_eq (M : Nat → Nat → Bool) (n m i p : Nat) (hi : i ≤ n) (hp : p ≤ m) (hlt : ∀ j, j < p → thru M n m i j < C M n m) (he : p = m ∨ C M n m ≤ thru M n m i p) : Jof M n m i = p := by
  obtain ⟨h1, h2⟩ := Jof_is M n m i hi
  have e1 := h1.eq hi
  by_cases h : Jof M n m i < p
  · have := hlt _ h
    unfold thru at this
    omega
  · by_cases h3 : p < Jof M n m i
    · rcases he with he | he
      · have := h1.1; omega
      · exact absurd ⟨hp, he⟩ (h2 p h3)
    · omega
def wayL (M : Nat → Nat → Bool) (n m q : Nat) : List Int := (List.range q).map fun i => ((Jof M n m i : Nat) : Int)
theorem wayL_succ (M : Nat → Nat → Bool) (n m q : Nat) : wayL M n m (q + 1) = wayL M n m q ++ [((Jof M n m q : Nat) : Int)] := by
  simp [wayL, List.range_succ]
theorem wayL_len (M : Nat → Nat → Bool) (n m q : Nat) : (wayL M n m q).length = q := by simp [wayL]

set_option maxRecDepth 100000 in
set_option maxHeartbeats 8000000 in
theorem way_any (A : Option Addr) (n c : Nat) (a : List Int) (B : Option Addr) (m d : Nat) (b : List Int) (b0 : Nat) (w : World) (hn : n = a.length) (hm : m = b.length)
    (ha : Reads w b0 A (a.map (Value.int .i64))) (hb : Reads w b0 B (b.map (Value.int .i64))) (hb0 : b0 ≤ w.heap.size) (hnl : n ≤ 100000) (hml : m ≤ 100000) :
    Calls Try.prog 22 #[.slice A n c, .slice B m d] w fun e w' => ∃ A' c', e = .returned (.slice A' (n + 1) c') ∧ Reads w' w'.heap.size A' ((wayL (Lcs.mt a b) n m (n + 1)).map (Value.int .i64)) ∧ Below w.heap.size w w' := by
  obtain ⟨i0, hi, hz0, hz1, hz2⟩ := info_parts infoInt
  have HN := hide hn
  have HM := hide hm
  have HNR : Hid (n = a.reverse.length) := by show _ = _; rw [List.length_reverse]; exact hn
  have HMR : Hid (m = b.reverse.length) := by show _ = _; rw [List.length_reverse]; exact hm
  have HTH : Hid (∀ q p, q ≤ n → p ≤ m → C (Lcs.mt a.reverse b.reverse) (n - q) (m - p) = C (sh (Lcs.mt a b) q p) (n - q) (m - p)) := fun q p hq hp => by
    rw [C_rev a b _ _ (by omega) (by omega), ← hn, ← hm, show n - (n - q) = q from by omega, show m - (m - p) = p from by omega]
  have hW : Below w.heap.size w w := Below.refl w.heap.size w
  have HA := up_rd (hide ha) hb0
  have HB := up_rd (hide hb) hb0
  clear ha hb hn hm
  go_enter Try.func22, Try.ntmps22
  go_wp2_with fail
  refine (table_any A n c a B m d b _ _ HN.out HM.out HA.out HB.out (Nat.le_refl _) hnl hml).mono ?_
  rintro e wa ⟨v1, gs1, rfl, ht1, hb1⟩
  obtain ⟨r1, cap1, rfl, -, -, -⟩ := ht1.row (by omega)
  have hW := below_step hW hb1
  have HA := rd_step HA hb1
  have HB := rd_step HB hb1
  have T1 := hide ht1
  clear ht1 hb1
  go_wp2_with fail
  refine (refTurned_any A n c a _ _ HN.out HA.out (Nat.le_refl _) hnl).mono ?_
  rintro e wb ⟨A1, c1, rfl, f1, hb2⟩
  have hW := below_step hW hb2
  have HA := rd_step HA hb2
  have HB := rd_step HB hb2
  have T1 := tab_step T1 hb2
  have R1 := hide f1
  clear f1 hb2
  go_wp2_with fail
  refine (refTurned_any B m d b _ _ HM.out HB.out (Nat.le_refl _) hml).mono ?_
  rintro e wc ⟨A2, c2, rfl, f2, hb3⟩
  have hW := below_step hW hb3
  have HA := rd_step HA hb3
  have HB := rd_step HB hb3
  have T1 := tab_step T1 hb3
  have R1 := rd_step R1 hb3
  have R2 := hide f2
  clear f2 hb3
  go_wp2_with fail
  refine (table_any A1 n c1 a.reverse A2 m c2 b.reverse _ _ HNR.out HMR.out R1.out R2.out (Nat.le_refl _) hnl hml).mono ?_
  rintro e wd ⟨v2, gs2, rfl, ht2, hb4⟩
  obtain ⟨r2, cap2, rfl, -, -, -⟩ := ht2.row (by omega)
  have hW := below_step hW hb4
  have T1 := tab_step T1 hb4
  have T2 := hide ht2
  clear ht2 hb4 R1 R2 HA HB
  go_wp2_with fail
  go_loopw [7, 8] (fun v i wr => ∃ q : Nat, q ≤ n + 1 ∧ i = .int .i64 q ∧ wr.ownsRow wd.heap.size 3 1 v q ((wayL (Lcs.mt a b) n m q).map (Value.int .i64)) ∧ Below wd.heap.size wd wr) (fun _ i _ => n + 1 - (intOf i).toNat)
  case atStart => exact ⟨0, by omega, rfl, by simpa [wayL] using World.ownsRow_nil _ _ _ _, Below.refl _ _⟩
  case round =>
    obtain ⟨q, hq, rfl, hown, hbe⟩ := hrel
    by_cases hlt : q ≤ n
    · have T1' := tab_step T1 hbe
      have T2' := tab_step T2 hbe
      have HOWN := hide hown
      have HJE := hide (fun (p : Nat) => Jof_eq (Lcs.mt a b) n m q p hlt)
      have HWS := hide (wayL_succ (Lcs.mt a b) n m q)
      clear hown
      go_wp2_with fail
      obtain ⟨wo, rfl⟩ : ∃ wo : World, wo = wr := ⟨_, rfl⟩
      go_loopw [9] (fun j wr' => ∃ p k : Nat, p ≤ m ∧ j = .int .i64 p ∧ Hid (∀ x, x < p → thru (Lcs.mt a b) n m q x < C (Lcs.mt a b) n m) ∧ wr' = wo.drewN k) (fun j _ => m - (intOf j).toNat)
      case atStart => exact ⟨0, 0, by omega, rfl, fun x hx => by omega, rfl⟩
      case round =>
        obtain ⟨p, k, hp, rfl, hno, rfl⟩ := hrel
        have HNEW : Hid (∀ K : Nat, ∀ j u, ([((p : Nat) : Int)].map (Value.int .i64))[j]? = some u → ∃ ad, some (⟨wo.heap.size, 0, none⟩ : Addr) = some ad ∧ ((wo.drewN K).alloc (.cells #[.int .i64 (p : Int)] 3)).cell? (ad.add j) = some u) := fun K j u hu => by
          refine ⟨_, rfl, ?_⟩
          have hB := (Blk.new (wo.drewN K) 3 #[.int .i64 (p : Int)])
          rw [show (wo.drewN K).heap.size = wo.heap.size from rfl] at hB
          rw [add_lit, Nat.zero_add, hB.cell]
          simpa using hu
        have HDONE : Hid (p = m ∨ C (Lcs.mt a b) n m ≤ thru (Lcs.mt a b) n m q p → Jof (Lcs.mt a b) n m q = p) := fun h => HJE.out p hp hno.out h
        by_cases hlt2 : p < m
        · obtain ⟨rr, cc, hv1, -, -, row1⟩ := T1'.out.row (by omega)
          injection hv1 with hv1 _ hcc1
          subst hcc1
          injection hv1 with hv1
          injection hv1 with hv1 _ _
          subst hv1
          obtain ⟨ga, -, ea1, ea2⟩ := row1 q (by omega)
          obtain ⟨gn, -, en1, en2⟩ := row1 n (by omega)
          clear row1
          obtain ⟨rr2, cc2, hv2, -, -, row2⟩ := T2'.out.row (by omega)
          injection hv2 with hv2 _ hcc2
          subst hcc2
          injection hv2 with hv2
          injection hv2 with hv2 _ _
          subst hv2
          obtain ⟨gb, -, eb1, eb2⟩ := row2 (n - q) (by omega)
          clear row2
          have fa := ea2.cell (i := p) (by rw [rowV_len]; omega)
          have fn := en2.cell (i := m) (by rw [rowV_len]; omega)
          have fb := eb2.cell (i := m - p) (by rw [rowV_len]; omega)
          rw [rowV_get] at fa fn fb
          rw [HTH.out q p hlt hp] at fb
          have HTR : Hid (thru (Lcs.mt a b) n m q p = C (Lcs.mt a b) q p + C (sh (Lcs.mt a b) q p) (n - q) (m - p)) := rfl
          have b1 := C_le_j (Lcs.mt a b) q p
          have b2 := C_le_j (sh (Lcs.mt a b) q p) (n - q) (m - p)
          unfold slc at ea1 en1 eb1
          clear ea2 en2 eb2
          have HNX : Hid (thru (Lcs.mt a b) n m q p < C (Lcs.mt a b) n m → ∀ x, x < p + 1 → thru (Lcs.mt a b) n m q x < C (Lcs.mt a b) n m) := fun h x hx => by
            by_cases e : x = p
            · subst e; exact h
            · exact hno.out x (by omega)
          rw [HTR.out] at HDONE HNX
          generalize C (Lcs.mt a b) q p = u at *
          generalize C (sh (Lcs.mt a b) q p) (n - q) (m - p) = v at *
          generalize hTT : C (Lcs.mt a b) n m = T at *
          have HTT := hide hTT
          clear hTT
          have i1 : ((n : Int) - (q : Int)).toNat = n - q := by omega
          have i2 : ((m : Int) - (p : Int)).toNat = m - p := by omega
          have i3 : (0 : Int) ≤ (n : Int) - (q : Int) := by omega
          have i4 : (0 : Int) ≤ (m : Int) - (p : Int) := by omega
          have i5 : (n : Int) - (q : Int) < (n : Int) + 1 := by omega
          have i6 : (m : Int) - (p : Int) < (m : Int) + 1 := by omega
          have i7 : (q : Int) < (n : Int) + 1 := by omega
          have i8 : (p : Int) < (m : Int) + 1 := by omega
          have i9 : (n : Int) < (n : Int) + 1 := by omega
          have i10 : (m : Int) < (m : Int) + 1 := by omega
          have i11 : (p : Int) < (m : Int) := by omega
          by_cases hcmp : u + v < T
          · have HNXX := hide (HNX.out hcmp)
            go_wp2_with fail
            go_quiet (fail)
            go_wp2_with fail
            go_roundw
            case rel => exact ⟨p + 1, _, by omega, by go_num, HNXX.out, rfl⟩
            case measure => simp [intOf]; omega
          · have HJ := hide (HDONE.out (.inr (by omega)))
            have hdc : decide (((u : Nat) : Int) + (v : Int) < (T : Int)) = false := by simp; omega
            go_wp2_with fail
            go_quiet (fail)
            go_wp2_with (at_builtin; refine wpList_append_any _ rfl (.tmp 63) (.tmp 65) _ rfl wd.heap.size 3 i0 _ 1 8 Try.underlying22 hi hz0 hz1 hz2 rfl (by decide) _ q _ rfl ((ownsRow_drewN HOWN.out _).alloc _) (some ⟨wo.heap.size, 0, none⟩) 1 1 ([((p : Nat) : Int)].map (Value.int .i64)) rfl rfl (HNEW.out _) (ints_oneCell _ _) (by unfold maxLen; omega) (by omega) (by have := hbe.size; simp; omega) ?_; intro v3 w2 hown2 hg2 hat2)
            go_roundw
            case rel =>
              refine ⟨q + 1, by omega, by go_num, ?_, ((below_drewN hbe _).alloc (by have := hbe.size; simp; omega) _).grown hg2 (by have := hbe.size; simp; omega) (fun b hb => (HOWN.out.lt b hb).1)⟩
              rw [HWS.out, HJ.out, List.map_append]
              exact hown2
            case measure => simp [intOf]; omega
        · have hpe : p = m := by omega
          subst hpe
          have HJ := hide (HDONE.out (.inl rfl))
          go_wp2_with fail
          go_quiet (fail)
          go_wp2_with (at_builtin; refine wpList_append_any _ rfl (.tmp 63) (.tmp 65) _ rfl wd.heap.size 3 i0 _ 1 8 Try.underlying22 hi hz0 hz1 hz2 rfl (by decide) _ q _ rfl ((ownsRow_drewN HOWN.out _).alloc _) (some ⟨wo.heap.size, 0, none⟩) 1 1 ([((p : Nat) : Int)].map (Value.int .i64)) rfl rfl (HNEW.out _) (ints_oneCell _ _) (by unfold maxLen; omega) (by omega) (by have := hbe.size; simp; omega) ?_; intro v3 w2 hown2 hg2 hat2)
          go_roundw
          case rel =>
            refine ⟨q + 1, by omega, by go_num, ?_, ((below_drewN hbe _).alloc (by have := hbe.size; simp; omega) _).grown hg2 (by have := hbe.size; simp; omega) (fun b hb => (HOWN.out.lt b hb).1)⟩
            rw [HWS.out, HJ.out, List.map_append]
            exact hown2
          case measure => simp [intOf]; omega
    · have hqe : q = n + 1 := by omega
      subst hqe
      go_wp2_with fail
      go_ret
      obtain ⟨A', c', hv, hle, hA'⟩ := ownsRow_slice hown
      exact ⟨A', c', by rw [← hv]; rfl, Reads.of_own hown hv, below_step hW hbe⟩
end Go.Proofs.Ytpahgpmhnpfnhaa
