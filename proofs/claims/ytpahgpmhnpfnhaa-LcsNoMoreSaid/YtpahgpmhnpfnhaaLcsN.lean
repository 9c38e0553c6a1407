/-
  Diff of the reference.
-/
import Derived.Test.YtpahgpmhnpfnhaaLcsL
namespace Go.Proofs.Ytpahgpmhnpfnhaa
open Go.RowKit Go.Proofs.Ytpahgpmhnpfnhaa.Lcs Go.Proofs.Ytpahgpmhnpfnhaa.Scr

def wayR (M : Nat → Nat → Bool) (n m q : Nat) : List Step := (2, ((Jof M n m 0 : Nat) : Int)) :: rowsS (Jof M n m) q
theorem wayR_succ (M : Nat → Nat → Bool) (n m q : Nat) : wayR M n m (q + 1) = wayR M n m q ++ rowS (Jof M n m q) (Jof M n m (q + 1)) := by
  unfold wayR
  rw [rowsS_succ, List.cons_append]
theorem wayR_len (M : Nat → Nat → Bool) (n m q : Nat) : (wayR M n m q).length ≤ 2 * q + 1 := by
  induction q with
  | zero => simp [wayR, rowsS]
  | succ q ih =>
    rw [wayR_succ, List.length_append]
    have : (rowS (Jof M n m q) (Jof M n m (q + 1))).length ≤ 2 := by unfold rowS; split <;> simp
    omega
theorem way_diff (a b : List Int) : nrm (wayR (Lcs.mt a b) a.length b.length a.length ++ [(2, ((b.length - Jof (Lcs.mt a b) a.length b.length a.length : Nat) : Int))]) = diffL a b := by
  unfold diffL
  refine Eqv.nrm ?_
  have h0 := (Jof_is (Lcs.mt a b) a.length b.length).first
  unfold wayR wayS
  rw [h0]
  have h := (eqv_none 2).app (Eqv.refl (rowsS (Jof (Lcs.mt a b) a.length b.length) a.length ++ [(2, ((b.length - Jof (Lcs.mt a b) a.length b.length a.length : Nat) : Int))]))
  simpa using h
theorem wayL_at (M : Nat → Nat → Bool) (n m k i : Nat) (h : i < (wayL M n m k).length) : (wayL M n m k)[i] = ((Jof M n m i : Nat) : Int) := by simp [wayL]

set_option maxRecDepth 100000 in
set_option maxHeartbeats 8000000 in
theorem refDiff_any (A : Option Addr) (n c : Nat) (a : List Int) (B : Option Addr) (m d : Nat) (b : List Int) (most : Int) (b0 : Nat) (w : World) (hn : n = a.length) (hm : m = b.length)
    (ha : Reads w b0 A (a.map (Value.int .i64))) (hb : Reads w b0 B (b.map (Value.int .i64))) (hb0 : b0 ≤ w.heap.size) (hnl : n ≤ 10000) (hml : m ≤ 10000) (hmo : -9223372036854775808 ≤ most ∧ most ≤ 9223372036854775807) :
    Calls Try.prog 9 #[.slice A n c, .slice B m d, .int .i64 most] w (DiffPost 50 a b most w) := by
  obtain ⟨i0, hi, hz0, hz1, hz2⟩ := info_parts infoTheirs
  have HA := hide ha
  have HB := hide hb
  have HN := hide hn
  have HM := hide hm
  have HT : Hid (farT a b = n + m - 2 * C (Lcs.mt a b) n m) := by show _ = _; unfold farT; rw [← hn, ← hm]
  have HWD : Hid (nrm (wayR (Lcs.mt a b) n m n ++ [(2, ((m - Jof (Lcs.mt a b) n m n : Nat) : Int))]) = diffL a b) := by
    have := way_diff a b
    rw [← hn, ← hm] at this
    exact this
  clear ha hb hn hm
  have HJM : Hid (∀ i, Jof (Lcs.mt a b) n m i ≤ m) := fun i => (bst_spec (thru (Lcs.mt a b) n m i) m).1
  have kn := C_le_i (Lcs.mt a b) n m
  have km := C_le_j (Lcs.mt a b) n m
  go_enter Try.func9, Try.ntmps9
  go_wp2_with fail
  refine (refCommon_any A n c a B m d b b0 _ HN.out HM.out HA.out HB.out hb0 (by omega) (by omega)).mono ?_
  rintro e w1 ⟨rfl, hb1⟩
  by_cases hle : (farT a b : Int) ≤ most
  · have HLE := hide hle
    have htest : ¬ most < (n : Int) + (m : Int) - 2 * ((C (Lcs.mt a b) n m : Nat) : Int) := by have := HT.out; omega
    clear hle
    generalize C (Lcs.mt a b) n m = T at *
    go_wp2_with fail
    refine (way_any A n c a B m d b b0 _ HN.out HM.out (HA.out.below hb1 hb0) (HB.out.below hb1 hb0) (Nat.le_trans hb0 hb1.size) (by omega) (by omega)).mono ?_
    rintro e w2 ⟨Aw, cw, rfl, hrw, hb2⟩
    have hW2 := below_step hb1 hb2
    obtain ⟨bw, ow, rfl, hbw, _⟩ := hrw.all (by rw [List.length_map, wayL_len]; omega)
    have HCW : Hid (∀ w3 i, Below w2.heap.size w2 w3 → i ≤ n → w3.cell? ⟨bw, ow + i, none⟩ = some (.int .i64 ((Jof (Lcs.mt a b) n m i : Nat) : Int))) := fun w3 i hb3 hi => by
      obtain ⟨b', o', e', _, hc'⟩ := (hrw.below hb3 (Nat.le_refl _)).intAt (k := i) (by rw [wayL_len]; omega)
      injection e' with e'
      injection e' with e1 e2
      subst e1 e2
      rw [hc', wayL_at]
    clear hrw
    have c0 : w2.cell? ⟨bw, ow, none⟩ = _ := HCW.out w2 0 (Below.refl _ _) (by omega)
    have z1 : (0 : Int) < (n : Int) + 1 := by omega
    have HR0 : Hid (stepCells (wayR (Lcs.mt a b) n m 0) = [.int .i64 2, .int .i64 ((Jof (Lcs.mt a b) n m 0 : Nat) : Int)]) := rfl
    go_wp2_with fail
    go_loopw [9, 10] (fun v i wr => ∃ q : Nat, q ≤ n ∧ i = .int .i64 q ∧ wr.ownsRow w2.heap.size 50 2 v (wayR (Lcs.mt a b) n m q).length (stepCells (wayR (Lcs.mt a b) n m q)) ∧ Below w2.heap.size w2 wr) (fun _ i _ => n - (intOf i).toNat)
    case atStart =>
      refine ⟨0, by omega, rfl, ?_, (Below.refl _ _).alloc (Nat.le_refl _) _⟩
      rw [HR0.out]
      exact World.ownsRow_lit (base := w2.heap.size) (e := 50) (size := 2) w2 #[.int .i64 2, .int .i64 ((Jof (Lcs.mt a b) n m 0 : Nat) : Int)] 1 (Nat.le_refl _) (by decide) rfl
    case round =>
      obtain ⟨q, hq, rfl, hown, hbe⟩ := hrel
      have HLN := hide (wayR_len (Lcs.mt a b) n m q)
      by_cases hlt : q < n
      · have d0 := HCW.out wr q hbe (by omega)
        have d1 : wr.cell? ⟨bw, ow + (q + 1), none⟩ = _ := HCW.out wr (q + 1) hbe (by omega)
        have HWS := hide (wayR_succ (Lcs.mt a b) n m q)
        have x1 := HJM.out q
        have x2 := HJM.out (q + 1)
        have HLN2 := HLN.out
        have HOWN := hide hown
        have z2 : (q : Int) + 1 < (n : Int) + 1 := by omega
        have z3 : (q : Int) < (n : Int) + 1 := by omega
        clear hown c0
        generalize Jof (Lcs.mt a b) n m q = x at *
        generalize Jof (Lcs.mt a b) n m (q + 1) = y at *
        by_cases hxy : x < y
        · have HRS : Hid (rowS x y = [(2, ((y : Int) - (x : Int) - 1)), (0, 1)]) := by
            show _ = _
            unfold rowS
            rw [if_pos hxy]
            congr 2
            omega
          rw [HRS.out] at HWS
          have HNEW : Hid (∀ K : Nat, ∀ j u, ([Value.int .i64 2, .int .i64 ((y : Int) - (x : Int) - 1), .int .i64 0, .int .i64 1])[j]? = some u → ∃ ad, some (⟨wr.heap.size, 0, none⟩ : Addr) = some ad ∧ ((wr.drewN K).alloc (.cells #[.int .i64 2, .int .i64 ((y : Int) - (x : Int) - 1), .int .i64 0, .int .i64 1] 50)).cell? (ad.add j) = some u) := fun K j u hu => by
            refine ⟨_, rfl, ?_⟩
            have hB := (Blk.new (wr.drewN K) 50 #[.int .i64 2, .int .i64 ((y : Int) - (x : Int) - 1), .int .i64 0, .int .i64 1])
            rw [show (wr.drewN K).heap.size = wr.heap.size from rfl] at hB
            rw [add_lit, Nat.zero_add, hB.cell]
            simpa using hu
          go_wp2_with fail
          go_quiet (fail)
          go_wp2_with (at_builtin; refine wpList_append_any _ rfl (.tmp 50) (.tmp 55) _ rfl w2.heap.size 50 i0 _ 2 16 Try.underlying27 hi hz0 hz1 hz2 rfl (by decide) _ _ _ rfl ((ownsRow_drewN HOWN.out _).alloc _) (some ⟨wr.heap.size, 0, none⟩) 2 2 [Value.int .i64 2, .int .i64 ((y : Int) - (x : Int) - 1), .int .i64 0, .int .i64 1] rfl rfl (HNEW.out _) (by simp [Value.oneCell']) (by unfold maxLen; omega) (by omega) (by have := hbe.size; simp; omega) ?_; intro v3 w3 hown3 hg3 hat3)
          go_roundw
          case rel =>
            refine ⟨q + 1, by omega, by go_num, ?_, ((below_drewN hbe _).alloc (by have := hbe.size; simp; omega) _).grown hg3 (by have := hbe.size; simp; omega) (fun b hb => (HOWN.out.lt b hb).1)⟩
            rw [HWS.out, stepCells_app, List.length_append]
            exact hown3
          case measure => simp [intOf]; omega
        · have HRS : Hid (rowS x y = [(1, 1)]) := by
            show _ = _
            unfold rowS
            rw [if_neg hxy]
          rw [HRS.out] at HWS
          have hng : ¬ (0 : Int) < (y : Int) - (x : Int) := by omega
          have HNEW : Hid (∀ K : Nat, ∀ j u, ([Value.int .i64 1, .int .i64 1])[j]? = some u → ∃ ad, some (⟨wr.heap.size, 0, none⟩ : Addr) = some ad ∧ ((wr.drewN K).alloc (.cells #[.int .i64 1, .int .i64 1] 50)).cell? (ad.add j) = some u) := fun K j u hu => by
            refine ⟨_, rfl, ?_⟩
            have hB := (Blk.new (wr.drewN K) 50 #[.int .i64 1, .int .i64 1])
            rw [show (wr.drewN K).heap.size = wr.heap.size from rfl] at hB
            rw [add_lit, Nat.zero_add, hB.cell]
            simpa using hu
          go_wp2_with fail
          go_quiet (fail)
          go_wp2_with (at_builtin; refine wpList_append_any _ rfl (.tmp 57) (.tmp 59) _ rfl w2.heap.size 50 i0 _ 2 16 Try.underlying27 hi hz0 hz1 hz2 rfl (by decide) _ _ _ rfl ((ownsRow_drewN HOWN.out _).alloc _) (some ⟨wr.heap.size, 0, none⟩) 1 1 [Value.int .i64 1, .int .i64 1] rfl rfl (HNEW.out _) (by simp [Value.oneCell']) (by unfold maxLen; omega) (by omega) (by have := hbe.size; simp; omega) ?_; intro v3 w3 hown3 hg3 hat3)
          go_roundw
          case rel =>
            refine ⟨q + 1, by omega, by go_num, ?_, ((below_drewN hbe _).alloc (by have := hbe.size; simp; omega) _).grown hg3 (by have := hbe.size; simp; omega) (fun b hb => (HOWN.out.lt b hb).1)⟩
            rw [HWS.out, stepCells_app, List.length_append]
            exact hown3
          case measure => simp [intOf]; omega
      · have hqe : q = n := by omega
        subst hqe
        have d0 := HCW.out wr q hbe (by omega)
        have x1 := HJM.out q
        have HLN2 := HLN.out
        have HOWN := hide hown
        have z3 : (q : Int) < (q : Int) + 1 := by omega
        clear hown c0
        generalize Jof (Lcs.mt a b) q m q = x at *
        have HE : Hid ((((m - x : Nat)) : Int) = (m : Int) - (x : Int)) := by show _ = _; omega
        rw [HE.out] at HWD
        have HNEW : Hid (∀ j u, ([Value.int .i64 2, .int .i64 ((m : Int) - (x : Int))])[j]? = some u → ∃ ad, some (⟨wr.heap.size, 0, none⟩ : Addr) = some ad ∧ (wr.alloc (.cells #[.int .i64 2, .int .i64 ((m : Int) - (x : Int))] 50)).cell? (ad.add j) = some u) := fun j u hu => by
          refine ⟨_, rfl, ?_⟩
          rw [add_lit, Nat.zero_add, (Blk.new wr 50 #[.int .i64 2, .int .i64 ((m : Int) - (x : Int))]).cell]
          simpa using hu
        go_wp2_with (at_builtin; refine wpList_append_any _ rfl (.tmp 61) (.tmp 71) _ rfl w2.heap.size 50 i0 _ 2 16 Try.underlying27 hi hz0 hz1 hz2 rfl (by decide) _ _ _ rfl (HOWN.out.alloc _) (some ⟨wr.heap.size, 0, none⟩) 1 1 [Value.int .i64 2, .int .i64 ((m : Int) - (x : Int))] rfl rfl HNEW.out (by simp [Value.oneCell']) (by unfold maxLen; omega) (by omega) (by have := hbe.size; simp; omega) ?_; intro v3 w3 hown3 hg3 hat3; obtain ⟨A9, c9, rfl, hle9, hA9⟩ := ownsRow_slice hown3; have HO3 := hide hown3)
        have hW3 : Below w.heap.size w w3 := below_step hW2 ((hbe.alloc hbe.size _).grown hg3 (by have := hbe.size; simp; omega) (fun b hb => (HOWN.out.lt b hb).1))
        have HOS : Hid (w3.ownsRow w2.heap.size 50 2 (.slice A9 ((wayR (Lcs.mt a b) q m q).length + 1) c9) (wayR (Lcs.mt a b) q m q ++ [(2, (m : Int) - (x : Int))]).length (stepCells (wayR (Lcs.mt a b) q m q ++ [(2, (m : Int) - (x : Int))]))) := by
          have h := HO3.out
          rw [stepCells_app, stepCells_one, List.length_append]
          exact h
        clear hown3 hg3 hat3 HO3
        obtain ⟨A4, n4, c4, hv4, hn4, hc4, -, hr4⟩ := stepsReads HOS.out
        injection hv4 with e1 e2 e3
        subst e1 e2 e3
        have HN4 := hide hn4
        have HR4 := hide hr4
        have hn4' : (wayR (Lcs.mt a b) q m q).length + 1 ≤ 300000 := by omega
        clear hn4 hr4
        refine (refNormal_any A9 _ c9 w3.heap.size _ _ HN4.out HR4.out (Nat.le_refl _) hn4').mono ?_
        rintro e w4 ⟨hb4, v4, rfl, ho4⟩
        rw [HWD.out] at ho4
        have HO4 := hide ho4
        clear ho4
        go_wp2_with fail
        go_ret2
        exact ⟨below_step hW3 hb4, .inl ⟨HLE.out, _, rfl, ownsRow_base HO4.out hW3.size⟩⟩
  · have HLT : Hid (most < (farT a b : Int)) := by show _ < _; omega
    have htest : most < (n : Int) + (m : Int) - 2 * ((C (Lcs.mt a b) n m : Nat) : Int) := by have := HT.out; omega
    clear hle
    generalize C (Lcs.mt a b) n m = T at *
    go_wp2_with fail
    go_ret2
    exact ⟨hb1, .inr ⟨HLT.out, rfl⟩⟩
end Go.Proofs.Ytpahgpmhnpfnhaa
