/-
  The walk of the law on scripts.
-/
import Derived.Test.YtokckcnlbalpaaaScrW
import Derived.Deep.RegionWith
import Derived.Laws.StructEq
import Derived.Laws.Cover2
namespace Go.Proofs.Ytokckcnlbalpaaa
open Go.RowKit Go.Proofs.Ytokckcnlbalpaaa.Scr

theorem sizesS_form (l : List Step) : ∃ (x y : Int) (b : Bool), sizesS l = .tuple #[.int .i64 x, .int .i64 y, .bool b] := by
  unfold sizesS
  split
  · exact ⟨_, _, _, rfl⟩
  · exact ⟨_, _, _, rfl⟩

theorem eqThree (a b c : Int) (w : World) : (Op.equalIn 10000 29 (.agg #[.int .i64 a, .int .i64 b, .int .i64 c]) (.agg #[.int .i64 a, .int .i64 b, .int .i64 c])).run Try.prog w = .ok true w := by
  have u3 := Try.underlying3
  have a3 : ∀ w, (isAgg 3).run Try.prog w = .ok false w := fun w => by kernel_rfl
  have z3 : ∀ w, (sizeOf 3).run Try.prog w = .ok 1 w := fun w => by kernel_rfl
  rw [show (10000 : Nat) = 9999 + 1 from rfl, Op.equalIn]
  simp only [Sem.run_bind, run_underlying Try.underlying29, Result.andThen_ok]
  simp only [Std.Legacy.Range.forIn_eq_forIn_range', Std.Legacy.Range.size, Nat.sub_zero, Nat.add_sub_cancel, Nat.div_one, List.range'_succ, List.range'_zero, List.forIn_cons, List.forIn_nil]
  go_simp

theorem sameS_bel (A B : Option Addr) (c d b0 n m : Nat) (l : List Step) (w : World) (hn : n = l.length) (hm : m = l.length)
   (hx : Reads w b0 A (stepCells l)) (hy : Reads w b0 B (stepCells l)) (lx : n ≤ maxLen) (ly : m ≤ maxLen) :
    Calls Try.prog 9 #[.slice A n c, .slice B m d] w fun e w' => e = .returned (.bool true) ∧ Below w.heap.size w w' :=
  (sameS_any A B c d b0 n m l l w hn hm hx hy lx ly).mono fun e w' ⟨he, q, hq⟩ => ⟨by rw [he, beq_self_eq_true], by rw [hq]; exact below_of_drewN _ _ _⟩

set_option maxRecDepth 100000 in
set_option maxHeartbeats 8000000 in
theorem normal_walk (A : Option Addr) (n0 c : Nat) (l0 : List Step) (w : World) (hn0 : n0 = l0.length) (hx0 : Reads w w.heap.size A (stepCells l0)) (hc0 : n0 ≤ c) (hcm : c ≤ maxLen) :
    Calls Try.prog 3 #[.slice A n0 c] w fun e w' => e = .returned (.bool true) ∧ Below w.heap.size w w' := by
  obtain ⟨n, hn⟩ : ∃ n, (if n0 > 300 then 300 else n0) = n := ⟨_, rfl⟩
  obtain ⟨l, hl⟩ : ∃ l, l0.take 300 = l := ⟨_, rfl⟩
  have hnl : n = l.length := by
    rw [← hn, ← hl, List.length_take, ← hn0]
    split <;> omega
  have hn300 : n ≤ 300 := by rw [← hn]; split <;> omega
  have hnc : n ≤ c := by rw [← hn]; split <;> omega
  have hx : Reads w w.heap.size A (stepCells l) := by
    have : stepCells l0 = stepCells l ++ stepCells (l0.drop 300) := by rw [← stepCells_app, ← hl, List.take_append_drop]
    rw [this] at hx0
    have h := hx0.take (stepCells l).length
    rwa [List.take_left] at h
  have HN := hide hnl
  have HL : Hid (Reads w w.heap.size A (stepCells l)) := hx
  have HFN := hide hn
  have hm0 : n0 ≤ maxLen := Nat.le_trans hc0 hcm
  obtain ⟨X, Y, B, hsz⟩ := sizesS_form l
  have HSZ := hide hsz
  clear hn hl hnl hx hx0 hn0 hsz
  go_enter Try.func3, Try.ntmps3
  go_wp2_with fail
  refine (few_any A n0 c _ hm0 hc0).mono ?_
  rintro e w1 ⟨rfl, rfl⟩
  rw [HFN.out]
  go_wp2_with fail
  refine (mine_any A n c w.heap.size l _ HN.out HL.out (Nat.le_refl _) (by omega)).mono ?_
  rintro e w1 ⟨hb1, v1, rfl, ho1⟩
  obtain ⟨Am, nm, cm, rfl, hnm, hcm2, hcm3, hrm⟩ := stepsReads ho1
  rw [← HN.out] at hnm
  subst hnm
  have HM := hide hrm
  have hW := hb1
  have HL := rd_step HL hb1
  clear hrm ho1 hb1
  go_wp2_with fail
  refine (sizes_any Am nm cm w1.heap.size l _ HN.out HM.out (Nat.le_refl _) (by omega)).mono ?_
  rintro e w2 ⟨rfl, hb2⟩
  rw [HSZ.out]
  have hW := below_step hW hb2
  have HL := rd_step HL hb2
  have HM := rd_step HM hb2
  clear hb2
  go_wp2_with fail
  refine (refSizes_any A nm c w2.heap.size l _ HN.out HL.out (Nat.le_refl _) (by omega)).mono ?_
  rintro e w3 ⟨rfl, hb3⟩
  rw [HSZ.out]
  have hW := below_step hW hb3
  have HL := rd_step HL hb3
  have HM := rd_step HM hb3
  clear hb3
  have hX : (X != X) = false := by simp
  have hY : (Y != Y) = false := by simp
  have hB : (B != B) = false := by simp
  go_wp2_with fail
  go_loopw [11] (fun i wr => ∃ (q : Nat) (x y z : Int), q ≤ nm ∧ i = .int .i64 q ∧ 0 ≤ x ∧ x ≤ 1048576 * q ∧ 0 ≤ y ∧ y ≤ 1048576 * q ∧ 0 ≤ z ∧ z ≤ 1048576 * q ∧ Hid (x = sum (cnt 0) (l.take q) ∧ y = sum (cnt 1) (l.take q) ∧ z = sum (cnt 2) (l.take q)) ∧ Hid (Blk wr w3.heap.size 29 #[.int .i64 x, .int .i64 y, .int .i64 z]) ∧ Below w3.heap.size w3 wr) (fun i _ => nm - (intOf i).toNat)
  case atStart =>
    exact ⟨0, 0, 0, 0, by omega, rfl, by omega, by omega, by omega, by omega, by omega, by omega, ⟨rfl, rfl, rfl⟩, Blk.new w3 29 #[.int .i64 0, .int .i64 0, .int .i64 0], (Below.refl _ _).alloc (Nat.le_refl _) _⟩
  case round =>
    obtain ⟨q, x, y, z, hq, rfl, hx0, hx1, hy0, hy1, hz0, hz1, hS, hblk, hbe⟩ := hrel
    by_cases hlt : q < nm
    · have hl1 : q < l.length := by rw [← HN.out]; exact hlt
      obtain ⟨bx, ox, rfl, hbx, c0, c1⟩ := (HL.out.below hbe (Nat.le_refl _)).stepAt hl1
      have HS1 := hide (sum_take (cnt 0) l q hl1)
      have HS2 := hide (sum_take (cnt 1) l q hl1)
      have HS3 := hide (sum_take (cnt 2) l q hl1)
      generalize l[q] = s at *
      obtain ⟨s1, s2⟩ := s
      simp only at c0 c1
      have hbr : bx < wr.heap.size := by have := hbe.size; omega
      have hgs := hblk.out.lt
      go_wp2_with fail
      refine (refRight_any s1 s2 _).mono ?_
      rintro e w4 ⟨rfl, hb1⟩
      have hbe1 : Below w3.heap.size w3 w4 := below_step hbe hb1
      have d0 := (hb1.cell (p := ⟨bx, ox + q * 2, none⟩) hbr).trans c0
      have d1 := (hb1.cell (p := ⟨bx, ox + q * 2 + 1, none⟩) hbr).trans c1
      have HB1 := blk_step hblk hb1
      clear c0 c1
      cases hok : okS (s1, s2)
      · have z0 : ∀ k, cnt k (s1, s2) = 0 := fun k => by unfold cnt; rw [hok]; simp
        have HZ := hide z0
        clear hok z0
        go_wp2_with fail
        go_roundw
        case rel =>
          refine ⟨q + 1, x, y, z, by omega, by go_num, by omega, by omega, by omega, by omega, by omega, by omega, ⟨?_, ?_, ?_⟩, HB1, hbe1⟩
          · rw [HS1.out, ← hS.out.1, HZ.out, Int.add_zero]
          · rw [HS2.out, ← hS.out.2.1, HZ.out, Int.add_zero]
          · rw [HS3.out, ← hS.out.2.2, HZ.out, Int.add_zero]
        case measure => simp [intOf]; omega
      · have hb := (okS_iff _).1 hok
        simp only at hb
        have HOK := hide hok
        clear hok
        have e0 := HB1.out.cell 0
        have e1 := HB1.out.cell 1
        have e2 := HB1.out.cell 2
        have e3 := HB1.out.frozen 0
        have e4 := HB1.out.frozen 1
        have e5 := HB1.out.frozen 2
        simp at e0 e1 e2
        have hq0 : (0 : Int) ≤ (q : Int) := by omega
        have hq1 : (q : Int) < (nm : Int) := by omega
        rcases (show s1 = 0 ∨ s1 = 1 ∨ s1 = 2 by omega) with rfl | rfl | rfl
        · go_wp2_with fail
          go_region
          go_wp2_with fail
          go_roundw
          case rel =>
            refine ⟨q + 1, x + s2, y, z, by omega, by go_num, by omega, by omega, by omega, by omega, by omega, by omega, ⟨?_, ?_, ?_⟩, ?_, ((Below.refl w3.heap.size w3).trans (hbe1.setCell (by simp) _)).drew⟩
            · rw [HS1.out, ← hS.out.1]; simp [cnt, HOK.out]
            · rw [HS2.out, ← hS.out.2.1]; simp [cnt, HOK.out]
            · rw [HS3.out, ← hS.out.2.2]; simp [cnt, HOK.out]
            · have := (HB1.out.set_ 0 (.int .i64 (x + s2))).drew
              show Blk _ _ _ _
              simpa using this
          case measure => simp [intOf]; omega
        · go_wp2_with fail
          go_region
          go_wp2_with fail
          go_roundw
          case rel =>
            refine ⟨q + 1, x, y + s2, z, by omega, by go_num, by omega, by omega, by omega, by omega, by omega, by omega, ⟨?_, ?_, ?_⟩, ?_, ((Below.refl w3.heap.size w3).trans (hbe1.setCell (by simp) _)).drew⟩
            · rw [HS1.out, ← hS.out.1]; simp [cnt, HOK.out]
            · rw [HS2.out, ← hS.out.2.1]; simp [cnt, HOK.out]
            · rw [HS3.out, ← hS.out.2.2]; simp [cnt, HOK.out]
            · have := (HB1.out.set_ 1 (.int .i64 (y + s2))).drew
              show Blk _ _ _ _
              simpa using this
          case measure => simp [intOf]; omega
        · go_wp2_with fail
          go_region
          go_wp2_with fail
          go_roundw
          case rel =>
            refine ⟨q + 1, x, y, z + s2, by omega, by go_num, by omega, by omega, by omega, by omega, by omega, by omega, ⟨?_, ?_, ?_⟩, ?_, ((Below.refl w3.heap.size w3).trans (hbe1.setCell (by simp) _)).drew⟩
            · rw [HS1.out, ← hS.out.1]; simp [cnt, HOK.out]
            · rw [HS2.out, ← hS.out.2.1]; simp [cnt, HOK.out]
            · rw [HS3.out, ← hS.out.2.2]; simp [cnt, HOK.out]
            · have := (HB1.out.set_ 2 (.int .i64 (z + s2))).drew
              show Blk _ _ _ _
              simpa using this
          case measure => simp [intOf]; omega
    · have hqe : q = nm := by omega
      subst hqe
      rw [show l.take q = l from List.take_of_length_le (by rw [HN.out]; exact Nat.le_refl _)] at hS
      have HC : Hid (countsS l = .agg #[.int .i64 x, .int .i64 y, .int .i64 z]) := by
        show _ = _
        unfold countsS
        rw [← hS.out.1, ← hS.out.2.1, ← hS.out.2.2]
      have HB := hblk
      have hbs : Below w3.heap.size w3 wr := hbe
      have HL := rd_step HL hbs
      have HM := rd_step HM hbs
      have hW := below_step hW hbs
      clear hS hblk hbe hbs hx0 hx1 hy0 hy1 hz0 hz1
      have hq5 : q ≤ 300000 := by omega
      have hq6 : q ≤ 1048576 := by omega
      have hmax : 1048576 ≤ maxLen := by decide
      have HB1 : Hid ((nrm l).length ≤ 1048576) := by
        show _ ≤ _
        have h1 := runS_bd l
        have h2 := h1.len
        have h3 : (nrm l).length ≤ (runS l).out.length + 3 := by
          unfold nrm fin
          rw [List.length_append, List.length_append, List.length_append]
          have := fl_len 0 (runS l).K
          have := fl_len 1 (runS l).D
          have := fl_len 2 (runS l).I
          omega
        rw [← HN.out] at h2
        omega
      have HB2 : Hid ((nrm (l.map swap)).length ≤ 1048576) := by
        show _ ≤ _
        have h1 := runS_bd (l.map swap)
        have h2 := h1.len
        have h3 : (nrm (l.map swap)).length ≤ (runS (l.map swap)).out.length + 3 := by
          unfold nrm fin
          rw [List.length_append, List.length_append, List.length_append]
          have := fl_len 0 (runS (l.map swap)).K
          have := fl_len 1 (runS (l.map swap)).D
          have := fl_len 2 (runS (l.map swap)).I
          omega
        rw [List.length_map, ← HN.out] at h2
        omega
      have hbd : Below wr.heap.size wr wr.drew := (Below.refl wr.heap.size wr).drew
      have hW := below_step hW hbd
      have HL := rd_step HL hbd
      have HM := rd_step HM hbd
      have HB := blk_step HB hbd
      have k0 : _ = some (Value.int .i64 x) := HB.out.cell 0
      have k1 : _ = some (Value.int .i64 y) := HB.out.cell 1
      have k2 : _ = some (Value.int .i64 z) := HB.out.cell 2
      clear hbd
      have heq := eqThree x y z
      clear hX hY hB
      go_wp2_with fail
      go_region_with (first | (go_at_call 11; refine (normal_any Am q cm _ l _ HN.out HM.out (Nat.le_refl _) hq5).mono ?_; rintro e wN ⟨hbN, vN, rfl, hoN⟩; obtain ⟨AN, nN, cN, rfl, hnN, -, -, hrN⟩ := stepsReads hoN; have hW := below_step hW hbN; have HL := rd_step HL hbN; have HM := rd_step HM hbN; have HB := blk_step HB hbN; have k0 : _ = some (Value.int .i64 x) := HB.out.cell 0; have k1 : _ = some (Value.int .i64 y) := HB.out.cell 1; have k2 : _ = some (Value.int .i64 z) := HB.out.cell 2; (try (have RN := rd_step RN hbN)); (try (have RT := rd_step RT hbN)); (try (have RR := rd_step RR hbN)); subst hnN; have RN := hide hrN; have hmN := HB1.out; clear hrN hoN hbN) | (go_at_call 12; refine (refNormal_any A q c _ l _ HN.out HL.out (Nat.le_refl _) hq5).mono ?_; rintro e wR ⟨hbR, vR, rfl, hoR⟩; obtain ⟨AR, nR, cR, rfl, hnR, -, -, hrR⟩ := stepsReads hoR; have hW := below_step hW hbR; have HL := rd_step HL hbR; have HM := rd_step HM hbR; have HB := blk_step HB hbR; have k0 : _ = some (Value.int .i64 x) := HB.out.cell 0; have k1 : _ = some (Value.int .i64 y) := HB.out.cell 1; have k2 : _ = some (Value.int .i64 z) := HB.out.cell 2; (try (have RN := rd_step RN hbR)); (try (have RT := rd_step RT hbR)); (try (have RR := rd_step RR hbR)); subst hnR; have RR := hide hrR; have hmR := HB1.out; clear hrR hoR hbR) | (go_at_call 13; refine (back_any Am q cm _ l _ HN.out HM.out (Nat.le_refl _) hq5).mono ?_; rintro e wN ⟨hbN, vN, rfl, hoN⟩; obtain ⟨AN, nN, cN, rfl, hnN, -, -, hrN⟩ := stepsReads hoN; have hW := below_step hW hbN; have HL := rd_step HL hbN; have HM := rd_step HM hbN; have HB := blk_step HB hbN; have k0 : _ = some (Value.int .i64 x) := HB.out.cell 0; have k1 : _ = some (Value.int .i64 y) := HB.out.cell 1; have k2 : _ = some (Value.int .i64 z) := HB.out.cell 2; (try (have RN := rd_step RN hbN)); (try (have RT := rd_step RT hbN)); (try (have RR := rd_step RR hbN)); subst hnN; have RN := hide hrN; have hmN := HB2.out; clear hrN hoN hbN) | (go_at_call 14; refine (refBack_any A q c _ l _ HN.out HL.out (Nat.le_refl _) hq5).mono ?_; rintro e wR ⟨hbR, vR, rfl, hoR⟩; obtain ⟨AR, nR, cR, rfl, hnR, -, -, hrR⟩ := stepsReads hoR; have hW := below_step hW hbR; have HL := rd_step HL hbR; have HM := rd_step HM hbR; have HB := blk_step HB hbR; have k0 : _ = some (Value.int .i64 x) := HB.out.cell 0; have k1 : _ = some (Value.int .i64 y) := HB.out.cell 1; have k2 : _ = some (Value.int .i64 z) := HB.out.cell 2; (try (have RN := rd_step RN hbR)); (try (have RT := rd_step RT hbR)); (try (have RR := rd_step RR hbR)); subst hnR; have RR := hide hrR; have hmR := HB2.out; clear hrR hoR hbR) | (go_at_call 10; refine (theirs_any _ _ _ _ _ _ (by rfl) RN.out (Nat.le_refl _) hmN).mono ?_; rintro e wT ⟨hbT, vT, rfl, hoT⟩; obtain ⟨AT, nT, cT, rfl, hnT, -, -, hrT⟩ := stepsReads hoT; have hW := below_step hW hbT; have HL := rd_step HL hbT; have HM := rd_step HM hbT; have HB := blk_step HB hbT; have k0 : _ = some (Value.int .i64 x) := HB.out.cell 0; have k1 : _ = some (Value.int .i64 y) := HB.out.cell 1; have k2 : _ = some (Value.int .i64 z) := HB.out.cell 2; (try (have RN := rd_step RN hbT)); (try (have RT := rd_step RT hbT)); (try (have RR := rd_step RR hbT)); subst hnT; have RT := hide hrT; clear hrT hoT hbT) | (go_at_call 9; refine (sameS_bel _ _ _ _ _ _ _ _ _ (by rfl) (by rfl) RT.out RR.out (Nat.le_trans hmN hmax) (Nat.le_trans hmR hmax)).mono ?_; rintro e wS ⟨rfl, hbS⟩; have hW := below_step hW hbS; have HL := rd_step HL hbS; have HM := rd_step HM hbS; have HB := blk_step HB hbS; have k0 : _ = some (Value.int .i64 x) := HB.out.cell 0; have k1 : _ = some (Value.int .i64 y) := HB.out.cell 1; have k2 : _ = some (Value.int .i64 z) := HB.out.cell 2; (try (have RN := rd_step RN hbS)); (try (have RT := rd_step RT hbS)); (try (have RR := rd_step RR hbS)); clear hbS) | (go_at_call 15; refine (counts_any Am q cm _ l _ HN.out HM.out (Nat.le_refl _) hq6).mono ?_; rintro e wC ⟨rfl, hbC⟩; rw [HC.out]; have hW := below_step hW hbC; have HL := rd_step HL hbC; have HM := rd_step HM hbC; have HB := blk_step HB hbC; have k0 : _ = some (Value.int .i64 x) := HB.out.cell 0; have k1 : _ = some (Value.int .i64 y) := HB.out.cell 1; have k2 : _ = some (Value.int .i64 z) := HB.out.cell 2; (try (have RN := rd_step RN hbC)); (try (have RT := rd_step RT hbC)); (try (have RR := rd_step RR hbC)); clear hbC) | (go_at_call 16; refine (awake_any _).mono ?_; rintro e wA ⟨rfl, hbA⟩; have hW := below_step hW hbA; have HL := rd_step HL hbA; have HM := rd_step HM hbA; have HB := blk_step HB hbA; have k0 : _ = some (Value.int .i64 x) := HB.out.cell 0; have k1 : _ = some (Value.int .i64 y) := HB.out.cell 1; have k2 : _ = some (Value.int .i64 z) := HB.out.cell 2; (try (have RN := rd_step RN hbA)); (try (have RT := rd_step RT hbA)); (try (have RR := rd_step RR hbA)); clear hbA))
      all_goals
        go_wp2_with fail
        go_ret
        exact ⟨rfl, hW⟩
end Go.Proofs.Ytokckcnlbalpaaa
