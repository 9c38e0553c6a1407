/-
  turned and split of package lcs.
-/
import Derived.Test.YtpahgpmhnpfnhaaLcsD
import Derived.Test.YtpahgpmhnpfnhaaLcsC
import Derived.Deep.RegionWith
namespace Go.Proofs.Ytpahgpmhnpfnhaa
open Go.RowKit Go.Proofs.Ytpahgpmhnpfnhaa.Lcs

/-- turned so far -/
def turnV (a : List Int) (q : Nat) : List Int := List.replicate (a.length - q) 0 ++ (a.take q).reverse
theorem turnV_len (a : List Int) (q : Nat) (h : q ≤ a.length) : (turnV a q).length = a.length := by
  unfold turnV
  rw [List.length_append, List.length_replicate, List.length_reverse, List.length_take]
  omega
theorem turnV_all (a : List Int) : turnV a a.length = a.reverse := by
  unfold turnV
  rw [Nat.sub_self, List.take_of_length_le (Nat.le_refl _)]
  rfl
theorem turnV_set (a : List Int) (q : Nat) (h : q < a.length) : (turnV a q).set (a.length - 1 - q) (a.getD q 0) = turnV a (q + 1) := by
  unfold turnV
  rw [List.set_append_left _ _ (by rw [List.length_replicate]; omega)]
  rw [show a.length - q = (a.length - (q + 1)) + 1 from by omega, List.replicate_succ', List.set_append_right _ _ (by rw [List.length_replicate]; omega), List.length_replicate, show a.length - 1 - q - (a.length - (q + 1)) = 0 from by omega]
  rw [List.take_succ_eq_append_getElem h, List.reverse_append, List.append_assoc]
  rw [List.getD_eq_getElem?_getD, List.getElem?_eq_getElem h]
  rfl

set_option maxHeartbeats 2000000 in
theorem turned_any (A : Option Addr) (n c : Nat) (a : List Int) (b0 : Nat) (w : World) (hn : n = a.length)
    (ha : Reads w b0 A (a.map (Value.int .i64))) (hb0 : b0 ≤ w.heap.size) (hnl : n ≤ 100000) :
    Calls Try.prog 37 #[.slice A n c] w fun e w' => ∃ g, e = .returned (.slice (some ⟨g, 0, none⟩) n n) ∧ w.heap.size ≤ g ∧ IBlk w' g a.reverse ∧ Below w.heap.size w w' := by
  obtain ⟨i0, hi, hz0, hz1, hz2⟩ := info_parts infoInt
  have HA := hide ha
  have HN := hide hn
  clear ha hn
  have hmk : ∀ W : World, (Instr.makeSlice 22 (.int .i64 (n : Int)) (.int .i64 (n : Int))).run Try.prog W = .ok (.slice (some ⟨W.heap.size, 0, none⟩) n n) (W.alloc (.cells (madeCells #[.int .i64 0] n) 3)) := fun W => by
    have h := run_make (P := Try.prog) W 22 3 i0 (.int .i64 0) Try.underlying22 hi hz0 .i64 .i64 (n : Int) (n : Int) (by omega) (by omega) (by rw [hz2]; omega) (by omega)
    simpa [hz1, Value.cells] using h
  go_enter Try.func37, Try.ntmps37
  go_wp2_with fail
  go_loopw [11] (fun i wr => ∃ q : Nat, q ≤ n ∧ i = .int .i64 q ∧ Hid (IBlk wr w.heap.size (turnV a q)) ∧ Below w.heap.size w wr) (fun i _ => n - (intOf i).toNat)
  case atStart =>
    refine ⟨0, by omega, rfl, ?_, (Below.refl _ _).alloc (Nat.le_refl _) _⟩
    show IBlk _ _ _
    have := IBlk.made w n
    unfold turnV
    rw [← HN.out]
    simpa using this
  case round =>
    obtain ⟨q, hq, rfl, hblk, hbe⟩ := hrel
    by_cases hlt : q < n
    · obtain ⟨bx, ox, rfl, hbx, c0⟩ := (HA.out.below hbe hb0).intGet (k := q) (by rw [← HN.out]; exact hlt)
      have HTS := hide (turnV_set a q (by rw [← HN.out]; exact hlt))
      have d1 := hblk.out.cell (i := n - 1 - q) (by rw [turnV_len _ _ (by rw [← HN.out]; omega), ← HN.out]; omega)
      have d2 := hblk.out.frozen (n - 1 - q)
      rw [← HN.out] at HTS
      generalize a.getD q 0 = x at *
      have hidx : ((n : Int) - 1 - (q : Int)).toNat = n - 1 - q := by omega
      go_wp2_with fail
      go_roundw
      case rel =>
        refine ⟨q + 1, by omega, by go_num, ?_, hbe.setCell (by simp) _⟩
        show IBlk _ _ _
        rw [← HTS.out]
        exact hblk.out.set_ (n - 1 - q) x
      case measure => simp [intOf]; omega
    · have hqe : q = n := by omega
      subst hqe
      go_wp2_with fail
      go_ret
      refine ⟨_, rfl, Nat.le_refl _, ?_, hbe⟩
      rw [← turnV_all, ← HN.out]
      exact hblk.out

def valR (M : Nat → Nat → Bool) (m h j : Nat) : Int := ((C M h j : Nat) : Int)
theorem rowV_get (M : Nat → Nat → Bool) (m i j : Nat) (h : j < (rowV M m i).length) : (rowV M m i)[j] = ((C M i j : Nat) : Int) := by simp [rowV]

theorem bst_step (f : Nat → Nat) (q : Nat) : bst f q = if f q > f (bst f (q - 1)) then q else bst f (q - 1) := by
  cases q with
  | zero => rw [if_neg (by show ¬ f 0 > f 0; omega)]
  | succ q => rfl
theorem rd_step {a b : World} {A : Option Addr} {xs : List Value} (h : Hid (Reads a a.heap.size A xs)) (hb : Below a.heap.size a b) : Hid (Reads b b.heap.size A xs) := (h.out.below hb (Nat.le_refl _)).more hb.size
theorem up_rd {a : World} {B : Nat} {A : Option Addr} {xs : List Value} (h : Hid (Reads a B A xs)) (hb : B ≤ a.heap.size) : Hid (Reads a a.heap.size A xs) := h.out.more hb
theorem ib_step {a b : World} {g : Nat} {xs : List Int} (h : Hid (IBlk a g xs)) (hb : Below a.heap.size a b) : Hid (IBlk b g xs) := h.out.step hb

set_option maxRecDepth 100000 in
set_option maxHeartbeats 4000000 in
theorem split_any (A : Option Addr) (n c : Nat) (a : List Int) (B : Option Addr) (m d : Nat) (b : List Int) (h : Nat) (b0 : Nat) (w : World) (hn : n = a.length) (hm : m = b.length)
    (ha : Reads w b0 A (a.map (Value.int .i64))) (hb : Reads w b0 B (b.map (Value.int .i64))) (hb0 : b0 ≤ w.heap.size) (hnl : n ≤ 100000) (hml : m ≤ 100000) (hh : h ≤ n) (hpos : 0 < n) (hnc : n ≤ c) (hc : c ≤ maxLen) :
    Calls Try.prog 32 #[.slice A n c, .slice B m d, .int .i64 h] w fun e w' => e = .returned (.int .i64 (cutS a b h : Nat)) ∧ Below w.heap.size w w' := by
  unfold maxLen at hc
  have HN := hide hn
  have HM := hide hm
  obtain ⟨bx, ox, rfl, hbx, _⟩ := ha.all (by simp; omega)
  have HA1 : Hid (Reads w b0 (some ⟨bx, ox, none⟩) ((a.take h).map (Value.int .i64))) := by
    have := ha.take h
    rwa [← List.map_take] at this
  have hcut := ha.cut (k := h) (cap := c) (by rw [List.length_map, ← hn]; exact hnc)
  rw [Option.map_some, add_lit, ← List.map_drop] at hcut
  have HB := hide hb
  have hl1 : h = (a.take h).length := by rw [List.length_take]; omega
  have hl2 : n - h = (a.drop h).length := by rw [List.length_drop]; omega
  have HL1 := hide hl1
  have HL2 := hide hl2
  have HHV : Hid (∀ j, j ≤ m → C (Lcs.mt (a.take h) b) h j + C (Lcs.mt (a.drop h).reverse b.reverse) (n - h) (m - j) = thru (Lcs.mt a b) n m h j) := fun j hj => by
    have := halves a b h j (by omega) (by omega)
    rw [← hn, ← hm] at this
    exact this
  have HCUT : Hid (cutS a b h = bst (thru (Lcs.mt a b) n m h) m) := by
    show _ = _
    unfold cutS Jof
    rw [← hn, ← hm]
  have hwn : w.heap.size ≤ w.heap.size := Nat.le_refl _
  clear hn hm ha hb hl1 hl2
  obtain ⟨o2, ho2⟩ : ∃ o2, (if c = h then (some ⟨bx, ox, none⟩ : Option Addr) else some ⟨bx, ox + h, none⟩) = some ⟨bx, o2, none⟩ := by
    split
    · exact ⟨_, rfl⟩
    · exact ⟨_, rfl⟩
  rw [ho2] at hcut
  have hcut2 : Reads w b0 (some ⟨bx, o2, none⟩) ((a.drop h).map (Value.int .i64)) := hcut
  have hl5 : h ≤ 100000 := by omega
  have hl6 : n - h ≤ 100000 := by omega
  have HL3 : Hid (n - h = (a.drop h).reverse.length) := by show _ = _; rw [List.length_reverse]; exact HL2.out
  have HL4 : Hid (m = b.reverse.length) := by show _ = _; rw [List.length_reverse]; exact HM.out
  clear hcut
  have g1 : (0 : Int) ≤ (h : Int) := by omega
  have g2 : (h : Int) ≤ (n : Int) := by omega
  have g3 : (h : Int) ≤ (c : Int) := by omega
  have g4 : (n : Int) ≤ (c : Int) := by omega
  go_enter Try.func32, Try.ntmps32
  go_wp2_with fail
  have hW : Below w.heap.size w w.drew := (Below.refl w.heap.size w).drew
  have HA1 := rd_step (up_rd HA1 hb0) hW
  have HA2 := rd_step (up_rd (hide hcut2) hb0) hW
  have HB := rd_step (up_rd HB hb0) hW
  go_region_with (first | (go_at_call 26; (with_reducible refine (row_any (some ⟨bx, ox, none⟩) h c (a.take h) B m d b _ _ HL1.out HM.out HA1.out HB.out (Nat.le_refl _) hl5 hml).mono ?_); rintro e wa ⟨g1, rfl, -, f1, hb1⟩; have hW := below_step hW hb1; have HA1 := rd_step HA1 hb1; have HA2 := rd_step HA2 hb1; have HB := rd_step HB hb1; (try (have F1 := ib_step F1 hb1)); (try (have F2 := ib_step F2 hb1)); (try (have F3 := ib_step F3 hb1)); (try (have F4 := ib_step F4 hb1)); have F1 := hide f1; clear f1 hb1) | (go_at_call 37; (with_reducible refine (turned_any (some ⟨bx, o2, none⟩) (n - h) (c - h) (a.drop h) _ _ HL2.out HA2.out (Nat.le_refl _) hl6).mono ?_); rintro e wb ⟨g2, rfl, -, f2, hb2⟩; have hW := below_step hW hb2; have HA1 := rd_step HA1 hb2; have HA2 := rd_step HA2 hb2; have HB := rd_step HB hb2; (try (have F1 := ib_step F1 hb2)); (try (have F2 := ib_step F2 hb2)); (try (have F3 := ib_step F3 hb2)); (try (have F4 := ib_step F4 hb2)); have F2 := hide f2; clear f2 hb2) | (go_at_call 37; (with_reducible refine (turned_any B m d b _ _ HM.out HB.out (Nat.le_refl _) hml).mono ?_); rintro e wc ⟨g3, rfl, -, f3, hb3⟩; have hW := below_step hW hb3; have HA1 := rd_step HA1 hb3; have HA2 := rd_step HA2 hb3; have HB := rd_step HB hb3; (try (have F1 := ib_step F1 hb3)); (try (have F2 := ib_step F2 hb3)); (try (have F3 := ib_step F3 hb3)); (try (have F4 := ib_step F4 hb3)); have F3 := hide f3; clear f3 hb3) | (go_at_call 26; (with_reducible refine (row_any (some ⟨g2, 0, none⟩) (n - h) (n - h) (a.drop h).reverse (some ⟨g3, 0, none⟩) m m b.reverse _ _ HL3.out HL4.out F2.out.reads F3.out.reads (Nat.le_refl _) hl6 hml).mono ?_); rintro e wd ⟨g4, rfl, -, f4, hb4⟩; have hW := below_step hW hb4; have HA1 := rd_step HA1 hb4; have HA2 := rd_step HA2 hb4; have HB := rd_step HB hb4; (try (have F1 := ib_step F1 hb4)); (try (have F2 := ib_step F2 hb4)); (try (have F3 := ib_step F3 hb4)); (try (have F4 := ib_step F4 hb4)); have F4 := hide f4; clear f4 hb4))
  all_goals
    go_wp2_with fail
    go_loopw [9, 25] (fun bs j wr => ∃ q k : Nat, q ≤ m + 1 ∧ j = .int .i64 q ∧ bs = .int .i64 (bst (thru (Lcs.mt a b) n m h) (q - 1) : Nat) ∧ Hid (IBlk wr g1 (rowV (Lcs.mt (a.take h) b) m h)) ∧ Hid (IBlk wr g4 (rowV (Lcs.mt (a.drop h).reverse b.reverse) m (n - h))) ∧ Below w.heap.size w wr ∧ k = 0) (fun _ j _ => m + 1 - (intOf j).toNat)
    case atStart => exact ⟨0, 0, by omega, rfl, rfl, F1, F4, hW, rfl⟩
    case round =>
      obtain ⟨q, k, hq, rfl, rfl, f1, f4, hbe, -⟩ := hrel
      by_cases hlt : q ≤ m
      · have hpm : bst (thru (Lcs.mt a b) n m h) (q - 1) ≤ m := by have := (bst_spec (thru (Lcs.mt a b) n m h) (q - 1)).1; omega
        have HST := hide (bst_step (thru (Lcs.mt a b) n m h) q)
        generalize hpe : bst (thru (Lcs.mt a b) n m h) (q - 1) = p at *
        have HPE := hide hpe
        clear hpe
        have v1 := HHV.out q hlt
        have v2 := HHV.out p hpm
        have e1 := f1.out.cell (i := q) (by rw [rowV_len]; omega)
        have e2 := f4.out.cell (i := m - q) (by rw [rowV_len]; omega)
        have e3 := f1.out.cell (i := p) (by rw [rowV_len]; omega)
        have e4 := f4.out.cell (i := m - p) (by rw [rowV_len]; omega)
        rw [rowV_get] at e1 e2 e3 e4
        rw [← v1, ← v2] at HST
        have k1 := C_le_i (Lcs.mt (a.take h) b) h q
        have k2 := C_le_i (Lcs.mt (a.take h) b) h p
        have k3 := C_le_i (Lcs.mt (a.drop h).reverse b.reverse) (n - h) (m - q)
        have k4 := C_le_i (Lcs.mt (a.drop h).reverse b.reverse) (n - h) (m - p)
        clear v1 v2
        generalize C (Lcs.mt (a.take h) b) h q = c1 at *
        generalize C (Lcs.mt (a.take h) b) h p = c2 at *
        generalize C (Lcs.mt (a.drop h).reverse b.reverse) (n - h) (m - q) = c3 at *
        generalize C (Lcs.mt (a.drop h).reverse b.reverse) (n - h) (m - p) = c4 at *
        have i1 : ((m : Int) - (q : Int)).toNat = m - q := by omega
        have i2 : ((m : Int) - (p : Int)).toNat = m - p := by omega
        have i3 : (0 : Int) ≤ (m : Int) - (q : Int) := by omega
        have i4 : (0 : Int) ≤ (m : Int) - (p : Int) := by omega
        have i5 : (m : Int) - (q : Int) < (m : Int) + 1 := by omega
        have i6 : (m : Int) - (p : Int) < (m : Int) + 1 := by omega
        have i7 : (q : Int) < (m : Int) + 1 := by omega
        have i8 : (p : Int) < (m : Int) + 1 := by omega
        by_cases hgt : c1 + c3 > c2 + c4
        · have HB2 : Hid (bst (thru (Lcs.mt a b) n m h) (q + 1 - 1) = q) := by show _ = _; rw [Nat.add_sub_cancel, HST.out, if_pos hgt]
          go_wp2_with fail
          go_quiet (fail)
          go_wp2_with fail
          go_roundw
          case rel => exact ⟨q + 1, 0, by omega, by go_num, by rw [HB2.out], f1.out.drewN _, f4.out.drewN _, below_drewN hbe _, rfl⟩
          case measure => simp [intOf]; omega
        · have HB2 : Hid (bst (thru (Lcs.mt a b) n m h) (q + 1 - 1) = p) := by show _ = _; rw [Nat.add_sub_cancel, HST.out, if_neg hgt]
          go_wp2_with fail
          go_quiet (fail)
          go_wp2_with fail
          go_roundw
          case rel => exact ⟨q + 1, 0, by omega, by go_num, by rw [HB2.out], f1.out.drewN _, f4.out.drewN _, below_drewN hbe _, rfl⟩
          case measure => simp [intOf]; omega
      · have hqe : q = m + 1 := by omega
        subst hqe
        rw [Nat.add_sub_cancel, ← HCUT.out] at *
        go_wp2_with fail
        go_ret
        exact ⟨rfl, hbe⟩
end Go.Proofs.Ytpahgpmhnpfnhaa
