/-
  Put of package word: the walk.
-/
import Derived.Test.YtnipbkplobpnhaaWordP
namespace Go.Proofs.Ytnipbkplobpnhaa
open Go.RowKit

theorem run_make_words (r : Nat) (hr : r ≤ 1099511627776) (W : World) : (Instr.makeSlice 32 (.int .i64 (r : Int)) (.int .i64 (r : Int))).run Try.prog W =
    .ok (.slice (some ⟨W.heap.size, 0, none⟩) r r) (W.alloc (.cells ((List.replicate r (0 : Int)).map (Value.int .u64)).toArray 22)) := by
  obtain ⟨i0, hi, hz0, hz1, hz2⟩ := info_parts infoWord
  have h := run_make (P := Try.prog) W 32 22 i0 (.int .u64 0) Try.underlying32 hi hz0 .i64 .i64 (r : Int) (r : Int) (by omega) (Int.le_refl _) (by rw [hz2]; omega) (by omega)
  rw [Int.toNat_natCast] at h
  rw [h, hz1, Nat.mul_one, show (Value.int IntKind.u64 0).cells = #[Value.int IntKind.u64 0] from rfl, made_ints]
theorem roomN_eq (c : Int) (n m : Nat) (hc : okC c = true) (hm : wd c = m) (hn : n ≤ 1099511627776) : roomN c n = (((n * m + 63) / 64 : Nat) : Int) := by
  unfold roomN
  rw [if_pos ⟨hc, by omega, by omega⟩, hm, ← Int.natCast_mul]
  omega
def PutPost (c : Int) (xs : List Int) (w : World) (e : Ending) (w' : World) : Prop :=
  Below w.heap.size w w' ∧ ((putOk c xs = false ∧ e = .returned (.tuple #[.slice none 0 0, .bool false])) ∨
    (putOk c xs = true ∧ ∃ g m r, wd c = (m : Nat) ∧ r = (xs.length * m + 63) / 64 ∧ w.heap.size ≤ g ∧ e = .returned (.tuple #[.slice (some ⟨g, 0, none⟩) r r, .bool true]) ∧ Blk w' g 22 ((putTo xs m r xs.length).map (Value.int .u64)).toArray))
theorem take_fits (c : Int) (xs : List Int) (t : Nat) (ht : t ≤ xs.length) (h : (xs.take t).all (fitsN c) = true) (i : Nat) (hi : i < t) : fitsN c (xs.getD i 0) = true := by
  rw [List.all_eq_true] at h
  have h2 : xs[i]'(by omega) ∈ xs.take t := List.mem_take_iff_getElem.2 ⟨i, by omega, rfl⟩
  rw [List.getD_eq_getElem?_getD, List.getElem?_eq_getElem (by omega)]
  exact h _ h2
theorem code_width (c : Int) (m : Nat) (hm : wd c = m) (h0 : m ≠ 0) : m = 1 ∨ m = 8 ∨ m = 16 ∨ m = 32 ∨ m = 64 := by
  unfold wd at hm
  repeat' split at hm
  all_goals omega
theorem idx_lt (t m n r : Nat) (ht : t < n) (h0 : m ≠ 0) (hr : r = (n * m + 63) / 64) : t * m / 64 < r := by
  have : (t + 1) * m ≤ n * m := Nat.mul_le_mul_right _ ht
  rw [Nat.add_mul, Nat.one_mul] at this
  omega
theorem getD_bd (xs : List Int) (hxb : ∀ x ∈ xs, 0 ≤ x ∧ x ≤ 18446744073709551615) (i : Nat) : 0 ≤ xs.getD i 0 ∧ xs.getD i 0 ≤ 18446744073709551615 := by
  rw [List.getD_eq_getElem?_getD]
  by_cases h : i < xs.length
  · rw [List.getElem?_eq_getElem h]
    exact hxb _ (List.getElem_mem h)
  · rw [List.getElem?_eq_none (by omega)]
    simp
/-- a number is laid into its word -/
theorem put_bit (c : Int) (xs : List Int) (m r t : Nat) (hm : wd c = m) (h0 : m ≠ 0) (hxb : ∀ x ∈ xs, 0 ≤ x ∧ x ≤ 18446744073709551615) (hr : r = (xs.length * m + 63) / 64) (ht : t < xs.length)
    (hf : (xs.take t).all (fitsN c) = true) (hft : fitsN c xs[t] = true) :
    bits .or .u64 ((putTo xs m r t)[t * m / 64]?.getD 0) (IntKind.u64.wrap (xs[t] * 2 ^ (t * m % 64))) = (putTo xs m r t).getD (t * m / 64) 0 + xs.getD t 0 * 2 ^ (t * m % 64) := by
  have hm5 := code_width c m hm h0
  have hx : xs.getD t 0 = xs[t] := by rw [List.getD_eq_getElem?_getD, List.getElem?_eq_getElem (by omega)]; rfl
  have hxs : ∀ i, i < t → 0 ≤ xs.getD i 0 ∧ xs.getD i 0 < 2 ^ m := fun i hi => ⟨(getD_bd xs hxb i).1, fitsN_lt c _ m hm (take_fits c xs t (by omega) hf i hi) (getD_bd xs hxb i).1⟩
  have hW := (putTo_inv xs m r hm5 t (by omega) hxs (by omega) t (Nat.le_refl _)).1 (t * m / 64)
  have hmin : min 64 (t * m - 64 * (t * m / 64)) = t * m % 64 := by omega
  rw [hmin] at hW
  have hal : t * m % 64 + m ≤ 64 := by rcases hm5 with rfl | rfl | rfl | rfl | rfl <;> omega
  have hxt := hxb _ (List.getElem_mem ht)
  have hxlt := fitsN_lt c _ m hm hft hxt.1
  rw [← List.getD_eq_getElem?_getD, hx]
  generalize (putTo xs m r t).getD (t * m / 64) 0 = W at *
  generalize xs[t] = x at *
  have hp := pow2_pos (t * m % 64)
  have hpq : (2 : Int) ^ m * 2 ^ (t * m % 64) ≤ 18446744073709551616 := by
    rw [← Int.pow_add]
    have : (2 : Nat) ^ (m + t * m % 64) ≤ 2 ^ 64 := Nat.pow_le_pow_right (by decide) (by omega)
    have h2 : ((2 ^ (m + t * m % 64) : Nat) : Int) ≤ ((2 ^ 64 : Nat) : Int) := by exact_mod_cast this
    rw [Int.natCast_pow] at h2
    exact h2
  have hp64 : (2 : Int) ^ (t * m % 64) ≤ 9223372036854775808 := pow2_le64 _ (by omega)
  generalize hpe : (2 : Int) ^ (t * m % 64) = p at *
  generalize (2 : Int) ^ m = q at *
  have h1 : 0 ≤ x * p := Int.mul_nonneg hxt.1 (by omega)
  have h2 : x * p ≤ (q - 1) * p := Int.mul_le_mul_of_nonneg_right (by omega) (by omega)
  rw [Int.sub_mul] at h2
  rw [IntWalk.u64_in _ ⟨h1, by omega⟩]
  exact or_join (t * m % 64) p _ _ hpe.symm hW.1 hW.2 (by omega) h1 (by omega) (Int.mul_emod_left _ _)

set_option maxHeartbeats 2000000 in
theorem put_any (A : Option Addr) (k b0 n : Nat) (xs : List Int) (c : Int) (w : World) (hn : n = xs.length) (lx : n ≤ 1099511627776)
    (hx : Reads w b0 A (xs.map (Value.int .u64))) (hb0 : b0 ≤ w.heap.size) (hxb : ∀ x ∈ xs, 0 ≤ x ∧ x ≤ 18446744073709551615) :
    Calls Try.prog 17 #[.int .i64 c, .slice A n k] w (PutPost c xs w) := by
  subst hn
  cases hc : okC c
  · have hp : putOk c xs = false := by unfold putOk; rw [hc]; rfl
    have HP := hide hp
    have HC := hide hc
    clear hp hc
    go_enter Try.func17, Try.ntmps17
    go_wp2_with fail
    refine (width_any c _).mono ?_
    rintro e w1 ⟨rfl, hb1⟩
    rw [HC.out]
    go_wp2_with fail
    go_ret2
    exact ⟨hb1, .inl ⟨HP.out, rfl⟩⟩
  · obtain ⟨m, hm⟩ := Int.eq_ofNat_of_zero_le (wd_bd c).1
    have hm64 := (wd_bd c).2
    rw [hm] at hm64
    obtain ⟨r, hr⟩ : ∃ r, r = (xs.length * m + 63) / 64 := ⟨_, rfl⟩
    have hroom := roomN_eq c xs.length m hc hm lx
    rw [← hr] at hroom
    have hmul : xs.length * m ≤ 70368744177664 := Nat.le_trans (Nat.mul_le_mul lx (show m ≤ 64 by omega)) (by decide)
    have hr17 : r ≤ 1099511627776 := by
      have : xs.length * m ≤ 1099511627776 * 64 := Nat.mul_le_mul lx (show m ≤ 64 by omega)
      omega
    have hmk := run_make_words r (by omega)
    have HR := hide hroom
    have HM := hide hm
    have HC := hide hc
    have HRR := hide hr
    clear hroom hm hc hr
    go_enter Try.func17, Try.ntmps17
    go_wp2_with fail
    refine (width_any c _).mono ?_
    rintro e w1 ⟨rfl, hb1⟩
    rw [HC.out, HM.out]
    go_wp2_with fail
    refine (room_any c _ _).mono ?_
    rintro e w2 ⟨rfl, hb2⟩
    rw [HR.out]
    go_wp2_with fail
    go_loopw [25] (fun i wr => ∃ t : Nat, t ≤ xs.length ∧ i = .int .i64 t ∧ Hid ((xs.take t).all (fitsN c) = true) ∧ Blk wr w2.heap.size 22 ((putTo xs m r t).map (Value.int .u64)).toArray ∧ Below w2.heap.size w2 wr) (fun i _ => xs.length - (intOf i).toNat)
    case atStart => exact ⟨0, by omega, rfl, by exact rfl, by have := Blk.new w2 22 ((List.replicate r (0 : Int)).map (Value.int .u64)).toArray; simpa [putTo] using this, (Below.refl _ _).alloc (Nat.le_refl _) _⟩
    case round =>
      obtain ⟨t, ht, rfl, hft, hblk, hbe⟩ := hrel
      have hbw : Below w.heap.size w wr := below_step (below_step hb1 hb2) (hbe.mono (Nat.le_refl _))
      have hxw := hx.below hbw hb0
      by_cases hlt : t < xs.length
      · obtain ⟨bx, ox, rfl, hbx, cx⟩ := hxw.intAt hlt
        have hb := hxb _ (List.getElem_mem hlt)
        cases hf : fitsN c xs[t]
        · have HF := hide hf
          clear hf
          go_wp2_with fail
          refine (fits_any c _ hb.1 hb.2 _).mono ?_
          rintro e w3 ⟨rfl, hb3⟩
          rw [HF.out]
          go_wp2_with fail
          go_ret2
          refine ⟨below_step hbw hb3, .inl ⟨?_, rfl⟩⟩
          unfold putOk
          rw [HC.out, Bool.true_and, List.all_eq_false]
          exact ⟨_, List.getElem_mem hlt, by rw [HF.out]; simp⟩
        · have HF := hide hf
          clear hf
          go_wp2_with fail
          refine (fits_any c _ hb.1 hb.2 _).mono ?_
          rintro e w3 ⟨rfl, hb3⟩
          rw [HF.out]
          have hblk3 := hblk.below hb3 hblk.lt
          by_cases hm0 : m = 0
          · have hmp : decide (0 < m) = false := by simp; omega
            have hm0' : m ≤ 0 := by omega
            have HM0 := hide hm0
            clear hm0
            go_wp2_with fail
            go_roundw
            case rel =>
              have hall : (xs.take (t + 1)).all (fitsN c) = true := by
                have h4 := hft.out
                rw [List.take_succ_eq_append_getElem hlt, List.all_append, h4]
                simp [HF.out]
              refine ⟨t + 1, by omega, by go_num, hall, ?_, hbe.trans (hb3.mono hbe.size)⟩
              have h6 : putTo xs m r (t + 1) = putTo xs m r t := by simp only [putTo, HM0.out, if_true]
              rw [h6]
              exact hblk3
            case measure => simp [intOf]; omega
          · have hmp : decide (0 < m) = true := by simp; omega
            have hidx : t * m / 64 < r := idx_lt t m xs.length r hlt hm0 HRR.out
            have co := hblk3.intAt (i := t * m / 64) (by rw [putTo_len]; exact hidx)
            have fo := hblk3.frozen (t * m / 64)
            have hz0 : (0 : Int) ≤ (t : Int) * (m : Int) := by rw [← Int.natCast_mul]; omega
            have hz1 : (t : Int) * (m : Int) ≤ 70368744177664 := by
              have h3 : t * m ≤ xs.length * m := Nat.mul_le_mul_right _ ht
              rw [← Int.natCast_mul]
              omega
            go_wp2_with fail
            go_region
            go_wp2_with fail
            go_roundw
            case rel =>
              have hall : (xs.take (t + 1)).all (fitsN c) = true := by
                have h4 := hft.out
                rw [List.take_succ_eq_append_getElem hlt, List.all_append, h4]
                simp [HF.out]
              refine ⟨t + 1, by omega, by go_num, hall, ?_, ?_⟩
              · have h5 := hblk3.setInt (t * m / 64) ((putTo xs m r t).getD (t * m / 64) 0 + xs.getD t 0 * 2 ^ (t * m % 64))
                rw [put_bit c xs m r t HM.out hm0 hxb HRR.out hlt hft.out HF.out]
                simp only [putTo, hm0, if_false]
                exact h5
              · exact ((hbe.trans (hb3.mono hbe.size)).setCell (Nat.le_refl _) _).drew
            case measure => simp [intOf]; omega
      · have hte : t = xs.length := by omega
        subst hte
        go_wp2_with fail
        go_ret2
        refine ⟨hbw, .inr ⟨?_, w2.heap.size, m, r, HM.out, HRR.out, Nat.le_trans hb1.size hb2.size, rfl, hblk⟩⟩
        · unfold putOk
          have h4 := hft.out
          rw [List.take_of_length_le (Nat.le_refl _)] at h4
          rw [HC.out, h4]
          rfl
end Go.Proofs.Ytnipbkplobpnhaa
