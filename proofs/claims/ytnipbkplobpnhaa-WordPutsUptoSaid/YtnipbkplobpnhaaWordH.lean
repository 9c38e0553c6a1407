/-
  Get of package word and of its reference.
-/
import Derived.Test.YtnipbkplobpnhaaWordG
namespace Go.Proofs.Ytnipbkplobpnhaa
open Go.RowKit

/-- a number of a code that stands in words; 0: it is not there -/
def getN (xs : List Int) (c i : Int) : Int :=
  if okC c = true ∧ wd c ≠ 0 ∧ 0 ≤ i ∧ i ≤ 1099511627776 ∧ i * wd c / 64 < xs.length then xs.getD (i * wd c / 64).toNat 0 / 2 ^ (i * wd c % 64).toNat % 2 ^ (wd c).toNat else 0
theorem getN_no (xs : List Int) (c i : Int) (h : ¬ (okC c = true ∧ wd c ≠ 0 ∧ 0 ≤ i ∧ i ≤ 1099511627776 ∧ i * wd c / 64 < xs.length)) : getN xs c i = 0 := by unfold getN; rw [if_neg h]
theorem and_mask (i : Nat) (m x : Int) (hm : m = 2 ^ i - 1) (h0 : 0 ≤ x) (h1 : x ≤ 18446744073709551615) (hm2 : 0 ≤ m) (hm3 : m ≤ 18446744073709551615) : bits .and .u64 x m = x % 2 ^ i := by
  rw [u64_and x m h0 (by omega) hm2 (by omega)]
  have e : m.toNat = 2 ^ i - 1 := by
    have h2 : (1 : Nat) ≤ 2 ^ i := Nat.one_le_two_pow
    have h3 : ((2 ^ i - 1 : Nat) : Int) = m := by rw [hm, Int.natCast_sub h2, Int.natCast_pow]; rfl
    omega
  rw [e, Nat.and_two_pow_sub_one_eq_mod, Int.natCast_emod, Int.toNat_of_nonneg h0, Int.natCast_pow]
  rfl

set_option maxHeartbeats 2000000 in
theorem get_no (A : Option Addr) (k n : Nat) (xs : List Int) (c i : Int) (w : World) (hn : n = xs.length) (lx : n ≤ maxLen)
    (h : okC c = false ∨ c = 0 ∨ i < 0 ∨ 1099511627776 < i) :
    Calls Try.prog 20 #[.slice A n k, .int .i64 c, .int .i64 i] w fun e w' => e = .returned (.int .u64 0) ∧ Below w.heap.size w w' := by
  subst hn
  unfold maxLen at lx
  cases hc : okC c
  · have HC := hide hc
    clear h hc
    go_enter Try.func20, Try.ntmps20
    go_wp2_with fail
    refine (width_any c _).mono ?_
    rintro e w1 ⟨rfl, hb1⟩
    rw [HC.out]
    go_wp2_with fail
    go_ret
    exact ⟨rfl, hb1⟩
  · have h' : c = 0 ∨ i < 0 ∨ 1099511627776 < i := by
      rcases h with h | h
      · rw [hc] at h; cases h
      · exact h
    rcases h' with rfl | h' | h'
    · go_enter Try.func20, Try.ntmps20
      go_wp2_with fail
      refine (width_any _ _).mono ?_
      rintro e w1 ⟨rfl, hb1⟩
      simp only [wd, okC]
      go_wp2_with fail
      go_ret
      exact ⟨rfl, hb1⟩
    all_goals
      rcases okC_true hc with rfl | rfl | rfl | rfl | rfl | rfl
      all_goals
        go_enter Try.func20, Try.ntmps20
        go_wp2_with fail
        refine (width_any _ _).mono ?_
        rintro e w1 ⟨rfl, hb1⟩
        simp only [wd, okC]
        go_wp2_with fail
        go_ret
        exact ⟨rfl, hb1⟩

set_option maxHeartbeats 1000000 in
theorem get_1 (A : Option Addr) (k b0 n i : Nat) (xs : List Int) (w : World) (hn : n = xs.length) (lx : n ≤ maxLen)
    (hx : Reads w b0 A (xs.map (Value.int .u64))) (hb0 : b0 ≤ w.heap.size) (hxb : ∀ x ∈ xs, 0 ≤ x ∧ x ≤ 18446744073709551615) (hi : i ≤ 1099511627776) :
    Calls Try.prog 20 #[.slice A n k, .int .i64 1, .int .i64 i] w fun e w' => e = .returned (.int .u64 (getN xs 1 i)) ∧ Below w.heap.size w w' := by
  subst hn
  unfold maxLen at lx
  by_cases hlt : i / 64 < xs.length
  · obtain ⟨bx, ox, rfl, hbx, cx⟩ := hx.intAt hlt
    have hb := hxb _ (List.getElem_mem hlt)
    have e1 : getN xs 1 i = xs[i / 64] / 2 ^ (i % 64) % 2 ^ 1 := by
      unfold getN
      have e0 : wd 1 = 1 := by decide
      have e2 : ((i : Int) * 1 / 64).toNat = i / 64 := by omega
      have e3 : ((i : Int) * 1 % 64).toNat = i % 64 := by omega
      rw [e0, if_pos ⟨by decide, by decide, by omega, by omega, by omega⟩, e2, e3, List.getD_eq_getElem?_getD, List.getElem?_eq_getElem hlt]
      rfl
    have E1 := hide e1
    have HB := hide hxb
    clear e1 hxb
    generalize xs[i / 64] = x at *
    go_enter Try.func20, Try.ntmps20
    go_wp2_with fail
    refine (width_any _ _).mono ?_
    rintro e w1 ⟨rfl, hb1⟩
    simp only [wd, okC]
    have cx1 : w1.cell? ⟨bx, ox + (i / 64), none⟩ = some (.int .u64 x) := (hb1.cell (by exact Nat.lt_of_lt_of_le hbx hb0)).trans cx
    go_wp2_with fail
    go_ret
    refine ⟨ret_int ?_, hb1⟩
    rw [E1.out]
    exact and_mask 1 _ _ (by decide) (Int.ediv_nonneg hb.1 (Int.le_of_lt (pow2_pos _))) (Int.le_trans (Int.ediv_le_self _ hb.1) hb.2) (by decide) (by decide)
  · have e1 : getN xs 1 i = 0 := getN_no _ _ _ (by
      have e0 : wd 1 = 1 := by decide
      rw [e0]
      omega)
    have E1 := hide e1
    clear e1
    go_enter Try.func20, Try.ntmps20
    go_wp2_with fail
    refine (width_any _ _).mono ?_
    rintro e w1 ⟨rfl, hb1⟩
    simp only [wd, okC]
    go_wp2_with fail
    go_ret
    rw [E1.out]
    exact ⟨rfl, hb1⟩

set_option maxHeartbeats 1000000 in
theorem get_2 (A : Option Addr) (k b0 n i : Nat) (xs : List Int) (w : World) (hn : n = xs.length) (lx : n ≤ maxLen)
    (hx : Reads w b0 A (xs.map (Value.int .u64))) (hb0 : b0 ≤ w.heap.size) (hxb : ∀ x ∈ xs, 0 ≤ x ∧ x ≤ 18446744073709551615) (hi : i ≤ 1099511627776) :
    Calls Try.prog 20 #[.slice A n k, .int .i64 2, .int .i64 i] w fun e w' => e = .returned (.int .u64 (getN xs 2 i)) ∧ Below w.heap.size w w' := by
  subst hn
  unfold maxLen at lx
  by_cases hlt : i * 8 / 64 < xs.length
  · obtain ⟨bx, ox, rfl, hbx, cx⟩ := hx.intAt hlt
    have hb := hxb _ (List.getElem_mem hlt)
    have e1 : getN xs 2 i = xs[i * 8 / 64] / 2 ^ (i * 8 % 64) % 2 ^ 8 := by
      unfold getN
      have e0 : wd 2 = 8 := by decide
      have e2 : ((i : Int) * 8 / 64).toNat = i * 8 / 64 := by omega
      have e3 : ((i : Int) * 8 % 64).toNat = i * 8 % 64 := by omega
      rw [e0, if_pos ⟨by decide, by decide, by omega, by omega, by omega⟩, e2, e3, List.getD_eq_getElem?_getD, List.getElem?_eq_getElem hlt]
      rfl
    have E1 := hide e1
    have HB := hide hxb
    clear e1 hxb
    generalize xs[i * 8 / 64] = x at *
    go_enter Try.func20, Try.ntmps20
    go_wp2_with fail
    refine (width_any _ _).mono ?_
    rintro e w1 ⟨rfl, hb1⟩
    simp only [wd, okC]
    have cx1 : w1.cell? ⟨bx, ox + (i * 8 / 64), none⟩ = some (.int .u64 x) := (hb1.cell (by exact Nat.lt_of_lt_of_le hbx hb0)).trans cx
    go_wp2_with fail
    go_ret
    refine ⟨ret_int ?_, hb1⟩
    rw [E1.out]
    exact and_mask 8 _ _ (by decide) (Int.ediv_nonneg hb.1 (Int.le_of_lt (pow2_pos _))) (Int.le_trans (Int.ediv_le_self _ hb.1) hb.2) (by decide) (by decide)
  · have e1 : getN xs 2 i = 0 := getN_no _ _ _ (by
      have e0 : wd 2 = 8 := by decide
      rw [e0]
      omega)
    have E1 := hide e1
    clear e1
    go_enter Try.func20, Try.ntmps20
    go_wp2_with fail
    refine (width_any _ _).mono ?_
    rintro e w1 ⟨rfl, hb1⟩
    simp only [wd, okC]
    go_wp2_with fail
    go_ret
    rw [E1.out]
    exact ⟨rfl, hb1⟩

set_option maxHeartbeats 1000000 in
theorem get_3 (A : Option Addr) (k b0 n i : Nat) (xs : List Int) (w : World) (hn : n = xs.length) (lx : n ≤ maxLen)
    (hx : Reads w b0 A (xs.map (Value.int .u64))) (hb0 : b0 ≤ w.heap.size) (hxb : ∀ x ∈ xs, 0 ≤ x ∧ x ≤ 18446744073709551615) (hi : i ≤ 1099511627776) :
    Calls Try.prog 20 #[.slice A n k, .int .i64 3, .int .i64 i] w fun e w' => e = .returned (.int .u64 (getN xs 3 i)) ∧ Below w.heap.size w w' := by
  subst hn
  unfold maxLen at lx
  by_cases hlt : i * 16 / 64 < xs.length
  · obtain ⟨bx, ox, rfl, hbx, cx⟩ := hx.intAt hlt
    have hb := hxb _ (List.getElem_mem hlt)
    have e1 : getN xs 3 i = xs[i * 16 / 64] / 2 ^ (i * 16 % 64) % 2 ^ 16 := by
      unfold getN
      have e0 : wd 3 = 16 := by decide
      have e2 : ((i : Int) * 16 / 64).toNat = i * 16 / 64 := by omega
      have e3 : ((i : Int) * 16 % 64).toNat = i * 16 % 64 := by omega
      rw [e0, if_pos ⟨by decide, by decide, by omega, by omega, by omega⟩, e2, e3, List.getD_eq_getElem?_getD, List.getElem?_eq_getElem hlt]
      rfl
    have E1 := hide e1
    have HB := hide hxb
    clear e1 hxb
    generalize xs[i * 16 / 64] = x at *
    go_enter Try.func20, Try.ntmps20
    go_wp2_with fail
    refine (width_any _ _).mono ?_
    rintro e w1 ⟨rfl, hb1⟩
    simp only [wd, okC]
    have cx1 : w1.cell? ⟨bx, ox + (i * 16 / 64), none⟩ = some (.int .u64 x) := (hb1.cell (by exact Nat.lt_of_lt_of_le hbx hb0)).trans cx
    go_wp2_with fail
    go_ret
    refine ⟨ret_int ?_, hb1⟩
    rw [E1.out]
    exact and_mask 16 _ _ (by decide) (Int.ediv_nonneg hb.1 (Int.le_of_lt (pow2_pos _))) (Int.le_trans (Int.ediv_le_self _ hb.1) hb.2) (by decide) (by decide)
  · have e1 : getN xs 3 i = 0 := getN_no _ _ _ (by
      have e0 : wd 3 = 16 := by decide
      rw [e0]
      omega)
    have E1 := hide e1
    clear e1
    go_enter Try.func20, Try.ntmps20
    go_wp2_with fail
    refine (width_any _ _).mono ?_
    rintro e w1 ⟨rfl, hb1⟩
    simp only [wd, okC]
    go_wp2_with fail
    go_ret
    rw [E1.out]
    exact ⟨rfl, hb1⟩

set_option maxHeartbeats 1000000 in
theorem get_4 (A : Option Addr) (k b0 n i : Nat) (xs : List Int) (w : World) (hn : n = xs.length) (lx : n ≤ maxLen)
    (hx : Reads w b0 A (xs.map (Value.int .u64))) (hb0 : b0 ≤ w.heap.size) (hxb : ∀ x ∈ xs, 0 ≤ x ∧ x ≤ 18446744073709551615) (hi : i ≤ 1099511627776) :
    Calls Try.prog 20 #[.slice A n k, .int .i64 4, .int .i64 i] w fun e w' => e = .returned (.int .u64 (getN xs 4 i)) ∧ Below w.heap.size w w' := by
  subst hn
  unfold maxLen at lx
  by_cases hlt : i * 32 / 64 < xs.length
  · obtain ⟨bx, ox, rfl, hbx, cx⟩ := hx.intAt hlt
    have hb := hxb _ (List.getElem_mem hlt)
    have e1 : getN xs 4 i = xs[i * 32 / 64] / 2 ^ (i * 32 % 64) % 2 ^ 32 := by
      unfold getN
      have e0 : wd 4 = 32 := by decide
      have e2 : ((i : Int) * 32 / 64).toNat = i * 32 / 64 := by omega
      have e3 : ((i : Int) * 32 % 64).toNat = i * 32 % 64 := by omega
      rw [e0, if_pos ⟨by decide, by decide, by omega, by omega, by omega⟩, e2, e3, List.getD_eq_getElem?_getD, List.getElem?_eq_getElem hlt]
      rfl
    have E1 := hide e1
    have HB := hide hxb
    clear e1 hxb
    generalize xs[i * 32 / 64] = x at *
    go_enter Try.func20, Try.ntmps20
    go_wp2_with fail
    refine (width_any _ _).mono ?_
    rintro e w1 ⟨rfl, hb1⟩
    simp only [wd, okC]
    have cx1 : w1.cell? ⟨bx, ox + (i * 32 / 64), none⟩ = some (.int .u64 x) := (hb1.cell (by exact Nat.lt_of_lt_of_le hbx hb0)).trans cx
    go_wp2_with fail
    go_ret
    refine ⟨ret_int ?_, hb1⟩
    rw [E1.out]
    exact and_mask 32 _ _ (by decide) (Int.ediv_nonneg hb.1 (Int.le_of_lt (pow2_pos _))) (Int.le_trans (Int.ediv_le_self _ hb.1) hb.2) (by decide) (by decide)
  · have e1 : getN xs 4 i = 0 := getN_no _ _ _ (by
      have e0 : wd 4 = 32 := by decide
      rw [e0]
      omega)
    have E1 := hide e1
    clear e1
    go_enter Try.func20, Try.ntmps20
    go_wp2_with fail
    refine (width_any _ _).mono ?_
    rintro e w1 ⟨rfl, hb1⟩
    simp only [wd, okC]
    go_wp2_with fail
    go_ret
    rw [E1.out]
    exact ⟨rfl, hb1⟩

set_option maxHeartbeats 1000000 in
theorem get_5 (A : Option Addr) (k b0 n i : Nat) (xs : List Int) (w : World) (hn : n = xs.length) (lx : n ≤ maxLen)
    (hx : Reads w b0 A (xs.map (Value.int .u64))) (hb0 : b0 ≤ w.heap.size) (hxb : ∀ x ∈ xs, 0 ≤ x ∧ x ≤ 18446744073709551615) (hi : i ≤ 1099511627776) :
    Calls Try.prog 20 #[.slice A n k, .int .i64 5, .int .i64 i] w fun e w' => e = .returned (.int .u64 (getN xs 5 i)) ∧ Below w.heap.size w w' := by
  subst hn
  unfold maxLen at lx
  by_cases hlt : i < xs.length
  · obtain ⟨bx, ox, rfl, hbx, cx⟩ := hx.intAt hlt
    have hb := hxb _ (List.getElem_mem hlt)
    have e1 : getN xs 5 i = xs[i] / 2 ^ (i * 64 % 64) % 2 ^ 64 := by
      unfold getN
      have e0 : wd 5 = 64 := by decide
      have e2 : ((i : Int) * 64 / 64).toNat = i := by omega
      have e3 : ((i : Int) * 64 % 64).toNat = i * 64 % 64 := by omega
      rw [e0, if_pos ⟨by decide, by decide, by omega, by omega, by omega⟩, e2, e3, List.getD_eq_getElem?_getD, List.getElem?_eq_getElem hlt]
      rfl
    have E1 := hide e1
    have HB := hide hxb
    clear e1 hxb
    generalize xs[i] = x at *
    go_enter Try.func20, Try.ntmps20
    go_wp2_with fail
    refine (width_any _ _).mono ?_
    rintro e w1 ⟨rfl, hb1⟩
    simp only [wd, okC]
    have cx1 : w1.cell? ⟨bx, ox + i, none⟩ = some (.int .u64 x) := (hb1.cell (by exact Nat.lt_of_lt_of_le hbx hb0)).trans cx
    go_wp2_with fail
    go_ret
    refine ⟨ret_int ?_, hb1⟩
    rw [E1.out]
    rw [Nat.mul_mod_left]
    have : x % 18446744073709551616 = x := by omega
    simpa using this.symm
  · have e1 : getN xs 5 i = 0 := getN_no _ _ _ (by
      have e0 : wd 5 = 64 := by decide
      rw [e0]
      omega)
    have E1 := hide e1
    clear e1
    go_enter Try.func20, Try.ntmps20
    go_wp2_with fail
    refine (width_any _ _).mono ?_
    rintro e w1 ⟨rfl, hb1⟩
    simp only [wd, okC]
    go_wp2_with fail
    go_ret
    rw [E1.out]
    exact ⟨rfl, hb1⟩

theorem get_any (A : Option Addr) (k b0 n : Nat) (xs : List Int) (c i : Int) (w : World) (hn : n = xs.length) (lx : n ≤ maxLen)
    (hx : Reads w b0 A (xs.map (Value.int .u64))) (hb0 : b0 ≤ w.heap.size) (hxb : ∀ x ∈ xs, 0 ≤ x ∧ x ≤ 18446744073709551615) :
    Calls Try.prog 20 #[.slice A n k, .int .i64 c, .int .i64 i] w fun e w' => e = .returned (.int .u64 (getN xs c i)) ∧ Below w.heap.size w w' := by
  by_cases h : okC c = false ∨ c = 0 ∨ i < 0 ∨ 1099511627776 < i
  · rw [getN_no xs c i (by
      rintro ⟨h1, h2, h3, h4, _⟩
      rcases h with h | h | h | h
      · rw [h1] at h; cases h
      · subst h; exact h2 (by decide)
      · omega
      · omega)]
    exact get_no A k n xs c i w hn lx h
  · have hc : okC c = true := by
      cases e : okC c
      · exact absurd (.inl e) h
      · rfl
    have hi : 0 ≤ i ∧ i ≤ 1099511627776 := by
      constructor
      · have : ¬ i < 0 := fun e => h (.inr (.inr (.inl e)))
        omega
      · have : ¬ 1099511627776 < i := fun e => h (.inr (.inr (.inr e)))
        omega
    have h0 : c ≠ 0 := fun e => h (.inr (.inl e))
    obtain ⟨j, rfl⟩ := Int.eq_ofNat_of_zero_le hi.1
    rcases okC_true hc with rfl | rfl | rfl | rfl | rfl | rfl
    · exact absurd rfl h0
    · exact get_1 A k b0 n j xs w hn lx hx hb0 hxb (by omega)
    · exact get_2 A k b0 n j xs w hn lx hx hb0 hxb (by omega)
    · exact get_3 A k b0 n j xs w hn lx hx hb0 hxb (by omega)
    · exact get_4 A k b0 n j xs w hn lx hx hb0 hxb (by omega)
    · exact get_5 A k b0 n j xs w hn lx hx hb0 hxb (by omega)
end Go.Proofs.Ytnipbkplobpnhaa
