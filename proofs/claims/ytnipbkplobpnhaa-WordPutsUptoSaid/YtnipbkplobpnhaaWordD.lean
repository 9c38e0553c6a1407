/-
  Widths of codes; whether a number fits; how many words numbers take.
-/
import Derived.Test.YtnipbkplobpnhaaWordM
namespace Go.Proofs.Ytnipbkplobpnhaa
open Go.RowKit

/-- how many bits each number of a code has -/
def wd (c : Int) : Int := if c = 1 then 1 else if c = 2 then 8 else if c = 3 then 16 else if c = 4 then 32 else if c = 5 then 64 else 0
def okC (c : Int) : Bool := decide (0 ≤ c ∧ c ≤ 5)
theorem okC_true {c : Int} (h : okC c = true) : c = 0 ∨ c = 1 ∨ c = 2 ∨ c = 3 ∨ c = 4 ∨ c = 5 := by
  have := of_decide_eq_true h
  omega
theorem okC_false {c : Int} (h : okC c = false) : (c < 0 ∨ 6 ≤ c) ∧ wd c = 0 := by
  have := of_decide_eq_false h
  have h2 : c < 0 ∨ 6 ≤ c := by omega
  refine ⟨h2, ?_⟩
  unfold wd
  rw [if_neg (by omega), if_neg (by omega), if_neg (by omega), if_neg (by omega), if_neg (by omega)]
theorem code_cases (c : Int) : c < 0 ∨ 6 ≤ c ∨ c = 0 ∨ c = 1 ∨ c = 2 ∨ c = 3 ∨ c = 4 ∨ c = 5 := by omega

set_option maxHeartbeats 1000000 in
theorem width_any (c : Int) (w : World) :
    Calls Try.prog 35 #[.int .i64 c] w fun e w' => e = .returned (.tuple #[.int .i64 (wd c), .bool (okC c)]) ∧ Below w.heap.size w w' := by
  rcases code_cases c with h | h | rfl | rfl | rfl | rfl | rfl | rfl
  · have hn : okC c = false := decide_eq_false (by omega)
    have hw := (okC_false hn).2
    rw [hn, hw]
    clear hn hw
    go_enter Try.func35, Try.ntmps35
    go_wp2
    go_ret2
    exact ⟨rfl, by go_grown⟩
  · have hn : okC c = false := decide_eq_false (by omega)
    have hw := (okC_false hn).2
    rw [hn, hw]
    clear hn hw
    go_enter Try.func35, Try.ntmps35
    go_wp2
    go_ret2
    exact ⟨rfl, by go_grown⟩
  all_goals
    go_enter Try.func35, Try.ntmps35
    go_wp2
    go_ret2
    exact ⟨rfl, by go_grown⟩

theorem Width_any (c : Int) (w : World) :
    Calls Try.prog 21 #[.int .i64 c] w fun e w' => e = .returned (.tuple #[.int .i64 (wd c), .bool (okC c)]) ∧ Below w.heap.size w w' := by
  go_enter Try.func21, Try.ntmps21
  go_wp2_with (go_at_call 35; refine (width_any c _).mono ?_; rintro e w1 ⟨rfl, hb1⟩)
  go_ret2
  exact ⟨rfl, hb1⟩

/-- the reference's width -/
def rwd (c : Int) : Int := if okC c then wd c else -1
set_option maxHeartbeats 1000000 in
theorem refWidth_any (c : Int) (w : World) :
    Calls Try.prog 22 #[.int .i64 c] w fun e w' => e = .returned (.int .i64 (rwd c)) ∧ w = w' := by
  rcases code_cases c with h | h | rfl | rfl | rfl | rfl | rfl | rfl
  · have hn : okC c = false := decide_eq_false (by omega)
    unfold rwd
    rw [hn]
    clear hn
    have e0 : (c == 0) = false := beq_eq_false_iff_ne.2 (by omega)
    have e1 : (c == 1) = false := beq_eq_false_iff_ne.2 (by omega)
    have e2 : (c == 2) = false := beq_eq_false_iff_ne.2 (by omega)
    have e3 : (c == 3) = false := beq_eq_false_iff_ne.2 (by omega)
    have e4 : (c == 4) = false := beq_eq_false_iff_ne.2 (by omega)
    have e5 : (c == 5) = false := beq_eq_false_iff_ne.2 (by omega)
    go_enter Try.func22, Try.ntmps22
    go_wp2
    go_ret
    exact ⟨rfl, rfl⟩
  · have hn : okC c = false := decide_eq_false (by omega)
    unfold rwd
    rw [hn]
    clear hn
    have e0 : (c == 0) = false := beq_eq_false_iff_ne.2 (by omega)
    have e1 : (c == 1) = false := beq_eq_false_iff_ne.2 (by omega)
    have e2 : (c == 2) = false := beq_eq_false_iff_ne.2 (by omega)
    have e3 : (c == 3) = false := beq_eq_false_iff_ne.2 (by omega)
    have e4 : (c == 4) = false := beq_eq_false_iff_ne.2 (by omega)
    have e5 : (c == 5) = false := beq_eq_false_iff_ne.2 (by omega)
    go_enter Try.func22, Try.ntmps22
    go_wp2
    go_ret
    exact ⟨rfl, rfl⟩
  all_goals
    go_enter Try.func22, Try.ntmps22
    go_wp2
    go_ret
    exact ⟨rfl, rfl⟩

/-- does a number fit? -/
def fitsN (c n : Int) : Bool := okC c && n / 2 ^ (wd c).toNat == 0
set_option maxHeartbeats 1000000 in
theorem fits_any (c n : Int) (h0 : 0 ≤ n) (h1 : n ≤ 18446744073709551615) (w : World) :
    Calls Try.prog 24 #[.int .i64 c, .int .u64 n] w fun e w' => e = .returned (.bool (fitsN c n)) ∧ Below w.heap.size w w' := by
  cases hc : okC c
  · have e1 : fitsN c n = false := by unfold fitsN; rw [hc]; rfl
    have E1 := hide e1
    have HC := hide hc
    clear e1 hc
    go_enter Try.func24, Try.ntmps24
    go_wp2_with fail
    refine (width_any c _).mono ?_
    rintro e w1 ⟨rfl, hb1⟩
    rw [HC.out]
    go_wp2_with fail
    go_ret
    rw [E1.out]
    exact ⟨rfl, hb1⟩
  · rcases okC_true hc with rfl | rfl | rfl | rfl | rfl | rfl
    all_goals
      go_enter Try.func24, Try.ntmps24
      go_wp2_with fail
      refine (width_any _ _).mono ?_
      rintro e w1 ⟨rfl, hb1⟩
      simp only [wd, okC]
      go_wp2_with fail
      go_ret
      have e64 : n / 18446744073709551616 = 0 := by omega
      exact ⟨ret_bool (by simp [fitsN, okC, wd, e64]), hb1⟩
end Go.Proofs.Ytnipbkplobpnhaa
