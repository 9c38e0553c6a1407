/-
  Comparing paths.
-/
import Derived.Test.YtmlmmajdeclpoaaPthA
import Derived.Deep.RegionHeld3
import Derived.Laws.StructEq
import Derived.Outline
import Derived.BigQuiet
namespace Go.Proofs.Ytmlmmajdeclpoaa
open Go.RowKit

theorem eqStep (a b c d : Int) (w : World) : (Op.equalIn 10000 41 (.agg #[.int .i64 a, .int .i64 b]) (.agg #[.int .i64 c, .int .i64 d])).run Try.prog w = .ok (a == c && b == d) w := by
  have hS : Try.prog.underlying 41 = some (.struct (Try.prog.fieldsOf 41)) := by kernel_rfl
  have hp : Try.prog.stoodInHeld 41 = false := by kernel_rfl
  rw [show (10000 : Nat) = 9999 + 1 from rfl, run_equalIn_agg w 9999 41 _ _ hS hp]
  have hU := Try.underlying41
  have uI := Try.underlying3
  simp only [Program.fieldsOf, hU]
  go_simp
  by_cases h1 : a = c <;> by_cases h2 : b = d <;> simp [h1, h2]

set_option maxHeartbeats 1000000 in
theorem cmpS_any (a b c d : Int) (w : World) :
    Calls Try.prog 24 #[.agg #[.int .i64 a, .int .i64 b], .agg #[.int .i64 c, .int .i64 d]] w fun e w' => e = .returned (.int .i64 (cmpS (a, b) (c, d))) ∧ Below w.heap.size w w' := by
  have heq := eqStep
  have hbw : Below w.heap.size w ((w.alloc (.cells #[.int .i64 a, .int .i64 b] 41)).alloc (.cells #[.int .i64 c, .int .i64 d] 41)) := (((Below.refl _ _).alloc (Nat.le_refl _) _).alloc (by simp) _)
  generalize hr : cmpS (a, b) (c, d) = r
  have HR := hide hr
  unfold cmpS at hr
  simp only [Prod.mk.injEq] at hr
  by_cases h1 : a = c
  · by_cases h2 : b = d
    · have e1 : (a == c) = true := by simpa using h1
      have e2 : (b == d) = true := by simpa using h2
      rw [if_pos ⟨h1, h2⟩] at hr
      subst hr
      clear HR h1 h2
      go_enter Try.func24, Try.ntmps24
      go_wp2_with fail
      go_ret
      exact ⟨rfl, hbw⟩
    · have e1 : (a == c) = true := by simpa using h1
      have e2 : (b == d) = false := by simpa using h2
      have e3 : (a != c) = false := by simp [h1]
      rw [if_neg (fun h => h2 h.2)] at hr
      by_cases h3 : b < d
      · rw [if_pos (.inr ⟨h1, h3⟩)] at hr
        subst hr
        have e4 : decide (b < d) = true := by simpa using h3
        clear HR h1 h2
        go_enter Try.func24, Try.ntmps24
        go_wp2_with fail
        go_ret
        exact ⟨rfl, hbw⟩
      · rw [if_neg (fun h => by rcases h with h | h <;> omega)] at hr
        subst hr
        have e4 : decide (b < d) = false := by simpa using h3
        clear HR h1 h2
        go_enter Try.func24, Try.ntmps24
        go_wp2_with fail
        go_ret
        exact ⟨rfl, hbw⟩
  · have e1 : (a == c) = false := by simpa using h1
    have e3 : (a != c) = true := by simp [h1]
    rw [if_neg (fun h => h1 h.1)] at hr
    by_cases h3 : a < c
    · rw [if_pos (.inl h3)] at hr
      subst hr
      have e4 : decide (a < c) = true := by simpa using h3
      clear HR h1
      go_enter Try.func24, Try.ntmps24
      go_wp2_with fail
      go_ret
      exact ⟨rfl, hbw⟩
    · rw [if_neg (fun h => by rcases h with h | h <;> omega)] at hr
      subst hr
      have e4 : decide (a < c) = false := by simpa using h3
      clear HR h1
      go_enter Try.func24, Try.ntmps24
      go_wp2_with fail
      go_ret
      exact ⟨rfl, hbw⟩
end Go.Proofs.Ytmlmmajdeclpoaa
