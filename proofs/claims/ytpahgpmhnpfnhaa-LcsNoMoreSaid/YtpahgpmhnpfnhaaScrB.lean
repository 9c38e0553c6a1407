/-
  Scripts in memory; right, Sizes of package script and of its reference.
-/
import Derived.Test.YtpahgpmhnpfnhaaLib
import Derived.Test.YtpahgpmhnpfnhaaScrA
namespace Go.Proofs.Ytpahgpmhnpfnhaa
open Go.RowKit Go.Proofs.Ytpahgpmhnpfnhaa.Scr

def stepCells (l : List Step) : List Value := l.flatMap fun s => [.int .i64 s.1, .int .i64 s.2]
theorem stepCells_nil : stepCells [] = [] := rfl
theorem stepCells_app (l k : List Step) : stepCells (l ++ k) = stepCells l ++ stepCells k := by
  unfold stepCells
  rw [List.flatMap_append]
theorem stepCells_one (a b : Int) : stepCells [(a, b)] = [.int .i64 a, .int .i64 b] := rfl
theorem stepCells_len (l : List Step) : (stepCells l).length = 2 * l.length := by
  unfold stepCells
  induction l with
  | nil => rfl
  | cons s r ih => rw [List.flatMap_cons, List.length_append, ih, List.length_cons]; simp; omega
theorem stepCells_at (l : List Step) (k : Nat) (h : k < l.length) : (stepCells l)[2 * k]? = some (.int .i64 l[k].1) ∧ (stepCells l)[2 * k + 1]? = some (.int .i64 l[k].2) := by
  induction l generalizing k with
  | nil => simp at h
  | cons s r ih =>
    have e : stepCells (s :: r) = [.int .i64 s.1, .int .i64 s.2] ++ stepCells r := rfl
    cases k with
    | zero => rw [e]; exact ⟨rfl, rfl⟩
    | succ k =>
      rw [e, List.getElem?_append_right (by simp; omega), List.getElem?_append_right (by simp; omega)]
      have := ih k (by simpa using h)
      simpa [show 2 * (k + 1) - 2 = 2 * k from by omega, show 2 * (k + 1) + 1 - 2 = 2 * k + 1 from by omega] using this
theorem stepCells_one1 (l : List Step) : ∀ u ∈ stepCells l, u.oneCell' = true := by
  intro u hu
  unfold stepCells at hu
  obtain ⟨s, _, h⟩ := List.mem_flatMap.1 hu
  simp only [List.mem_cons, List.not_mem_nil, or_false] at h
  rcases h with h | h <;> subst h <;> rfl
/-- the numbers of a script fit into 64 bits -/
def StepsOk (l : List Step) : Prop := ∀ s ∈ l, (-9223372036854775808 ≤ s.1 ∧ s.1 ≤ 9223372036854775807) ∧ (-9223372036854775808 ≤ s.2 ∧ s.2 ≤ 9223372036854775807)
theorem Reads.stepAt {w : World} {B : Nat} {A : Option Addr} {l : List Step} (h : Reads w B A (stepCells l)) {k : Nat} (hk : k < l.length) :
    ∃ b o, A = some ⟨b, o, none⟩ ∧ b < B ∧ w.cell? ⟨b, o + k * 2, none⟩ = some (.int .i64 l[k].1) ∧ w.cell? ⟨b, o + k * 2 + 1, none⟩ = some (.int .i64 l[k].2) := by
  obtain ⟨h0, h1⟩ := stepCells_at l k hk
  obtain ⟨b, o, e, hb, hc⟩ := h.all (by rw [stepCells_len]; omega)
  refine ⟨b, o, e, hb, ?_, ?_⟩
  · rw [Nat.mul_comm]; exact hc _ _ h0
  · rw [Nat.mul_comm, Nat.add_assoc]; exact hc _ _ h1

set_option maxHeartbeats 1000000 in
theorem right_any (a b : Int) (w : World) :
    Calls Try.prog 28 #[.agg #[.int .i64 a, .int .i64 b]] w fun e w' => e = .returned (.bool (okS (a, b))) ∧ Below w.heap.size w w' := by
  generalize he : okS (a, b) = r
  have HE := hide he
  clear he
  by_cases h0 : 0 ≤ a
  rotate_left
  · have dh0 : decide (0 ≤ a) = false := by simpa using h0
    go_enter Try.func28, Try.ntmps28
    go_wp2
    go_ret
    exact ⟨ret_bool (by rw [← HE.out]; simp [okS]; omega), by go_grown⟩
  by_cases h1 : a ≤ 2
  rotate_left
  · have dh1 : decide (a ≤ 2) = false := by simpa using h1
    go_enter Try.func28, Try.ntmps28
    go_wp2
    go_ret
    exact ⟨ret_bool (by rw [← HE.out]; simp [okS]; omega), by go_grown⟩
  by_cases h2 : 1 ≤ b
  rotate_left
  · have dh2 : decide (1 ≤ b) = false := by simpa using h2
    go_enter Try.func28, Try.ntmps28
    go_wp2
    go_ret
    exact ⟨ret_bool (by rw [← HE.out]; simp [okS]; omega), by go_grown⟩
  by_cases h3 : b ≤ 1048576
  rotate_left
  · have dh3 : decide (b ≤ 1048576) = false := by simpa using h3
    go_enter Try.func28, Try.ntmps28
    go_wp2
    go_ret
    exact ⟨ret_bool (by rw [← HE.out]; simp [okS]; omega), by go_grown⟩
  go_enter Try.func28, Try.ntmps28
  go_wp2
  go_ret
  exact ⟨ret_bool (by rw [← HE.out]; simp [okS]; omega), by go_grown⟩
set_option maxHeartbeats 1000000 in
theorem refRight_any (a b : Int) (w : World) :
    Calls Try.prog 35 #[.agg #[.int .i64 a, .int .i64 b]] w fun e w' => e = .returned (.bool (okS (a, b))) ∧ Below w.heap.size w w' := by
  generalize he : okS (a, b) = r
  have HE := hide he
  clear he
  by_cases h0 : 0 ≤ a
  rotate_left
  · have dh0 : decide (0 ≤ a) = false := by simpa using h0
    go_enter Try.func35, Try.ntmps35
    go_wp2
    go_ret
    exact ⟨ret_bool (by rw [← HE.out]; simp [okS]; omega), by go_grown⟩
  by_cases h1 : a ≤ 2
  rotate_left
  · have dh1 : decide (a ≤ 2) = false := by simpa using h1
    go_enter Try.func35, Try.ntmps35
    go_wp2
    go_ret
    exact ⟨ret_bool (by rw [← HE.out]; simp [okS]; omega), by go_grown⟩
  by_cases h2 : 1 ≤ b
  rotate_left
  · have dh2 : decide (1 ≤ b) = false := by simpa using h2
    go_enter Try.func35, Try.ntmps35
    go_wp2
    go_ret
    exact ⟨ret_bool (by rw [← HE.out]; simp [okS]; omega), by go_grown⟩
  by_cases h3 : b ≤ 1048576
  rotate_left
  · have dh3 : decide (b ≤ 1048576) = false := by simpa using h3
    go_enter Try.func35, Try.ntmps35
    go_wp2
    go_ret
    exact ⟨ret_bool (by rw [← HE.out]; simp [okS]; omega), by go_grown⟩
  go_enter Try.func35, Try.ntmps35
  go_wp2
  go_ret
  exact ⟨ret_bool (by rw [← HE.out]; simp [okS]; omega), by go_grown⟩
end Go.Proofs.Ytpahgpmhnpfnhaa
