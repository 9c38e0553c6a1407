/-
  Paths in plain Lean, and in memory.
-/
import Derived.Test.YtmlmmajdeclpoaaLib
namespace Go.Proofs.Ytmlmmajdeclpoaa
open Go.RowKit

abbrev Step := Int × Int
def stepCells (l : List Step) : List Value := l.flatMap fun s => [.int .i64 s.1, .int .i64 s.2]
theorem stepCells_nil : stepCells [] = [] := rfl
theorem stepCells_app (l k : List Step) : stepCells (l ++ k) = stepCells l ++ stepCells k := by
  unfold stepCells
  rw [List.flatMap_append]
theorem stepCells_one (a b : Int) : stepCells [(a, b)] = [.int .i64 a, .int .i64 b] := rfl
theorem stepCells_len (l : List Step) : (stepCells l).length = 2 * l.length := by
  unfold stepCells
  induction l with
  | nil => rfl
  | cons s r ih => rw [List.flatMap_cons, List.length_append, ih, List.length_cons]; simp; omega
theorem stepCells_at (l : List Step) (k : Nat) (h : k < l.length) : (stepCells l)[2 * k]? = some (.int .i64 l[k].1) ∧ (stepCells l)[2 * k + 1]? = some (.int .i64 l[k].2) := by
  induction l generalizing k with
  | nil => simp at h
  | cons s r ih =>
    have e : stepCells (s :: r) = [.int .i64 s.1, .int .i64 s.2] ++ stepCells r := rfl
    cases k with
    | zero => rw [e]; exact ⟨rfl, rfl⟩
    | succ k =>
      rw [e, List.getElem?_append_right (by simp; omega), List.getElem?_append_right (by simp; omega)]
      have := ih k (by simpa using h)
      simpa [show 2 * (k + 1) - 2 = 2 * k from by omega, show 2 * (k + 1) + 1 - 2 = 2 * k + 1 from by omega] using this
theorem stepCells_one1 (l : List Step) : ∀ u ∈ stepCells l, u.oneCell' = true := by
  intro u hu
  unfold stepCells at hu
  obtain ⟨s, _, h⟩ := List.mem_flatMap.1 hu
  simp only [List.mem_cons, List.not_mem_nil, or_false] at h
  rcases h with h | h <;> subst h <;> rfl
/-- the numbers of a script fit into 64 bits -/
def StepsOk (l : List Step) : Prop := ∀ s ∈ l, (-9223372036854775808 ≤ s.1 ∧ s.1 ≤ 9223372036854775807) ∧ (-9223372036854775808 ≤ s.2 ∧ s.2 ≤ 9223372036854775807)
theorem Reads.stepAt {w : World} {B : Nat} {A : Option Addr} {l : List Step} (h : Reads w B A (stepCells l)) {k : Nat} (hk : k < l.length) :
    ∃ b o, A = some ⟨b, o, none⟩ ∧ b < B ∧ w.cell? ⟨b, o + k * 2, none⟩ = some (.int .i64 l[k].1) ∧ w.cell? ⟨b, o + k * 2 + 1, none⟩ = some (.int .i64 l[k].2) := by
  obtain ⟨h0, h1⟩ := stepCells_at l k hk
  obtain ⟨b, o, e, hb, hc⟩ := h.all (by rw [stepCells_len]; omega)
  refine ⟨b, o, e, hb, ?_, ?_⟩
  · rw [Nat.mul_comm]; exact hc _ _ h0
  · rw [Nat.mul_comm, Nat.add_assoc]; exact hc _ _ h1


def cmpS (s t : Step) : Int := if s = t then 0 else if s.1 < t.1 ∨ (s.1 = t.1 ∧ s.2 < t.2) then -1 else 1
def cmpP : List Step → List Step → Int
  | [], [] => 0
  | [], _ :: _ => -1
  | _ :: _, [] => 1
  | s :: a, t :: b => if s = t then cmpP a b else cmpS s t
theorem cmpS_turn (s t : Step) : cmpS t s = - cmpS s t := by
  obtain ⟨a, b⟩ := s
  obtain ⟨c, d⟩ := t
  unfold cmpS
  simp only [Prod.mk.injEq]
  by_cases h1 : a = c
  · subst h1
    by_cases h2 : b = d
    · subst h2; simp
    · have h3 : ¬ d = b := fun e => h2 e.symm
      simp only [h2, h3, true_and, and_false, if_false, Int.lt_irrefl, false_or]
      split <;> split <;> omega
  · have h3 : ¬ c = a := fun e => h1 e.symm
    simp only [h1, h3, false_and, if_false, or_false]
    split <;> split <;> omega
theorem cmpS_zero (s t : Step) : cmpS s t = 0 ↔ s = t := by
  unfold cmpS
  by_cases h : s = t
  · simp [h]
  · simp only [h, if_false, iff_false]
    split <;> decide
theorem cmpP_turn : ∀ a b : List Step, cmpP b a = - cmpP a b
  | [], [] => rfl
  | [], _ :: _ => rfl
  | _ :: _, [] => rfl
  | s :: a, t :: b => by
    rw [cmpP, cmpP]
    by_cases h : s = t
    · rw [if_pos h, if_pos h.symm, cmpP_turn a b]
    · rw [if_neg h, if_neg (fun e => h e.symm), cmpS_turn]
theorem cmpP_zero : ∀ a b : List Step, cmpP a b = 0 ↔ a = b
  | [], [] => by simp [cmpP]
  | [], _ :: _ => by simp [cmpP]
  | _ :: _, [] => by simp [cmpP]
  | s :: a, t :: b => by
    rw [cmpP]
    by_cases h : s = t
    · rw [if_pos h, cmpP_zero a b]
      simp [h]
    · rw [if_neg h, cmpS_zero]
      simp [h]
theorem cmpS_bd (s t : Step) : cmpS s t = 0 ∨ cmpS s t = -1 ∨ cmpS s t = 1 := by
  unfold cmpS
  split
  · exact .inl rfl
  · split
    · exact .inr (.inl rfl)
    · exact .inr (.inr rfl)
theorem cmpP_bd : ∀ a b : List Step, cmpP a b = 0 ∨ cmpP a b = -1 ∨ cmpP a b = 1
  | [], [] => .inl rfl
  | [], _ :: _ => .inr (.inl rfl)
  | _ :: _, [] => .inr (.inr rfl)
  | s :: a, t :: b => by
    rw [cmpP]
    split
    · exact cmpP_bd a b
    · exact cmpS_bd s t
theorem cmpP_drop (a b : List Step) (k : Nat) (ha : k < a.length) (hb : k < b.length) : cmpP (a.drop k) (b.drop k) = if a[k] = b[k] then cmpP (a.drop (k + 1)) (b.drop (k + 1)) else cmpS a[k] b[k] := by
  rw [List.drop_eq_getElem_cons ha, List.drop_eq_getElem_cons hb, cmpP]
end Go.Proofs.Ytmlmmajdeclpoaa
