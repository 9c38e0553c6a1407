/-
  Steps as an argument.
-/
import Derived.Test.YtmlmmajdeclpoaaPthA
import Derived.Test.YtmlmmajdeclpoaaOpen2
namespace Go.Proofs.Ytmlmmajdeclpoaa
open Go.ChangeShapes Go.WideShapes Go.ChangeAt Go.RowKit Go.Deep

section
variable {H : Type} {enc : TypeId × Value → H} {W : World}
theorem open_step {cs : List Value} {y : DataW H × List MemPlace} (h : Opens enc Try.prog W 41 cs y) : ∃ s : Step, cs = [.int .i64 s.1, .int .i64 s.2] := by
  obtain ⟨hlen, hf⟩ := h.fields Try.underlying41
  rw [show Try.prog.cellsOf 41 = 2 from by kernel_rfl] at hlen
  match cs, hlen with
  | [c0, c1], _ =>
    have hone : oneCellFields Try.prog (match Try.prog.underlying 41 with | some (.struct fs) => fs | _ => #[]) = true := by kernel_rfl
    rw [Try.underlying41] at hone
    obtain ⟨y0, h0⟩ := h.cell (i := 0) Try.underlying41 hone rfl rfl
    obtain ⟨y1, h1⟩ := h.cell (i := 1) Try.underlying41 hone rfl rfl
    obtain ⟨k, e0, _⟩ := h0.int Try.underlying3
    obtain ⟨i, e1, _⟩ := h1.int Try.underlying3
    simp at e0 e1
    exact ⟨(k, i), by rw [e0, e1]⟩
theorem open_steps {cs : List Value} {y : DataW H × List MemPlace} (h : Opens enc Try.prog W 26 cs y) :
    ∃ A n c l, cs = [.slice A n c] ∧ n = l.length ∧ Reads W W.heap.size A (stepCells l) ∧ n ≤ c ∧ c ≤ maxLen := by
  obtain ⟨A, n, c, e, hnc, hcm, hA, _, hel⟩ := h.elems (C := 2) Try.underlying26 (by kernel_rfl) (by decide)
  have hall : ∀ i, i < n → ∃ s : Step, ∃ b o, A = some ⟨b, o, none⟩ ∧ b < W.heap.size ∧ W.cell? ⟨b, o + i * 2, none⟩ = some (.int .i64 s.1) ∧ W.cell? ⟨b, o + i * 2 + 1, none⟩ = some (.int .i64 s.2) := fun i hi => by
    obtain ⟨b, o, cs', y', hA', hb', _, hat, ho⟩ := hel i hi
    obtain ⟨s, rfl⟩ := open_step ho
    exact ⟨s, b, o, hA', hb', hat 0 _ rfl, hat 1 _ rfl⟩
  obtain ⟨l, hl, hx⟩ := list_of _ hall
  refine ⟨A, n, c, l, e, hl.symm, fun j u hu => ?_, hnc, hcm⟩
  have hj := (List.getElem?_eq_some_iff.1 hu).1
  rw [stepCells_len] at hj
  have hi : j / 2 < l.length := by omega
  obtain ⟨s0, s1⟩ := stepCells_at l (j / 2) hi
  obtain ⟨b, o, hA', hb', g0, g1⟩ := hx (j / 2) _ (List.getElem?_eq_getElem hi)
  refine ⟨b, o, hA', hb', ?_⟩
  rcases (show j = 2 * (j / 2) ∨ j = 2 * (j / 2) + 1 by omega) with h | h
  · rw [h, s0] at hu
    rw [h, ← hu, Nat.mul_comm 2]
    exact g0
  · rw [h, s1] at hu
    rw [h, ← hu, Nat.mul_comm 2]
    exact g1
end
end Go.Proofs.Ytmlmmajdeclpoaa
