/-
  Segments as an argument.
-/
import Derived.Test.YtalboekhdjcllaaFrB
import Derived.Test.YtalboekhdjcllaaOpen2
namespace Go.Proofs.Ytalboekhdjcllaa
open Go.ChangeShapes Go.WideShapes Go.ChangeAt Go.RowKit Go.Deep

section
variable {H : Type} {enc : TypeId × Value → H} {W : World}
theorem open_seg {cs : List Value} {y : DataW H × List MemPlace} (h : Opens enc Try.prog W 38 cs y) : ∃ v xs, cs = [v] ∧ SegOk W W.heap.size v xs := by
  obtain ⟨A, n, c, xs, hcs, hn, _, _, hA, hr, hw, hb⟩ := h.ints Try.underlying38 Try.underlying41 (by kernel_rfl)
  rw [show Try.prog.bytesOf 41 = 8 from by kernel_rfl] at hb
  exact ⟨_, xs, hcs, A, n, c, rfl, hn, hr, fun x hx => wf_u64 (hw x hx), hb⟩

theorem open_segs {cs : List Value} {y : DataW H × List MemPlace} (h : Opens enc Try.prog W 22 cs y) :
    ∃ A n c vs ls, cs = [.slice A n c] ∧ n = ls.length ∧ SegsAt W W.heap.size A vs ls ∧ n ≤ maxLen := by
  obtain ⟨A, n, c, e, hnc, hcm, hA, _, hel⟩ := h.elems (C := 1) Try.underlying22 (by kernel_rfl) (by decide)
  have hall : ∀ i, i < n → ∃ p : Value × List Int, SegOk W W.heap.size p.1 p.2 ∧ ∃ b o, A = some ⟨b, o, none⟩ ∧ b < W.heap.size ∧ W.cell? ⟨b, o + i, none⟩ = some p.1 := fun i hi => by
    obtain ⟨b, o, cs', y', hA', hb', _, hat, ho⟩ := hel i hi
    obtain ⟨v, xs, rfl, hok⟩ := open_seg ho
    refine ⟨(v, xs), hok, b, o, hA', hb', ?_⟩
    have := hat 0 _ rfl
    rwa [Nat.mul_one, Nat.add_zero] at this
  obtain ⟨ps, hl, hx⟩ := list_of _ hall
  refine ⟨A, n, c, ps.map (·.1), ps.map (·.2), e, by simp [hl], ⟨fun j u hu => ?_, by simp, fun j h1 h2 => ?_⟩, by omega⟩
  · rw [List.getElem?_map] at hu
    obtain ⟨p, hp, rfl⟩ := Option.map_eq_some_iff.1 hu
    exact (hx j p hp).2
  · rw [List.length_map] at h1
    have := (hx j _ (List.getElem?_eq_getElem h1)).1
    simpa using this
end
end Go.Proofs.Ytalboekhdjcllaa
