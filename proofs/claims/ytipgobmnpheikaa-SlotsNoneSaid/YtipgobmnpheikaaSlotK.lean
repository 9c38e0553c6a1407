/-
  Deeds as arguments.
-/
import Derived.Test.YtipgobmnpheikaaSlotJ
import Derived.Test.YtipgobmnpheikaaOpen2
namespace Go.Proofs.Ytipgobmnpheikaa
open Go.ChangeShapes Go.WideShapes Go.ChangeAt Go.RowKit Go.Deep

section
variable {H : Type} {enc : TypeId × Value → H} {W : World}
theorem open_words {cs : List Value} {y : DataW H × List MemPlace} (h : Opens enc Try.prog W 26 cs y) : ∃ v xs, cs = [v] ∧ SlotOk W v xs := by
  obtain ⟨A, n, c, xs, hcs, hn, _, _, hA, hr, _, hb⟩ := h.ints Try.underlying26 Try.underlying54 (by kernel_rfl)
  rw [show Try.prog.bytesOf 54 = 8 from by kernel_rfl] at hb
  exact ⟨_, xs, hcs, A, n, c, rfl, hn, fun e => (hA e).1, hr, hb⟩

theorem open_deed {cs : List Value} {y : DataW H × List MemPlace} (h : Opens enc Try.prog W 35 cs y) :
    ∃ x : Deed, cs = [.int .i64 x.k, .int .i64 x.i, .slice x.A x.n x.c, .slice x.L x.m x.d] ∧ x.Ok W W.heap.size := by
  obtain ⟨hlen, hf⟩ := h.fields Try.underlying35
  rw [show Try.prog.cellsOf 35 = 4 from by kernel_rfl] at hlen
  match cs, hlen with
  | [c0, c1, c2, c3], _ =>
    have hone : oneCellFields Try.prog (match Try.prog.underlying 35 with | some (.struct fs) => fs | _ => #[]) = true := by kernel_rfl
    rw [Try.underlying35] at hone
    obtain ⟨y0, h0⟩ := h.cell (i := 0) Try.underlying35 hone rfl rfl
    obtain ⟨y1, h1⟩ := h.cell (i := 1) Try.underlying35 hone rfl rfl
    obtain ⟨y2, h2⟩ := h.cell (i := 2) Try.underlying35 hone rfl rfl
    obtain ⟨y3, h3⟩ := h.cell (i := 3) Try.underlying35 hone rfl rfl
    obtain ⟨k, e0, _⟩ := h0.int Try.underlying3
    obtain ⟨i, e1, _⟩ := h1.int Try.underlying3
    obtain ⟨A, n, c, ats, e2, hn, hnc, hcm, hA, hr, hw, hb⟩ := h2.ints Try.underlying32 Try.underlying3 (by kernel_rfl)
    obtain ⟨L, m, d, e3, hmd, hdm, hL, hb3, hel⟩ := h3.elems (C := 1) Try.underlying33 (by kernel_rfl) (by decide)
    simp at e0 e1 e2 e3
    have hall : ∀ i, i < m → ∃ p : Value × List Int, SlotOk W p.1 p.2 ∧ ∃ b o, L = some ⟨b, o, none⟩ ∧ b < W.heap.size ∧ W.cell? ⟨b, o + i, none⟩ = some p.1 := fun i hi => by
      obtain ⟨b, o, cs', y', hA', hb', _, hat, ho⟩ := hel i hi
      obtain ⟨v, xs, rfl, hok⟩ := open_words ho
      refine ⟨(v, xs), hok, b, o, hA', hb', ?_⟩
      have := hat 0 _ rfl
      rwa [Nat.mul_one, Nat.add_zero] at this
    obtain ⟨ps, hl, hx⟩ := list_of _ hall
    refine ⟨⟨k, i, A, n, c, L, m, d, ats, ps.map (·.1), ps.map (·.2)⟩, by rw [e0, e1, e2, e3], hn, by simp [hl], hr, fun j u hu => ?_, ⟨by simp, fun j v xs h1 h2 => ?_⟩, by show n ≤ maxLen; omega, by show m ≤ maxLen; omega⟩
    · rw [List.getElem?_map] at hu
      obtain ⟨p, hp, rfl⟩ := Option.map_eq_some_iff.1 hu
      exact (hx j p hp).2
    · rw [List.getElem?_map] at h1 h2
      obtain ⟨p, hp, rfl⟩ := Option.map_eq_some_iff.1 h1
      obtain ⟨q, hq, rfl⟩ := Option.map_eq_some_iff.1 h2
      rw [hp] at hq
      injection hq with hq
      subst hq
      exact (hx j p hp).1

theorem open_deeds {cs : List Value} {y : DataW H × List MemPlace} (h : Opens enc Try.prog W 22 cs y) :
    ∃ A n c xs, cs = [.slice A n c] ∧ n = xs.length ∧ DeedsAt W W.heap.size A xs ∧ n ≤ maxLen := by
  obtain ⟨A, n, c, e, hnc, hcm, hA, _, hel⟩ := h.elems (C := 4) Try.underlying22 (by kernel_rfl) (by decide)
  have hall : ∀ i, i < n → ∃ x : Deed, x.Ok W W.heap.size ∧ ∃ b o, A = some ⟨b, o, none⟩ ∧ b < W.heap.size ∧ W.cell? ⟨b, o + i * 4, none⟩ = some (.int .i64 x.k) ∧ W.cell? ⟨b, o + i * 4 + 1, none⟩ = some (.int .i64 x.i) ∧
      W.cell? ⟨b, o + i * 4 + 2, none⟩ = some (.slice x.A x.n x.c) ∧ W.cell? ⟨b, o + i * 4 + 3, none⟩ = some (.slice x.L x.m x.d) := fun i hi => by
    obtain ⟨b, o, cs', y', hA', hb', _, hat, ho⟩ := hel i hi
    obtain ⟨x, rfl, hok⟩ := open_deed ho
    exact ⟨x, hok, b, o, hA', hb', hat 0 _ rfl, hat 1 _ rfl, hat 2 _ rfl, hat 3 _ rfl⟩
  obtain ⟨xs, hl, hx⟩ := list_of _ hall
  exact ⟨A, n, c, xs, e, hl.symm, hx, by omega⟩
end
end Go.Proofs.Ytipgobmnpheikaa
