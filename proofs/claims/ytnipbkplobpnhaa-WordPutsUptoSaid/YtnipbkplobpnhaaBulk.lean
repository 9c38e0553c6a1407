/-
  What the bound of the second form gives for a slice.
-/
import Derived.Test.YtnipbkplobpnhaaRows
namespace Go.Proofs.Ytnipbkplobpnhaa.bulks

theorem one_le {H : Type} (d : DataW H) : 1 ≤ Rows.uptoBulk d := by
  cases d with
  | lit l => cases l <;> simp [Rows.uptoBulk]
  | nil => simp [Rows.uptoBulk]
  | ptr d => simp [Rows.uptoBulk]
  | slice elems spare => simp [Rows.uptoBulk]
  | agg parts => simp [Rows.uptoBulk]
  | iface t d => simp [Rows.uptoBulk]
  | map entries => simp [Rows.uptoBulk]
  | held h => simp [Rows.uptoBulk]
theorem part_le {H : Type} {d : DataW H} {l : List (DataW H)} (h : d ∈ l) : Rows.uptoBulk d ≤ Rows.uptoBulkAll l := by
  induction l with
  | nil => cases h
  | cons x r ih =>
    simp only [Rows.uptoBulkAll]
    cases List.mem_cons.1 h with
    | inl e => subst e; omega
    | inr e => have := ih e; omega
theorem length_le {H : Type} (l : List (DataW H)) : l.length ≤ Rows.uptoBulkAll l := by
  induction l with
  | nil => simp [Rows.uptoBulkAll]
  | cons x r ih => have := one_le x; simp only [Rows.uptoBulkAll, List.length_cons]; omega
theorem elems_le {H : Type} {elems spare : List (DataW H)} {l : List (DataW H)} (h : DataW.slice elems spare ∈ l) (hk : Rows.uptoSmall H l = true) : elems.length + spare.length ≤ 1048576 := by
  have h0 : Rows.uptoBulkAll l ≤ 1048576 := by simpa [Rows.uptoSmall] using hk
  have h1 := part_le h
  have h2 := length_le elems
  have h3 := length_le spare
  simp only [Rows.uptoBulk] at h1
  omega
end Go.Proofs.Ytnipbkplobpnhaa.bulks
