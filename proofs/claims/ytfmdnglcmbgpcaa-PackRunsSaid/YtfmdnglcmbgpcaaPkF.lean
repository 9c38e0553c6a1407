/-
  Unpacking in plain Lean (no program in sight).
-/
import Derived.Test.YtfmdnglcmbgpcaaPkA
namespace Go.Proofs.Ytfmdnglcmbgpcaa.Pk
open Go.RowKit Go.Proofs.Ytfmdnglcmbgpcaa

/-- unpacked words, or an error: 4: the bytes end; 3: too many words -/
def unp : Nat → List Int → Nat → List Int → List Int × Int
  | 0, _, _, out => (out, 0)
  | _ + 1, [], _, out => (out, 0)
  | f + 1, t :: r, most, out =>
    if r.length < nb t 8 then ([], 4)
    else if most ≤ out.length then ([], 3)
    else if t ≠ 0 ∧ t ≠ 255 then unp f (r.drop (nb t 8)) most (out ++ [wordU t r])
    else match r.drop (nb t 8) with
      | [] => ([], 4)
      | c :: q =>
        if t = 255 ∧ q.length < 8 * c.toNat then ([], 4)
        else if most < out.length + 1 + c.toNat then ([], 3)
        else if t = 0 then unp f q most (out ++ [wordU t r] ++ List.replicate c.toNat 0)
        else unp f (q.drop (8 * c.toNat)) most (out ++ [wordU t r] ++ wordsOf q c.toNat)
theorem unp_fuel (f : Nat) : ∀ (g : Nat) (bs : List Int) (most : Nat) (out : List Int), bs.length ≤ f → bs.length ≤ g → unp f bs most out = unp g bs most out := by
  induction f with
  | zero =>
    intro g bs most out h _
    have : bs = [] := List.eq_nil_of_length_eq_zero (by omega)
    subst this
    cases g <;> rfl
  | succ f ih =>
    intro g bs most out h hg
    cases bs with
    | nil => cases g <;> rfl
    | cons t r =>
      cases g with
      | zero => simp at hg
      | succ g =>
        simp only [List.length_cons] at h hg
        rw [unp, unp]
        by_cases h1 : r.length < nb t 8
        · rw [if_pos h1, if_pos h1]
        · rw [if_neg h1, if_neg h1]
          by_cases h2 : most ≤ out.length
          · rw [if_pos h2, if_pos h2]
          · rw [if_neg h2, if_neg h2]
            by_cases h3 : t ≠ 0 ∧ t ≠ 255
            · rw [if_pos h3, if_pos h3]
              exact ih g _ most _ (by rw [List.length_drop]; omega) (by rw [List.length_drop]; omega)
            · rw [if_neg h3, if_neg h3]
              have hl := List.length_drop (i := nb t 8) (l := r)
              cases hq : r.drop (nb t 8) with
              | nil => rfl
              | cons c q =>
                rw [hq, List.length_cons] at hl
                simp only
                rw [ih g q most _ (by omega) (by omega), ih g (q.drop (8 * c.toNat)) most _ (by rw [List.length_drop]; omega) (by rw [List.length_drop]; omega)]
end Go.Proofs.Ytfmdnglcmbgpcaa.Pk
