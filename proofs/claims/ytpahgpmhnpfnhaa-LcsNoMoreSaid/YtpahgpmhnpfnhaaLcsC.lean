/-
  The first greatest; how a list is cut; that there is a least way; what the way keeps (no program in sight).
-/
import Derived.Test.YtpahgpmhnpfnhaaLcsM
namespace Go.Proofs.Ytpahgpmhnpfnhaa.Lcs
open Go.Proofs.Ytpahgpmhnpfnhaa.Scr

/-- the first of the greatest among 0 .. k -/
def bst (f : Nat → Nat) : Nat → Nat
  | 0 => 0
  | k + 1 => if f (k + 1) > f (bst f k) then k + 1 else bst f k
theorem bst_spec (f : Nat → Nat) (k : Nat) : bst f k ≤ k ∧ (∀ j, j ≤ k → f j ≤ f (bst f k)) ∧ ∀ j, j < bst f k → f j < f (bst f k) := by
  induction k with
  | zero => exact ⟨Nat.le_refl _, fun j hj => by have : j = 0 := by omega
                                                 subst this; exact Nat.le_refl _, fun j hj => by simp [bst] at hj⟩
  | succ k ih =>
    obtain ⟨h1, h2, h3⟩ := ih
    simp only [bst]
    by_cases h : f (k + 1) > f (bst f k)
    · rw [if_pos h]
      refine ⟨Nat.le_refl _, fun j hj => ?_, fun j hj => ?_⟩
      · by_cases e : j = k + 1
        · subst e; exact Nat.le_refl _
        · have := h2 j (by omega); omega
      · have := h2 j (by omega); omega
    · rw [if_neg h]
      refine ⟨by omega, fun j hj => ?_, h3⟩
      by_cases e : j = k + 1
      · subst e; omega
      · exact h2 j (by omega)
theorem bst_congr (f g : Nat → Nat) (k : Nat) (h : ∀ j, j ≤ k → f j = g j) : bst f k = bst g k := by
  induction k with
  | zero => rfl
  | succ k ih =>
    have i1 := ih (fun j hj => h j (by omega))
    have b1 := (bst_spec f k).1
    simp only [bst]
    rw [← i1, h (k + 1) (Nat.le_refl _), h (bst f k) (by omega)]
def thru (M : Nat → Nat → Bool) (n m i j : Nat) : Nat := C M i j + C (sh M i j) (n - i) (m - j)
theorem thru_le (M : Nat → Nat → Bool) (n m i j : Nat) (hi : i ≤ n) (hj : j ≤ m) : thru M n m i j ≤ C M n m := by
  have := super M i j (n - i) (m - j)
  rwa [show i + (n - i) = n from by omega, show j + (m - j) = m from by omega] at this
theorem thru_ex (M : Nat → Nat → Bool) (n m i : Nat) (hi : i ≤ n) : ∃ j, j ≤ m ∧ C M n m ≤ thru M n m i j := by
  obtain ⟨q, hq, h⟩ := split M i (n - i) m
  rw [show i + (n - i) = n from by omega] at h
  exact ⟨q, hq, h⟩
def Jof (M : Nat → Nat → Bool) (n m i : Nat) : Nat := bst (thru M n m i) m
theorem Jof_is (M : Nat → Nat → Bool) (n m : Nat) : IsJ M n m (Jof M n m) := by
  intro i hi
  obtain ⟨h1, h2, h3⟩ := bst_spec (thru M n m i) m
  obtain ⟨j, hj, hc⟩ := thru_ex M n m i hi
  have h4 := h2 j hj
  refine ⟨⟨h1, by unfold Jof; unfold thru at *; omega⟩, fun k hk ho => ?_⟩
  have h5 := h3 k hk
  have h6 := thru_le M n m i (bst (thru M n m i) m) hi h1
  have h7 := ho.2
  unfold thru at *
  omega
theorem IsJ.unique {M : Nat → Nat → Bool} {n m : Nat} {J K : Nat → Nat} (hJ : IsJ M n m J) (hK : IsJ M n m K) {i : Nat} (hi : i ≤ n) : J i = K i := by
  by_cases h : J i < K i
  · exact absurd (hJ i hi).1 ((hK i hi).2 _ h)
  · by_cases h2 : K i < J i
    · exact absurd (hK i hi).1 ((hJ i hi).2 _ h2)
    · omega
/-- how much of a list goes with the first half of another one -/
def cutS (a b : List Int) (h : Nat) : Nat := Jof (mt a b) a.length b.length h
theorem cutS_is (a b : List Int) (h : Nat) (J : Nat → Nat) (hJ : IsJ (mt a b) a.length b.length J) (hh : h ≤ a.length) : cutS a b h = J h :=
  (Jof_is (mt a b) a.length b.length).unique hJ hh
/-- the table of both lists backwards -/
theorem mt_rev (a b : List Int) (p q : Nat) (hp : p < a.length) (hq : q < b.length) : mt a.reverse b.reverse p q = rv (mt a b) a.length b.length p q := by
  unfold rv mt
  rw [List.length_reverse, List.length_reverse]
  have e1 : decide (p < a.length) = decide (a.length - 1 - p < a.length) := by rw [decide_eq_decide]; omega
  have e2 : decide (q < b.length) = decide (b.length - 1 - q < b.length) := by rw [decide_eq_decide]; omega
  rw [e1, e2, List.getD_eq_getElem?_getD, List.getElem?_reverse hp, List.getD_eq_getElem?_getD, List.getElem?_reverse hq, ← List.getD_eq_getElem?_getD, ← List.getD_eq_getElem?_getD]
theorem C_rev (a b : List Int) (x y : Nat) (hx : x ≤ a.length) (hy : y ≤ b.length) : C (mt a.reverse b.reverse) x y = C (sh (mt a b) (a.length - x) (b.length - y)) x y := by
  rw [C_congr _ (rv (mt a b) a.length b.length) x y (fun p q hp hq => mt_rev a b p q (by omega) (by omega)), rv_part _ _ _ _ _ hx hy]
/-- what the halves have in common with the two parts -/
theorem halves (a b : List Int) (h j : Nat) (hh : h ≤ a.length) (hj : j ≤ b.length) :
    C (mt (a.take h) b) h j + C (mt (a.drop h).reverse b.reverse) (a.length - h) (b.length - j) = thru (mt a b) a.length b.length h j := by
  unfold thru
  have l1 : (a.drop h).length = a.length - h := List.length_drop
  rw [C_rev (a.drop h) b _ _ (by rw [l1]; exact Nat.le_refl _) (by omega), l1, Nat.sub_self, show b.length - (b.length - j) = j from by omega]
  have e1 : C (mt (a.take h) b) h j = C (mt a b) h j := C_congr _ _ _ _ fun p q hp hq => by
    have := mt_take a b h b.length p q hp (by omega)
    rwa [List.take_of_length_le (Nat.le_refl _)] at this
  have e2 : sh (mt (a.drop h) b) 0 j = sh (mt a b) h j := by
    have := mt_sh a b h 0
    rw [List.drop_zero] at this
    rw [this, sh_sh, Nat.add_zero, Nat.zero_add]
  rw [e1, e2]

/-! ### how many are kept -/
theorem add_len (k n : Int) : (add k n).length ≤ 1 := by unfold add; split <;> simp
theorem oneL_len (x : Int) (b : List Int) : (oneL x b).length ≤ 3 := by
  unfold oneL
  split
  · rw [List.length_append, List.length_append]
    have := add_len 2 (0 : Int)
    rename_i j _
    have h1 := add_len 2 (j : Nat)
    have h2 := add_len 0 1
    have h3 := add_len 2 ((b.length - j - 1 : Nat) : Int)
    omega
  · rw [List.length_append]
    have h1 := add_len 1 1
    have h2 := add_len 2 (b.length : Nat)
    omega
theorem findL_len (cut : List Int → List Int → Nat → Nat) (f : Nat) (a b : List Int) : (findL cut f a b).length ≤ 3 * max 1 a.length := by
  induction f generalizing a b with
  | zero => simp [findL]
  | succ f ih =>
    unfold findL
    by_cases he : a.length = 0 ∨ b.length = 0
    · rw [if_pos he, List.length_append]
      have h1 := add_len 1 (a.length : Nat)
      have h2 := add_len 2 (b.length : Nat)
      omega
    · rw [if_neg he]
      by_cases h1 : a.length = 1
      · rw [if_pos h1]
        have := oneL_len (a.getD 0 0) b
        omega
      · rw [if_neg h1, List.length_append]
        have i1 := ih (a.take (a.length / 2)) (b.take (cut a b (a.length / 2)))
        have i2 := ih (a.drop (a.length / 2)) (b.drop (cut a b (a.length / 2)))
        rw [List.length_take] at i1
        rw [List.length_drop] at i2
        omega
end Go.Proofs.Ytpahgpmhnpfnhaa.Lcs
