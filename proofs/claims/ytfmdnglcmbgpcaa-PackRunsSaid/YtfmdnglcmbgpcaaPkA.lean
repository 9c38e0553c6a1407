/-
  Packing in plain Lean (no program in sight).
-/
import Derived.Test.YtfmdnglcmbgpcaaWd02
namespace Go.Proofs.Ytfmdnglcmbgpcaa.Pk
open Go.RowKit Go.Proofs.Ytfmdnglcmbgpcaa

def u64s (l : List Int) : Prop := ∀ x ∈ l, 0 ≤ x ∧ x ≤ 18446744073709551615
/-- how many of the first bytes are 0; those that are not -/
def zs (x : Int) : Nat → Nat
  | 0 => 0
  | k + 1 => zs x k + if bt x k = 0 then 1 else 0
def nzB (x : Int) : Nat → List Int
  | 0 => []
  | k + 1 => nzB x k ++ if bt x k = 0 then [] else [bt x k]
theorem zs_le (x : Int) (k : Nat) : zs x k ≤ k := by
  induction k with
  | zero => exact Nat.le_refl _
  | succ k ih => rw [zs]; split <;> omega
theorem nz_zs (x : Int) (k : Nat) : (nzB x k).length + zs x k = k := by
  induction k with
  | zero => rfl
  | succ k ih => rw [zs, nzB, List.length_append]; split <;> simp <;> omega
def tagOf (x : Int) : Int := rUnl x 0 8
theorem tag_bd (x : Int) : 0 ≤ tagOf x ∧ tagOf x ≤ 255 := by
  have := rUnl_bd x 0 8
  unfold tagOf
  omega
theorem bt_zero (k : Nat) : bt 0 k = 0 := by unfold bt; simp
theorem tag_nm (x : Int) (i : Nat) (hi : i < 8) : nm (tagOf x) i = !decide (bt x i = 0) := by
  unfold tagOf
  rw [rUnl_nm x 0 8 i hi, bt_zero]
/-- how many bits of a tag's first ones are set -/
def nb (t : Int) : Nat → Nat
  | 0 => 0
  | k + 1 => nb t k + if nm t k = true then 1 else 0
theorem nb_le (t : Int) (k : Nat) : nb t k ≤ k := by
  induction k with
  | zero => exact Nat.le_refl _
  | succ k ih => rw [nb]; split <;> omega
theorem nb_mono (t : Int) (i j : Nat) (h : i ≤ j) : nb t i ≤ nb t j := by
  induction j with
  | zero => have : i = 0 := by omega
            subst this; exact Nat.le_refl _
  | succ j ih =>
    by_cases e : i = j + 1
    · subst e; exact Nat.le_refl _
    · have := ih (by omega)
      rw [nb]
      omega
theorem nb_tag (x : Int) (k : Nat) (hk : k ≤ 8) : nb (tagOf x) k = (nzB x k).length := by
  induction k with
  | zero => rfl
  | succ k ih =>
    rw [nb, nzB, List.length_append, ih (by omega), tag_nm x k (by omega)]
    by_cases h : bt x k = 0
    · simp [h]
    · simp [h]
/-- the word that a tag and bytes tell -/
def wordU (t : Int) (bs : List Int) : Int := join8 fun i => if nm t i = true then bs.getD (nb t i) 0 else 0
theorem nzB_at (x : Int) (k : Nat) (rest : List Int) (i : Nat) (hi : i < k) (h : bt x i ≠ 0) : (nzB x k ++ rest).getD (nzB x i).length 0 = bt x i := by
  induction k generalizing rest with
  | zero => omega
  | succ k ih =>
    rw [nzB, List.append_assoc]
    by_cases e : i = k
    · subst e
      rw [if_neg h, List.getD_eq_getElem?_getD, List.getElem?_append_right (Nat.le_refl _), Nat.sub_self]
      rfl
    · exact ih _ (by omega)
theorem wordU_tag (x : Int) (h0 : 0 ≤ x) (h1 : x ≤ 18446744073709551615) (rest : List Int) : wordU (tagOf x) (nzB x 8 ++ rest) = x := by
  unfold wordU
  refine (join8_congr _ (bt x) fun i hi => ?_).trans (join8_bt x h0 h1)
  rw [tag_nm x i hi]
  by_cases h : bt x i = 0
  · simp [h]
  · rw [nb_tag x i (by omega)]
    simp only [h, decide_false, Bool.not_false, if_true]
    exact nzB_at x 8 rest i hi h
/-- how many words there are in front of which something holds -/
def runP (p : Int → Bool) (l : List Int) : Nat := ((l.take 255).takeWhile p).length
theorem runP_le (p : Int → Bool) (l : List Int) : runP p l ≤ 255 ∧ runP p l ≤ l.length := by
  unfold runP
  have h := (List.takeWhile_prefix p (l := l.take 255)).length_le
  rw [List.length_take] at h
  omega
theorem runP_is (p : Int → Bool) (l : List Int) (n : Nat) (hn : n ≤ 255) (hl : n ≤ l.length) (h : ∀ i, i < n → p (l.getD i 0) = true) (hs : n = 255 ∨ n = l.length ∨ p (l.getD n 0) = false) : runP p l = n := by
  unfold runP
  have key : ∀ (k : Nat) (l : List Int) (n : Nat), n ≤ k → n ≤ l.length → (∀ i, i < n → p (l.getD i 0) = true) → (n = k ∨ n = l.length ∨ p (l.getD n 0) = false) → ((l.take k).takeWhile p).length = n := by
    intro k
    induction k with
    | zero => intro l n hn _ _ _; simp; omega
    | succ k ih =>
      intro l n hn hl h hs
      cases l with
      | nil => simp at hl; simp [hl]
      | cons x r =>
        rw [List.take_succ_cons, List.takeWhile_cons]
        cases n with
        | zero =>
          rcases hs with hs | hs | hs
          · omega
          · simp at hs
          · have : p x = false := by simpa using hs
            rw [this]; rfl
        | succ n =>
          have h0 : p x = true := by simpa using h 0 (by omega)
          rw [if_pos h0, List.length_cons, ih r n (by omega) (by simpa using hl) (fun i hi => by simpa using h (i + 1) (by omega)) (by
            rcases hs with hs | hs | hs
            · exact .inl (by omega)
            · exact .inr (.inl (by simpa using hs))
            · exact .inr (.inr (by simpa using hs)))]
  exact key 255 l n hn hl h hs
theorem take_while_all (p : Int → Bool) (l : List Int) : ∀ x ∈ l.takeWhile p, p x = true := by
  induction l with
  | nil => intro x hx; simp at hx
  | cons y l ih =>
    intro x hx
    rw [List.takeWhile_cons] at hx
    by_cases h : p y = true
    · rw [if_pos h] at hx
      rcases List.mem_cons.1 hx with rfl | hx
      · exact h
      · exact ih x hx
    · rw [if_neg h] at hx
      simp at hx
theorem runP_all (p : Int → Bool) (l : List Int) : ∀ x ∈ l.take (runP p l), p x = true := by
  intro x hx
  have e : l.take (runP p l) = (l.take 255).takeWhile p := by
    have h := List.takeWhile_prefix p (l := l.take 255)
    have h2 : (l.take 255).takeWhile p <+: l := h.trans (List.take_prefix _ _)
    exact (List.prefix_iff_eq_take.1 h2).symm
  rw [e] at hx
  exact take_while_all p (l.take 255) x hx
def isZ (x : Int) : Bool := x == 0
def isF (x : Int) : Bool := decide (zs x 8 ≤ 1)
/-- packed words -/
def pk : Nat → List Int → List Int
  | 0, _ => []
  | _ + 1, [] => []
  | f + 1, x :: r => (tagOf x :: nzB x 8) ++
      (if tagOf x = 0 then ((runP isZ r : Nat) : Int) :: pk f (r.drop (runP isZ r))
       else if tagOf x = 255 then ((runP isF r : Nat) : Int) :: (flatOf (r.take (runP isF r)) ++ pk f (r.drop (runP isF r)))
       else pk f r)
def packL (l : List Int) : List Int := pk l.length l
theorem pk_fuel (f : Nat) : ∀ (l : List Int) (g : Nat), l.length ≤ f → l.length ≤ g → pk f l = pk g l := by
  induction f with
  | zero =>
    intro l g h _
    have : l = [] := List.eq_nil_of_length_eq_zero (by omega)
    subst this
    cases g <;> rfl
  | succ f ih =>
    intro l g h hg
    cases l with
    | nil => cases g <;> rfl
    | cons x r =>
      cases g with
      | zero => simp at hg
      | succ g =>
        simp only [List.length_cons] at h hg
        rw [pk, pk, ih r g (by omega) (by omega), ih (r.drop (runP isZ r)) g (by rw [List.length_drop]; omega) (by rw [List.length_drop]; omega), ih (r.drop (runP isF r)) g (by rw [List.length_drop]; omega) (by rw [List.length_drop]; omega)]
theorem packL_nil : packL [] = [] := rfl
theorem packL_cons (x : Int) (r : List Int) : packL (x :: r) = (tagOf x :: nzB x 8) ++
      (if tagOf x = 0 then ((runP isZ r : Nat) : Int) :: packL (r.drop (runP isZ r))
       else if tagOf x = 255 then ((runP isF r : Nat) : Int) :: (flatOf (r.take (runP isF r)) ++ packL (r.drop (runP isF r)))
       else packL r) := by
  unfold packL
  rw [List.length_cons, pk, pk_fuel r.length (r.drop (runP isZ r)) (r.drop (runP isZ r)).length (by rw [List.length_drop]; omega) (Nat.le_refl _), pk_fuel r.length (r.drop (runP isF r)) (r.drop (runP isF r)).length (by rw [List.length_drop]; omega) (Nat.le_refl _)]
theorem nz_le (x : Int) : (nzB x 8).length ≤ 8 := by have := nz_zs x 8; omega
theorem packL_len (l : List Int) : (packL l).length ≤ 10 * l.length := by
  have key : ∀ k (l : List Int), l.length ≤ k → (packL l).length ≤ 10 * l.length := by
    intro k
    induction k with
    | zero =>
      intro l h
      have : l = [] := List.eq_nil_of_length_eq_zero (by omega)
      subst this
      simp [packL_nil]
    | succ k ih =>
      intro l h
      cases l with
      | nil => simp [packL_nil]
      | cons x r =>
        simp only [List.length_cons] at h
        have h1 := runP_le isZ r
        have h2 := runP_le isF r
        have i1 := ih r (by omega)
        have i2 := ih (r.drop (runP isZ r)) (by rw [List.length_drop]; omega)
        have i3 := ih (r.drop (runP isF r)) (by rw [List.length_drop]; omega)
        have hz := nz_le x
        rw [List.length_drop] at i2 i3
        rw [packL_cons, List.length_append, List.length_cons, List.length_cons]
        split
        · rw [List.length_cons]; omega
        · split
          · rw [List.length_cons, List.length_append, flatOf_len, List.length_take]; omega
          · omega
  exact key l.length l (Nat.le_refl _)
end Go.Proofs.Ytfmdnglcmbgpcaa.Pk
