/-
  Unpacking what was packed, in plain Lean (no program in sight).
-/
import Derived.Test.YtfmdnglcmbgpcaaPkJ
namespace Go.Proofs.Ytfmdnglcmbgpcaa
open Go.RowKit Go.Proofs.Ytfmdnglcmbgpcaa.Pk

theorem runZ_rep (r : List Int) : r.take (runP isZ r) = List.replicate (runP isZ r) 0 := by
  have h := runP_all isZ r
  have hl := (runP_le isZ r).2
  refine List.eq_replicate_of_mem (a := (0 : Int)) (l := r.take (runP isZ r)) (fun x hx => by simpa [isZ] using h x hx) |>.trans ?_
  rw [List.length_take, Nat.min_eq_left hl]
theorem wordsOf_pre (ys zs : List Int) (hy : u64s ys) : wordsOf (flatOf ys ++ zs) ys.length = ys := by
  rw [← wordsOf_take (flatOf ys ++ zs) ys.length (8 * ys.length) (Nat.le_refl _), List.take_append_of_le_length (by rw [flatOf_len]; omega), List.take_of_length_le (by rw [flatOf_len]; omega)]
  exact wordAt_flat ys hy
theorem tail_u {x : Int} {r : List Int} (h : u64s (x :: r)) : u64s r := fun y hy => h y (List.mem_cons_of_mem _ hy)
theorem drop_u {r : List Int} (h : u64s r) (k : Nat) : u64s (r.drop k) := fun y hy => h y (List.mem_of_mem_drop hy)
theorem take_u {r : List Int} (h : u64s r) (k : Nat) : u64s (r.take k) := fun y hy => h y (List.mem_of_mem_take hy)

theorem back_all (K : Nat) : ∀ (l : List Int) (M : Nat) (o : List Int), l.length ≤ K → u64s l → o.length ≤ M →
    unp (packL l).length (packL l) M o = if o.length + l.length ≤ M then (o ++ l, 0) else ([], 3) := by
  induction K with
  | zero =>
    intro l M o hl hu ho
    have : l = [] := List.eq_nil_of_length_eq_zero (by omega)
    subst this
    rw [packL_nil, if_pos (by simpa using ho), List.append_nil]
    rfl
  | succ K ih =>
    intro l M o hl hu ho
    cases l with
    | nil =>
      rw [packL_nil, if_pos (by simpa using ho), List.append_nil]
      rfl
    | cons x r =>
      have hx := hu x (List.mem_cons_self ..)
      have hr := tail_u hu
      rw [List.length_cons] at hl
      have hnb := nb_tag x 8 (Nat.le_refl _)
      rw [packL_cons, List.cons_append, List.length_cons, unp_step]
      rw [if_neg (by rw [List.length_append]; omega), hnb, List.drop_left]
      rw [wordU_tag x hx.1 hx.2]
      by_cases hm : M ≤ o.length
      · rw [if_pos hm, if_neg (by rw [List.length_cons]; omega)]
      · rw [if_neg hm]
        have hol : (o ++ [x]).length = o.length + 1 := by simp
        by_cases h0 : tagOf x = 0
        · rw [if_pos h0, h0]
          unfold moreR
          rw [if_neg (by decide)]
          have hz := runP_le isZ r
          have hrep := runZ_rep r
          generalize runP isZ r = z at *
          simp only [Int.toNat_natCast]
          rw [if_neg (fun h => absurd h.1 (by decide)), if_pos trivial]
          by_cases hm2 : M < (o ++ [x]).length + z
          · rw [if_pos hm2, if_neg (by rw [List.length_cons]; omega)]
          · rw [if_neg hm2, ih (r.drop z) M _ (by rw [List.length_drop]; omega) (drop_u hr z) (by rw [List.length_append, List.length_replicate]; omega)]
            have e : o ++ [x] ++ List.replicate z 0 ++ r.drop z = o ++ x :: r := by
              rw [← hrep, List.append_assoc, List.take_append_drop]
              simp
            rw [e]
            congr 1
            simp
            omega
        · rw [if_neg h0]
          by_cases h1 : tagOf x = 255
          · rw [if_pos h1, h1]
            unfold moreR
            rw [if_neg (by decide)]
            have hz := runP_le isF r
            generalize runP isF r = z at *
            have htl : (r.take z).length = z := by rw [List.length_take]; omega
            have hfl := flatOf_len (r.take z)
            rw [htl] at hfl
            simp only [Int.toNat_natCast]
            rw [if_neg (fun h => by have := h.2; rw [List.length_append] at this; omega)]
            by_cases hm2 : M < (o ++ [x]).length + z
            · rw [if_pos hm2, if_neg (by rw [List.length_cons]; omega)]
            · have hw := wordsOf_pre (r.take z) (packL (r.drop z)) (take_u hr z)
              rw [htl] at hw
              rw [if_neg hm2, if_neg (by decide), hw, ← hfl, List.drop_left, ih (r.drop z) M _ (by rw [List.length_drop]; omega) (drop_u hr z) (by rw [List.length_append, htl]; omega)]
              have e : o ++ [x] ++ r.take z ++ r.drop z = o ++ x :: r := by
                rw [List.append_assoc, List.take_append_drop]
                simp
              rw [e]
              congr 1
              simp
              omega
          · rw [if_neg h1]
            unfold moreR
            rw [if_pos ⟨h0, h1⟩, ih r M _ (by omega) hr (by omega)]
            have e : o ++ [x] ++ r = o ++ x :: r := by simp
            rw [e]
            congr 1
            simp
            omega

theorem back_cut (K : Nat) : ∀ (l : List Int) (M : Nat) (o : List Int) (k : Nat), l.length ≤ K → u64s l → o.length + l.length ≤ M → k < (packL l).length →
    unp ((packL l).take k).length ((packL l).take k) M o = ([], 4) ∨ ∃ ys, unp ((packL l).take k).length ((packL l).take k) M o = (ys, 0) ∧ ys.length < o.length + l.length := by
  induction K with
  | zero =>
    intro l M o k hl hu ho hk
    have : l = [] := List.eq_nil_of_length_eq_zero (by omega)
    subst this
    simp [packL_nil] at hk
  | succ K ih =>
    intro l M o k hl hu ho hk
    cases l with
    | nil => simp [packL_nil] at hk
    | cons x r =>
      cases k with
      | zero =>
        right
        refine ⟨o, rfl, ?_⟩
        simp
      | succ k =>
        have hx := hu x (List.mem_cons_self ..)
        have hr := tail_u hu
        rw [List.length_cons] at hl ho
        have hnb := nb_tag x 8 (Nat.le_refl _)
        rw [packL_cons, List.cons_append, List.length_cons] at hk
        rw [packL_cons, List.cons_append, List.take_succ_cons, List.length_cons, unp_step]
        by_cases h1 : k < (nzB x 8).length
        · rw [if_pos (by rw [List.length_take]; omega)]
          exact .inl rfl
        · have hol : (o ++ [x]).length = o.length + 1 := by simp
          generalize hrest : (if tagOf x = 0 then ((runP isZ r : Nat) : Int) :: packL (r.drop (runP isZ r)) else if tagOf x = 255 then ((runP isF r : Nat) : Int) :: (flatOf (r.take (runP isF r)) ++ packL (r.drop (runP isF r))) else packL r) = rest at *
          rw [List.length_append] at hk
          have et : (nzB x 8 ++ rest).take k = nzB x 8 ++ rest.take (k - (nzB x 8).length) := by
            rw [List.take_append, List.take_of_length_le (by omega)]
          rw [et]
          obtain ⟨j, hj⟩ : ∃ j, k - (nzB x 8).length = j := ⟨_, rfl⟩
          have hjr : j < rest.length := by omega
          rw [hj, if_neg (by rw [List.length_append]; omega), if_neg (by omega), hnb, List.drop_left, wordU_tag x hx.1 hx.2, List.length_cons]
          clear et hj hk h1 hnb
          by_cases h0 : tagOf x = 0
          · rw [if_pos h0] at hrest
            subst hrest
            rw [h0]
            unfold moreR
            rw [if_neg (by decide)]
            cases j with
            | zero => exact .inl rfl
            | succ j =>
              have hz := runP_le isZ r
              generalize runP isZ r = z at *
              rw [List.take_succ_cons]
              simp only [Int.toNat_natCast]
              rw [if_neg (fun h => absurd h.1 (by decide)), if_pos trivial, if_neg (by omega)]
              have hdl := List.length_drop (i := z) (l := r)
              have hl2 : (o ++ [x] ++ List.replicate z (0 : Int)).length = o.length + 1 + z := by simp; omega
              rcases ih (r.drop z) M (o ++ [x] ++ List.replicate z 0) j (by omega) (drop_u hr z) (by omega) (by simpa using hjr) with h | ⟨ys, h, hy⟩
              · exact .inl h
              · exact .inr ⟨ys, h, by omega⟩
          · rw [if_neg h0] at hrest
            by_cases h1 : tagOf x = 255
            · rw [if_pos h1] at hrest
              subst hrest
              rw [h1]
              unfold moreR
              rw [if_neg (by decide)]
              cases j with
              | zero => exact .inl rfl
              | succ j =>
                have hz := runP_le isF r
                generalize runP isF r = z at *
                rw [List.take_succ_cons]
                simp only [Int.toNat_natCast]
                have htl : (r.take z).length = z := by rw [List.length_take]; omega
                have hfl := flatOf_len (r.take z)
                rw [htl] at hfl
                by_cases h8 : j < 8 * z
                · rw [if_pos ⟨trivial, by rw [List.length_take]; omega⟩]
                  exact .inl rfl
                · rw [List.length_cons, List.length_append] at hjr
                  have et : (flatOf (r.take z) ++ packL (r.drop z)).take j = flatOf (r.take z) ++ (packL (r.drop z)).take (j - 8 * z) := by
                    rw [List.take_append, List.take_of_length_le (by omega), hfl]
                  rw [et, if_neg (fun h => by have := h.2; rw [List.length_append] at this; omega), if_neg (by omega), if_neg (by decide)]
                  have hw := wordsOf_pre (r.take z) ((packL (r.drop z)).take (j - 8 * z)) (take_u hr z)
                  rw [htl] at hw
                  rw [hw, ← hfl, List.drop_left, hfl]
                  have hdl := List.length_drop (i := z) (l := r)
                  have hl2 : (o ++ [x] ++ r.take z).length = o.length + 1 + z := by simp only [List.length_append, List.length_cons, List.length_nil, htl]
                  rcases ih (r.drop z) M (o ++ [x] ++ r.take z) (j - 8 * z) (by omega) (drop_u hr z) (by omega) (by omega) with h | ⟨ys, h, hy⟩
                  · exact .inl h
                  · exact .inr ⟨ys, h, by omega⟩
            · rw [if_neg h1] at hrest
              subst hrest
              unfold moreR
              rw [if_pos ⟨h0, h1⟩]
              rcases ih r M (o ++ [x]) j (by omega) hr (by omega) hjr with h | ⟨ys, h, hy⟩
              · exact .inl h
              · exact .inr ⟨ys, h, by omega⟩

theorem tag_zero : tagOf 0 = 0 := by decide +kernel
theorem nz_zero : nzB 0 8 = [] := by decide +kernel
theorem runZ_zero (n : Nat) : runP isZ (List.replicate n 0) = min n 255 := by
  refine runP_is isZ _ _ (by omega) (by rw [List.length_replicate]; omega) (fun i hi => ?_) ?_
  · rw [List.getD_eq_getElem?_getD, List.getElem?_replicate_of_lt (by omega)]
    rfl
  · rw [List.length_replicate]
    omega
theorem runs_len (n : Nat) : (packL (List.replicate n 0)).length = 2 * ((n + 255) / 256) := by
  have key : ∀ K n, n ≤ K → (packL (List.replicate n 0)).length = 2 * ((n + 255) / 256) := by
    intro K
    induction K with
    | zero =>
      intro n hn
      have : n = 0 := by omega
      subst this
      rfl
    | succ K ih =>
      intro n hn
      cases n with
      | zero => rfl
      | succ n =>
        rw [List.replicate_succ, packL_cons, tag_zero, if_pos rfl, nz_zero, runZ_zero, List.drop_replicate]
        have := ih (n - min n 255) (by omega)
        simp only [List.cons_append, List.nil_append, List.length_cons]
        rw [this]
        omega
  exact key n n (Nat.le_refl _)
end Go.Proofs.Ytfmdnglcmbgpcaa
