/-
  The least way as a script, and what is found by halves: the same but for the normal form (no program in sight).
-/
import Derived.Test.YtpahgpmhnpfnhaaLcsA
import Derived.Test.YtpahgpmhnpfnhaaScrA
namespace Go.Proofs.Ytpahgpmhnpfnhaa.Lcs
open Go.Proofs.Ytpahgpmhnpfnhaa.Scr

/-- scripts that do the same to every state -/
def Eqv (l k : List Step) : Prop := ∀ t : St, (∃ n, t.Bd n) → l.foldl stp t = k.foldl stp t
theorem Eqv.refl (l : List Step) : Eqv l l := fun _ _ => rfl
theorem Eqv.symm {l k : List Step} (h : Eqv l k) : Eqv k l := fun t ht => (h t ht).symm
theorem Eqv.trans {a b c : List Step} (h : Eqv a b) (g : Eqv b c) : Eqv a c := fun t ht => (h t ht).trans (g t ht)
theorem foldl_bd (l : List Step) (t : St) (h : ∃ n, t.Bd n) : ∃ n, (l.foldl stp t).Bd n := by
  induction l generalizing t with
  | nil => exact h
  | cons s l ih =>
    obtain ⟨n, hn⟩ := h
    exact ih (stp t s) ⟨n + 1, Bd.stp hn s⟩
theorem Eqv.app {a b c d : List Step} (h : Eqv a b) (g : Eqv c d) : Eqv (a ++ c) (b ++ d) := fun t ht => by
  rw [List.foldl_append, List.foldl_append, h t ht]
  exact g _ (foldl_bd b t ht)
theorem Eqv.nrm {a b : List Step} (h : Eqv a b) : nrm a = nrm b := by
  unfold Scr.nrm runS
  rw [h _ ⟨0, bd0⟩]
theorem eqv_none (k : Int) : Eqv [(k, 0)] [] := fun t _ => by
  show stp t (k, 0) = t
  unfold stp
  have : okS (k, 0) = false := by
    cases h : okS (k, 0)
    · rfl
    · have := (okS_iff _).1 h
      simp at this
  rw [this, if_neg (by decide)]
/-- a step that is laid only where there is one -/
def add (k n : Int) : List Step := if n > 0 then [(k, n)] else []
theorem eqv_add (k : Int) (n : Nat) : Eqv (add k n) [(k, (n : Int))] := by
  unfold add
  by_cases h : (n : Int) > 0
  · rw [if_pos h]; exact Eqv.refl _
  · rw [if_neg h]
    have : (n : Int) = 0 := by omega
    rw [this]
    exact (eqv_none k).symm
/-- deletions one by one -/
theorem eqv_dels (n : Nat) (hn : n ≤ 1048576) : Eqv (List.replicate n (1, 1)) [(1, (n : Int))] := by
  have key : ∀ n : Nat, n ≤ 1048576 → ∀ t : St, (List.replicate n ((1 : Int), (1 : Int))).foldl stp t = if n = 0 then t else stp t (1, (n : Int)) := by
    intro n
    induction n with
    | zero => intro _ t; rfl
    | succ n ih =>
      intro hn t
      rw [List.replicate_succ', List.foldl_append, ih (by omega)]
      by_cases h0 : n = 0
      · subst h0
        rfl
      · rw [if_neg h0, if_neg (by omega)]
        have o1 : okS (1, (n : Int)) = true := (okS_iff _).2 ⟨by simp, by simp, by simp only; omega, by simp only; omega⟩
        have o2 : okS (1, ((n + 1 : Nat) : Int)) = true := (okS_iff _).2 ⟨by simp, by simp, by simp only; omega, by simp only; omega⟩
        have o3 : okS (1, 1) = true := by decide
        simp only [List.foldl_cons, List.foldl_nil, stp, o1, o2, o3, if_true]
        simp only [show ¬ ((1 : Int) = 0) from by decide, if_false]
        simp [fl]
        omega
  intro t _
  rw [key n hn t]
  by_cases h0 : n = 0
  · subst h0
    rw [if_pos rfl]
    exact (eqv_none 1 t ‹_›).symm
  · rw [if_neg h0]
    rfl

/-- the way, row by row -/
def rowS (x y : Nat) : List Step := if x < y then [(2, ((y - x - 1 : Nat) : Int)), (0, 1)] else [(1, 1)]
def rowsS (J : Nat → Nat) (n : Nat) : List Step := (List.range n).flatMap fun i => rowS (J i) (J (i + 1))
theorem rowsS_succ (J : Nat → Nat) (n : Nat) : rowsS J (n + 1) = rowsS J n ++ rowS (J n) (J (n + 1)) := by
  unfold rowsS
  rw [List.range_succ, List.flatMap_append, List.flatMap_cons, List.flatMap_nil, List.append_nil]
theorem rowsS_add (J : Nat → Nat) (h n : Nat) : rowsS J (h + n) = rowsS J h ++ rowsS (fun i => J (h + i)) n := by
  induction n with
  | zero => simp [rowsS]
  | succ n ih => rw [show h + (n + 1) = h + n + 1 from rfl, rowsS_succ, ih, rowsS_succ, List.append_assoc]; rfl
theorem rowS_less (x y d : Nat) (h : d ≤ x) (h2 : d ≤ y) : rowS (x - d) (y - d) = rowS x y := by
  unfold rowS
  by_cases e : x < y
  · rw [if_pos e, if_pos (by omega), show y - d - (x - d) - 1 = y - x - 1 from by omega]
  · rw [if_neg e, if_neg (by omega)]
theorem rowsS_congr (J K : Nat → Nat) (n : Nat) (h : ∀ i, i < n → rowS (J i) (J (i + 1)) = rowS (K i) (K (i + 1))) : rowsS J n = rowsS K n := by
  induction n with
  | zero => rfl
  | succ n ih => rw [rowsS_succ, rowsS_succ, ih (fun i hi => h i (by omega)), h n (by omega)]
def wayS (J : Nat → Nat) (n m : Nat) : List Step := rowsS J n ++ [(2, ((m - J n : Nat) : Int))]

/-- which numbers are the same -/
def mt (a b : List Int) : Nat → Nat → Bool := fun i j => decide (i < a.length) && decide (j < b.length) && (a.getD i 0 == b.getD j 0)
theorem mt_sh (a b : List Int) (h j : Nat) : mt (a.drop h) (b.drop j) = sh (mt a b) h j := by
  funext x y
  unfold mt sh
  rw [List.length_drop, List.length_drop, List.getD_eq_getElem?_getD, List.getElem?_drop, List.getD_eq_getElem?_getD, List.getElem?_drop, ← List.getD_eq_getElem?_getD, ← List.getD_eq_getElem?_getD]
  have e1 : decide (x < a.length - h) = decide (h + x < a.length) := by rw [decide_eq_decide]; omega
  have e2 : decide (y < b.length - j) = decide (j + y < b.length) := by rw [decide_eq_decide]; omega
  rw [e1, e2]
theorem mt_take (a b : List Int) (h j p q : Nat) (hp : p < h) (hq : q < j) : mt (a.take h) (b.take j) p q = mt a b p q := by
  unfold mt
  rw [List.getD_eq_getElem?_getD, List.getElem?_take, if_pos hp, List.getD_eq_getElem?_getD, List.getElem?_take, if_pos hq, ← List.getD_eq_getElem?_getD, ← List.getD_eq_getElem?_getD]
  have e1 : decide (p < (a.take h).length) = decide (p < a.length) := by rw [decide_eq_decide, List.length_take]; omega
  have e2 : decide (q < (b.take j).length) = decide (q < b.length) := by rw [decide_eq_decide, List.length_take]; omega
  rw [e1, e2]
theorem IsJ.congr {M N : Nat → Nat → Bool} {n m : Nat} {J : Nat → Nat} (h : IsJ M n m J) (hMN : ∀ p q, p < n → q < m → M p q = N p q) : IsJ N n m J := by
  have oc : ∀ i j, i ≤ n → (Opt M n m i j ↔ Opt N n m i j) := fun i j hi => by
    unfold Opt
    constructor
    · rintro ⟨h1, h2⟩
      refine ⟨h1, ?_⟩
      rw [← C_congr M N n m hMN, ← C_congr M N i j (fun p q hp hq => hMN p q (by omega) (by omega)), ← C_congr (sh M i j) (sh N i j) _ _ (fun p q hp hq => hMN _ _ (by omega) (by omega))]
      exact h2
    · rintro ⟨h1, h2⟩
      refine ⟨h1, ?_⟩
      rw [C_congr M N n m hMN, C_congr M N i j (fun p q hp hq => hMN p q (by omega) (by omega)), C_congr (sh M i j) (sh N i j) _ _ (fun p q hp hq => hMN _ _ (by omega) (by omega))]
      exact h2
  intro i hi
  exact ⟨(oc i _ hi).1 (h i hi).1, fun j hj ho => (h i hi).2 j hj ((oc i j hi).2 ho)⟩

/-- the first number that is the same, from one place on -/
def firstAt (x : Int) : List Int → Option Nat
  | [] => none
  | y :: r => if x = y then some 0 else (firstAt x r).map (· + 1)
theorem firstAt_none (x : Int) (b : List Int) (h : firstAt x b = none) : ∀ j, j < b.length → x ≠ b.getD j 0 := by
  induction b with
  | nil => intro j hj; simp at hj
  | cons y r ih =>
    intro j hj
    unfold firstAt at h
    by_cases e : x = y
    · rw [if_pos e] at h; cases h
    · rw [if_neg e] at h
      cases j with
      | zero => exact e
      | succ j =>
        rw [List.getD_cons_succ]
        refine ih ?_ j (by simpa using hj)
        cases hf : firstAt x r
        · rfl
        · rw [hf] at h; cases h
theorem firstAt_some (x : Int) (b : List Int) (k : Nat) (h : firstAt x b = some k) : k < b.length ∧ x = b.getD k 0 ∧ ∀ j, j < k → x ≠ b.getD j 0 := by
  induction b generalizing k with
  | nil => cases h
  | cons y r ih =>
    unfold firstAt at h
    by_cases e : x = y
    · rw [if_pos e] at h
      injection h with h
      subst h
      exact ⟨by simp, e, fun j hj => by omega⟩
    · rw [if_neg e] at h
      cases hf : firstAt x r with
      | none => rw [hf] at h; cases h
      | some k' =>
        rw [hf] at h
        simp only [Option.map_some, Option.some.injEq] at h
        subst h
        obtain ⟨h1, h2, h3⟩ := ih k' hf
        refine ⟨by simpa using h1, by rw [List.getD_cons_succ]; exact h2, fun j hj => ?_⟩
        cases j with
        | zero => exact e
        | succ j => rw [List.getD_cons_succ]; exact h3 j (by omega)
def oneL (x : Int) (b : List Int) : List Step :=
  match firstAt x b with
  | some j => add 2 (j : Nat) ++ add 0 1 ++ add 2 ((b.length - j - 1 : Nat) : Int)
  | none => add 1 1 ++ add 2 (b.length : Nat)
/-- by halves; cut: how much goes with the first half -/
def findL (cut : List Int → List Int → Nat → Nat) : Nat → List Int → List Int → List Step
  | 0, _, _ => []
  | f + 1, a, b =>
    if a.length = 0 ∨ b.length = 0 then add 1 (a.length : Nat) ++ add 2 (b.length : Nat) else
      if a.length = 1 then oneL (a.getD 0 0) b else
        findL cut f (a.take (a.length / 2)) (b.take (cut a b (a.length / 2))) ++ findL cut f (a.drop (a.length / 2)) (b.drop (cut a b (a.length / 2)))

theorem wayS_split {M : Nat → Nat → Bool} {n m : Nat} {J : Nat → Nat} (hJ : IsJ M n m J) {h : Nat} (hh : h ≤ n) :
    Eqv (wayS J n m) (wayS J h (J h) ++ wayS (fun i => J (h + i) - J h) (n - h) (m - J h)) := by
  have e1 : rowsS J n = rowsS J h ++ rowsS (fun i => J (h + i)) (n - h) := by
    rw [← rowsS_add, show h + (n - h) = n from by omega]
  have e2 : rowsS (fun i => J (h + i) - J h) (n - h) = rowsS (fun i => J (h + i)) (n - h) :=
    rowsS_congr _ _ _ fun i hi => by
      have h1 := hJ.mono (show h ≤ h + i by omega) (by omega)
      have h2 := hJ.mono (show h ≤ h + (i + 1) by omega) (by omega)
      exact rowS_less _ _ _ h1 h2
  have hn := hJ.mono hh (Nat.le_refl _)
  have hm := hJ.last.2
  unfold wayS
  rw [e1, e2]
  dsimp only
  rw [show h + (n - h) = n from by omega, show m - J h - (J n - J h) = m - J n from by omega, Nat.sub_self, List.append_assoc, List.append_assoc]
  refine (Eqv.refl _).app ?_
  have := (eqv_none 2).symm.app (Eqv.refl (rowsS (fun i => J (h + i)) (n - h) ++ [(2, ((m - J n : Nat) : Int))]))
  rw [List.nil_append] at this
  exact this

theorem find_way (cut : List Int → List Int → Nat → Nat) (f : Nat) (a b : List Int) (J : Nat → Nat) (hf : a.length ≤ f) (h0 : 0 < f) (ha : a.length ≤ 1048576)
    (hc : ∀ a' b' h J', IsJ (mt a' b') a'.length b'.length J' → h ≤ a'.length → cut a' b' h = J' h)
    (hJ : IsJ (mt a b) a.length b.length J) : Eqv (findL cut f a b) (wayS J a.length b.length) := by
  induction f generalizing a b J with
  | zero => omega
  | succ f ih =>
    unfold findL
    have hj0 := hJ.first
    have hjl := hJ.last
    by_cases he : a.length = 0 ∨ b.length = 0
    · rw [if_pos he]
      have hall : ∀ i, i ≤ a.length → J i = 0 := by
        intro i hi
        rcases he with h | h
        · have : i = 0 := by omega
          subst this
          exact hj0
        · have h1 := (hJ i hi).1.1
          omega
      have hr : rowsS J a.length = List.replicate a.length (1, 1) := by
        have key : ∀ n, n ≤ a.length → rowsS J n = List.replicate n (1, 1) := by
          intro n
          induction n with
          | zero => intro _; rfl
          | succ n ihn =>
            intro hn
            rw [rowsS_succ, ihn (by omega), hall n (by omega), hall (n + 1) hn, List.replicate_succ']
            rfl
        exact key _ (Nat.le_refl _)
      unfold wayS
      rw [hr, hall _ (Nat.le_refl _), Nat.sub_zero]
      exact ((eqv_add 1 a.length).trans (eqv_dels _ ha).symm).app (eqv_add 2 b.length)
    · rw [if_neg he]
      by_cases h1 : a.length = 1
      · rw [if_pos h1]
        have hrow : (J 1 = 0 ∧ C (mt a b) 1 (J 1) = 0) ∨ (0 < J 1 ∧ mt a b 0 (J 1 - 1) = true ∧ C (mt a b) 1 (J 1) = 0 + 1 ∧ ∀ j, 0 ≤ j → j + 1 < J 1 → mt a b 0 j = false) := by
          have := hJ.row (i := 0) (by omega)
          rw [hj0, C_z] at this
          exact this
        have hlast : C (mt a b) 1 (J 1) = C (mt a b) 1 b.length := by
          have := hjl.1
          rwa [h1] at this
        unfold wayS
        rw [h1, show rowsS J 1 = rowS (J 0) (J 1) from by rw [show (1 : Nat) = 0 + 1 from rfl, rowsS_succ]; rfl, hj0]
        unfold oneL
        cases hfa : firstAt (a.getD 0 0) b with
        | none =>
          have hno := firstAt_none _ _ hfa
          rcases hrow with ⟨hj1, _⟩ | ⟨hlt, hM, _, _⟩
          · rw [hj1]
            exact (Eqv.refl (add 1 1)).app ((eqv_add 2 b.length))
          · exfalso
            unfold mt at hM
            simp only [Bool.and_eq_true, decide_eq_true_eq, beq_iff_eq] at hM
            exact hno _ hM.1.2 hM.2
        | some k =>
          obtain ⟨hk, hx, hbef⟩ := firstAt_some _ _ _ hfa
          have hMk : mt a b 0 k = true := by
            unfold mt
            simp only [Bool.and_eq_true, decide_eq_true_eq, beq_iff_eq]
            exact ⟨⟨by omega, hk⟩, hx⟩
          have hj1 : J 1 = k + 1 := by
            have hT : 1 ≤ C (mt a b) 1 b.length := by
              have e : C (mt a b) 1 (k + 1) = 1 := by
                have := C_hit (mt a b) (i := 0) (j := k) hMk
                rw [C_z] at this
                exact this
              have := Lcs.mono (mt a b) (Nat.le_refl 1) (show k + 1 ≤ b.length by omega)
              omega
            rcases hrow with ⟨hj1, hcc⟩ | ⟨hlt, hM, _, hno⟩
            · exfalso
              omega
            · have hM2 := hM
              unfold mt at hM2
              simp only [Bool.and_eq_true, decide_eq_true_eq, beq_iff_eq] at hM2
              by_cases hlt2 : k + 1 < J 1
              · have := hno k (Nat.zero_le _) hlt2
                rw [hMk] at this
                cases this
              · by_cases hgt : J 1 < k + 1
                · exact absurd hM2.2 (hbef _ (by omega))
                · omega
          rw [hj1]
          unfold rowS
          rw [if_pos (by omega)]
          have e1 : Eqv (add 2 (k : Nat) ++ add 0 1 ++ add 2 ((b.length - k - 1 : Nat) : Int)) ([(2, ((k : Nat) : Int))] ++ [(0, 1)] ++ [(2, ((b.length - k - 1 : Nat) : Int))]) :=
            ((eqv_add 2 k).app (Eqv.refl _)).app (eqv_add 2 _)
          rw [show k + 1 - 0 - 1 = k from by omega, show b.length - (k + 1) = b.length - k - 1 from by omega]
          exact e1
      · rw [if_neg h1]
        have hh : a.length / 2 ≤ a.length := by omega
        rw [hc a b (a.length / 2) J hJ hh]
        have hJm := (hJ (a.length / 2) hh).1.1
        refine Eqv.trans ?_ (wayS_split hJ hh).symm
        have la : (a.take (a.length / 2)).length = a.length / 2 := by rw [List.length_take]; omega
        have lb : (b.take (J (a.length / 2))).length = J (a.length / 2) := by rw [List.length_take]; omega
        have i1 := ih (a.take (a.length / 2)) (b.take (J (a.length / 2))) J (by omega) (by omega) (by omega) (by
          rw [la, lb]
          exact (hJ.left hh).congr fun p q hp hq => (mt_take a b _ _ p q hp hq).symm)
        have i2 := ih (a.drop (a.length / 2)) (b.drop (J (a.length / 2))) (fun i => J (a.length / 2 + i) - J (a.length / 2)) (by rw [List.length_drop]; omega) (by omega) (by rw [List.length_drop]; omega) (by
          rw [List.length_drop, List.length_drop, mt_sh]
          exact hJ.right hh)
        rw [la, lb] at i1
        rw [List.length_drop, List.length_drop] at i2
        exact i1.app i2
end Go.Proofs.Ytpahgpmhnpfnhaa.Lcs
