/-
  Scripts in plain Lean: the normal form, sizes, counts (no program in sight).
-/
namespace Go.Proofs.Ytpahgpmhnpfnhaa.Scr

abbrev Step := Int × Int
def okS (s : Step) : Bool := decide (0 ≤ s.1) && decide (s.1 ≤ 2) && decide (1 ≤ s.2) && decide (s.2 ≤ 1048576)
theorem okS_iff (s : Step) : okS s = true ↔ 0 ≤ s.1 ∧ s.1 ≤ 2 ∧ 1 ≤ s.2 ∧ s.2 ≤ 1048576 := by
  unfold okS
  simp only [Bool.and_eq_true, decide_eq_true_eq, and_assoc]
structure St where
  out : List Step
  K : Int
  D : Int
  I : Int
def fl (k n : Int) : List Step := if n > 0 then [(k, n)] else []
theorem fl_0 (k : Int) : fl k 0 = [] := rfl
theorem fl_pos (k n : Int) (h : 0 < n) : fl k n = [(k, n)] := if_pos h
def stp (t : St) (s : Step) : St :=
  if okS s = true then
    (if s.1 = 0 then ⟨t.out ++ fl 1 t.D ++ fl 2 t.I, t.K + s.2, 0, 0⟩ else
      if s.1 = 1 then ⟨t.out ++ fl 0 t.K, 0, t.D + s.2, t.I⟩ else ⟨t.out ++ fl 0 t.K, 0, t.D, t.I + s.2⟩)
  else t
def fin (t : St) : List Step := t.out ++ fl 0 t.K ++ fl 1 t.D ++ fl 2 t.I
def runS (l : List Step) : St := l.foldl stp ⟨[], 0, 0, 0⟩
def nrm (l : List Step) : List Step := fin (runS l)
theorem runS_snoc (l : List Step) (s : Step) : runS (l ++ [s]) = stp (runS l) s := by
  unfold runS
  rw [List.foldl_append]
  rfl
theorem runS_take (l : List Step) (k : Nat) (h : k < l.length) : runS (l.take (k + 1)) = stp (runS (l.take k)) l[k] := by
  rw [List.take_succ_eq_append_getElem h, runS_snoc]
/-- numbers of a run's state, by how many steps there were -/
structure St.Bd (t : St) (n : Nat) : Prop where
  k0 : 0 ≤ t.K
  d0 : 0 ≤ t.D
  i0 : 0 ≤ t.I
  le : t.K + t.D + t.I ≤ 1048576 * n
  one : t.K = 0 ∨ (t.D = 0 ∧ t.I = 0)
  len : t.out.length ≤ 3 * n
  vals : ∀ s ∈ t.out, 0 ≤ s.1 ∧ s.1 ≤ 2 ∧ 0 < s.2 ∧ s.2 ≤ 1048576 * n
theorem fl_len (k n : Int) : (fl k n).length ≤ 1 := by unfold fl; split <;> simp
theorem fl_mem (k n : Int) (s : Step) (h : s ∈ fl k n) : s.1 = k ∧ s.2 = n ∧ 0 < n := by
  unfold fl at h
  split at h
  · rename_i hn
    simp only [List.mem_cons, List.not_mem_nil, or_false] at h
    subst h
    exact ⟨rfl, rfl, hn⟩
  · simp at h
theorem Bd.stp {t : St} {n : Nat} (h : t.Bd n) (s : Step) : (stp t s).Bd (n + 1) := by
  obtain ⟨k0, d0, i0, le, one, len, vals⟩ := h
  have vals' : ∀ s ∈ t.out, 0 ≤ s.1 ∧ s.1 ≤ 2 ∧ 0 < s.2 ∧ s.2 ≤ 1048576 * ((n + 1 : Nat) : Int) := fun s hs => by
    have := vals s hs
    omega
  unfold Scr.stp
  cases hs : okS s
  · rw [if_neg (by decide)]
    exact ⟨k0, d0, i0, by omega, one, by omega, vals'⟩
  · rw [if_pos rfl]
    have ho := (okS_iff s).1 hs
    by_cases h0 : s.1 = 0
    · rw [if_pos h0]
      refine ⟨by simp only; omega, by simp, by simp, by simp only; omega, .inr ⟨rfl, rfl⟩, ?_, ?_⟩
      · simp only [List.length_append]
        have h1 := fl_len 1 t.D
        have h2 := fl_len 2 t.I
        omega
      · intro x hx
        simp only [List.mem_append] at hx
        rcases hx with (hx | hx) | hx
        · exact vals' x hx
        · have := fl_mem _ _ _ hx; omega
        · have := fl_mem _ _ _ hx; omega
    · rw [if_neg h0]
      by_cases h1 : s.1 = 1
      · rw [if_pos h1]
        refine ⟨by simp, by simp only; omega, by simp only; omega, by simp only; omega, .inl rfl, ?_, ?_⟩
        · simp only [List.length_append]
          have h1 := fl_len 0 t.K
          omega
        · intro x hx
          simp only [List.mem_append] at hx
          rcases hx with hx | hx
          · exact vals' x hx
          · have := fl_mem _ _ _ hx; omega
      · rw [if_neg h1]
        refine ⟨by simp, by simp only; omega, by simp only; omega, by simp only; omega, .inl rfl, ?_, ?_⟩
        · simp only [List.length_append]
          have h1 := fl_len 0 t.K
          omega
        · intro x hx
          simp only [List.mem_append] at hx
          rcases hx with hx | hx
          · exact vals' x hx
          · have := fl_mem _ _ _ hx; omega
theorem bd0 : (⟨[], 0, 0, 0⟩ : St).Bd 0 := ⟨by decide, by decide, by decide, by decide, .inl rfl, by decide, fun s h => by simp at h⟩
theorem runS_bd (l : List Step) : (runS l).Bd l.length := by
  have key : ∀ k, k ≤ l.length → (runS (l.take k)).Bd k := by
    intro k
    induction k with
    | zero => intro _; exact bd0
    | succ k ih =>
      intro hk
      rw [runS_take l k (by omega)]
      exact Bd.stp (ih (by omega)) _
  have := key l.length (Nat.le_refl _)
  rwa [List.take_of_length_le (Nat.le_refl _)] at this
theorem runS_bd_take (l : List Step) (k : Nat) (h : k ≤ l.length) : (runS (l.take k)).Bd k := by
  have := runS_bd (l.take k)
  rwa [List.length_take, Nat.min_eq_left h] at this

/-! ### the reference's own: what is kept stands already -/
def outR (t : St) : List Step := t.out ++ fl 0 t.K
/-- a step behind others -/
def putS (l : List Step) (s : Step) : List Step :=
  if s.2 = 0 then l else
    match l.getLast? with
    | some x => if x.1 = s.1 then l.dropLast ++ [(x.1, x.2 + s.2)] else l ++ [s]
    | none => l ++ [s]

/-! ### sizes, counts, the way back -/
def ahdN (s : Step) : Int := if s.1 = 2 then 0 else s.2
def bhdN (s : Step) : Int := if s.1 = 1 then 0 else s.2
def sum (f : Step → Int) (l : List Step) : Int := l.foldl (fun a s => a + f s) 0
theorem sum_take (f : Step → Int) (l : List Step) (k : Nat) (h : k < l.length) : sum f (l.take (k + 1)) = sum f (l.take k) + f l[k] := by
  rw [List.take_succ_eq_append_getElem h]
  unfold sum
  rw [List.foldl_append]
  rfl
def allOk (l : List Step) : Bool := l.all okS
theorem allOk_take (l : List Step) (k : Nat) (h : k < l.length) : allOk (l.take (k + 1)) = (allOk (l.take k) && okS l[k]) := by
  rw [List.take_succ_eq_append_getElem h]
  unfold allOk
  rw [List.all_append, List.all_cons, List.all_nil, Bool.and_true]
theorem allOk_hit (l : List Step) (k : Nat) (h : k < l.length) (hs : okS l[k] = false) : allOk l = false := by
  unfold allOk
  rw [List.all_eq_false]
  exact ⟨l[k], List.getElem_mem h, by rw [hs]; decide⟩
def cnt (c : Int) (s : Step) : Int := if okS s = true ∧ s.1 = c then s.2 else 0
theorem cnt_bd (c : Int) (s : Step) : 0 ≤ cnt c s ∧ cnt c s ≤ 1048576 := by
  unfold cnt
  split
  · rename_i h
    have := (okS_iff s).1 h.1
    omega
  · omega
theorem sum_bd (f : Step → Int) (h : ∀ s, 0 ≤ f s ∧ f s ≤ 1048576) (l : List Step) (k : Nat) (hk : k ≤ l.length) : 0 ≤ sum f (l.take k) ∧ sum f (l.take k) ≤ 1048576 * k := by
  induction k with
  | zero => simp [sum]
  | succ k ih =>
    rw [sum_take f l k (by omega)]
    have h1 := ih (by omega)
    have h2 := h l[k]
    omega
def swap (s : Step) : Step := (if s.1 = 1 then 2 else if s.1 = 2 then 1 else s.1, s.2)
end Go.Proofs.Ytpahgpmhnpfnhaa.Scr
