/-
  The ways that go as far as they can on each diagonal (no program in sight).
-/
import Derived.Test.YtpahgpmhnpfnhaaLcsB
namespace Go.Proofs.Ytpahgpmhnpfnhaa.Lcs

/-- within d deletions and insertions -/
def Rch (M : Nat → Nat → Bool) (i j d : Nat) : Prop := i + j ≤ d + 2 * C M i j
section
variable {M : Nat → Nat → Bool} {i j d : Nat}
theorem Rch.zero : Rch M 0 0 0 := Nat.zero_le _
theorem Rch.right (h : Rch M i j d) : Rch M i (j + 1) (d + 1) := by
  unfold Rch at *
  have := (lip_h M i j).1
  omega
theorem Rch.down (h : Rch M i j d) : Rch M (i + 1) j (d + 1) := by
  unfold Rch at *
  have := (lip_v M i j).1
  omega
theorem Rch.snake (h : Rch M i j d) (hm : M i j = true) : Rch M (i + 1) (j + 1) d := by
  unfold Rch at *
  rw [C_hit M hm]
  omega
theorem Rch.stop (hm : M i j = false) (h1 : ¬ Rch M i (j + 1) d) (h2 : ¬ Rch M (i + 1) j d) : ¬ Rch M (i + 1) (j + 1) (d + 1) := by
  unfold Rch at *
  rw [C_miss M hm]
  omega
theorem Rch.stop0 (hm : M 0 0 = false) : ¬ Rch M 1 1 0 := by
  unfold Rch
  rw [show (1 : Nat) = 0 + 1 from rfl, C_miss M hm, C_z, C_i0]
  omega
theorem Rch.back (h : Rch M (i + 1) (j + 1) d) : Rch M i j d := by
  unfold Rch at *
  have := diag M i j
  omega
theorem Rch.backN (t : Nat) (h : Rch M (i + t) (j + t) d) : Rch M i j d := by
  induction t with
  | zero => exact h
  | succ t ih => exact ih (Rch.back h)
theorem Rch.wide (h : Rch M i j d) : i ≤ j + d ∧ j ≤ i + d := by
  unfold Rch at h
  have h1 := C_le_i M i j
  have h2 := C_le_j M i j
  omega
theorem Rch.less (h : Rch M i j (d + 1)) (hp : (i + j + d) % 2 = 0) : Rch M i j d := by
  unfold Rch at *
  omega
theorem Rch.more (h : Rch M i j d) (t : Nat) : Rch M i j (d + t) := by
  unfold Rch at *
  omega
end
/-- nothing is the same beyond the lists' ends -/
def Shut (M : Nat → Nat → Bool) (n m : Nat) : Prop := ∀ i j, n ≤ i ∨ m ≤ j → M i j = false
theorem mt_shut (a b : List Int) : Shut (mt a b) a.length b.length := by
  intro i j h
  unfold mt
  rcases h with h | h
  · have : decide (i < a.length) = false := by simp; omega
    rw [this]
    rfl
  · have : decide (j < b.length) = false := by simp; omega
    rw [this]
    simp
theorem shut_v {M : Nat → Nat → Bool} {n m : Nat} (h : Shut M n m) (i j : Nat) (hi : n ≤ i) : C M (i + 1) j = C M i j := by
  induction j with
  | zero => rw [C_i0, C_i0]
  | succ j ih =>
    rw [C_miss M (h i j (.inl hi)), ih]
    have := lip_h M i j
    omega
theorem shut_h {M : Nat → Nat → Bool} {n m : Nat} (h : Shut M n m) (i j : Nat) (hj : m ≤ j) : C M i (j + 1) = C M i j := by
  induction i with
  | zero => rfl
  | succ i ih =>
    rw [C_miss M (h i j (.inr hj)), ih]
    have := lip_v M i j
    omega
theorem shut_C {M : Nat → Nat → Bool} {n m : Nat} (h : Shut M n m) (x y : Nat) : C M (n + x) (m + y) = C M n m := by
  induction x with
  | zero =>
    rw [Nat.add_zero]
    induction y with
    | zero => rfl
    | succ y ih => rw [show m + (y + 1) = m + y + 1 from rfl, shut_h h n (m + y) (by omega), ih]
  | succ x ih => rw [show n + (x + 1) = n + x + 1 from rfl, shut_v h (n + x) _ (by omega), ih]
theorem Rch.corner {M : Nat → Nat → Bool} {n m i j d : Nat} (h : Shut M n m) (hr : Rch M i j d) (hi : n ≤ i) (hj : m ≤ j) : Rch M n m d := by
  obtain ⟨x, rfl⟩ := Nat.exists_eq_add_of_le hi
  obtain ⟨y, rfl⟩ := Nat.exists_eq_add_of_le hj
  unfold Rch at *
  rw [shut_C h] at hr
  omega

/-- the furthest on a diagonal: i is the place in the first list, i - k in the second -/
def Far (M : Nat → Nat → Bool) (d : Nat) (k : Int) (f : Int) : Prop := 0 ≤ f ∧ k ≤ f ∧ Rch M f.toNat (f - k).toNat d ∧ ¬ Rch M (f + 1).toNat (f + 1 - k).toNat d
theorem Far.bd {M : Nat → Nat → Bool} {n m d : Nat} {k f : Int} (hs : Shut M n m) (h : Far M d k f) : f ≤ n + m + d := by
  obtain ⟨h0, hk, hr, _⟩ := h
  have hw := hr.wide
  by_cases hb : (n : Int) ≤ f ∧ (m : Int) ≤ f - k
  · obtain ⟨x, hx⟩ := Nat.exists_eq_add_of_le (show n ≤ f.toNat by omega)
    obtain ⟨y, hy⟩ := Nat.exists_eq_add_of_le (show m ≤ (f - k).toNat by omega)
    unfold Rch at hr
    rw [hx, hy, shut_C hs] at hr
    have h1 := C_le_i M n m
    have h2 := C_le_j M n m
    omega
  · omega
/-- where the way on diagonal k begins: from the neighbours' -/
theorem far_start {M : Nat → Nat → Bool} {d : Nat} {k f1 f2 : Int} (h1 : Far M d (k + 1) f1) (h2 : Far M d (k - 1) f2) :
    let i := if f2 < f1 then f1 else f2 + 1
    0 ≤ i ∧ k ≤ i ∧ Rch M i.toNat (i - k).toNat (d + 1) ∧ f1 ≤ i ∧ f2 + 1 ≤ i := by
  obtain ⟨a0, ak, ar, _⟩ := h1
  obtain ⟨b0, bk, br, _⟩ := h2
  simp only
  by_cases h : f2 < f1
  · rw [if_pos h]
    refine ⟨a0, by omega, ?_, by omega, by omega⟩
    have := ar.right
    rwa [show (f1 - (k + 1)).toNat + 1 = (f1 - k).toNat from by omega] at this
  · rw [if_neg h]
    refine ⟨by omega, by omega, ?_, by omega, by omega⟩
    have := br.down
    rwa [show f2.toNat + 1 = (f2 + 1).toNat from by omega, show (f2 - (k - 1)).toNat = (f2 + 1 - k).toNat from by omega] at this
theorem far_low {M : Nat → Nat → Bool} {d : Nat} {k f1 : Int} (h1 : Far M d (k + 1) f1) : 0 ≤ f1 ∧ k ≤ f1 ∧ Rch M f1.toNat (f1 - k).toNat (d + 1) := by
  obtain ⟨a0, ak, ar, _⟩ := h1
  refine ⟨a0, by omega, ?_⟩
  have := ar.right
  rwa [show (f1 - (k + 1)).toNat + 1 = (f1 - k).toNat from by omega] at this
theorem far_high {M : Nat → Nat → Bool} {d : Nat} {k f2 : Int} (h2 : Far M d (k - 1) f2) : 0 ≤ f2 + 1 ∧ k ≤ f2 + 1 ∧ Rch M (f2 + 1).toNat (f2 + 1 - k).toNat (d + 1) := by
  obtain ⟨b0, bk, br, _⟩ := h2
  refine ⟨by omega, by omega, ?_⟩
  have := br.down
  rwa [show f2.toNat + 1 = (f2 + 1).toNat from by omega, show (f2 - (k - 1)).toNat = (f2 + 1 - k).toNat from by omega] at this
/-- beyond a furthest place nothing is in reach -/
theorem Far.beyond {M : Nat → Nat → Bool} {d : Nat} {k f x : Int} (h : Far M d k f) (hx : f + 1 ≤ x) : ¬ Rch M x.toNat (x - k).toNat d := by
  intro hr
  refine h.2.2.2 (Rch.backN (x - (f + 1)).toNat ?_)
  have h0 := h.1
  have hk := h.2.1
  rwa [show (f + 1).toNat + (x - (f + 1)).toNat = x.toNat from by omega, show (f + 1 - k).toNat + (x - (f + 1)).toNat = (x - k).toNat from by omega]
/-- where the way ends: at the first place at which they are not the same; lo: there is a diagonal below, hi: there is one above -/
theorem far_end {M : Nat → Nat → Bool} {d : Nat} {k f1 f2 i : Int} (h1 : Far M d (k + 1) f1 ∨ (d : Int) < k + 1) (h2 : Far M d (k - 1) f2 ∨ k - 1 < -(d : Int)) (hi1 : f1 ≤ i ∨ (d : Int) < k + 1) (hi2 : f2 + 1 ≤ i ∨ k - 1 < -(d : Int))
    (h0 : 0 ≤ i) (hk : k ≤ i) (hr : Rch M i.toNat (i - k).toNat (d + 1)) (hm : M i.toNat (i - k).toNat = false) : Far M (d + 1) k i := by
  refine ⟨h0, hk, hr, ?_⟩
  rw [show (i + 1).toNat = i.toNat + 1 from by omega, show (i + 1 - k).toNat = (i - k).toNat + 1 from by omega]
  refine Rch.stop hm ?_ ?_
  · -- (i, j + 1) on k - 1
    by_cases hlow : k - 1 < -(d : Int)
    · intro hr2
      have := hr2.wide
      omega
    · have h2' : Far M d (k - 1) f2 := by rcases h2 with h | h; exact h; omega
      have := h2'.beyond (x := i) (by rcases hi2 with h | h <;> omega)
      rwa [show (i - (k - 1)).toNat = (i - k).toNat + 1 from by omega] at this
  · by_cases hhigh : (d : Int) < k + 1
    · intro hr2
      have := hr2.wide
      omega
    · have h1' : Far M d (k + 1) f1 := by rcases h1 with h | h; exact h; omega
      have := h1'.beyond (x := i + 1) (by rcases hi1 with h | h <;> omega)
      rwa [show (i + 1).toNat = i.toNat + 1 from by omega, show (i + 1 - (k + 1)).toNat = (i - k).toNat from by omega] at this
theorem far_zero {M : Nat → Nat → Bool} {i : Int} (h0 : 0 ≤ i) (hr : Rch M i.toNat (i - 0).toNat 0) (hm : M i.toNat (i - 0).toNat = false) : Far M 0 0 i := by
  refine ⟨h0, h0, hr, ?_⟩
  intro h
  have e1 : (i + 1).toNat = i.toNat + 1 := by omega
  have e2 : (i + 1 - 0).toNat = (i - 0).toNat + 1 := by omega
  rw [e1, e2] at h
  unfold Rch at h
  rw [C_miss M hm] at h
  have c1 := C_le_i M i.toNat ((i - 0).toNat + 1)
  have c2 := C_le_j M (i.toNat + 1) (i - 0).toNat
  omega
/-- a round without an end: the corner is not in reach -/
theorem far_round {M : Nat → Nat → Bool} {n m d : Nat} (hprev : 0 < d → ¬ Rch M n m (d - 1))
    (hk : ((n : Int) - m ≤ d ∧ -(d : Int) ≤ (n : Int) - m ∧ (n + m + d) % 2 = 0) → ∃ f, Far M d ((n : Int) - m) f ∧ f < n) : ¬ Rch M n m d := by
  intro hr
  have hw := hr.wide
  by_cases hp : (n + m + d) % 2 = 0
  · obtain ⟨f, hf, hlt⟩ := hk ⟨by omega, by omega, hp⟩
    have := hf.beyond (x := (n : Int)) (by omega)
    rw [show ((n : Int)).toNat = n from by omega, show ((n : Int) - ((n : Int) - m)).toNat = m from by omega] at this
    exact this hr
  · by_cases h0 : d = 0
    · subst h0
      unfold Rch at hr
      omega
    · obtain ⟨e, rfl⟩ : ∃ e, d = e + 1 := ⟨d - 1, by omega⟩
      exact hprev (by omega) (hr.less (by omega))
end Go.Proofs.Ytpahgpmhnpfnhaa.Lcs
