/-
  How much two lists have in common: the table, its laws (no program in sight).
-/
namespace Go.Proofs.Ytpahgpmhnpfnhaa.Lcs

/-- how much the first i of the one and the first j of the other have in common; M: which of them are the same -/
def C (M : Nat → Nat → Bool) : Nat → Nat → Nat
  | 0 => fun _ => 0
  | i + 1 => fun j => Nat.rec (motive := fun _ => Nat) 0 (fun j ih => if M i j = true then C M i j + 1 else max (C M i (j + 1)) ih) j

section
variable (M : Nat → Nat → Bool)
theorem C_z (j : Nat) : C M 0 j = 0 := rfl
theorem C_s0 (i : Nat) : C M (i + 1) 0 = 0 := rfl
theorem C_ss (i j : Nat) : C M (i + 1) (j + 1) = if M i j = true then C M i j + 1 else max (C M i (j + 1)) (C M (i + 1) j) := rfl
theorem C_i0 (i : Nat) : C M i 0 = 0 := by cases i <;> rfl
theorem C_hit {i j : Nat} (h : M i j = true) : C M (i + 1) (j + 1) = C M i j + 1 := by rw [C_ss, if_pos h]
theorem C_miss {i j : Nat} (h : M i j = false) : C M (i + 1) (j + 1) = max (C M i (j + 1)) (C M (i + 1) j) := by rw [C_ss, if_neg (by rw [h]; decide)]

theorem lip_row (i : Nat) (hi : ∀ j, C M i j ≤ C M i (j + 1) ∧ C M i (j + 1) ≤ C M i j + 1) :
    ∀ j, (C M i j ≤ C M (i + 1) j ∧ C M (i + 1) j ≤ C M i j + 1) ∧ (C M (i + 1) j ≤ C M (i + 1) (j + 1) ∧ C M (i + 1) (j + 1) ≤ C M (i + 1) j + 1) := by
  have cell : ∀ j, (C M i j ≤ C M (i + 1) j ∧ C M (i + 1) j ≤ C M i j + 1) → (C M (i + 1) j ≤ C M (i + 1) (j + 1) ∧ C M (i + 1) (j + 1) ≤ C M (i + 1) j + 1) ∧ (C M i (j + 1) ≤ C M (i + 1) (j + 1) ∧ C M (i + 1) (j + 1) ≤ C M i (j + 1) + 1) := by
    intro j hv
    have hh := hi j
    cases h : M i j
    · rw [C_miss M h]; omega
    · rw [C_hit M h]; omega
  intro j
  induction j with
  | zero =>
    have h0 : C M i 0 ≤ C M (i + 1) 0 ∧ C M (i + 1) 0 ≤ C M i 0 + 1 := by rw [C_i0, C_i0]; omega
    exact ⟨h0, (cell 0 h0).1⟩
  | succ j ih =>
    have h1 := (cell j ih.1).2
    exact ⟨h1, (cell (j + 1) h1).1⟩
theorem lip_h (i : Nat) : ∀ j, C M i j ≤ C M i (j + 1) ∧ C M i (j + 1) ≤ C M i j + 1 := by
  induction i with
  | zero => intro j; rw [C_z, C_z]; omega
  | succ i ih => exact fun j => (lip_row M i ih j).2
theorem lip_v (i j : Nat) : C M i j ≤ C M (i + 1) j ∧ C M (i + 1) j ≤ C M i j + 1 := (lip_row M i (lip_h M i) j).1
theorem diag (i j : Nat) : C M (i + 1) (j + 1) ≤ C M i j + 1 := by
  cases h : M i j
  · rw [C_miss M h]
    have h1 := lip_h M i j
    have h2 := lip_v M i j
    omega
  · rw [C_hit M h]; omega
theorem C_rec (i j : Nat) : C M (i + 1) (j + 1) = max (max (C M i (j + 1)) (C M (i + 1) j)) (if M i j = true then C M i j + 1 else 0) := by
  have h1 := lip_h M i j
  have h2 := lip_v M i j
  cases h : M i j
  · rw [C_miss M h]; simp
  · rw [C_hit M h]
    simp only [if_true]
    omega
theorem mono_h (i j d : Nat) : C M i j ≤ C M i (j + d) := by
  induction d with
  | zero => exact Nat.le_refl _
  | succ d ih => exact Nat.le_trans ih (lip_h M i (j + d)).1
theorem mono_v (i j d : Nat) : C M i j ≤ C M (i + d) j := by
  induction d with
  | zero => exact Nat.le_refl _
  | succ d ih => exact Nat.le_trans ih (lip_v M (i + d) j).1
theorem mono {i i' j j' : Nat} (hi : i ≤ i') (hj : j ≤ j') : C M i j ≤ C M i' j' := by
  obtain ⟨d, rfl⟩ := Nat.exists_eq_add_of_le hi
  obtain ⟨e, rfl⟩ := Nat.exists_eq_add_of_le hj
  exact Nat.le_trans (mono_h M i j e) (mono_v M i (j + e) d)
theorem C_le_i (i j : Nat) : C M i j ≤ i := by
  induction i with
  | zero => exact Nat.le_refl _
  | succ i ih => have := (lip_v M i j).2; omega
theorem C_le_j (i j : Nat) : C M i j ≤ j := by
  induction j with
  | zero => rw [C_i0]; exact Nat.le_refl _
  | succ j ih => have := (lip_h M i j).2; omega
end

/-- the table from one place on -/
def sh (M : Nat → Nat → Bool) (p q : Nat) : Nat → Nat → Bool := fun x y => M (p + x) (q + y)
theorem sh_sh (M : Nat → Nat → Bool) (p q x y : Nat) : sh (sh M p q) x y = sh M (p + x) (q + y) := by
  funext a b
  simp only [sh, Nat.add_assoc]
theorem sh_0 (M : Nat → Nat → Bool) : sh M 0 0 = M := by
  funext a b
  simp only [sh, Nat.zero_add]

theorem C_congr (M N : Nat → Nat → Bool) (i j : Nat) (h : ∀ p q, p < i → q < j → M p q = N p q) : C M i j = C N i j := by
  induction i generalizing j with
  | zero => rfl
  | succ i ih =>
    induction j with
    | zero => rfl
    | succ j ihj =>
      rw [C_ss, C_ss, h i j (by omega) (by omega), ih j (fun p q hp hq => h p q (by omega) (by omega)), ih (j + 1) (fun p q hp hq => h p q (by omega) hq), ihj (fun p q hp hq => h p q hp (by omega))]

theorem super (M : Nat → Nat → Bool) (p q x y : Nat) : C M p q + C (sh M p q) x y ≤ C M (p + x) (q + y) := by
  induction x generalizing y with
  | zero => rw [C_z]; exact mono M (Nat.le_refl _) (Nat.le_add_right _ _)
  | succ x ih =>
    induction y with
    | zero => rw [C_s0]; exact mono M (Nat.le_add_right _ _) (Nat.le_refl _)
    | succ y ihy =>
      have h1 := ih y
      have h2 := ih (y + 1)
      rw [show p + (x + 1) = p + x + 1 from rfl, show q + (y + 1) = q + y + 1 from rfl] at *
      cases h : M (p + x) (q + y)
      · rw [C_miss M h, C_miss (sh M p q) (i := x) (j := y) h]
        omega
      · rw [C_hit M h, C_hit (sh M p q) (i := x) (j := y) h]
        omega
theorem split (M : Nat → Nat → Bool) (p x j : Nat) : ∃ q, q ≤ j ∧ C M (p + x) j ≤ C M p q + C (sh M p q) x (j - q) := by
  induction x generalizing j with
  | zero => exact ⟨j, Nat.le_refl _, by rw [C_z]; exact Nat.le_refl _⟩
  | succ x ih =>
    induction j with
    | zero => exact ⟨0, Nat.le_refl _, by rw [C_i0]; omega⟩
    | succ j ihj =>
      cases h : M (p + x) j
      · have e := C_miss M h
        by_cases hc : C M (p + x) (j + 1) ≤ C M (p + x + 1) j
        · obtain ⟨q, hq, hle⟩ := ihj
          refine ⟨q, by omega, ?_⟩
          have hm := mono (sh M p q) (Nat.le_refl (x + 1)) (show j - q ≤ j + 1 - q by omega)
          have hle' : C M (p + x + 1) j ≤ C M p q + C (sh M p q) (x + 1) (j - q) := hle
          show C M (p + x + 1) (j + 1) ≤ _
          omega
        · obtain ⟨q, hq, hle⟩ := ih (j + 1)
          refine ⟨q, hq, ?_⟩
          have hm := mono (sh M p q) (show x ≤ x + 1 by omega) (Nat.le_refl (j + 1 - q))
          show C M (p + x + 1) (j + 1) ≤ _
          omega
      · obtain ⟨q, hq, hle⟩ := ih j
        refine ⟨q, by omega, ?_⟩
        have e := C_hit M h
        have hh : sh M p q x (j - q) = true := by
          unfold sh
          rw [show q + (j - q) = j from by omega]
          exact h
        have e3 := C_hit (sh M p q) hh
        rw [show j + 1 - q = j - q + 1 from by omega, e3, show p + (x + 1) = p + x + 1 from rfl, e]
        omega

/-- backwards -/
def rv (M : Nat → Nat → Bool) (n m : Nat) : Nat → Nat → Bool := fun p q => M (n - 1 - p) (m - 1 - q)
theorem rv_ge (M : Nat → Nat → Bool) (i j : Nat) : C M i j ≤ C (rv M i j) i j := by
  induction i generalizing j with
  | zero => exact Nat.le_refl _
  | succ i ih =>
    induction j with
    | zero => exact Nat.le_refl _
    | succ j ihj =>
      cases h : M i j
      · rw [C_miss M h]
        have e1 : sh (rv M (i + 1) (j + 1)) 1 0 = rv M i (j + 1) := by
          funext p q
          unfold sh rv
          congr 1 <;> omega
        have e2 : sh (rv M (i + 1) (j + 1)) 0 1 = rv M (i + 1) j := by
          funext p q
          unfold sh rv
          congr 1 <;> omega
        have h1 := super (rv M (i + 1) (j + 1)) 1 0 i (j + 1)
        have h2 := super (rv M (i + 1) (j + 1)) 0 1 (i + 1) j
        rw [e1, C_i0, show 1 + i = i + 1 from by omega, show 0 + (j + 1) = j + 1 from by omega] at h1
        rw [e2, C_z, show 1 + j = j + 1 from by omega, show 0 + (i + 1) = i + 1 from by omega] at h2
        have := ih (j + 1)
        omega
      · rw [C_hit M h]
        have e1 : sh (rv M (i + 1) (j + 1)) 1 1 = rv M i j := by
          funext p q
          unfold sh rv
          congr 1 <;> omega
        have h1 := super (rv M (i + 1) (j + 1)) 1 1 i j
        have hh : rv M (i + 1) (j + 1) 0 0 = true := by
          unfold rv
          simpa using h
        have h2 : C (rv M (i + 1) (j + 1)) 1 1 = 1 := by rw [C_hit _ hh, C_z]
        rw [e1, h2, show 1 + i = i + 1 from by omega, show 1 + j = j + 1 from by omega] at h1
        have := ih j
        omega
theorem rv_eq (M : Nat → Nat → Bool) (i j : Nat) : C (rv M i j) i j = C M i j := by
  refine Nat.le_antisymm ?_ (rv_ge M i j)
  refine Nat.le_trans (rv_ge (rv M i j) i j) (Nat.le_of_eq (C_congr _ _ _ _ fun p q hp hq => ?_))
  unfold rv
  congr 1 <;> omega
/-- the table of both lists backwards -/
theorem rv_part (M : Nat → Nat → Bool) (n m x y : Nat) (hx : x ≤ n) (hy : y ≤ m) : C (rv M n m) x y = C (sh M (n - x) (m - y)) x y := by
  rw [← rv_eq (sh M (n - x) (m - y))]
  refine C_congr _ _ _ _ fun p q hp hq => ?_
  unfold rv sh
  congr 1 <;> omega

/-- one list with something ahead of it: the ahead helps less and less -/
theorem monge_row (M : Nat → Nat → Bool) (u i : Nat) (hi : ∀ j, C M i (u + j + 1) + C (sh M 0 u) i j ≤ C M i (u + j) + C (sh M 0 u) i (j + 1)) :
    ∀ j, (C M i (u + j) + C (sh M 0 u) (i + 1) j ≤ C M (i + 1) (u + j) + C (sh M 0 u) i j) ∧ (C M (i + 1) (u + j + 1) + C (sh M 0 u) (i + 1) j ≤ C M (i + 1) (u + j) + C (sh M 0 u) (i + 1) (j + 1)) := by
  have cell : ∀ j, (C M i (u + j) + C (sh M 0 u) (i + 1) j ≤ C M (i + 1) (u + j) + C (sh M 0 u) i j) →
      (C M (i + 1) (u + j + 1) + C (sh M 0 u) (i + 1) j ≤ C M (i + 1) (u + j) + C (sh M 0 u) (i + 1) (j + 1)) ∧ (C M i (u + (j + 1)) + C (sh M 0 u) (i + 1) (j + 1) ≤ C M (i + 1) (u + (j + 1)) + C (sh M 0 u) i (j + 1)) := by
    intro j hv
    have hh := hi j
    have a1 := lip_h M i (u + j)
    have a2 := lip_v M i (u + j)
    have b1 := lip_h (sh M 0 u) i j
    have b2 := lip_v (sh M 0 u) i j
    have e : u + (j + 1) = u + j + 1 := rfl
    rw [e]
    cases h : M i (u + j)
    · have h' : sh M 0 u i j = false := by unfold sh; rw [Nat.zero_add]; exact h
      rw [C_miss M h, C_miss _ h']
      omega
    · have h' : sh M 0 u i j = true := by unfold sh; rw [Nat.zero_add]; exact h
      rw [C_hit M h, C_hit _ h']
      omega
  intro j
  induction j with
  | zero =>
    have h0 : C M i (u + 0) + C (sh M 0 u) (i + 1) 0 ≤ C M (i + 1) (u + 0) + C (sh M 0 u) i 0 := by
      rw [C_i0, C_i0]
      have := (lip_v M i (u + 0)).1
      omega
    exact ⟨h0, (cell 0 h0).1⟩
  | succ j ih =>
    have h1 := (cell j ih.1).2
    exact ⟨h1, (cell (j + 1) h1).1⟩
theorem monge_one (M : Nat → Nat → Bool) (u i : Nat) : ∀ j, C M i (u + j + 1) + C (sh M 0 u) i j ≤ C M i (u + j) + C (sh M 0 u) i (j + 1) := by
  induction i with
  | zero => intro j; rw [C_z, C_z, C_z, C_z]; omega
  | succ i ih => exact fun j => (monge_row M u i ih j).2
theorem monge (M : Nat → Nat → Bool) (u i v t : Nat) : C M i (u + v + t) + C (sh M 0 u) i v ≤ C M i (u + v) + C (sh M 0 u) i (v + t) := by
  induction t with
  | zero => exact Nat.le_refl _
  | succ t ih =>
    have h := monge_one M u i (v + t)
    rw [show u + (v + t) = u + v + t from by omega] at h
    rw [show u + v + (t + 1) = u + v + t + 1 from rfl, show v + (t + 1) = v + t + 1 from rfl]
    omega

/-! ### the least way -/
def Opt (M : Nat → Nat → Bool) (n m i j : Nat) : Prop := j ≤ m ∧ C M n m ≤ C M i j + C (sh M i j) (n - i) (m - j)
def IsJ (M : Nat → Nat → Bool) (n m : Nat) (J : Nat → Nat) : Prop := ∀ i, i ≤ n → Opt M n m i (J i) ∧ ∀ j, j < J i → ¬ Opt M n m i j
theorem Opt.eq {M : Nat → Nat → Bool} {n m i j : Nat} (hi : i ≤ n) (h : Opt M n m i j) : C M i j + C (sh M i j) (n - i) (m - j) = C M n m := by
  have h1 := super M i j (n - i) (m - j)
  rw [show i + (n - i) = n from by omega, show j + (m - j) = m from by have := h.1; omega] at h1
  have := h.2
  omega
theorem super2 (M : Nat → Nat → Bool) (i j h k n m : Nat) (h1 : i ≤ h) (h2 : h ≤ n) (h3 : j ≤ k) (h4 : k ≤ m) :
    C (sh M i j) (h - i) (k - j) + C (sh M h k) (n - h) (m - k) ≤ C (sh M i j) (n - i) (m - j) := by
  have := super (sh M i j) (h - i) (k - j) (n - h) (m - k)
  rw [sh_sh, show i + (h - i) = h from by omega, show j + (k - j) = k from by omega, show h - i + (n - h) = n - i from by omega, show k - j + (m - k) = m - j from by omega] at this
  exact this
theorem IsJ.chain {M : Nat → Nat → Bool} {n m : Nat} {J : Nat → Nat} (hJ : IsJ M n m J) {h i : Nat} (hh : h ≤ i) (hi : i ≤ n) :
    J h ≤ J i ∧ C M h (J h) + C (sh M h (J h)) (i - h) (J i - J h) + C (sh M i (J i)) (n - i) (m - J i) = C M n m := by
  obtain ⟨oh, mh⟩ := hJ h (by omega)
  obtain ⟨oi, mi⟩ := hJ i hi
  have eh := oh.eq (by omega)
  have ei := oi.eq hi
  have hjm := oh.1
  have him := oi.1
  -- the way through (i, J i) crosses row h at j1
  obtain ⟨j1, hj1, s1⟩ := split M h (i - h) (J i)
  rw [show h + (i - h) = i from by omega] at s1
  have p1 := super2 M h j1 i (J i) n m hh hi hj1 him
  have o1 : J h ≤ j1 := by
    by_cases hlt : j1 < J h
    · exact absurd ⟨by omega, by omega⟩ (mh j1 hlt)
    · omega
  -- the way through (h, J h) crosses row i at j2
  obtain ⟨q, hq, s2⟩ := split (sh M h (J h)) (i - h) (n - i) (m - J h)
  rw [sh_sh, show h + (i - h) = i from by omega, show i - h + (n - i) = n - h from by omega, show m - J h - q = m - (J h + q) from by omega] at s2
  have p2 := super M h (J h) (i - h) q
  rw [show h + (i - h) = i from by omega] at p2
  have o2 : J i ≤ J h + q := by
    by_cases hlt : J h + q < J i
    · exact absurd ⟨by omega, by omega⟩ (mi (J h + q) hlt)
    · omega
  refine ⟨by omega, ?_⟩
  -- they cross
  have mg := monge (sh M h (J h)) (j1 - J h) (i - h) (J i - j1) (J h + q - J i)
  rw [sh_sh, Nat.add_zero, show J h + (j1 - J h) = j1 from by omega, show j1 - J h + (J i - j1) + (J h + q - J i) = q from by omega, show j1 - J h + (J i - j1) = J i - J h from by omega, show J i - j1 + (J h + q - J i) = J h + q - j1 from by omega] at mg
  have q1 := super2 M h (J h) i (J i) n m hh hi (by omega) him
  have q2 := super2 M h j1 i (J h + q) n m hh hi (by omega) (by omega)
  have t1 := super M h j1 (n - h) (m - j1)
  rw [show h + (n - h) = n from by omega, show j1 + (m - j1) = m from by omega] at t1
  omega
theorem IsJ.mono {M : Nat → Nat → Bool} {n m : Nat} {J : Nat → Nat} (hJ : IsJ M n m J) {h i : Nat} (hh : h ≤ i) (hi : i ≤ n) : J h ≤ J i := (hJ.chain hh hi).1
theorem IsJ.mid {M : Nat → Nat → Bool} {n m : Nat} {J : Nat → Nat} (hJ : IsJ M n m J) {h i : Nat} (hh : h ≤ i) (hi : i ≤ n) :
    C M h (J h) + C (sh M h (J h)) (i - h) (J i - J h) = C M i (J i) := by
  have h1 := (hJ.chain hh hi).2
  have h2 := (hJ i hi).1.eq hi
  omega
theorem IsJ.left {M : Nat → Nat → Bool} {n m : Nat} {J : Nat → Nat} (hJ : IsJ M n m J) {h : Nat} (hh : h ≤ n) : IsJ M h (J h) J := by
  intro i hi
  refine ⟨⟨hJ.mono hi hh, Nat.le_of_eq (hJ.mid hi hh).symm⟩, fun j hj ho => ?_⟩
  obtain ⟨oi, mi⟩ := hJ i (by omega)
  obtain ⟨oh, _⟩ := hJ h hh
  have eh := oh.eq hh
  have hm := hJ.mono hi hh
  have h1 := ho.2
  have h2 := ho.1
  have h3 := oh.1
  have s := super2 M i j h (J h) n m hi hh (by omega) h3
  exact mi j hj ⟨by omega, by omega⟩
theorem IsJ.right {M : Nat → Nat → Bool} {n m : Nat} {J : Nat → Nat} (hJ : IsJ M n m J) {h : Nat} (hh : h ≤ n) : IsJ (sh M h (J h)) (n - h) (m - J h) (fun i => J (h + i) - J h) := by
  intro i hi
  obtain ⟨oh, _⟩ := hJ h hh
  have eh := oh.eq hh
  obtain ⟨oi, mi⟩ := hJ (h + i) (by omega)
  have hm := hJ.mono (show h ≤ h + i by omega) (show h + i ≤ n by omega)
  have hc := (hJ.chain (show h ≤ h + i by omega) (show h + i ≤ n by omega)).2
  rw [show h + i - h = i from by omega] at hc
  have h1 := oi.1
  refine ⟨⟨by show J (h + i) - J h ≤ m - J h; omega, ?_⟩, fun j hj ho => ?_⟩
  · simp only
    rw [sh_sh, show J h + (J (h + i) - J h) = J (h + i) from by omega, show n - h - i = n - (h + i) from by omega, show m - J h - (J (h + i) - J h) = m - J (h + i) from by omega]
    omega
  · simp only at hj
    have h2 := ho.2
    rw [sh_sh, show n - h - i = n - (h + i) from by omega, show m - J h - j = m - (J h + j) from by omega] at h2
    have s := super M h (J h) i j
    exact mi (J h + j) (by omega) ⟨by omega, by omega⟩
/-- one row of the way -/
theorem IsJ.row {M : Nat → Nat → Bool} {n m : Nat} {J : Nat → Nat} (hJ : IsJ M n m J) {i : Nat} (hi : i < n) :
    (J (i + 1) = J i ∧ C M (i + 1) (J (i + 1)) = C M i (J i)) ∨ (J i < J (i + 1) ∧ M i (J (i + 1) - 1) = true ∧ C M (i + 1) (J (i + 1)) = C M i (J i) + 1 ∧ ∀ j, J i ≤ j → j + 1 < J (i + 1) → M i j = false) := by
  have hm := hJ.mono (show i ≤ i + 1 by omega) (show i + 1 ≤ n by omega)
  have h1 := hJ.mid (show i ≤ i + 1 by omega) (show i + 1 ≤ n by omega)
  rw [show i + 1 - i = 1 from by omega] at h1
  by_cases he : J (i + 1) = J i
  · left
    refine ⟨he, ?_⟩
    rw [he] at h1 ⊢
    rw [Nat.sub_self, C_i0] at h1
    omega
  · right
    obtain ⟨oi, mi⟩ := hJ (i + 1) (by omega)
    have ei := oi.eq (by omega)
    have him := oi.1
    -- no match ahead of the last column
    have hno : ∀ j, J i ≤ j → j + 1 < J (i + 1) → M i j = false := by
      intro j hj hlt
      cases hM : M i j
      · rfl
      · exfalso
        have hh : sh M i (J i) 0 (j - J i) = true := by
          unfold sh
          rw [Nat.add_zero, show J i + (j - J i) = j from by omega]
          exact hM
        have e1 : C (sh M i (J i)) 1 (j - J i + 1) = 1 := by
          have := C_hit (sh M i (J i)) hh
          rw [C_z] at this
          exact this
        have s := super M i (J i) 1 (j - J i + 1)
        rw [show J i + (j - J i + 1) = j + 1 from by omega] at s
        have t : C (sh M i (J i)) 1 (J (i + 1) - J i) ≤ 1 := C_le_i _ _ _
        have t2 : C (sh M (i + 1) (J (i + 1))) (n - (i + 1)) (m - J (i + 1)) ≤ C (sh M (i + 1) (j + 1)) (n - (i + 1)) (m - (j + 1)) := by
          have := super (sh M (i + 1) (j + 1)) 0 (J (i + 1) - (j + 1)) (n - (i + 1)) (m - J (i + 1))
          rw [sh_sh, Nat.add_zero, C_z, show j + 1 + (J (i + 1) - (j + 1)) = J (i + 1) from by omega, show J (i + 1) - (j + 1) + (m - J (i + 1)) = m - (j + 1) from by omega, Nat.zero_add, Nat.zero_add] at this
          exact this
        exact mi (j + 1) hlt ⟨by omega, by omega⟩
    have hz : C (sh M i (J i)) 1 (J (i + 1) - 1 - J i) = 0 := by
      have key : ∀ d, d ≤ J (i + 1) - 1 - J i → C (sh M i (J i)) 1 d = 0 := by
        intro d
        induction d with
        | zero => intro _; rfl
        | succ d ih =>
          intro hd
          have hf : sh M i (J i) 0 d = false := by
            unfold sh
            rw [Nat.add_zero]
            exact hno _ (by omega) (by omega)
          rw [show (1 : Nat) = 0 + 1 from rfl, C_miss _ hf, C_z]
          have := ih (by omega)
          rw [show (1 : Nat) = 0 + 1 from rfl] at this
          omega
      exact key _ (Nat.le_refl _)
    have hM : M i (J (i + 1) - 1) = true := by
      cases hM : M i (J (i + 1) - 1)
      · exfalso
        have hf : sh M i (J i) 0 (J (i + 1) - 1 - J i) = false := by
          unfold sh
          rw [Nat.add_zero, show J i + (J (i + 1) - 1 - J i) = J (i + 1) - 1 from by omega]
          exact hM
        have e := C_miss (sh M i (J i)) hf
        rw [C_z, show (0 : Nat) + 1 = 1 from rfl, hz, show J (i + 1) - 1 - J i + 1 = J (i + 1) - J i from by omega] at e
        have z : C (sh M i (J i)) 1 (J (i + 1) - J i) = 0 := by rw [e]; rfl
        -- then (i + 1, J i) is as good
        have s := super M i (J i) 1 0
        have t2 : C (sh M (i + 1) (J (i + 1))) (n - (i + 1)) (m - J (i + 1)) ≤ C (sh M (i + 1) (J i)) (n - (i + 1)) (m - J i) := by
          have := super (sh M (i + 1) (J i)) 0 (J (i + 1) - J i) (n - (i + 1)) (m - J (i + 1))
          rw [sh_sh, Nat.add_zero, C_z, show J i + (J (i + 1) - J i) = J (i + 1) from by omega, show J (i + 1) - J i + (m - J (i + 1)) = m - J i from by omega, Nat.zero_add, Nat.zero_add] at this
          exact this
        have s' : C M i (J i) + C (sh M i (J i)) 1 0 ≤ C M (i + 1) (J i) := s
        exact mi (J i) (by omega) ⟨by omega, by omega⟩
      · rfl
    refine ⟨by omega, hM, ?_, hno⟩
    have hh : sh M i (J i) 0 (J (i + 1) - 1 - J i) = true := by
      unfold sh
      rw [Nat.add_zero, show J i + (J (i + 1) - 1 - J i) = J (i + 1) - 1 from by omega]
      exact hM
    have e := C_hit (sh M i (J i)) hh
    rw [C_z, show J (i + 1) - 1 - J i + 1 = J (i + 1) - J i from by omega, show (0 : Nat) + 1 = 1 from rfl] at e
    omega
theorem IsJ.first {M : Nat → Nat → Bool} {n m : Nat} {J : Nat → Nat} (hJ : IsJ M n m J) : J 0 = 0 := by
  by_cases h : J 0 = 0
  · exact h
  · exfalso
    refine (hJ 0 (Nat.zero_le _)).2 0 (by omega) ⟨Nat.zero_le _, ?_⟩
    rw [sh_0]
    show C M n m ≤ C M 0 0 + C M n m
    omega
theorem IsJ.last {M : Nat → Nat → Bool} {n m : Nat} {J : Nat → Nat} (hJ : IsJ M n m J) : C M n (J n) = C M n m ∧ J n ≤ m := by
  have h := (hJ n (Nat.le_refl _)).1
  have e := h.eq (Nat.le_refl _)
  rw [Nat.sub_self, C_z] at e
  exact ⟨by omega, h.1⟩
end Go.Proofs.Ytpahgpmhnpfnhaa.Lcs
