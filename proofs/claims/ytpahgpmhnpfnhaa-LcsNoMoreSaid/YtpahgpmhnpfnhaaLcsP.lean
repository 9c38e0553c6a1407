/-
  The script of two lists leads and keeps the most; no script keeps more (no program in sight).
-/
import Derived.Test.YtpahgpmhnpfnhaaLcsL
import Derived.Test.YtpahgpmhnpfnhaaScrK
namespace Go.Proofs.Ytpahgpmhnpfnhaa.Lcs
open Go.Proofs.Ytpahgpmhnpfnhaa.Scr Go.Proofs.Ytpahgpmhnpfnhaa

theorem sum_acc (f : Step → Int) (l : List Step) : ∀ x : Int, l.foldl (fun a s => a + f s) x = x + sum f l := by
  induction l with
  | nil => intro x; simp [sum]
  | cons s l ih =>
    intro x
    show l.foldl (fun a s => a + f s) (x + f s) = x + l.foldl (fun a s => a + f s) (0 + f s)
    rw [ih (x + f s), ih (0 + f s)]
    omega
theorem sum_cons (f : Step → Int) (s : Step) (l : List Step) : sum f (s :: l) = f s + sum f l := by
  show l.foldl (fun a s => a + f s) (0 + f s) = f s + sum f l
  rw [sum_acc]
  omega
theorem sum_nil (f : Step → Int) : sum f [] = 0 := rfl

def mat (M : Nat → Nat → Bool) : List Step → Nat → Nat → Prop
  | [], _, _ => True
  | s :: r, i, j => (s.1 = 0 → ∀ u, u < s.2.toNat → M (i + u) (j + u) = true) ∧ mat M r (i + (ahdN s).toNat) (j + (bhdN s).toNat)
def AH : List Step → Nat
  | [] => 0
  | s :: r => (ahdN s).toNat + AH r
def BH : List Step → Nat
  | [] => 0
  | s :: r => (bhdN s).toNat + BH r
def kpN (s : Step) : Nat := if s.1 = 0 then s.2.toNat else 0
def KP : List Step → Nat
  | [] => 0
  | s :: r => kpN s + KP r
theorem AH_app (l k : List Step) : AH (l ++ k) = AH l + AH k := by
  induction l with
  | nil => simp [AH]
  | cons s l ih => rw [List.cons_append, AH, AH, ih]; omega
theorem BH_app (l k : List Step) : BH (l ++ k) = BH l + BH k := by
  induction l with
  | nil => simp [BH]
  | cons s l ih => rw [List.cons_append, BH, BH, ih]; omega
theorem KP_app (l k : List Step) : KP (l ++ k) = KP l + KP k := by
  induction l with
  | nil => simp [KP]
  | cons s l ih => rw [List.cons_append, KP, KP, ih]; omega
theorem mat_app (M : Nat → Nat → Bool) (l k : List Step) (i j : Nat) : mat M (l ++ k) i j ↔ mat M l i j ∧ mat M k (i + AH l) (j + BH l) := by
  induction l generalizing i j with
  | nil => simp [mat, AH, BH]
  | cons s l ih => rw [List.cons_append, mat, mat, ih, AH, BH, and_assoc, Nat.add_assoc, Nat.add_assoc]
theorem M_at {M : Nat → Nat → Bool} {a b c d : Nat} (h : M a b = true) (e : c = a) (f : d = b) : M c d = true := by subst e f; exact h
theorem mat_fl0 (M : Nat → Nat → Bool) (n : Int) (i j : Nat) : mat M (fl 0 n) i j ↔ ∀ u, u < n.toNat → M (i + u) (j + u) = true := by
  unfold fl
  by_cases h : n > 0
  · rw [if_pos h]; simp [mat]
  · rw [if_neg h, show n.toNat = 0 from by omega]; simp [mat]
theorem mat_fl1 (M : Nat → Nat → Bool) (n : Int) (i j : Nat) : mat M (fl 1 n) i j ↔ True := by
  unfold fl
  by_cases h : n > 0
  · rw [if_pos h]; simp [mat]
  · rw [if_neg h]; simp [mat]
theorem mat_fl2 (M : Nat → Nat → Bool) (n : Int) (i j : Nat) : mat M (fl 2 n) i j ↔ True := by
  unfold fl
  by_cases h : n > 0
  · rw [if_pos h]; simp [mat]
  · rw [if_neg h]; simp [mat]
theorem AH_fl (k n : Int) : AH (fl k n) = if k = 2 then 0 else n.toNat := by
  unfold fl
  by_cases h : n > 0
  · rw [if_pos h]; simp only [AH, ahdN]; split <;> simp
  · rw [if_neg h]; simp only [AH]; split <;> omega
theorem BH_fl (k n : Int) : BH (fl k n) = if k = 1 then 0 else n.toNat := by
  unfold fl
  by_cases h : n > 0
  · rw [if_pos h]; simp only [BH, bhdN]; split <;> simp
  · rw [if_neg h]; simp only [BH]; split <;> omega
theorem KP_fl (k n : Int) : KP (fl k n) = if k = 0 then n.toNat else 0 := by
  unfold fl
  by_cases h : n > 0
  · rw [if_pos h]; simp only [KP, kpN]; split <;> simp
  · rw [if_neg h]; simp only [KP]; split <;> omega
structure Q (M : Nat → Nat → Bool) (t : St) (i j c : Nat) : Prop where
  m : mat M (fin t) 0 0
  a : AH (fin t) = i
  b : BH (fin t) = j
  c : KP (fin t) = c
theorem stp_Q {M : Nat → Nat → Bool} {t : St} {i j c n : Nat} (h : t.Bd n) (q : Q M t i j c) (s : Step) (hs : okS s = true) (hm : s.1 = 0 → ∀ u, u < s.2.toNat → M (i + u) (j + u) = true) :
    Q M (stp t s) (i + (ahdN s).toNat) (j + (bhdN s).toNat) (c + kpN s) := by
  obtain ⟨out, K, D, I⟩ := t
  obtain ⟨x, y⟩ := s
  obtain ⟨k0, d0, i0, -, one, -, -⟩ := h
  obtain ⟨qm, qa, qb, qc⟩ := q
  have ho := (okS_iff (x, y)).1 hs
  simp only at k0 d0 i0 one hm ho
  simp only [fin, mat_app, mat_fl0, mat_fl1, mat_fl2, AH_app, BH_app, KP_app, AH_fl, BH_fl, KP_fl, and_true] at qm qa qb qc
  simp at qm qa qb qc
  have hst : stp ⟨out, K, D, I⟩ (x, y) = (if x = 0 then ⟨out ++ fl 1 D ++ fl 2 I, K + y, 0, 0⟩ else if x = 1 then ⟨out ++ fl 0 K, 0, D + y, I⟩ else ⟨out ++ fl 0 K, 0, D, I + y⟩) := by
    unfold stp
    rw [if_pos hs]
  rw [hst]
  rcases (show x = 0 ∨ x = 1 ∨ x = 2 by omega) with rfl | rfl | rfl
  · rw [if_pos rfl]
    refine ⟨?_, ?_, ?_, ?_⟩
    · simp only [fin, mat_app, mat_fl0, mat_fl1, mat_fl2, AH_app, BH_app, AH_fl, BH_fl, and_true]
      refine ⟨qm.1, fun u hu => ?_⟩
      simp
      rcases one with e | ⟨e1, e2⟩
      · subst e
        exact M_at (hm rfl u (by omega)) (by omega) (by omega)
      · subst e1 e2
        by_cases hk : u < K.toNat
        · exact M_at (qm.2 u (by omega)) (by simp) (by simp)
        · exact M_at (hm rfl (u - K.toNat) (by omega)) (by simp; omega) (by simp; omega)
    · simp only [fin, AH_app, AH_fl, ahdN]; simp; omega
    · simp only [fin, BH_app, BH_fl, bhdN]; simp; omega
    · simp only [fin, KP_app, KP_fl, kpN]; simp; omega
  · rw [if_neg (by decide), if_pos rfl]
    refine ⟨?_, ?_, ?_, ?_⟩
    · simp only [fin, mat_app, mat_fl0, mat_fl1, mat_fl2, AH_app, BH_app, AH_fl, BH_fl, and_true]
      refine ⟨⟨qm.1, fun u hu => M_at (qm.2 u (by omega)) (by simp) (by simp)⟩, fun u hu => by simp at hu⟩
    · simp only [fin, AH_app, AH_fl, ahdN]; simp; omega
    · simp only [fin, BH_app, BH_fl, bhdN]; simp; omega
    · simp only [fin, KP_app, KP_fl, kpN]; simp; omega
  · rw [if_neg (by decide), if_neg (by decide)]
    refine ⟨?_, ?_, ?_, ?_⟩
    · simp only [fin, mat_app, mat_fl0, mat_fl1, mat_fl2, AH_app, BH_app, AH_fl, BH_fl, and_true]
      refine ⟨⟨qm.1, fun u hu => M_at (qm.2 u (by omega)) (by simp) (by simp)⟩, fun u hu => by simp at hu⟩
    · simp only [fin, AH_app, AH_fl, ahdN]; simp; omega
    · simp only [fin, BH_app, BH_fl, bhdN]; simp; omega
    · simp only [fin, KP_app, KP_fl, kpN]; simp; omega
theorem fold_Q (M : Nat → Nat → Bool) (l : List Step) (hl : ∀ s ∈ l, okS s = true ∨ s.2 = 0) : ∀ (t : St) (n i j c : Nat), t.Bd n → Q M t i j c → mat M l i j → Q M (l.foldl stp t) (i + AH l) (j + BH l) (c + KP l) := by
  induction l with
  | nil => intro t n i j c _ q _; exact q
  | cons s l ih =>
    intro t n i j c hb q hm
    obtain ⟨h1, h2⟩ := hm
    rw [List.foldl_cons, AH, BH, KP]
    rcases hl s (List.mem_cons_self ..) with ho | hz
    · have := ih (fun s hs => hl s (List.mem_cons_of_mem _ hs)) (stp t s) (n + 1) _ _ _ (Bd.stp hb s) (stp_Q hb q s ho h1) h2
      rwa [Nat.add_assoc, Nat.add_assoc, Nat.add_assoc] at this
    · have e1 : ahdN s = 0 := by unfold ahdN; rw [hz]; split <;> rfl
      have e2 : bhdN s = 0 := by unfold bhdN; rw [hz]; split <;> rfl
      have e3 : kpN s = 0 := by unfold kpN; rw [hz]; split <;> rfl
      have e4 : stp t s = t := by
        unfold stp
        rw [if_neg]
        intro h
        have := (okS_iff s).1 h
        omega
      rw [e1, e2] at h2
      rw [e1, e2, e3, e4]
      have := ih (fun s hs => hl s (List.mem_cons_of_mem _ hs)) t n i j c hb q h2
      simpa using this
theorem nrm_Q (M : Nat → Nat → Bool) (l : List Step) (hl : ∀ s ∈ l, okS s = true ∨ s.2 = 0) (hm : mat M l 0 0) : mat M (nrm l) 0 0 ∧ AH (nrm l) = AH l ∧ BH (nrm l) = BH l ∧ KP (nrm l) = KP l := by
  have q := fold_Q M l hl ⟨[], 0, 0, 0⟩ 0 0 0 0 bd0 ⟨trivial, rfl, rfl, rfl⟩ hm
  rw [Nat.zero_add, Nat.zero_add, Nat.zero_add] at q
  exact ⟨q.m, q.a, q.b, q.c⟩
theorem rows_mat (M : Nat → Nat → Bool) (n m : Nat) (J : Nat → Nat) (hJ : IsJ M n m J) (i : Nat) (hi : i ≤ n) : mat M (rowsS J i) 0 0 ∧ AH (rowsS J i) = i ∧ BH (rowsS J i) = J i ∧ KP (rowsS J i) = C M i (J i) := by
  induction i with
  | zero => exact ⟨trivial, rfl, hJ.first.symm, by rw [hJ.first]; rfl⟩
  | succ i ih =>
    obtain ⟨h1, h2, h3, h4⟩ := ih (by omega)
    rw [rowsS_succ, mat_app, AH_app, BH_app, KP_app, h2, h3, h4]
    rcases hJ.row (show i < n by omega) with ⟨e, c⟩ | ⟨hlt, hM, c, _⟩
    · rw [show rowS (J i) (J (i + 1)) = [(1, 1)] from by unfold rowS; rw [if_neg (by omega)]]
      refine ⟨⟨h1, by simp [mat]⟩, by simp [AH, ahdN], by simp [BH, bhdN, e], by simp [KP, kpN, c]⟩
    · rw [show rowS (J i) (J (i + 1)) = [(2, ((J (i + 1) - J i - 1 : Nat) : Int)), (0, 1)] from by unfold rowS; rw [if_pos hlt]]
      refine ⟨⟨h1, ?_⟩, by simp [AH, ahdN], by simp [BH, bhdN]; omega, by simp [KP, kpN, c]⟩
      simp only [mat, ahdN, bhdN]
      simp
      exact M_at hM rfl (by omega)
theorem way_mat (M : Nat → Nat → Bool) (n m : Nat) (J : Nat → Nat) (hJ : IsJ M n m J) : mat M (wayS J n m) 0 0 ∧ AH (wayS J n m) = n ∧ BH (wayS J n m) = m ∧ KP (wayS J n m) = C M n m := by
  obtain ⟨h1, h2, h3, h4⟩ := rows_mat M n m J hJ n (Nat.le_refl _)
  obtain ⟨g1, g2⟩ := hJ.last
  unfold wayS
  rw [mat_app, AH_app, BH_app, KP_app, h2, h3, h4]
  exact ⟨⟨h1, by simp [mat]⟩, by simp [AH, ahdN], by simp [BH, bhdN]; omega, by simp [KP, kpN, g1]⟩
theorem rows_ok (J : Nat → Nat) (n i m : Nat) (hb : ∀ k, k ≤ n → J k ≤ m) (hm : m ≤ 1048576) (hi : i ≤ n) : ∀ s ∈ rowsS J i, okS s = true ∨ s.2 = 0 := by
  induction i with
  | zero => intro s hs; simp [rowsS] at hs
  | succ i ih =>
    intro s hs
    rw [rowsS_succ, List.mem_append] at hs
    rcases hs with hs | hs
    · exact ih (by omega) s hs
    · have h1 := hb (i + 1) hi
      unfold rowS at hs
      split at hs
      · simp only [List.mem_cons, List.not_mem_nil, or_false] at hs
        rcases hs with rfl | rfl
        · by_cases hz : J (i + 1) - J i - 1 = 0
          · exact .inr (by simp only; omega)
          · exact .inl ((okS_iff _).2 ⟨by simp, by simp, by simp only; omega, by simp only; omega⟩)
        · exact .inl (by decide)
      · simp only [List.mem_cons, List.not_mem_nil, or_false] at hs
        subst hs
        exact .inl (by decide)
theorem way_ok (J : Nat → Nat) (n m : Nat) (hb : ∀ k, k ≤ n → J k ≤ m) (hm : m ≤ 1048576) : ∀ s ∈ wayS J n m, okS s = true ∨ s.2 = 0 := by
  intro s hs
  unfold wayS at hs
  rw [List.mem_append] at hs
  rcases hs with hs | hs
  · exact rows_ok J n n m hb hm (Nat.le_refl _) s hs
  · simp only [List.mem_cons, List.not_mem_nil, or_false] at hs
    subst hs
    by_cases hz : m - J n = 0
    · exact .inr (by simp only; omega)
    · exact .inl ((okS_iff _).2 ⟨by simp, by simp, by simp only; omega, by simp only; omega⟩)
theorem diff_mat (a b : List Int) (hb : b.length ≤ 1048576) :
    mat (mt a b) (diffL a b) 0 0 ∧ AH (diffL a b) = a.length ∧ BH (diffL a b) = b.length ∧ KP (diffL a b) = C (mt a b) a.length b.length := by
  have hJ := Jof_is (mt a b) a.length b.length
  obtain ⟨h1, h2, h3, h4⟩ := way_mat _ _ _ _ hJ
  obtain ⟨g1, g2, g3, g4⟩ := nrm_Q (mt a b) _ (way_ok _ a.length b.length (fun k _ => (bst_spec (thru (mt a b) a.length b.length k) b.length).1) hb) h1
  unfold diffL
  exact ⟨g1, g2.trans h2, g3.trans h3, g4.trans h4⟩

theorem sum_AH (l : List Step) (h : ∀ s ∈ l, 0 ≤ ahdN s) : sum ahdN l = (AH l : Int) := by
  induction l with
  | nil => rfl
  | cons s l ih =>
    rw [sum_cons, ih (fun s hs => h s (List.mem_cons_of_mem _ hs)), AH]
    have := h s (List.mem_cons_self ..)
    omega
theorem sum_BH (l : List Step) (h : ∀ s ∈ l, 0 ≤ bhdN s) : sum bhdN l = (BH l : Int) := by
  induction l with
  | nil => rfl
  | cons s l ih =>
    rw [sum_cons, ih (fun s hs => h s (List.mem_cons_of_mem _ hs)), BH]
    have := h s (List.mem_cons_self ..)
    omega
theorem cnt_ok (c : Int) (s : Step) (h : okS s = true) : cnt c s = if s.1 = c then s.2 else 0 := by
  unfold cnt
  simp [h]
theorem allOk_cons (s : Step) (l : List Step) (h : allOk (s :: l) = true) : okS s = true ∧ allOk l = true := by
  have : (okS s && allOk l) = true := h
  simpa using this
theorem sum_KP (l : List Step) (h : allOk l = true) : sum (cnt 0) l = (KP l : Int) := by
  induction l with
  | nil => rfl
  | cons s l ih =>
    obtain ⟨h1, h2⟩ := allOk_cons s l h
    rw [sum_cons, ih h2, KP, cnt_ok 0 s h1]
    have := (okS_iff s).1 h1
    unfold kpN
    split <;> omega
theorem sum_ahd (l : List Step) (h : allOk l = true) : sum ahdN l = sum (cnt 0) l + sum (cnt 1) l ∧ sum bhdN l = sum (cnt 0) l + sum (cnt 2) l := by
  induction l with
  | nil => exact ⟨rfl, rfl⟩
  | cons s l ih =>
    obtain ⟨h1, h2⟩ := allOk_cons s l h
    obtain ⟨i1, i2⟩ := ih h2
    rw [sum_cons, sum_cons, sum_cons, sum_cons, sum_cons, i1, i2, cnt_ok 0 s h1, cnt_ok 1 s h1, cnt_ok 2 s h1]
    have := (okS_iff s).1 h1
    unfold ahdN bhdN
    rcases (show s.1 = 0 ∨ s.1 = 1 ∨ s.1 = 2 by omega) with e | e | e <;> rw [e] <;> simp <;> omega
theorem mem_le (l : List Step) (s : Step) (hs : s ∈ l) : (ahdN s).toNat + (bhdN s).toNat ≤ AH l + BH l := by
  induction l with
  | nil => simp at hs
  | cons x l ih =>
    rw [AH, BH]
    rcases List.mem_cons.1 hs with rfl | h
    · omega
    · have := ih h; omega
theorem ok_all (l : List Step) (hv : ∀ s ∈ l, 0 ≤ s.1 ∧ s.1 ≤ 2 ∧ 0 < s.2) (ht : AH l + BH l ≤ 1048576) : allOk l = true := by
  refine List.all_eq_true.2 fun s hs => (okS_iff s).2 ?_
  have h1 := hv s hs
  have h2 := mem_le l s hs
  refine ⟨h1.1, h1.2.1, by omega, ?_⟩
  unfold ahdN bhdN at h2
  split at h2 <;> split at h2 <;> omega
theorem nrm_vals (l : List Step) (s : Step) (hs : s ∈ nrm l) : 0 ≤ s.1 ∧ s.1 ≤ 2 ∧ 0 < s.2 := by
  unfold nrm fin at hs
  simp only [List.mem_append] at hs
  rcases hs with ((hs | hs) | hs) | hs
  · have := (runS_bd l).vals s hs; omega
  · have := fl_mem _ _ _ hs; omega
  · have := fl_mem _ _ _ hs; omega
  · have := fl_mem _ _ _ hs; omega
theorem mt_iff (a b : List Int) (i j : Nat) (hi : i < a.length) (hj : j < b.length) : mt a b i j = (a.getD i 0 == b.getD j 0) := by
  unfold mt
  simp [hi, hj]
theorem leads_of (a b : List Int) (l : List Step) (hok : allOk l = true) (hm : mat (mt a b) l 0 0) (ha : AH l = a.length) (hb : BH l = b.length) : leadsS l a b = true := by
  obtain ⟨n1, n2⟩ := ahd_nonneg l hok
  have e1 : sum ahdN l = (a.length : Int) := by rw [sum_AH l n1, ha]
  have e2 : sum bhdN l = (b.length : Int) := by rw [sum_BH l n2, hb]
  have e3 : led a b l l.length = true := by
    unfold led
    refine List.all_eq_true.2 fun k hk => ?_
    rw [List.mem_range] at hk
    by_cases h0 : l[k].1 = 0
    · rw [ledAt_keep a b l k hk l[k].2 (by rw [← h0])]
      have hsp : l = l.take k ++ (l[k] :: l.drop (k + 1)) := by rw [← List.drop_eq_getElem_cons hk, List.take_append_drop]
      rw [hsp, mat_app, mat] at hm
      have hh := hm.2.1 h0
      have p1 : posN ahdN l k = AH (l.take k) := by
        unfold posN
        rw [sum_AH (l.take k) (fun s hs => n1 s (List.mem_of_mem_take hs))]
        rfl
      have p2 : posN bhdN l k = BH (l.take k) := by
        unfold posN
        rw [sum_BH (l.take k) (fun s hs => n2 s (List.mem_of_mem_take hs))]
        rfl
      rw [p1, p2]
      unfold pairsB
      refine List.all_eq_true.2 fun t ht => ?_
      rw [List.mem_range] at ht
      have := hh t ht
      unfold mt at this
      rw [Nat.zero_add, Nat.zero_add] at this
      simp only [Bool.and_eq_true] at this
      exact this.2
    · exact ledAt_other a b l k hk h0
  unfold leadsS
  rw [hok, e3, e1, e2]
  simp
theorem C_diag (M : Nat → Nat → Bool) (i j y : Nat) (h : ∀ u, u < y → M (i + u) (j + u) = true) : C M (i + y) (j + y) = C M i j + y := by
  induction y with
  | zero => rfl
  | succ y ih =>
    have := C_hit M (h y (by omega))
    rw [ih (fun u hu => h u (by omega))] at this
    exact this
theorem no_more (l : List Step) (a b : List Int) (h : leadsS l a b = true) : sum (cnt 0) l ≤ (C (mt a b) a.length b.length : Nat) := by
  unfold leadsS at h
  simp only [Bool.and_eq_true, decide_eq_true_eq] at h
  obtain ⟨⟨⟨hok, e1⟩, e2⟩, e3⟩ := h
  obtain ⟨n1, n2⟩ := ahd_nonneg l hok
  have key : ∀ k, k ≤ l.length → sum (cnt 0) (l.take k) ≤ (C (mt a b) (posN ahdN l k) (posN bhdN l k) : Nat) := by
    intro k
    induction k with
    | zero => intro _; simp [sum]
    | succ k ih =>
      intro hk
      have ihk := ih (by omega)
      obtain ⟨p1, q1⟩ := pos_step ahdN l n1 k a.length (by omega) e1
      obtain ⟨p2, q2⟩ := pos_step bhdN l n2 k b.length (by omega) e2
      have hks := allOk_at l hok k (by omega)
      have ho := (okS_iff _).1 hks
      rw [sum_take _ l k (by omega), cnt_ok 0 _ hks, p1, p2]
      by_cases h0 : l[k].1 = 0
      · rw [if_pos h0]
        have hl : ledAt a b l k = true := List.all_eq_true.1 e3 k (List.mem_range.2 (by omega))
        rw [ledAt_keep a b l k (by omega) l[k].2 (by rw [← h0])] at hl
        have y1 : ahdN l[k] = l[k].2 := by unfold ahdN; rw [if_neg (by omega)]
        have y2 : bhdN l[k] = l[k].2 := by unfold bhdN; rw [if_neg (by omega)]
        rw [y1] at q1 ⊢
        rw [y2] at q2 ⊢
        rw [C_diag]
        · omega
        · intro u hu
          rw [mt_iff _ _ _ _ (by omega) (by omega)]
          exact List.all_eq_true.1 hl u (List.mem_range.2 hu)
      · rw [if_neg h0]
        have := mono (mt a b) (show posN ahdN l k ≤ posN ahdN l k + (ahdN l[k]).toNat by omega) (show posN bhdN l k ≤ posN bhdN l k + (bhdN l[k]).toNat by omega)
        omega
  have h := key l.length (Nat.le_refl _)
  rw [List.take_of_length_le (Nat.le_refl _)] at h
  have z1 : posN ahdN l l.length = a.length := by
    unfold posN
    rw [List.take_of_length_le (Nat.le_refl _), e1]
    rfl
  have z2 : posN bhdN l l.length = b.length := by
    unfold posN
    rw [List.take_of_length_le (Nat.le_refl _), e2]
    rfl
  rwa [z1, z2] at h
theorem diff_ok (a b : List Int) (h : a.length + b.length ≤ 1048576) : allOk (diffL a b) = true := by
  obtain ⟨g1, g2, g3, g4⟩ := diff_mat a b (by omega)
  exact ok_all _ (fun s hs => nrm_vals _ s hs) (by omega)
theorem diff_leads (a b : List Int) (h : a.length + b.length ≤ 1048576) : leadsS (diffL a b) a b = true := by
  obtain ⟨g1, g2, g3, g4⟩ := diff_mat a b (by omega)
  exact leads_of a b _ (diff_ok a b h) g1 g2 g3
theorem diff_kept (a b : List Int) (h : a.length + b.length ≤ 1048576) : sum (cnt 0) (diffL a b) = (C (mt a b) a.length b.length : Nat) := by
  obtain ⟨g1, g2, g3, g4⟩ := diff_mat a b (by omega)
  rw [sum_KP _ (diff_ok a b h), g4]
theorem C_self (a : List Int) : C (mt a a) a.length a.length = a.length := by
  have := C_diag (mt a a) 0 0 a.length (fun u hu => by rw [mt_iff _ _ _ _ (by omega) (by omega)]; simp)
  rw [Nat.zero_add, C_z, Nat.zero_add] at this
  exact this
theorem far_self (a : List Int) : farT a a = 0 := by
  unfold farT
  rw [C_self]
  omega
theorem diff_self (a : List Int) (h : a.length + a.length ≤ 1048576) : sum (cnt 0) (diffL a a) = a.length ∧ sum (cnt 1) (diffL a a) = 0 ∧ sum (cnt 2) (diffL a a) = 0 := by
  obtain ⟨g1, g2, g3, g4⟩ := diff_mat a a (by omega)
  have hok := diff_ok a a h
  obtain ⟨n1, n2⟩ := ahd_nonneg _ hok
  obtain ⟨s1, s2⟩ := sum_ahd _ hok
  have k := diff_kept a a h
  rw [C_self] at k
  rw [sum_AH _ n1, g2] at s1
  rw [sum_BH _ n2, g3] at s2
  exact ⟨k, by omega, by omega⟩
end Go.Proofs.Ytpahgpmhnpfnhaa.Lcs
