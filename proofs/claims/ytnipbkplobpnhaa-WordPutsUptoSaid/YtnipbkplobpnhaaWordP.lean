/-
  Put of package word.
-/
import Derived.Test.YtnipbkplobpnhaaWordI
namespace Go.Proofs.Ytnipbkplobpnhaa
open Go.RowKit

theorem Blk.setInt {w : World} {g : Nat} {t : TypeId} {K : IntKind} {ys : List Int} (h : Blk w g t (ys.map (Value.int K)).toArray) (i : Nat) (v : Int) :
    Blk (w.setCell ⟨g, i, none⟩ (.int K v)) g t ((ys.set i v).map (Value.int K)).toArray := by
  have := h.set_ i (.int K v)
  rw [List.map_set]
  simpa using this
theorem Blk.reads {w : World} {g : Nat} {t : TypeId} {vs : List Value} (h : Blk w g t vs.toArray) : Reads w w.heap.size (some ⟨g, 0, none⟩) vs := fun j u hu =>
  ⟨g, 0, rfl, h.lt, by rw [h.cell]; simpa using hu⟩
theorem Blk.intAt {w : World} {g : Nat} {t : TypeId} {K : IntKind} {ys : List Int} (h : Blk w g t (ys.map (Value.int K)).toArray) {i : Nat} (hi : i < ys.length) : w.cell? ⟨g, i, none⟩ = some (.int K (ys.getD i 0)) := by
  rw [h.cell]
  simp [hi]
theorem made_ints (K : IntKind) (n : Nat) : madeCells #[Value.int K 0] n = ((List.replicate n (0 : Int)).map (Value.int K)).toArray := by
  have := toList_madeCells_one (Value.int K 0) n
  rw [List.map_replicate, ← this]

/-- the words behind t numbers of m bits -/
def putTo (xs : List Int) (m r : Nat) : Nat → List Int
  | 0 => List.replicate r 0
  | t + 1 => if m = 0 then putTo xs m r t else (putTo xs m r t).set (t * m / 64) ((putTo xs m r t).getD (t * m / 64) 0 + xs.getD t 0 * 2 ^ (t * m % 64))
def putOk (c : Int) (xs : List Int) : Bool := okC c && xs.all (fitsN c)
theorem putTo_len (xs : List Int) (m r t : Nat) : (putTo xs m r t).length = r := by
  induction t with
  | zero => simp [putTo]
  | succ t ih =>
    simp only [putTo]
    split
    · exact ih
    · rw [List.length_set]; exact ih
theorem fitsN_lt (c x : Int) (m : Nat) (hm : wd c = m) (h : fitsN c x = true) (h0 : 0 ≤ x) : x < 2 ^ m := by
  unfold fitsN at h
  rw [hm, Int.toNat_natCast] at h
  have h2 : x / 2 ^ m = 0 := by
    have := (Bool.and_eq_true _ _ ▸ h).2
    simpa using this
  have h3 := Int.emod_lt_of_pos x (pow2_pos m)
  have h4 := Int.mul_ediv_add_emod x (2 ^ m)
  rw [h2] at h4
  omega
/-- what stands in the words behind t numbers -/
theorem putTo_inv (xs : List Int) (m r : Nat) (hm : m = 1 ∨ m = 8 ∨ m = 16 ∨ m = 32 ∨ m = 64) (T : Nat) (hT : T ≤ xs.length) (hxs : ∀ i, i < T → 0 ≤ xs.getD i 0 ∧ xs.getD i 0 < 2 ^ m) (hr : xs.length * m ≤ 64 * r) (t : Nat) (ht : t ≤ T) :
    (∀ j, 0 ≤ (putTo xs m r t).getD j 0 ∧ (putTo xs m r t).getD j 0 < 2 ^ (min 64 (t * m - 64 * j))) ∧
    (∀ i, i < t → (putTo xs m r t).getD (i * m / 64) 0 / 2 ^ (i * m % 64) % 2 ^ m = xs.getD i 0) := by
  induction t with
  | zero =>
    refine ⟨fun j => ?_, fun i hi => by omega⟩
    simp only [putTo]
    have : (List.replicate r (0 : Int)).getD j 0 = 0 := by
      rw [List.getD_eq_getElem?_getD, List.getElem?_replicate]
      split <;> rfl
    rw [this]
    simp
  | succ t ih =>
    obtain ⟨ih1, ih2⟩ := ih (by omega)
    have hm0 : m ≠ 0 := by omega
    have hxb := hxs t (by omega)
    have hal : t * m % 64 + m ≤ 64 := by rcases hm with rfl | rfl | rfl | rfl | rfl <;> omega
    have hj : t * m / 64 < r := by
      have : (t + 1) * m ≤ xs.length * m := Nat.mul_le_mul_right _ (by omega)
      rw [Nat.add_mul, Nat.one_mul] at this
      omega
    have hW := ih1 (t * m / 64)
    have hmin : min 64 (t * m - 64 * (t * m / 64)) = t * m % 64 := by omega
    rw [hmin] at hW
    have hset : ∀ j, ((putTo xs m r t).set (t * m / 64) ((putTo xs m r t).getD (t * m / 64) 0 + xs.getD t 0 * 2 ^ (t * m % 64))).getD j 0 =
        if t * m / 64 = j then (putTo xs m r t).getD (t * m / 64) 0 + xs.getD t 0 * 2 ^ (t * m % 64) else (putTo xs m r t).getD j 0 := by
      intro j
      rw [List.getD_eq_getElem?_getD, List.getElem?_set]
      split
      · rename_i h
        rw [if_pos (by rw [putTo_len]; exact hj)]
        rfl
      · rw [← List.getD_eq_getElem?_getD]
    simp only [putTo, hm0, if_false]
    refine ⟨fun j => ?_, fun i hi => ?_⟩
    · rw [hset]
      split
      · rename_i h
        subst h
        have e : min 64 ((t + 1) * m - 64 * (t * m / 64)) = t * m % 64 + m := by rw [Nat.add_mul]; omega
        rw [e, Int.pow_add]
        have hp := pow2_pos (t * m % 64)
        generalize (putTo xs m r t).getD (t * m / 64) 0 = W at *
        generalize xs.getD t 0 = x at *
        generalize (2 : Int) ^ (t * m % 64) = p at *
        generalize (2 : Int) ^ m = q at *
        have h1 : 0 ≤ x * p := Int.mul_nonneg hxb.1 (by omega)
        have h2 : x * p ≤ (q - 1) * p := Int.mul_le_mul_of_nonneg_right (by omega) (by omega)
        rw [Int.sub_mul, Int.mul_comm q p] at h2
        omega
      · refine ⟨(ih1 j).1, Int.lt_of_lt_of_le (ih1 j).2 ?_⟩
        have : (2 : Nat) ^ (min 64 (t * m - 64 * j)) ≤ 2 ^ (min 64 ((t + 1) * m - 64 * j)) := Nat.pow_le_pow_right (by decide) (by rw [Nat.add_mul]; omega)
        exact_mod_cast this
    · rw [hset]
      by_cases hit : i = t
      · subst hit
        rw [if_pos rfl, Int.add_mul_ediv_right _ _ (by have := pow2_pos (i * m % 64); omega), Int.ediv_eq_zero_of_lt hW.1 hW.2, Int.zero_add, Int.emod_eq_of_lt hxb.1 hxb.2]
      · have hi2 : i < t := by omega
        split
        · rename_i h
          rw [← ih2 i hi2, ← h]
          have hs : i * m % 64 + m ≤ t * m % 64 := by
            have : (i + 1) * m ≤ t * m := Nat.mul_le_mul_right _ (by omega)
            rw [Nat.add_mul, Nat.one_mul] at this
            omega
          generalize (putTo xs m r t).getD (t * m / 64) 0 = W
          have e : (2 : Int) ^ (t * m % 64) = (2 ^ (t * m % 64 - (i * m % 64 + m)) * 2 ^ m) * 2 ^ (i * m % 64) := by
            rw [← Int.pow_add, ← Int.pow_add]
            congr 1
            omega
          rw [e, ← Int.mul_assoc, Int.add_mul_ediv_right _ _ (by have := pow2_pos (i * m % 64); omega), ← Int.mul_assoc, Int.add_mul_emod_self_right]
        · exact ih2 i hi2
end Go.Proofs.Ytnipbkplobpnhaa
