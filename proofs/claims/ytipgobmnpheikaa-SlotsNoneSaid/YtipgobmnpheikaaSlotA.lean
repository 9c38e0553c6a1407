/-
  Slots: a block of sixteen messages and sixteen marks; what the small functions tell of it.
-/
import Derived.Test.YtipgobmnpheikaaSame
namespace Go.Proofs.Ytipgobmnpheikaa
open Go.RowKit

def slotCells (sl : Nat → Value) (on : Nat → Bool) : Array Value := ((List.range 16).map sl ++ (List.range 16).map (fun i => Value.bool (on i))).toArray
theorem slotCells_sl (sl : Nat → Value) (on : Nat → Bool) (i : Nat) (h : i < 16) : (slotCells sl on)[i]? = some (sl i) := by
  simp [slotCells, List.getElem?_append, h]
theorem slotCells_on (sl : Nat → Value) (on : Nat → Bool) (i : Nat) (h : i < 16) : (slotCells sl on)[16 + i]? = some (.bool (on i)) := by
  simp [slotCells, List.getElem?_append, h]
theorem slotCells_setSl (sl : Nat → Value) (on : Nat → Bool) (i : Nat) (h : i < 16) (v : Value) : (slotCells sl on).setIfInBounds i v = slotCells (fun j => if j = i then v else sl j) on := by
  apply Array.ext_getElem?
  intro j
  rw [Array.getElem?_setIfInBounds]
  by_cases h1 : j < 16
  · rw [slotCells_sl _ _ j h1, slotCells_sl _ _ j h1]
    by_cases e : i = j
    · subst e; simp [slotCells]; omega
    · rw [if_neg e]; simp [Ne.symm e]
  · have e : ¬ i = j := by omega
    rw [if_neg e]
    by_cases h2 : j < 32
    · obtain ⟨k, rfl⟩ : ∃ k, j = 16 + k := ⟨j - 16, by omega⟩
      rw [slotCells_on _ _ k (by omega), slotCells_on _ _ k (by omega)]
    · rw [Array.getElem?_eq_none (by simp [slotCells]; omega), Array.getElem?_eq_none (by simp [slotCells]; omega)]
theorem slotCells_setOn (sl : Nat → Value) (on : Nat → Bool) (i : Nat) (h : i < 16) (b : Bool) : (slotCells sl on).setIfInBounds (16 + i) (.bool b) = slotCells sl (fun j => if j = i then b else on j) := by
  apply Array.ext_getElem?
  intro j
  rw [Array.getElem?_setIfInBounds]
  by_cases h1 : j < 16
  · have e : ¬ 16 + i = j := by omega
    rw [if_neg e, slotCells_sl _ _ j h1, slotCells_sl _ _ j h1]
  · by_cases h2 : j < 32
    · obtain ⟨k, rfl⟩ : ∃ k, j = 16 + k := ⟨j - 16, by omega⟩
      rw [slotCells_on _ _ k (by omega), slotCells_on _ _ k (by omega)]
      by_cases e : i = k
      · subst e; simp [slotCells]; omega
      · rw [if_neg (by omega)]; simp [Ne.symm e]
    · have e : ¬ 16 + i = j := by omega
      rw [if_neg e, Array.getElem?_eq_none (by simp [slotCells]; omega), Array.getElem?_eq_none (by simp [slotCells]; omega)]

/-- is there such a slot? -/
def inB (i : Int) : Bool := decide (0 ≤ i ∧ i < 16)

set_option maxHeartbeats 400000 in
theorem in_any (a : Addr) (i : Int) (w : World) :
    Calls Try.prog 25 #[.pointer (some a), .int .i64 i] w fun e w' => e = .returned (.bool (inB i)) ∧ w = w' := by
  by_cases h0 : 0 ≤ i
  · by_cases h1 : i < 16
    · have e : inB i = true := decide_eq_true ⟨h0, h1⟩
      rw [e]; clear e
      go_enter Try.func25, Try.ntmps25
      go_wp2
      go_ret
      exact ⟨rfl, rfl⟩
    · have e : inB i = false := decide_eq_false (by omega)
      rw [e]; clear e
      go_enter Try.func25, Try.ntmps25
      go_wp2
      go_ret
      exact ⟨rfl, rfl⟩
  · have e : inB i = false := decide_eq_false (by omega)
    rw [e]; clear e
    go_enter Try.func25, Try.ntmps25
    go_wp2
    go_ret
    exact ⟨rfl, rfl⟩
theorem in_nil (i : Int) (w : World) :
    Calls Try.prog 25 #[.pointer none, .int .i64 i] w fun e w' => e = .returned (.bool false) ∧ w = w' := by
  go_enter Try.func25, Try.ntmps25
  go_wp2
  go_ret
  exact ⟨rfl, rfl⟩

set_option maxHeartbeats 400000 in
theorem has_any (g : Nat) (t : TypeId) (sl : Nat → Value) (on : Nat → Bool) (i : Int) (w : World) (hb : Blk w g t (slotCells sl on)) :
    Calls Try.prog 14 #[.pointer (some ⟨g, 0, none⟩), .int .i64 i] w fun e w' => e = .returned (.bool (inB i && on i.toNat)) ∧ w = w' := by
  cases h : inB i
  · have H := hide h
    clear h
    go_enter Try.func14, Try.ntmps14
    go_wp2_with fail
    refine (in_any _ i _).mono ?_
    rintro e w1 ⟨rfl, rfl⟩
    rw [H.out]
    go_wp2_with fail
    go_ret
    exact ⟨rfl, rfl⟩
  · have hi := of_decide_eq_true h
    obtain ⟨k, rfl⟩ := Int.eq_ofNat_of_zero_le hi.1
    rw [Int.toNat_natCast]
    have hk : k < 16 := by omega
    have c : w.cell? ⟨g, 16 + k, none⟩ = some (.bool (on k)) := by rw [hb.cell]; exact slotCells_on sl on k hk
    have H := hide h
    clear h hi
    go_enter Try.func14, Try.ntmps14
    go_wp2_with fail
    refine (in_any _ _ _).mono ?_
    rintro e w1 ⟨rfl, rfl⟩
    rw [H.out]
    go_wp2_with fail
    go_ret
    exact ⟨rfl, rfl⟩
theorem has_nil (i : Int) (w : World) :
    Calls Try.prog 14 #[.pointer none, .int .i64 i] w fun e w' => e = .returned (.bool false) ∧ w = w' := by
  go_enter Try.func14, Try.ntmps14
  go_wp2_with fail
  refine (in_nil i _).mono ?_
  rintro e w1 ⟨rfl, rfl⟩
  go_wp2_with fail
  go_ret
  exact ⟨rfl, rfl⟩

set_option maxHeartbeats 400000 in
theorem refHas_any (g : Nat) (t : TypeId) (sl : Nat → Value) (on : Nat → Bool) (i : Int) (w : World) (hb : Blk w g t (slotCells sl on)) :
    Calls Try.prog 20 #[.pointer (some ⟨g, 0, none⟩), .int .i64 i] w fun e w' => e = .returned (.bool (inB i && on i.toNat)) ∧ w = w' := by
  by_cases h0 : 0 ≤ i
  · by_cases h1 : i < 16
    · have e : inB i = true := decide_eq_true ⟨h0, h1⟩
      rw [e]; clear e
      obtain ⟨k, rfl⟩ := Int.eq_ofNat_of_zero_le h0
      rw [Int.toNat_natCast]
      have c : w.cell? ⟨g, 16 + k, none⟩ = some (.bool (on k)) := by rw [hb.cell]; exact slotCells_on sl on k (by omega)
      go_enter Try.func20, Try.ntmps20
      go_wp2
      go_ret
      exact ⟨rfl, rfl⟩
    · have e : inB i = false := decide_eq_false (by omega)
      rw [e]; clear e
      go_enter Try.func20, Try.ntmps20
      go_wp2
      go_ret
      exact ⟨rfl, rfl⟩
  · have e : inB i = false := decide_eq_false (by omega)
    rw [e]; clear e
    go_enter Try.func20, Try.ntmps20
    go_wp2
    go_ret
    exact ⟨rfl, rfl⟩
end Go.Proofs.Ytipgobmnpheikaa
