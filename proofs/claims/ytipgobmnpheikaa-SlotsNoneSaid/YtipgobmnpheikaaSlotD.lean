/-
  The reference's Full; New of slots; one after another is put.
-/
import Derived.Test.YtipgobmnpheikaaSlotC
namespace Go.Proofs.Ytipgobmnpheikaa
open Go.RowKit

set_option maxHeartbeats 2000000 in
theorem refFull_any (g : Nat) (t : TypeId) (st : Nat → Option (List Int)) (w : World) (hs : SlotsAt w g t st) :
    Calls Try.prog 19 #[.pointer (some ⟨g, 0, none⟩)] w (FullPost st w) := by
  obtain ⟨sl, hb, hsl, hok⟩ := hs
  obtain ⟨i0, hi, hz0, hz1, hz2⟩ := info_parts infoInt
  have HOK := hide hok
  have HSL := hide hsl
  clear hok hsl
  go_enter Try.func19, Try.ntmps19
  go_wp2_with fail
  go_loopw [3, 4] (fun v i wr => ∃ k : Nat, k ≤ 16 ∧ i = .int .i64 k ∧ wr.ownsRow w.heap.size 3 1 v (fullS st k).length ((fullS st k).map (Value.int .i64)) ∧ Below w.heap.size w wr) (fun _ i _ => 16 - (intOf i).toNat)
  case atStart => exact ⟨0, by omega, rfl, World.ownsRow_nil _ _ _ _, Below.refl _ _⟩
  case round =>
    obtain ⟨k, hk, rfl, hown, hbe⟩ := hrel
    by_cases hlt : k < 16
    · have hbr := hb.below hbe hb.lt
      have hfl := fullS_len st k
      cases hst : (st k).isSome
      · have c2 : wr.cell? ⟨g, 16 + k, none⟩ = some (.bool false) := by rw [hbr.cell, slotCells_on _ _ k hlt, hst]
        have HS := hide (fullS_succ st k)
        have HST := hide hst
        clear hst
        go_wp2_with fail
        go_roundw
        case rel => exact ⟨k + 1, by omega, by go_num, by rw [HS.out, HST.out]; simpa using hown, hbe⟩
        case measure => simp [intOf]; omega
      · have c2 : wr.cell? ⟨g, 16 + k, none⟩ = some (.bool true) := by rw [hbr.cell, slotCells_on _ _ k hlt, hst]
        have HS := hide (fullS_succ st k)
        have HST := hide hst
        clear hst
        go_wp2_with (at_builtin; refine wpList_append_any _ rfl (.tmp 15) (.tmp 17) _ rfl w.heap.size 3 i0 _ 1 8 Try.underlying32 hi hz0 hz1 hz2 rfl (by decide) _ _ _ rfl (hown.alloc _) (some ⟨wr.heap.size, 0, none⟩) 1 1 [.int .i64 k] rfl (by simp) (fun j u hu => ⟨_, rfl, cell_one_new _ _ _ j u hu⟩) (by simp [Value.oneCell']) (by unfold maxLen; omega) (by omega) (by have := hbe.size; simp; omega) ?_; intro v1 w1 hown1 hg1 hat1)
        go_roundw
        case rel =>
          refine ⟨k + 1, by omega, by go_num, by rw [HS.out, HST.out]; simpa using hown1, (hbe.alloc hbe.size _).grown hg1 (by have := hbe.size; simp; omega) (fun k hk => (hown.lt k hk).1)⟩
        case measure => simp [intOf]; omega
    · have hke : k = 16 := by omega
      subst hke
      have hfl := fullS_len st 16
      go_wp2_with fail
      go_ret
      obtain ⟨A', c', hv, hle, hA'⟩ := ownsRow_slice hown
      exact ⟨hbe, A', _, c', by rw [← hv]; rfl, rfl, by unfold maxLen; omega, Reads.of_own hown hv⟩

def noneS : Nat → Option (List Int) := fun _ => none
theorem slots_new (w : World) (t : TypeId) : SlotsAt (w.alloc (.cells (slotCells (fun _ => .slice none 0 0) (fun _ => false)) t)) w.heap.size t noneS :=
  ⟨fun _ => .slice none 0 0, Blk.new w t _, fun _ => ⟨_, _, _, rfl⟩, fun i xs e => by cases e⟩
set_option maxRecDepth 100000 in
theorem new_any (w : World) : Calls Try.prog 6 #[] w fun e w' => e = .returned (.pointer (some ⟨w.heap.size, 0, none⟩)) ∧ SlotsAt w' w.heap.size 49 noneS ∧ Below w.heap.size w w' := by
  have h := slots_new w 49
  have hb : Below w.heap.size w (w.alloc (.cells (slotCells (fun _ => .slice none 0 0) (fun _ => false)) 49)) := (Below.refl _ _).alloc (Nat.le_refl _) _
  go_enter Try.func6, Try.ntmps6
  go_wp2
  go_ret
  exact ⟨rfl, h, hb⟩

/-- the messages of a list of slices -/
def SlotOks (w : World) (vs : List Value) (ls : List (List Int)) : Prop := vs.length = ls.length ∧ ∀ (i : Nat) v xs, vs[i]? = some v → ls[i]? = some xs → SlotOk w v xs
/-- behind the first k -/
def putTo (st : Nat → Option (List Int)) (ats : List Int) (ls : List (List Int)) (k : Nat) : Nat → Option (List Int) := ((ats.zip ls).take k).foldl (fun s p => upd s p.1.toNat (some p.2)) st
theorem putTo_succ (st : Nat → Option (List Int)) (ats : List Int) (ls : List (List Int)) (k : Nat) (h1 : k < ats.length) (h2 : k < ls.length) : putTo st ats ls (k + 1) = upd (putTo st ats ls k) ats[k].toNat (some ls[k]) := by
  unfold putTo
  have hz : k < (ats.zip ls).length := by rw [List.length_zip]; omega
  rw [List.take_succ_eq_append_getElem hz, List.foldl_append]
  simp
theorem putTo_all (st : Nat → Option (List Int)) (ats : List Int) (ls : List (List Int)) (h : ats.length = ls.length) : putTo st ats ls ats.length = (ats.zip ls).foldl (fun s p => upd s p.1.toNat (some p.2)) st := by
  unfold putTo
  rw [List.take_of_length_le (by rw [List.length_zip]; omega)]
theorem putS_no (st : Nat → Option (List Int)) (ats : List Int) (ls : List (List Int)) (h : ats.length ≠ ls.length) : putS st ats ls = (2, st) := by unfold putS; rw [if_neg h]
theorem putS_out (st : Nat → Option (List Int)) (ats : List Int) (ls : List (List Int)) (h : ats.length = ls.length) (ha : ats.all inB = false) : putS st ats ls = (15, st) := by unfold putS; rw [if_pos h, ha]; rfl
theorem putS_all (st : Nat → Option (List Int)) (ats : List Int) (ls : List (List Int)) (h : ats.length = ls.length) (ha : ats.all inB = true) : putS st ats ls = (0, putTo st ats ls ats.length) := by rw [putTo_all _ _ _ h]; unfold putS; rw [if_pos h, ha]; rfl
theorem SlotOks.only {w w' : World} {bs : List Nat} {vs : List Value} {ls : List (List Int)} (h : SlotOks w vs ls) (ho : Only bs w w') (hbs : ∀ b ∈ bs, IsSlots w b) : SlotOks w' vs ls :=
  ⟨h.1, fun i v xs h1 h2 => (h.2 i v xs h1 h2).only ho hbs⟩
/-- a list of slice headers, which no write to slots turns: it lies below block B -/
theorem Reads.onlyB {w w' : World} {bs : List Nat} {B : Nat} {A : Option Addr} {vs : List Value} (h : Reads w B A vs) (ho : Only bs w w') (hbs : ∀ b ∈ bs, B ≤ b) (hB : B ≤ w.heap.size) : Reads w' B A vs :=
  h.keep fun p hp => World.cell?_of_block (ho.block p.block (by omega) (fun hm => by have := hbs _ hm; omega))
end Go.Proofs.Ytipgobmnpheikaa
