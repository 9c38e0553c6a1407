/-
  Twin: it has the same.
-/
import Derived.Test.YtipgobmnpheikaaSlotJ
import Derived.Deep.WholeRow
import Derived.Deep.MidRow
namespace Go.Proofs.Ytipgobmnpheikaa
open Go.RowKit

theorem slotCells_size (sl : Nat → Value) (on : Nat → Bool) : (slotCells sl on).size = 32 := by simp [slotCells]
theorem slotCells_one (sl : Nat → Value) (on : Nat → Bool) (h : ∀ i, ∃ A n c, sl i = .slice A n c) : (slotCells sl on).all (·.oneCell') = true := by
  rw [Array.all_eq_true_iff_forall_mem]
  intro v hv
  unfold slotCells at hv
  simp only [List.mem_toArray, List.mem_append, List.mem_map] at hv
  rcases hv with ⟨i, _, rfl⟩ | ⟨i, _, rfl⟩
  · obtain ⟨A, n, c, e⟩ := h i
    rw [e]; rfl
  · rfl
/-- a whole copy of slots, in a block of its own -/
theorem slots_copy {w : World} {g : Nat} {t : TypeId} {st : Nat → Option (List Int)} (h : SlotsAt w g t st) {sl : Nat → Value} (hb : Blk w g t (slotCells sl fun i => (st i).isSome)) (hs : ∀ i, ∃ A n c, sl i = .slice A n c)
    (hx : ∀ i xs, st i = some xs → SlotOk w (sl i) xs) : SlotsAt (w.alloc (.cells (slotCells sl fun i => (st i).isSome) t)) w.heap.size t st :=
  ⟨sl, Blk.new w t _, hs, fun i xs e => (hx i xs e).only (bs := []) (Only.of_below ((Below.refl _ _).alloc (Nat.le_refl _) _)) (by simp)⟩

set_option maxRecDepth 100000 in
theorem twin_any (g : Nat) (st : Nat → Option (List Int)) (w : World) (hs : SlotsAt w g 49 st) :
    Calls Try.prog 10 #[.pointer (some ⟨g, 0, none⟩)] w fun e w' => e = .returned (.pointer (some ⟨w.heap.size, 0, none⟩)) ∧ SlotsAt w' w.heap.size 49 st ∧ Below w.heap.size w w' := by
  obtain ⟨sl, hb, h1, h2⟩ := id hs
  have HC := hide (slots_copy hs hb h1 h2)
  have HB := hide hb
  have HO := hide (slotCells_one sl (fun i => (st i).isSome) h1)
  have HS := hide (slotCells_size sl (fun i => (st i).isSome))
  have hbe : Below w.heap.size w (w.alloc (.cells (slotCells sl fun i => (st i).isSome) 49)) := (Below.refl _ _).alloc (Nat.le_refl _) _
  have HBE := hide hbe
  clear hs hb h1 h2 hbe
  generalize (slotCells sl fun i => (st i).isSome) = cs at *
  go_enter Try.func10, Try.ntmps10
  go_wp2_with (first | (refine wpList_load_row rfl 49 (.tmp 7) rfl g rfl 49 cs (0, 0) _ HB.out Try.underlying49 rfl (by rw [HS.out]; kernel_rfl) ?_) | (refine wpList_store_row rfl 49 (.tmp 3) (.tmp 8) rfl w.heap.size cs rfl rfl 49 _ (Blk.new w _ _) (by rw [HS.out]; kernel_rfl) (by rw [HS.out]; rfl) HO.out ?_; rw [World.setRow_alloc_new]))
  go_ret
  exact ⟨rfl, HC.out, HBE.out⟩

set_option maxHeartbeats 8000000 in
set_option maxRecDepth 100000 in
theorem twin_walk (A : Option Addr) (n c : Nat) (xs : List Deed) (A1 : Option Addr) (n1 c1 : Nat) (ys : List Deed) (w : World) (hn : n = xs.length) (hd : DeedsAt w w.heap.size A xs) (hm : n ≤ maxLen)
    (hn1 : n1 = ys.length) (hd1 : DeedsAt w w.heap.size A1 ys) (hm1 : n1 ≤ maxLen) :
    Calls Try.prog 4 #[.slice A n c, .slice A1 n1 c1] w fun e w' => e = .returned (.bool true) ∧ Below w.heap.size w w' := by
  subst hn hn1
  unfold maxLen at hm hm1
  have HD := hide hd
  have HD1 := hide hd1
  clear hd hd1
  go_enter Try.func4, Try.ntmps4
  go_wp2_with fail
  refine (new_any _).mono ?_
  rintro e w1 ⟨rfl, hs1, hb1⟩
  generalize hg : w.heap.size = gs at *
  have hgl : gs < w1.heap.size := by obtain ⟨_, _, _, h, _⟩ := hs1.is; exact h.lt
  have HG := hide hg
  clear hg
  have hsn := slots_new w1 30
  have hal : Below w1.heap.size w1 (w1.alloc (.cells (slotCells (fun _ => .slice none 0 0) (fun _ => false)) 30)) := (Below.refl _ _).alloc (Nat.le_refl _) _
  have hs2 := hs1.below hal
  have hbe0 : Below gs w (w1.alloc (.cells (slotCells (fun _ => .slice none 0 0) (fun _ => false)) 30)) := hb1.trans (hal.mono (by omega))
  have HSN := hide hsn
  have HS2 := hide hs2
  have HB0 := hide hbe0
  clear hsn hs2 hal hbe0 hs1 hb1
  go_wp2_with fail
  go_loopw [7] (fun i wr => ∃ (k : Nat) (st : Nat → Option (List Int)), k ≤ xs.length ∧ i = .int .i64 k ∧ SlotsAt wr gs 49 st ∧ SlotsAt wr w1.heap.size 30 st ∧ Below gs w wr ∧ gs ≤ wr.heap.size) (fun i _ => xs.length - (intOf i).toNat)
  case atStart => exact ⟨0, noneS, by omega, rfl, HS2.out, HSN.out, HB0.out, by simp; omega⟩
  case round =>
    obtain ⟨k, st, hk, rfl, hsg, hsr, hbe, hgs⟩ := hrel
    by_cases hboth : k < xs.length ∧ k < 60
    · obtain ⟨hlt, h60⟩ := hboth
      have hdw : DeedsAt wr gs A xs := by
        have h1 := HD.out
        rw [← HG.out] at h1 ⊢
        exact h1.below (by rw [HG.out]; exact hbe)
      obtain ⟨hok, b, o, rfl, hlb, h0, h1, h2, h3⟩ := hdw k xs[k] (List.getElem?_eq_getElem hlt)
      generalize xs[k] = x at *
      go_wp2_with fail
      refine (does_any gs w1.heap.size x st gs _ hsg hsr hok (Nat.le_refl _) (by omega)).mono ?_
      rintro e w4 ⟨rfl, hsg4, hsr4, ho4⟩
      have hb4 : Below gs wr w4 := only_lt ho4 (Nat.le_refl _) (by omega) hgs
      go_wp2_with fail
      go_roundw
      case rel => exact ⟨k + 1, doneS x st, by omega, by go_num, hsg4, hsr4, hbe.trans hb4, by have := hb4.size; omega⟩
      case measure => simp [intOf]; omega
    · have hcases : ¬ (k < xs.length) ∨ (k < xs.length ∧ ¬ k < 60) := by omega
      clear hboth
      have hgr : w1.heap.size < wr.heap.size := by obtain ⟨_, _, _, h, _⟩ := hsr.is; exact h.lt
      have hgw : gs < wr.heap.size := by omega
      have HSG := hide hsg
      have HSR := hide hsr
      clear hsg hsr
      generalize hwr0 : wr = wr0 at *
      clear hwr0
      rcases hcases with hc | ⟨hc1, hc⟩
      all_goals
        go_wp2_with fail
        refine (twin_any gs st _ HSG.out).mono ?_
        rintro e w5 ⟨rfl, ht5, hb5⟩
        have hbe5 := hbe.trans (hb5.mono hgs)
        have hsg5 := HSG.out.below hb5
        have hsr5 := HSR.out.below hb5
        obtain ⟨sl, hB, hS1, hS2⟩ := id hsr5
        have HC := hide (slots_copy hsr5 hB hS1 hS2)
        have HB := hide hB
        have HO := hide (slotCells_one sl (fun i => (st i).isSome) hS1)
        have HS := hide (slotCells_size sl (fun i => (st i).isSome))
        have hal : Below w5.heap.size w5 (w5.alloc (.cells (slotCells sl fun i => (st i).isSome) 30)) := (Below.refl _ _).alloc (Nat.le_refl _) _
        have HSG6 := hide (hsg5.below hal)
        have HSR6 := hide (hsr5.below hal)
        have HT6 := hide (ht5.below hal)
        have HBE6 := hide (hbe5.trans (hal.mono (by have := hb5.size; omega)))
        have hlt5 : wr0.heap.size < w5.heap.size := by obtain ⟨_, _, _, h, _⟩ := ht5.is; exact h.lt
        clear hB hS1 hS2 hsg5 hsr5 ht5 hal
        generalize (slotCells sl fun i => (st i).isSome) = cs at *
        go_wp2_with (first | (refine wpList_load_row rfl 30 (.tmp 34) rfl w1.heap.size rfl 30 cs (0, 0) _ HB.out Try.underlying30 rfl (by rw [HS.out]; kernel_rfl) ?_) | (refine wpList_store_row rfl 30 (.tmp 9) (.tmp 35) rfl w5.heap.size cs rfl rfl 30 _ (Blk.new w5 _ _) (by rw [HS.out]; kernel_rfl) (by rw [HS.out]; rfl) HO.out ?_; rw [World.setRow_alloc_new]))
        go_loopw [10] (fun i wr => ∃ (k : Nat) (st2 : Nat → Option (List Int)), k ≤ ys.length ∧ i = .int .i64 k ∧ SlotsAt wr gs 49 st2 ∧ SlotsAt wr w1.heap.size 30 st2 ∧ Below gs w wr ∧ w5.heap.size + 1 ≤ wr.heap.size ∧ SlotsAt wr wr0.heap.size 49 st ∧ SlotsAt wr w5.heap.size 30 st) (fun i _ => ys.length - (intOf i).toNat)
        case atStart => exact ⟨0, st, by omega, rfl, HSG6.out, HSR6.out, HBE6.out, by simp, HT6.out, HC.out⟩
        case round =>
          obtain ⟨k2, st2, hk2, rfl, hsg2, hsr2, hbe2, hsz2, htw2, hbf2⟩ := hrel
          by_cases hboth : k2 < ys.length ∧ k2 < 60
          · obtain ⟨hlt, h60⟩ := hboth
            have hdw : DeedsAt wr gs A1 ys := by
              have h1 := HD1.out
              rw [← HG.out] at h1 ⊢
              exact h1.below (by rw [HG.out]; exact hbe2)
            obtain ⟨hok, b, o, rfl, hlb, h0, h1, h2, h3⟩ := hdw k2 ys[k2] (List.getElem?_eq_getElem hlt)
            generalize ys[k2] = x at *
            go_wp2_with fail
            refine (does_any gs w1.heap.size x st2 gs _ hsg2 hsr2 hok (Nat.le_refl _) (by omega)).mono ?_
            rintro e w6 ⟨rfl, hsg4, hsr4, ho4⟩
            have hb4 : Below gs wr w6 := only_lt ho4 (Nat.le_refl _) (by omega) (by omega)
            have hiss : ∀ b ∈ [gs, w1.heap.size], IsSlots wr b := fun b hb => by
              rcases List.mem_cons.1 hb with h | h
              · rw [h]; exact hsg2.is
              · rw [List.mem_singleton.1 h]; exact hsr2.is
            have htw4 := htw2.only ho4 (by simp; omega) hiss
            have hbf4 := hbf2.only ho4 (by simp; omega) hiss
            go_wp2_with fail
            go_roundw
            case rel => exact ⟨k2 + 1, doneS x st2, by omega, by go_num, hsg4, hsr4, hbe2.trans hb4, by have := hb4.size; omega, htw4, hbf4⟩
            case measure => simp [intOf]; omega
          · have hcases : ¬ (k2 < ys.length) ∨ (k2 < ys.length ∧ ¬ k2 < 60) := by omega
            clear hboth
            have HTW := hide htw2
            have HBF := hide hbf2
            have HSG2 := hide hsg2
            have HSR2 := hide hsr2
            clear htw2 hbf2 hsg2 hsr2
            rcases hcases with hc2 | ⟨hc3, hc2⟩
            all_goals
              go_wp2_with fail
              refine (sameSlots_any wr0.heap.size w5.heap.size st _ HTW.out HBF.out).mono ?_
              rintro e w7 ⟨rfl, hb7⟩
              go_wp2_with fail
              refine (sameSlots_any gs w1.heap.size st2 _ (HSG2.out.below hb7) (HSR2.out.below hb7)).mono ?_
              rintro e w8 ⟨rfl, hb8⟩
              go_wp2_with fail
              refine (awake_any _).mono ?_
              rintro e w9 ⟨rfl, hb9⟩
              go_wp2_with fail
              go_ret
              rw [HG.out]
              have h79 := below_step (below_step hb7 hb8) hb9
              exact ⟨rfl, hbe2.trans (h79.mono (by omega))⟩
end Go.Proofs.Ytipgobmnpheikaa
