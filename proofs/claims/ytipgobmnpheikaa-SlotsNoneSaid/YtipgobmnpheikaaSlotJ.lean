/-
  The walk of the law on what is put and dropped.
-/
import Derived.Test.YtipgobmnpheikaaSlotI
namespace Go.Proofs.Ytipgobmnpheikaa
open Go.RowKit

theorem Deed.Ok.belowB {x : Deed} {w w' : World} (h : x.Ok w w.heap.size) (hb : Below w.heap.size w w') : x.Ok w' w.heap.size :=
  h.below hb (Nat.le_refl _)
/-- a slice of deeds -/
def DeedsAt (w : World) (b0 : Nat) (A : Option Addr) (xs : List Deed) : Prop :=
  ∀ j x, xs[j]? = some x → x.Ok w b0 ∧ ∃ b o, A = some ⟨b, o, none⟩ ∧ b < b0 ∧ w.cell? ⟨b, o + j * 4, none⟩ = some (.int .i64 x.k) ∧ w.cell? ⟨b, o + j * 4 + 1, none⟩ = some (.int .i64 x.i) ∧
    w.cell? ⟨b, o + j * 4 + 2, none⟩ = some (.slice x.A x.n x.c) ∧ w.cell? ⟨b, o + j * 4 + 3, none⟩ = some (.slice x.L x.m x.d)
theorem DeedsAt.below {w w' : World} {A : Option Addr} {xs : List Deed} (h : DeedsAt w w.heap.size A xs) (hb : Below w.heap.size w w') : DeedsAt w' w.heap.size A xs := fun j x hx => by
  obtain ⟨hok, b, o, e, hlt, h0, h1, h2, h3⟩ := h j x hx
  refine ⟨hok.belowB hb, b, o, e, hlt, ?_, ?_, ?_, ?_⟩
  · exact (hb.cell (p := ⟨b, _, none⟩) hlt).trans h0
  · exact (hb.cell (p := ⟨b, _, none⟩) hlt).trans h1
  · exact (hb.cell (p := ⟨b, _, none⟩) hlt).trans h2
  · exact (hb.cell (p := ⟨b, _, none⟩) hlt).trans h3

theorem only_lt {gs gr : Nat} {w w' : World} {B : Nat} (h : Only [gs, gr] w w') (h1 : B ≤ gs) (h2 : B ≤ gr) (hB : B ≤ w.heap.size) : Below B w w' :=
  h.to_below (fun x hx => by simp at hx; omega) hB

set_option maxHeartbeats 4000000 in
set_option maxRecDepth 100000 in
theorem play_walk (A : Option Addr) (n c : Nat) (xs : List Deed) (w : World) (hn : n = xs.length) (hd : DeedsAt w w.heap.size A xs) (hm : n ≤ maxLen) :
    Calls Try.prog 3 #[.slice A n c] w fun e w' => e = .returned (.bool true) ∧ Below w.heap.size w w' := by
  subst hn
  unfold maxLen at hm
  go_enter Try.func3, Try.ntmps3
  go_wp2_with fail
  refine (new_any _).mono ?_
  rintro e w1 ⟨rfl, hs1, hb1⟩
  generalize hg : w.heap.size = gs at *
  have hgl : gs < w1.heap.size := by obtain ⟨_, _, _, h, _⟩ := hs1.is; exact h.lt
  have HG := hide hg
  clear hg
  have hsn := slots_new w1 30
  have hal : Below w1.heap.size w1 (w1.alloc (.cells (slotCells (fun _ => .slice none 0 0) (fun _ => false)) 30)) := (Below.refl _ _).alloc (Nat.le_refl _) _
  have hs2 := hs1.below hal
  have hbe0 : Below gs w (w1.alloc (.cells (slotCells (fun _ => .slice none 0 0) (fun _ => false)) 30)) := hb1.trans (hal.mono (by omega))
  have HSN := hide hsn
  have HS2 := hide hs2
  have HB0 := hide hbe0
  clear hsn hs2 hal hbe0 hs1 hb1
  go_wp2_with fail
  go_loopw [5] (fun i wr => ∃ (k : Nat) (st : Nat → Option (List Int)), k ≤ xs.length ∧ i = .int .i64 k ∧ SlotsAt wr gs 49 st ∧ SlotsAt wr w1.heap.size 30 st ∧ Below gs w wr ∧ gs ≤ wr.heap.size) (fun i _ => xs.length - (intOf i).toNat)
  case atStart => exact ⟨0, noneS, by omega, rfl, HS2.out, HSN.out, HB0.out, by simp; omega⟩
  case round =>
    obtain ⟨k, st, hk, rfl, hsg, hsr, hbe, hgs⟩ := hrel
    by_cases hlt : k < xs.length
    · by_cases h60 : k < 60
      · have hdw : DeedsAt wr gs A xs := by
          have hd' : DeedsAt w w.heap.size A xs := by rw [HG.out]; exact hd
          have h1 := hd'.below (w' := wr) (by rw [HG.out]; exact hbe)
          rwa [HG.out] at h1
        obtain ⟨hok, b, o, rfl, hlb, h0, h1, h2, h3⟩ := hdw k xs[k] (List.getElem?_eq_getElem hlt)
        generalize xs[k] = x at *
        go_wp2_with fail
        refine (does_any gs w1.heap.size x st gs _ hsg hsr hok (Nat.le_refl _) (by omega)).mono ?_
        rintro e w4 ⟨rfl, hsg4, hsr4, ho4⟩
        have hb4 : Below gs wr w4 := only_lt ho4 (Nat.le_refl _) (by omega) hgs
        go_wp2_with fail
        refine (sameSlots_any gs w1.heap.size (doneS x st) _ hsg4 hsr4).mono ?_
        rintro e w5 ⟨rfl, hb5⟩
        have hsg5 := hsg4.below hb5
        have hsr5 := hsr4.below hb5
        have hgs4 : gs ≤ w4.heap.size := by have := hb4.size; omega
        have hb45 : Below gs w w5 := (hbe.trans hb4).trans (hb5.mono hgs4)
        go_wp2_with fail
        go_roundw
        case rel => exact ⟨k + 1, doneS x st, by omega, by go_num, hsg5, hsr5, hb45, by have := hb5.size; omega⟩
        case measure => simp [intOf]; omega
      · go_wp2_with fail
        refine (awake_any _).mono ?_
        rintro e w4 ⟨rfl, hb4⟩
        go_wp2_with fail
        go_ret
        rw [HG.out]
        exact ⟨rfl, hbe.trans (hb4.mono hgs)⟩
    · go_wp2_with fail
      refine (awake_any _).mono ?_
      rintro e w4 ⟨rfl, hb4⟩
      go_wp2_with fail
      go_ret
      rw [HG.out]
      exact ⟨rfl, hbe.trans (hb4.mono hgs)⟩
end Go.Proofs.Ytipgobmnpheikaa
