/-
  A deed done in both.
-/
import Derived.Test.YtipgobmnpheikaaSlotF
import Derived.Deep.RegionHeld3
namespace Go.Proofs.Ytipgobmnpheikaa
open Go.RowKit

/-- a deed, its lists read -/
structure Deed where
  k : Int
  i : Int
  A : Option Addr
  n : Nat
  c : Nat
  L : Option Addr
  m : Nat
  d : Nat
  ats : List Int
  vs : List Value
  ls : List (List Int)
def Deed.val (x : Deed) : Value := .agg #[.int .i64 x.k, .int .i64 x.i, .slice x.A x.n x.c, .slice x.L x.m x.d]
structure Deed.Ok (x : Deed) (w : World) (b0 : Nat) : Prop where
  hn : x.n = x.ats.length
  hm : x.m = x.ls.length
  ha : Reads w b0 x.A (x.ats.map (Value.int .i64))
  hl : Reads w b0 x.L x.vs
  hv : SlotOks w x.vs x.ls
  ln : x.n ≤ maxLen
  lm : x.m ≤ maxLen
theorem Deed.Ok.only {x : Deed} {w w' : World} {b0 : Nat} {bs : List Nat} (h : x.Ok w b0) (ho : Only bs w w') (hbs : ∀ b ∈ bs, b0 ≤ b) (hb0 : b0 ≤ w.heap.size) (hs : ∀ b ∈ bs, IsSlots w b) : x.Ok w' b0 :=
  ⟨h.hn, h.hm, h.ha.onlyB ho hbs hb0, h.hl.onlyB ho hbs hb0, h.hv.only ho hs, h.ln, h.lm⟩
theorem Deed.Ok.below {x : Deed} {w w' : World} {b0 : Nat} (h : x.Ok w b0) (hb : Below w.heap.size w w') (hb0 : b0 ≤ w.heap.size) : x.Ok w' b0 :=
  h.only (bs := []) (Only.of_below hb) (by simp) hb0 (by simp)
/-- what a deed makes of a state -/
def doneS (x : Deed) (st : Nat → Option (List Int)) : Nat → Option (List Int) :=
  if x.k = 0 ∨ x.k = 1 ∨ x.k = 2 ∨ x.k = 3 then (putS st x.ats x.ls).2 else if x.k = 4 ∨ x.k = 5 then (dropS st x.i).2 else st

def DoesPost (gs gr : Nat) (x : Deed) (st : Nat → Option (List Int)) (w : World) (e : Ending) (w' : World) : Prop :=
  e = .returned (.bool true) ∧ SlotsAt w' gs 49 (doneS x st) ∧ SlotsAt w' gr 30 (doneS x st) ∧ Only [gs, gr] w w'

theorem only_cell {bs : List Nat} {w w' : World} (h : Only bs w w') {b o : Nat} {v : Value} (hc : w.cell? ⟨b, o, none⟩ = some v) (hb : b ∉ bs) : w'.cell? ⟨b, o, none⟩ = some v := by
  have hlt : b < w.heap.size := World.block_lt_of_cell? w _ hc
  rw [World.cell?_of_block (w := w) (h.block b hlt hb)]
  exact hc

set_option maxHeartbeats 4000000 in
theorem does_put (gs gr : Nat) (x : Deed) (st : Nat → Option (List Int)) (b0 : Nat) (w : World) (hs : SlotsAt w gs 49 st) (hr : SlotsAt w gr 30 st) (hx : x.Ok w b0) (hbs : b0 ≤ gs) (hbr : b0 ≤ gr)
    (hk : x.k = 0 ∨ x.k = 1 ∨ x.k = 2 ∨ x.k = 3) :
    Calls Try.prog 7 #[.pointer (some ⟨gs, 0, none⟩), .pointer (some ⟨gr, 0, none⟩), x.val] w (DoesPost gs gr x st w) := by
  have hgs : gs < w.heap.size := by obtain ⟨_, _, _, h, _⟩ := hs.is; exact h.lt
  have hgr : gr < w.heap.size := by obtain ⟨_, _, _, h, _⟩ := hr.is; exact h.lt
  have hne : gs ≠ gr := by
    rintro rfl
    obtain ⟨_, b1, _⟩ := hs
    obtain ⟨_, b2, _⟩ := hr
    unfold Blk at b1 b2
    rw [b1] at b2
    injection b2 with b2
    injection b2 with _ b2
    cases b2
  have hdone : doneS x st = (putS st x.ats x.ls).2 := by unfold doneS; rw [if_pos hk]
  unfold DoesPost
  rw [hdone]
  clear hdone
  obtain ⟨k, i, A, n, c, L, m, d, ats, vs, ls⟩ := x
  obtain ⟨hn, hm, ha, hl, hv, ln, lm⟩ := hx
  simp only at hn hm ha hl hv ln lm hk
  simp only [Deed.val]
  -- the world behind the box
  have hal : Below w.heap.size w (w.alloc (.cells #[.int .i64 k, .int .i64 i, .slice A n c, .slice L m d] 35)) := (Below.refl _ _).alloc (Nat.le_refl _) _
  have hs1 := hs.below hal
  have hr1 := hr.below hal
  have hv1 : SlotOks _ vs ls := hv.only (bs := []) (Only.of_below hal) (by simp)
  have ha1 := ha.alloc (show b0 ≤ w.heap.size by omega) (.cells #[.int .i64 k, .int .i64 i, .slice A n c, .slice L m d] 35)
  have hl1 := hl.alloc (show b0 ≤ w.heap.size by omega) (.cells #[.int .i64 k, .int .i64 i, .slice A n c, .slice L m d] 35)
  have hgbs : ∀ b ∈ [gs], IsSlots (w.alloc (.cells #[.int .i64 k, .int .i64 i, .slice A n c, .slice L m d] 35)) b := fun b hb => by rw [List.mem_singleton.1 hb]; exact hs1.is
  have HN := hide hn
  have HM := hide hm
  have HGBS := hide hgbs
  clear hn hm hv ha hl hgbs hs hr
  rcases hk with rfl | rfl | rfl | rfl
  all_goals
    go_enter Try.func7, Try.ntmps7
    go_wp2_with fail
    go_region_held3 (fun w' => w'.cell? ⟨w.heap.size, 2, none⟩ = some (.slice A n c) ∧ w'.cell? ⟨w.heap.size, 3, none⟩ = some (.slice L m d))
      (first | exact ⟨e2, e3⟩ | exact ⟨d2, d3⟩ | (simp [go_sem]; done))
      (first | (go_at_call 12; refine (put_any gs 49 st A L n c m d b0 ats vs ls _ (by exact hs1.below (Below.refl _ _).drew) (by exact HN.out) (by exact HM.out) (by exact ha1) (by exact hl1) (by exact hv1.only (bs := []) (Only.of_below (Below.refl _ _).drew) (by simp)) (by have := ha1.ne hbs; simpa using this) (by exact hl1.ne hbs) (by simp; omega) ln lm).mono ?_; rintro e w1 ⟨rfl, hs2, ho1⟩; have ho1' := Only.trans (Only.of_below (bs := [gs]) (Below.refl _ _).drew) ho1; have hr2 := hr1.only ho1' (by simp; omega) HGBS.out; have ha2 := ha1.onlyB ho1' (by simp; omega) (by simp; omega); have hl2 := hl1.onlyB ho1' (by simp; omega) (by simp; omega); have hv2 := hv1.only ho1' HGBS.out; have d2 : w1.cell? ⟨w.heap.size, 2, none⟩ = some (.slice A n c) := only_cell ho1' (by simp [go_sem]) (by simp; omega); have d3 : w1.cell? ⟨w.heap.size, 3, none⟩ = some (.slice L m d) := only_cell ho1' (by simp [go_sem]) (by simp; omega)) | (go_at_call 16; refine (refPut_any gr 30 st A L n c m d b0 ats vs ls _ (by exact hr2) (by exact HN.out) (by exact HM.out) (by exact ha2) (by exact hl2) (by exact hv2) (by exact hbr) ln lm).mono ?_; rintro e w2 ⟨rfl, hr3, ho2⟩; have e2 : w2.cell? ⟨w.heap.size, 2, none⟩ = some (.slice A n c) := only_cell ho2 d2 (by simp; omega); have e3 : w2.cell? ⟨w.heap.size, 3, none⟩ = some (.slice L m d) := only_cell ho2 d3 (by simp; omega)))
    go_wp2_with fail
    go_ret
    exact ⟨rfl, hs2.only ho2 (by simp; omega) (fun b hb => by rw [List.mem_singleton.1 hb]; exact hr2.is), hr3, (Only.of_below hal).trans ((ho1'.mono (by simp)).trans (ho2.mono (by simp)))⟩

set_option maxHeartbeats 4000000 in
theorem does_drop (gs gr : Nat) (x : Deed) (st : Nat → Option (List Int)) (w : World) (hs : SlotsAt w gs 49 st) (hr : SlotsAt w gr 30 st)
    (hk : x.k = 4 ∨ x.k = 5) :
    Calls Try.prog 7 #[.pointer (some ⟨gs, 0, none⟩), .pointer (some ⟨gr, 0, none⟩), x.val] w (DoesPost gs gr x st w) := by
  have hgs : gs < w.heap.size := by obtain ⟨_, _, _, h, _⟩ := hs.is; exact h.lt
  have hgr : gr < w.heap.size := by obtain ⟨_, _, _, h, _⟩ := hr.is; exact h.lt
  have hne : gs ≠ gr := by
    rintro rfl
    obtain ⟨_, b1, _⟩ := hs
    obtain ⟨_, b2, _⟩ := hr
    unfold Blk at b1 b2
    rw [b1] at b2
    injection b2 with b2
    injection b2 with _ b2
    cases b2
  have hdone : doneS x st = (dropS st x.i).2 := by unfold doneS; rw [if_neg (by omega), if_pos hk]
  unfold DoesPost
  rw [hdone]
  clear hdone
  obtain ⟨k, i, A, n, c, L, m, d, ats, vs, ls⟩ := x
  simp only at hk
  simp only [Deed.val]
  have hal : Below w.heap.size w (w.alloc (.cells #[.int .i64 k, .int .i64 i, .slice A n c, .slice L m d] 35)) := (Below.refl _ _).alloc (Nat.le_refl _) _
  have hs1 := hs.below hal
  have hr1 := hr.below hal
  have hgbs : ∀ b ∈ [gs], IsSlots (w.alloc (.cells #[.int .i64 k, .int .i64 i, .slice A n c, .slice L m d] 35)) b := fun b hb => by rw [List.mem_singleton.1 hb]; exact hs1.is
  have HGBS := hide hgbs
  clear hgbs hs hr
  rcases hk with rfl | rfl
  all_goals
    go_enter Try.func7, Try.ntmps7
    go_wp2_with fail
    go_region_held3 (fun w' => w'.cell? ⟨w.heap.size, 1, none⟩ = some (.int .i64 i))
      (first | exact e2 | exact d2 | (simp [go_sem]; done))
      (first | (go_at_call 13; refine (slotDrop_any gs 49 st i _ (by exact hs1.below (Below.refl _ _).drew)).mono ?_; rintro e w1 ⟨rfl, hs2, ho1⟩; have ho1' := Only.trans (Only.of_below (bs := [gs]) (Below.refl _ _).drew) ho1; have hr2 := hr1.only ho1' (by simp; omega) HGBS.out; have d2 : w1.cell? ⟨w.heap.size, 1, none⟩ = some (.int .i64 i) := only_cell ho1' (by simp [go_sem]) (by simp; omega)) | (go_at_call 17; refine (refDrop_any gr 30 st i _ (by exact hr2)).mono ?_; rintro e w2 ⟨rfl, hr3, ho2⟩; have e2 : w2.cell? ⟨w.heap.size, 1, none⟩ = some (.int .i64 i) := only_cell ho2 d2 (by simp; omega)))
    go_wp2_with fail
    go_ret
    exact ⟨rfl, hs2.only ho2 (by simp; omega) (fun b hb => by rw [List.mem_singleton.1 hb]; exact hr2.is), hr3, (Only.of_below hal).trans ((ho1'.mono (by simp)).trans (ho2.mono (by simp)))⟩

set_option maxHeartbeats 1000000 in
theorem does_none (gs gr : Nat) (x : Deed) (st : Nat → Option (List Int)) (w : World) (hs : SlotsAt w gs 49 st) (hr : SlotsAt w gr 30 st)
    (hk : ¬ (x.k = 0 ∨ x.k = 1 ∨ x.k = 2 ∨ x.k = 3)) (hk2 : ¬ (x.k = 4 ∨ x.k = 5)) :
    Calls Try.prog 7 #[.pointer (some ⟨gs, 0, none⟩), .pointer (some ⟨gr, 0, none⟩), x.val] w (DoesPost gs gr x st w) := by
  have hdone : doneS x st = st := by unfold doneS; rw [if_neg hk, if_neg hk2]
  unfold DoesPost
  rw [hdone]
  clear hdone
  obtain ⟨k, i, A, n, c, L, m, d, ats, vs, ls⟩ := x
  simp only at hk hk2
  simp only [Deed.val]
  have hal : Below w.heap.size w (w.alloc (.cells #[.int .i64 k, .int .i64 i, .slice A n c, .slice L m d] 35)) := (Below.refl _ _).alloc (Nat.le_refl _) _
  have e0 : (k == 0) = false := beq_eq_false_iff_ne.2 (by omega)
  have e1 : (k == 1) = false := beq_eq_false_iff_ne.2 (by omega)
  have e2 : (k == 2) = false := beq_eq_false_iff_ne.2 (by omega)
  have e3 : (k == 3) = false := beq_eq_false_iff_ne.2 (by omega)
  have e4 : (k == 4) = false := beq_eq_false_iff_ne.2 (by omega)
  have e5 : (k == 5) = false := beq_eq_false_iff_ne.2 (by omega)
  clear hk hk2
  go_enter Try.func7, Try.ntmps7
  go_wp2_with fail
  go_ret
  exact ⟨rfl, hs.below hal, hr.below hal, Only.of_below hal⟩

theorem does_any (gs gr : Nat) (x : Deed) (st : Nat → Option (List Int)) (b0 : Nat) (w : World) (hs : SlotsAt w gs 49 st) (hr : SlotsAt w gr 30 st) (hx : x.Ok w b0) (hbs : b0 ≤ gs) (hbr : b0 ≤ gr) :
    Calls Try.prog 7 #[.pointer (some ⟨gs, 0, none⟩), .pointer (some ⟨gr, 0, none⟩), x.val] w (DoesPost gs gr x st w) := by
  by_cases h1 : x.k = 0 ∨ x.k = 1 ∨ x.k = 2 ∨ x.k = 3
  · exact does_put gs gr x st b0 w hs hr hx hbs hbr h1
  · by_cases h2 : x.k = 4 ∨ x.k = 5
    · exact does_drop gs gr x st w hs hr h2
    · exact does_none gs gr x st w hs hr h1 h2
end Go.Proofs.Ytipgobmnpheikaa
