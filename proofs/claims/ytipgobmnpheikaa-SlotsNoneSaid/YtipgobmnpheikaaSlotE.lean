/-
  Is every slot of a list one: slices.ContainsFunc with Put's own test.
-/
import Derived.Test.YtipgobmnpheikaaSlotD
import Derived.Deep.RegionHeld3
namespace Go.Proofs.Ytipgobmnpheikaa
open Go.RowKit

def inP (p : Option Addr) (i : Int) : Bool := p.isSome && inB i
theorem in_opt (p : Option Addr) (i : Int) (w : World) :
    Calls Try.prog 25 #[.pointer p, .int .i64 i] w fun e w' => e = .returned (.bool (inP p i)) ∧ w = w' := by
  cases p with
  | none => exact in_nil i w
  | some a => exact in_any a i w

theorem test_any (p : Option Addr) (b : Nat) (i : Int) (w : World) (hc : w.cell? ⟨b, 0, none⟩ = some (.pointer p)) :
    Calls Try.prog 24 #[.int .i64 i, .pointer (some ⟨b, 0, none⟩)] w fun e w' => e = .returned (.bool (!inP p i)) ∧ w = w' := by
  go_enter Try.func24, Try.ntmps24
  go_wp2_with (go_at_call 25; refine (in_opt p i _).mono ?_; rintro e w1 ⟨rfl, rfl⟩)
  go_ret
  exact ⟨rfl, rfl⟩

def IdxPost (p : Option Addr) (ats : List Int) (w : World) (e : Ending) (w' : World) : Prop :=
  w = w' ∧ ∃ r : Int, e = .returned (.int .i64 r) ∧ decide (0 ≤ r) = !ats.all (inP p) ∧ -1 ≤ r ∧ r ≤ 9223372036854775807

set_option maxHeartbeats 1000000 in
theorem index_any (p : Option Addr) (b : Nat) (A : Option Addr) (n c b0 : Nat) (ats : List Int) (w : World) (hn : n = ats.length) (hc : w.cell? ⟨b, 0, none⟩ = some (.pointer p)) (hr : Reads w b0 A (ats.map (Value.int .i64))) (hm : n ≤ maxLen) :
    Calls Try.prog 26 #[.slice A n c, .func (.func 24) #[] #[.pointer (some ⟨b, 0, none⟩)]] w (IdxPost p ats w) := by
  subst hn
  unfold maxLen at hm
  go_enter Try.func26, Try.ntmps26
  go_wp2_with fail
  go_loop [8] (fun i => ∃ k : Nat, k ≤ ats.length ∧ i = .int .i64 k ∧ Hid ((ats.take k).all (inP p) = true)) (fun i => ats.length - (intOf i).toNat)
  case atStart => exact ⟨0, by omega, rfl, by exact rfl⟩
  case round =>
    obtain ⟨k, hk, rfl, hall⟩ := hrel
    by_cases hlt : k < ats.length
    · obtain ⟨bx, ox, rfl, _, cx⟩ := hr.intAt hlt
      cases hin : inP p ats[k]
      · have H := hide hin
        clear hin
        go_wp2_with fail
        refine (test_any p b _ _ hc).mono ?_
        rintro e w1 ⟨rfl, rfl⟩
        rw [H.out]
        go_wp2_with fail
        go_ret
        refine ⟨rfl, k, rfl, ?_, by omega, by omega⟩
        have : ats.all (inP p) = false := by
          rw [List.all_eq_false]
          exact ⟨_, List.getElem_mem hlt, by rw [H.out]; simp⟩
        rw [this]
        simp
      · have H := hide hin
        clear hin
        go_wp2_with fail
        refine (test_any p b _ _ hc).mono ?_
        rintro e w1 ⟨rfl, rfl⟩
        rw [H.out]
        go_wp2_with fail
        go_round
        case rel =>
          refine ⟨k + 1, by omega, by go_num, ?_⟩
          show (ats.take (k + 1)).all (inP p) = true
          rw [List.take_succ_eq_append_getElem hlt, List.all_append, hall.out]
          simp [H.out]
        case measure => simp [intOf]; omega
    · have hke : k = ats.length := by omega
      subst hke
      go_wp2_with fail
      go_ret
      refine ⟨rfl, -1, rfl, ?_, by omega, by omega⟩
      have h4 := hall.out
      rw [List.take_of_length_le (Nat.le_refl _)] at h4
      rw [h4]
      rfl

theorem contains_any (p : Option Addr) (b : Nat) (A : Option Addr) (n c b0 : Nat) (ats : List Int) (w : World) (hn : n = ats.length) (hc : w.cell? ⟨b, 0, none⟩ = some (.pointer p)) (hr : Reads w b0 A (ats.map (Value.int .i64))) (hm : n ≤ maxLen) :
    Calls Try.prog 23 #[.slice A n c, .func (.func 24) #[] #[.pointer (some ⟨b, 0, none⟩)]] w fun e w' => e = .returned (.bool (!ats.all (inP p))) ∧ w = w' := by
  subst hn
  go_enter Try.func23, Try.ntmps23
  go_wp2_with fail
  refine (index_any p b A _ c b0 ats _ rfl hc hr hm).mono ?_
  rintro e w1 ⟨rfl, r, rfl, hd, h1, h2⟩
  have HD := hide hd
  clear hd
  go_wp2_with fail
  go_ret
  exact ⟨ret_bool HD.out, rfl⟩

theorem Reads.onlyNe {w w' : World} {bs : List Nat} {B : Nat} {A : Option Addr} {vs : List Value} (h : Reads w B A vs) (ho : Only bs w w') (hne : ∀ b o, 0 < vs.length → A = some ⟨b, o, none⟩ → b ∉ bs) (hB : B ≤ w.heap.size) : Reads w' B A vs := fun j u hu => by
  obtain ⟨b, o, e, hb, hc⟩ := h j u hu
  have hlen : 0 < vs.length := by have := (List.getElem?_eq_some_iff.1 hu).1; omega
  exact ⟨b, o, e, hb, (World.cell?_of_block (w := w) (ho.block b (by omega) (hne b o hlen e))).trans hc⟩
theorem Reads.ne {w : World} {B g : Nat} {A : Option Addr} {vs : List Value} (h : Reads w B A vs) (hg : B ≤ g) : ∀ b o, 0 < vs.length → A = some ⟨b, o, none⟩ → b ≠ g := fun b o h0 e => by
  obtain ⟨b', o', e', hb, _⟩ := h.cellAt h0
  rw [e] at e'
  injection e' with e'
  injection e' with e1 _
  omega
def PutPost (g : Nat) (t : TypeId) (st : Nat → Option (List Int)) (ats : List Int) (ls : List (List Int)) (w : World) (e : Ending) (w' : World) : Prop :=
  e = .returned (.int .i64 (putS st ats ls).1) ∧ SlotsAt w' g t (putS st ats ls).2 ∧ Only [g] w w'
theorem inP_some (a : Addr) : inP (some a) = inB := by funext i; simp [inP]

set_option maxHeartbeats 4000000 in
theorem put_any (g : Nat) (t : TypeId) (st : Nat → Option (List Int)) (A L : Option Addr) (n c m d b0 : Nat) (ats : List Int) (vs : List Value) (ls : List (List Int)) (w : World) (hs : SlotsAt w g t st)
    (hn : n = ats.length) (hm : m = ls.length) (ha : Reads w b0 A (ats.map (Value.int .i64))) (hl : Reads w b0 L vs) (hv : SlotOks w vs ls) (hA : ∀ b o, 0 < ats.length → A = some ⟨b, o, none⟩ → b ≠ g) (hLn : ∀ b o, 0 < vs.length → L = some ⟨b, o, none⟩ → b ≠ g) (hb0 : b0 ≤ w.heap.size) (ln : n ≤ maxLen) (lm : m ≤ maxLen) :
    Calls Try.prog 12 #[.pointer (some ⟨g, 0, none⟩), .slice A n c, .slice L m d] w (PutPost g t st ats ls w) := by
  subst hn hm
  unfold maxLen at lm
  by_cases hlen : ats.length = ls.length
  · have hq : ((ats.length : Int) != (ls.length : Int)) = false := by rw [hlen]; simp
    have HL := hide hlen
    cases hall : ats.all inB
    · have e1 := putS_out st ats ls hlen hall
      have HA : Hid (ats.all (inP (some ⟨g, 0, none⟩)) = false) := by rw [inP_some]; exact hall
      unfold PutPost
      rw [e1]
      clear e1 hlen hall
      go_enter Try.func12, Try.ntmps12
      go_wp2_with fail
      refine (contains_any (some ⟨g, 0, none⟩) w.heap.size A _ c b0 ats _ rfl (by simp [go_sem]) (ha.alloc hb0 _) ln).mono ?_
      rintro e w1 ⟨rfl, rfl⟩
      rw [HA.out]
      go_wp2_with fail
      go_ret
      exact ⟨rfl, hs.below ((Below.refl _ _).alloc (Nat.le_refl _) _), Only.of_below ((Below.refl _ _).alloc (Nat.le_refl _) _)⟩
    · have e1 := putS_all st ats ls hlen hall
      have HA : Hid (ats.all (inP (some ⟨g, 0, none⟩)) = true) := by rw [inP_some]; exact hall
      have HALL := hide hall
      have hgl : g < w.heap.size := by obtain ⟨_, _, _, h, _⟩ := hs.is; exact h.lt
      unfold PutPost
      rw [e1]
      clear e1 hlen hall
      go_enter Try.func12, Try.ntmps12
      go_wp2_with fail
      refine (contains_any (some ⟨g, 0, none⟩) w.heap.size A _ c b0 ats _ rfl (by simp [go_sem]) (ha.alloc hb0 _) ln).mono ?_
      rintro e w1 ⟨rfl, rfl⟩
      rw [HA.out]
      have ln' := ln
      unfold maxLen at ln'
      go_wp2_with fail
      go_loopw [19] (fun i wr => ∃ k : Nat, k ≤ ats.length ∧ i = .int .i64 k ∧ SlotsAt wr g t (putTo st ats ls k) ∧ Only [g] w wr ∧ Blk wr w.heap.size 23 #[.pointer (some ⟨g, 0, none⟩)]) (fun i _ => ats.length - (intOf i).toNat)
      case atStart => exact ⟨0, by omega, rfl, hs.below ((Below.refl _ _).alloc (Nat.le_refl _) _), Only.of_below ((Below.refl _ _).alloc (Nat.le_refl _) _), Blk.new _ _ _⟩
      case round =>
        obtain ⟨k, hk, rfl, hst, hon, hbox⟩ := hrel
        have hgs : ∀ b ∈ [g], IsSlots w b := fun b hb => by rw [List.mem_singleton.1 hb]; exact hs.is
        have hwl := hon.size
        by_cases hlt : k < ats.length
        · have hlt2 : k < ls.length := by rw [← HL.out]; exact hlt
          have hlt3 : k < vs.length := by rw [hv.1]; exact hlt2
          obtain ⟨bx, ox, rfl, _, cx⟩ := (ha.onlyNe hon (fun b o h0 e hm => hA b o (by rwa [List.length_map] at h0) e (List.mem_singleton.1 hm)) hb0).intAt hlt
          obtain ⟨bl, ol, rfl, hbl0, cl⟩ := (hl.onlyNe hon (fun b o h0 e hm => hLn b o h0 e (List.mem_singleton.1 hm)) hb0).cellAt hlt3
          obtain ⟨A1, n1, c1, hv1, hn1, hA1, hr1, h81⟩ := (hv.only hon hgs).2 k _ _ (List.getElem?_eq_getElem hlt3) (List.getElem?_eq_getElem hlt2)
          rw [hv1] at cl
          have hin : inB ats[k] = true := (List.all_eq_true.1 HALL.out) _ (List.getElem_mem hlt)
          have hin2 := of_decide_eq_true hin
          obtain ⟨j, hj⟩ := Int.eq_ofNat_of_zero_le hin2.1
          have hj16 : j < 16 := by omega
          rw [hj] at cx
          have hbx0 := hbox.cell 0
          have cb : wr.cell? ⟨w.heap.size, 0, none⟩ = some (.pointer (some ⟨g, 0, none⟩)) := by rw [hbx0]; rfl
          have hst0 := hst
          obtain ⟨sl, hblk, hsl, hok⟩ := hst
          have cg1 : wr.cell? ⟨g, j, none⟩ = some (sl j) := by rw [hblk.cell, slotCells_sl _ _ j hj16]
          have cg2 : wr.cell? ⟨g, 16 + j, none⟩ = some (.bool (putTo st ats ls k j).isSome) := by rw [hblk.cell, slotCells_on _ _ j hj16]
          have fg1 := hblk.frozen j
          have fg2 := hblk.frozen (16 + j)
          have hgr : g < wr.heap.size := hblk.lt
          have hbr : w.heap.size < wr.heap.size := hbox.lt
          have hblr : bl < wr.heap.size := by omega
          have HN1 := hide hn1
          have HA1 := hide hA1
          have HR1 := hide hr1
          have HOK := hide hok
          have HSL := hide hsl
          have HJ := hide hj
          have HV1 := hide hv1
          have HGS := hide hgs
          have HST := hide hst0
          clear hn1 hA1 hr1 hok hsl hj hv1 hin hin2 hgs hst0 hbx0
          go_wp2_with fail
          have hng1 : w.heap.size ≠ g := by omega
          have hj0 : (0 : Int) ≤ (j : Int) := by omega
          have hj1 : (j : Int) < 16 := by omega
          have hk0 : (0 : Int) ≤ (k : Int) := by omega
          have hk1 : (k : Int) < (ls.length : Int) := by omega
          have hng2 : bl ≠ g := hLn bl ol (by omega) rfl
          go_region_held3 (fun w' => w'.cell? ⟨w.heap.size, 0, none⟩ = some (.pointer (some ⟨g, 0, none⟩)) ∧ w'.cell? ⟨bl, ol + k, none⟩ = some (.slice A1 n1 c1))
            (first | exact ⟨d5, d6⟩ | exact ⟨cb, cl⟩ | (simp [go_sem, *]; done))
            ((go_at_call 22; refine (clone_any A1 n1 c1 wr.heap.size ls[k] _ (by exact HN1.out) (by exact HA1.out) (by exact HR1.out) (by exact Nat.le_refl _) h81).mono ?_; rintro e w1 ⟨A2, c2, rfl, hA2, hle2, hr2, hb2⟩; have hb3 : Below wr.heap.size wr w1 := (Below.refl _ _).drew.trans hb2; have d1 := (hb3.cell (p := ⟨g, j, none⟩) hgr).trans cg1; have d2 := (hb3.cell (p := ⟨g, 16 + j, none⟩) hgr).trans cg2; have d3 := (hb3.frozen (p := ⟨g, j, none⟩) hgr).trans fg1; have d4 := (hb3.frozen (p := ⟨g, 16 + j, none⟩) hgr).trans fg2; have d5 := (hb3.cell (p := ⟨w.heap.size, 0, none⟩) hbr).trans cb; have d6 := (hb3.cell (p := ⟨bl, ol + k, none⟩) hblr).trans cl))
          all_goals go_wp2_with fail
          all_goals
            go_roundw
            case rel =>
              have hok1 : SlotOk w1 (.slice A2 n1 c2) ls[k] := ⟨A2, n1, c2, rfl, HN1.out, hA2, hr2, h81⟩
              have hfin := slots_set (HST.out.below hb3) hj16 (v := .slice A2 n1 c2) ⟨_, _, _, rfl⟩ (some ls[k]) (fun xs e => by injection e with e; rw [← e]; exact hok1) true rfl
              refine ⟨k + 1, by omega, by go_num, ?_, ((hon.trans (Only.of_below hb3)).setCell (p := ⟨g, j, none⟩) (by simp) _).setCell (p := ⟨g, 16 + j, none⟩) (by simp) _, (((hbox.below hb3 hbr).far (p := ⟨g, j, none⟩) (by show w.heap.size ≠ g; omega) _).far (p := ⟨g, 16 + j, none⟩) (by show w.heap.size ≠ g; omega) _)⟩
              rw [putTo_succ st ats ls k hlt hlt2, HJ.out]
              exact hfin
            case measure => simp [intOf]; omega
        · have hke : k = ats.length := by omega
          subst hke
          go_wp2_with fail
          go_ret
          exact ⟨rfl, hst, hon⟩
  · have hq : ((ats.length : Int) != (ls.length : Int)) = true := by rw [bne_iff_ne]; omega
    have e1 := putS_no st ats ls hlen
    unfold PutPost
    rw [e1]
    clear e1 hlen
    go_enter Try.func12, Try.ntmps12
    go_wp2_with fail
    go_ret
    exact ⟨rfl, hs.below ((Below.refl _ _).alloc (Nat.le_refl _) _), Only.of_below ((Below.refl _ _).alloc (Nat.le_refl _) _)⟩
end Go.Proofs.Ytipgobmnpheikaa
