/-
  The reference's Put.
-/
import Derived.Test.YtipgobmnpheikaaSlotE
namespace Go.Proofs.Ytipgobmnpheikaa
open Go.RowKit

set_option maxHeartbeats 4000000 in
theorem refPut_any (g : Nat) (t : TypeId) (st : Nat → Option (List Int)) (A L : Option Addr) (n c m d b0 : Nat) (ats : List Int) (vs : List Value) (ls : List (List Int)) (w : World) (hs : SlotsAt w g t st)
    (hn : n = ats.length) (hm : m = ls.length) (ha : Reads w b0 A (ats.map (Value.int .i64))) (hl : Reads w b0 L vs) (hv : SlotOks w vs ls) (hb0 : b0 ≤ g) (ln : n ≤ maxLen) (lm : m ≤ maxLen) :
    Calls Try.prog 16 #[.pointer (some ⟨g, 0, none⟩), .slice A n c, .slice L m d] w (PutPost g t st ats ls w) := by
  subst hn hm
  unfold maxLen at lm ln
  by_cases hlen : ats.length = ls.length
  · have hq : ((ats.length : Int) != (ls.length : Int)) = false := by rw [hlen]; simp
    have HL := hide hlen
    have hgl : g < w.heap.size := by obtain ⟨_, _, _, h, _⟩ := hs.is; exact h.lt
    have hgs : ∀ b ∈ [g], IsSlots w b := fun b hb => by rw [List.mem_singleton.1 hb]; exact hs.is
    have HGS := hide hgs
    have HV := hide hv
    have HS := hide hs
    clear hlen hgs hv hs
    unfold PutPost
    go_enter Try.func16, Try.ntmps16
    go_wp2_with fail
    go_loop [7] (fun i => ∃ k : Nat, k ≤ ats.length ∧ i = .int .i64 k ∧ Hid ((ats.take k).all inB = true)) (fun i => ats.length - (intOf i).toNat)
    case atStart => exact ⟨0, by omega, rfl, by exact rfl⟩
    case round =>
      obtain ⟨k, hk, rfl, hall⟩ := hrel
      by_cases hlt : k < ats.length
      · obtain ⟨bx, ox, rfl, _, cx⟩ := ha.intAt hlt
        by_cases h1 : ats[k] < 0
        · go_wp2_with fail
          go_ret
          have e0 : ats.all inB = false := by
            rw [List.all_eq_false]
            exact ⟨_, List.getElem_mem hlt, by unfold inB; simp; omega⟩
          rw [putS_out st ats ls HL.out e0]
          exact ⟨rfl, HS.out, Only.refl _ _⟩
        · by_cases h2 : 15 < ats[k]
          · go_wp2_with fail
            go_ret
            have e0 : ats.all inB = false := by
              rw [List.all_eq_false]
              exact ⟨_, List.getElem_mem hlt, by unfold inB; simp; omega⟩
            rw [putS_out st ats ls HL.out e0]
            exact ⟨rfl, HS.out, Only.refl _ _⟩
          · go_wp2_with fail
            go_round
            case rel =>
              refine ⟨k + 1, by omega, by go_num, ?_⟩
              show (ats.take (k + 1)).all inB = true
              rw [List.take_succ_eq_append_getElem hlt, List.all_append, hall.out]
              simp [inB]
              omega
            case measure => simp [intOf]; omega
      · have hke : k = ats.length := by omega
        subst hke
        have hall2 : ats.all inB = true := by
          have h4 := hall.out
          rwa [List.take_of_length_le (Nat.le_refl _)] at h4
        have HALL := hide hall2
        clear hall2 hall hlt hk
        go_wp2_with fail
        go_loopw [8] (fun i wr => ∃ k : Nat, k ≤ ats.length ∧ i = .int .i64 k ∧ SlotsAt wr g t (putTo st ats ls k) ∧ Only [g] w wr) (fun i _ => ats.length - (intOf i).toNat)
        case atStart => exact ⟨0, by omega, rfl, HS.out, Only.refl _ _⟩
        case round =>
          obtain ⟨k, hk, rfl, hst, hon⟩ := hrel
          have hwl := hon.size
          by_cases hlt : k < ats.length
          · have hlt2 : k < ls.length := by rw [← HL.out]; exact hlt
            have hlt3 : k < vs.length := by rw [HV.out.1]; exact hlt2
            obtain ⟨bx, ox, rfl, hbx, cx⟩ := (ha.onlyB hon (by simp; omega) (by omega)).intAt hlt
            obtain ⟨bl, ol, rfl, hbl0, cl⟩ := (hl.onlyB hon (by simp; omega) (by omega)).cellAt hlt3
            obtain ⟨A1, n1, c1, hv1, hn1, hA1, hr1, h81⟩ := (HV.out.only hon HGS.out).2 k _ _ (List.getElem?_eq_getElem hlt3) (List.getElem?_eq_getElem hlt2)
            rw [hv1] at cl
            have hin : inB ats[k] = true := (List.all_eq_true.1 HALL.out) _ (List.getElem_mem hlt)
            have hin2 := of_decide_eq_true hin
            obtain ⟨j, hj⟩ := Int.eq_ofNat_of_zero_le hin2.1
            have hj16 : j < 16 := by omega
            rw [hj] at cx
            have hst0 := hst
            obtain ⟨sl, hblk, hsl, hok⟩ := hst
            have cg1 : wr.cell? ⟨g, j, none⟩ = some (sl j) := by rw [hblk.cell, slotCells_sl _ _ j hj16]
            have cg2 : wr.cell? ⟨g, 16 + j, none⟩ = some (.bool (putTo st ats ls k j).isSome) := by rw [hblk.cell, slotCells_on _ _ j hj16]
            have fg1 := hblk.frozen j
            have fg2 := hblk.frozen (16 + j)
            have hne : bx ≠ g := by omega
            have HN1 := hide hn1
            have HA1 := hide hA1
            have HR1 := hide hr1
            have HOK := hide hok
            have HSL := hide hsl
            have HJ := hide hj
            have HV1 := hide hv1
            have HST := hide hst0
            clear hn1 hA1 hr1 hok hsl hj hv1 hin hin2 hst0
            go_wp2_with fail
            go_region
            go_wp2_with fail
            go_region
            go_wp2_with fail
            go_roundw
            case rel =>
              have hok1 : SlotOk wr (.slice A1 n1 c1) ls[k] := ⟨A1, n1, c1, rfl, HN1.out, HA1.out, HR1.out, h81⟩
              have hfin := slots_set HST.out hj16 (v := .slice A1 n1 c1) ⟨_, _, _, rfl⟩ (some ls[k]) (fun xs e => by injection e with e; rw [← e]; exact hok1) true rfl
              refine ⟨k + 1, by omega, by go_num, ?_, ?_⟩
              · rw [putTo_succ st ats ls k hlt hlt2, HJ.out]
                exact hfin.below (((Below.refl _ _).drew).drew)
              · exact (((hon.setCell (p := ⟨g, j, none⟩) (by simp) _).setCell (p := ⟨g, 16 + j, none⟩) (by simp) _).drew).drew
            case measure => simp [intOf]; omega
          · have hke : k = ats.length := by omega
            subst hke
            go_wp2_with fail
            go_ret
            rw [putS_all st ats ls HL.out HALL.out]
            exact ⟨rfl, hst, hon⟩
  · have hq : ((ats.length : Int) != (ls.length : Int)) = true := by rw [bne_iff_ne]; omega
    have e1 := putS_no st ats ls hlen
    unfold PutPost
    rw [e1]
    clear e1 hlen
    go_enter Try.func16, Try.ntmps16
    go_wp2_with fail
    go_ret
    exact ⟨rfl, hs, Only.refl _ _⟩
end Go.Proofs.Ytipgobmnpheikaa
