/-
  Get, Drop and Full of both, and New.
-/
import Derived.Test.YtipgobmnpheikaaSlotB
namespace Go.Proofs.Ytipgobmnpheikaa
open Go.RowKit

def GetPost (st : Nat → Option (List Int)) (i : Int) (w : World) (e : Ending) (w' : World) : Prop :=
  Below w.heap.size w w' ∧ (((inB i && (st i.toNat).isSome) = false ∧ e = .returned (.tuple #[.slice none 0 0, .int .i64 15])) ∨
    ((inB i && (st i.toNat).isSome) = true ∧ ∃ xs A n c, st i.toNat = some xs ∧ n = xs.length ∧ e = .returned (.tuple #[.slice A n c, .int .i64 0]) ∧ n ≤ maxLen ∧ Reads w' w'.heap.size A (xs.map (Value.int .u64))))

set_option maxHeartbeats 1000000 in
theorem slotGet_any (g : Nat) (t : TypeId) (st : Nat → Option (List Int)) (i : Int) (w : World) (hs : SlotsAt w g t st) :
    Calls Try.prog 11 #[.pointer (some ⟨g, 0, none⟩), .int .i64 i] w (GetPost st i w) := by
  obtain ⟨sl, hb, hsl, hok⟩ := hs
  cases h : inB i && (st i.toNat).isSome
  · have H := hide h
    clear h
    go_enter Try.func11, Try.ntmps11
    go_wp2_with fail
    refine (has_any g t sl _ i _ hb).mono ?_
    rintro e w1 ⟨rfl, rfl⟩
    rw [H.out]
    go_wp2_with fail
    go_ret2
    exact ⟨Below.refl _ _, .inl ⟨H.out, rfl⟩⟩
  · have hin : inB i = true := ((Bool.and_eq_true _ _).mp h).1
    have hi := of_decide_eq_true hin
    obtain ⟨k, rfl⟩ := Int.eq_ofNat_of_zero_le hi.1
    have hk : k < 16 := by omega
    obtain ⟨xs, hxs⟩ := Option.isSome_iff_exists.1 ((Bool.and_eq_true _ _).mp h).2
    rw [Int.toNat_natCast] at hxs
    obtain ⟨A, n, c, hv, hn, hA, hr, h8⟩ := hok k xs hxs
    have cs : w.cell? ⟨g, k, none⟩ = some (.slice A n c) := by rw [hb.cell, slotCells_sl _ _ k hk, hv]
    have H := hide h
    have HX := hide hxs
    have HN := hide hn
    have HHA := hide hA
    have HV := hide hv
    have HR := hide hr
    have HOK := hide hok
    clear h hin hi hxs hn hA hv hr hok hsl
    go_enter Try.func11, Try.ntmps11
    go_wp2_with fail
    refine (has_any g t sl _ _ _ hb).mono ?_
    rintro e w1 ⟨rfl, rfl⟩
    rw [H.out]
    go_wp2_with fail
    refine (clone_any A n c w.heap.size xs _ HN.out HHA.out HR.out (Nat.le_refl _) h8).mono ?_
    rintro e w1 ⟨A', c', rfl, hA', hle, hr', hb1⟩
    go_wp2_with fail
    go_ret2
    exact ⟨hb1, .inr ⟨H.out, xs, A', n, c', by rw [Int.toNat_natCast]; exact HX.out, HN.out, rfl, by unfold maxLen; omega, hr'⟩⟩

set_option maxHeartbeats 1000000 in
theorem slotDrop_any (g : Nat) (t : TypeId) (st : Nat → Option (List Int)) (i : Int) (w : World) (hs : SlotsAt w g t st) :
    Calls Try.prog 13 #[.pointer (some ⟨g, 0, none⟩), .int .i64 i] w fun e w' => e = .returned (.int .i64 (dropS st i).1) ∧ SlotsAt w' g t (dropS st i).2 ∧ Only [g] w w' := by
  have hs0 := hs
  obtain ⟨sl, hb, hsl, hok⟩ := hs
  cases h : inB i && (st i.toNat).isSome
  · have e1 : dropS st i = (15, st) := by unfold dropS; rw [h]; rfl
    rw [e1]
    have H := hide h
    clear h e1
    go_enter Try.func13, Try.ntmps13
    go_wp2_with fail
    refine (has_any g t sl _ i _ hb).mono ?_
    rintro e w1 ⟨rfl, rfl⟩
    rw [H.out]
    go_wp2_with fail
    go_ret
    exact ⟨rfl, hs0, Only.refl _ _⟩
  · have e1 : dropS st i = (0, upd st i.toNat none) := by unfold dropS; rw [h]; rfl
    rw [e1]
    have hin : inB i = true := ((Bool.and_eq_true _ _).mp h).1
    have hi := of_decide_eq_true hin
    obtain ⟨k, rfl⟩ := Int.eq_ofNat_of_zero_le hi.1
    rw [Int.toNat_natCast]
    have hk : k < 16 := by omega
    have c1 : w.cell? ⟨g, k, none⟩ = some (sl k) := by rw [hb.cell, slotCells_sl _ _ k hk]
    have c2 : w.cell? ⟨g, 16 + k, none⟩ = some (.bool (st k).isSome) := by rw [hb.cell, slotCells_on _ _ k hk]
    have f1 := hb.frozen k
    have f2 := hb.frozen (16 + k)
    have hfin := slots_set hs0 hk (v := .slice none 0 0) ⟨_, _, _, rfl⟩ none (fun xs e => by cases e) false rfl
    have H := hide h
    have HOK := hide hok
    have HFIN := hide hfin
    have HS0 := hide hs0
    clear h hin hi hok hsl e1 hfin hs0
    go_enter Try.func13, Try.ntmps13
    go_wp2_with fail
    refine (has_any g t sl _ _ _ hb).mono ?_
    rintro e w1 ⟨rfl, rfl⟩
    rw [H.out]
    go_wp2_with fail
    go_region
    go_wp2_with fail
    go_ret
    exact ⟨rfl, HFIN.out.below (Below.refl _ _).drew, (((Only.refl [g] w).setCell (p := ⟨g, k, none⟩) (by simp) _).setCell (p := ⟨g, 16 + k, none⟩) (by simp) _).drew⟩

set_option maxHeartbeats 1000000 in
theorem refDrop_any (g : Nat) (t : TypeId) (st : Nat → Option (List Int)) (i : Int) (w : World) (hs : SlotsAt w g t st) :
    Calls Try.prog 17 #[.pointer (some ⟨g, 0, none⟩), .int .i64 i] w fun e w' => e = .returned (.int .i64 (dropS st i).1) ∧ SlotsAt w' g t (dropS st i).2 ∧ Only [g] w w' := by
  have hs0 := hs
  obtain ⟨sl, hb, hsl, hok⟩ := hs
  cases h : inB i && (st i.toNat).isSome
  · have e1 : dropS st i = (15, st) := by unfold dropS; rw [h]; rfl
    rw [e1]
    have H := hide h
    clear h e1
    go_enter Try.func17, Try.ntmps17
    go_wp2_with fail
    refine (refHas_any g t sl _ i _ hb).mono ?_
    rintro e w1 ⟨rfl, rfl⟩
    rw [H.out]
    go_wp2_with fail
    go_ret
    exact ⟨rfl, hs0, Only.refl _ _⟩
  · have e1 : dropS st i = (0, upd st i.toNat none) := by unfold dropS; rw [h]; rfl
    rw [e1]
    have hin : inB i = true := ((Bool.and_eq_true _ _).mp h).1
    have hi := of_decide_eq_true hin
    obtain ⟨k, rfl⟩ := Int.eq_ofNat_of_zero_le hi.1
    rw [Int.toNat_natCast]
    have hk : k < 16 := by omega
    have c1 : w.cell? ⟨g, k, none⟩ = some (sl k) := by rw [hb.cell, slotCells_sl _ _ k hk]
    have c2 : w.cell? ⟨g, 16 + k, none⟩ = some (.bool (st k).isSome) := by rw [hb.cell, slotCells_on _ _ k hk]
    have f1 := hb.frozen k
    have f2 := hb.frozen (16 + k)
    have hfin := slots_set hs0 hk (v := .slice none 0 0) ⟨_, _, _, rfl⟩ none (fun xs e => by cases e) false rfl
    have H := hide h
    have HOK := hide hok
    have HFIN := hide hfin
    have HS0 := hide hs0
    clear h hin hi hok hsl e1 hfin hs0
    go_enter Try.func17, Try.ntmps17
    go_wp2_with fail
    refine (refHas_any g t sl _ _ _ hb).mono ?_
    rintro e w1 ⟨rfl, rfl⟩
    rw [H.out]
    go_wp2_with fail
    go_ret
    exact ⟨rfl, HFIN.out, ((Only.refl [g] w).setCell (p := ⟨g, k, none⟩) (by simp) _).setCell (p := ⟨g, 16 + k, none⟩) (by simp) _⟩

def FullPost (st : Nat → Option (List Int)) (w : World) (e : Ending) (w' : World) : Prop :=
  Below w.heap.size w w' ∧ ∃ A n c, e = .returned (.slice A n c) ∧ n = (fullS st 16).length ∧ n ≤ maxLen ∧ Reads w' w'.heap.size A ((fullS st 16).map (Value.int .i64))

set_option maxHeartbeats 2000000 in
theorem slotFull_any (g : Nat) (t : TypeId) (st : Nat → Option (List Int)) (w : World) (hs : SlotsAt w g t st) :
    Calls Try.prog 15 #[.pointer (some ⟨g, 0, none⟩)] w (FullPost st w) := by
  obtain ⟨sl, hb, hsl, hok⟩ := hs
  obtain ⟨i0, hi, hz0, hz1, hz2⟩ := info_parts infoInt
  have HOK := hide hok
  have HSL := hide hsl
  clear hok hsl
  go_enter Try.func15, Try.ntmps15
  go_wp2_with fail
  go_loopw [3, 5] (fun v i wr => ∃ k : Nat, k ≤ 16 ∧ i = .int .i64 k ∧ wr.ownsRow w.heap.size 3 1 v (fullS st k).length ((fullS st k).map (Value.int .i64)) ∧ Below w.heap.size w wr) (fun _ i _ => 16 - (intOf i).toNat)
  case atStart => exact ⟨0, by omega, rfl, World.ownsRow_nil _ _ _ _, Below.refl _ _⟩
  case round =>
    obtain ⟨k, hk, rfl, hown, hbe⟩ := hrel
    by_cases hlt : k < 16
    · have hbr := hb.below hbe hb.lt
      have hfl := fullS_len st k
      have hin : inB k = true := decide_eq_true ⟨by omega, by omega⟩
      cases hst : (st k).isSome
      · have H : Hid ((inB k && (st k).isSome) = false) := by rw [hin, hst]; rfl
        have HS := hide (fullS_succ st k)
        have HST := hide hst
        clear hin hst
        go_wp2_with fail
        refine (has_any g t sl _ k _ hbr).mono ?_
        rintro e w1 ⟨rfl, rfl⟩
        rw [Int.toNat_natCast, H.out]
        go_wp2_with fail
        go_roundw
        case rel => exact ⟨k + 1, by omega, by go_num, by rw [HS.out, HST.out]; simpa using hown, hbe⟩
        case measure => simp [intOf]; omega
      · have H : Hid ((inB k && (st k).isSome) = true) := by rw [hin, hst]; rfl
        have HS := hide (fullS_succ st k)
        have HST := hide hst
        clear hin hst
        go_wp2_with fail
        refine (has_any g t sl _ k _ hbr).mono ?_
        rintro e w1 ⟨rfl, rfl⟩
        rw [Int.toNat_natCast, H.out]
        go_wp2_with (at_builtin; refine wpList_append_any _ rfl (.tmp 11) (.tmp 13) _ rfl w.heap.size 3 i0 _ 1 8 Try.underlying32 hi hz0 hz1 hz2 rfl (by decide) _ _ _ rfl (hown.alloc _) (some ⟨wr.heap.size, 0, none⟩) 1 1 [.int .i64 k] rfl (by simp) (fun j u hu => ⟨_, rfl, cell_one_new _ _ _ j u hu⟩) (by simp [Value.oneCell']) (by unfold maxLen; omega) (by omega) (by have := hbe.size; simp; omega) ?_; intro v1 w1 hown1 hg1 hat1)
        go_roundw
        case rel =>
          refine ⟨k + 1, by omega, by go_num, by rw [HS.out, HST.out]; simpa using hown1, (hbe.alloc hbe.size _).grown hg1 (by have := hbe.size; simp; omega) (fun k hk => (hown.lt k hk).1)⟩
        case measure => simp [intOf]; omega
    · have hke : k = 16 := by omega
      subst hke
      have hfl := fullS_len st 16
      go_wp2_with fail
      go_ret
      obtain ⟨A', c', hv, hle, hA'⟩ := ownsRow_slice hown
      exact ⟨hbe, A', _, c', by rw [← hv]; rfl, rfl, by unfold maxLen; omega, Reads.of_own hown hv⟩
end Go.Proofs.Ytipgobmnpheikaa
