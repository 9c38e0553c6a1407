/-
  Unpack of package pack.
-/
import Derived.Test.YtfmdnglcmbgpcaaPkJ
namespace Go.Proofs.Ytfmdnglcmbgpcaa
open Go.RowKit Go.Proofs.Ytfmdnglcmbgpcaa.Pk

def UnpPost (res : List Int × Int) (w : World) (e : Ending) (w' : World) : Prop :=
  Below w.heap.size w w' ∧ ∃ A n c, e = .returned (.tuple #[.slice A n c, .int .i64 res.2]) ∧ n = res.1.length ∧ n ≤ 1000000000 ∧ Reads w' w'.heap.size A (res.1.map (Value.int .u64))
def leftC (w : World) (U : Nat) : Nat := lenV ((w.cell? ⟨U, 0, none⟩).getD (.slice none 0 0))
theorem US.left {w0 w : World} {U M : Nat} {bs o : List Int} {vo : Value} (h : US w0 U M bs vo o w) : leftC w U = bs.length := by
  obtain ⟨A, n, c, h1, h2, _⟩ := h
  have c0 := h1.cell 0
  simp at c0
  unfold leftC
  rw [c0]
  exact h2

theorem new_one64 (w : World) (x : Int) : Reads (w.alloc (.cells #[.int .u64 x] 38)) (w.alloc (.cells #[.int .u64 x] 38)).heap.size (some ⟨w.heap.size, 0, none⟩) ([x].map (Value.int .u64)) :=
  Reads.of_lit (by simp) fun j u hu => by
    rw [Nat.zero_add, (Blk.new w _ _).cell]
    simpa using hu

set_option maxRecDepth 100000 in
set_option maxHeartbeats 2000000 in
theorem unpack_any (A : Option Addr) (n c b0 : Nat) (b : List Int) (most : Int) (w : World) (hn : n = b.length) (hr : Reads w b0 A (b.map (Value.int .u8))) (hb0 : b0 ≤ w.heap.size) (hnc : n ≤ c) (hc : c ≤ maxLen) (hb : u8s b) (hs : n ≤ 1000000) (hm : most ≤ 9223372036854775807) :
    Calls Try.prog 12 #[.slice A n c, .int .i64 most] w (UnpPost (unp b.length b most.toNat []) w) := by
  have HB := hide hb
  unfold maxLen at hc
  have HS : Hid (US w w.heap.size most.toNat b (.slice none 0 0) [] (w.alloc (.cells #[.slice A n c, .int .i64 (most.toNat : Int), .slice none 0 0] 47))) :=
    ⟨A, n, c, Blk.new _ _ _, hn, hnc, by omega, hr.more hb0, World.ownsRow_nil _ _ _ _, (Below.refl _ _).alloc (Nat.le_refl _) _, Nat.le_refl _, by omega⟩
  have hmx : max most 0 = (most.toNat : Int) := by omega
  have HMM : Hid (most.toNat ≤ 9223372036854775807) := by show _ ≤ _; omega
  have HN := hide hn
  have HMX := hide hmx
  clear hmx
  have hmf : (if most < 0 then (0 : Int) else most) = (most.toNat : Int) := by split <;> omega
  have hnl : b.length ≤ 1000000 := by omega
  clear hn hr hb hm
  go_enter Try.func12, Try.ntmps12
  go_wp2_with fail
  rw [HMX.out]
  have hM := HMM.out
  clear HMM hmf
  generalize most.toNat = M at *
  clear HMX
  go_loopw [] (fun wr => ∃ (bs o : List Int) (vo : Value), Hid (US w w.heap.size M bs vo o wr) ∧ Hid (unp bs.length bs M o = unp b.length b M []) ∧ Hid (u8s bs) ∧ o.length + 256 * bs.length ≤ 256 * b.length) (fun wr => leftC wr w.heap.size)
  case atStart => exact ⟨b, [], _, HS, rfl, HB, by simp⟩
  case round =>
    obtain ⟨bs, o, vo, hus, hun, hub, hbd⟩ := hrel
    have HLF := hide hus.out.left
    cases bs with
    | nil =>
      obtain ⟨A1, n1, c1, h1, h2, h3, h4, h5, h6, h7, h8, h9⟩ := hus.out
      obtain ⟨Av, cv, rfl, hle, hA⟩ := ownsRow_slice h6
      have d0 := h1.cell 0
      have d2 := h1.cell 2
      simp at d0 d2 h2
      subst h2
      have HU : Hid (unp b.length b M [] = (o, 0)) := hun.out.symm
      clear hun
      go_wp2_with fail
      go_ret2
      rw [HU.out]
      exact ⟨h7, Av, _, cv, rfl, rfl, by simp at hbd; omega, Reads.of_own h6 rfl⟩
    | cons t r =>
      have ht := hub.out t (List.mem_cons_self ..)
      have HR : Hid (u8s r) := fun x hx => hub.out x (List.mem_cons_of_mem _ hx)
      obtain ⟨A1, n1, c1, h1, h2, -⟩ := hus.out
      have d0 := h1.cell 0
      simp only [List.length_cons] at h2 hbd
      simp at d0
      have hpos : (0 : Int) < (n1 : Int) := by omega
      have HU : Hid (_ = unp b.length b M []) := (unp_step t r M o).symm.trans hun.out
      clear hun h1 h2
      go_wp2_with fail
      refine (take1_any w _ M t r vo o _ hus.out).mono ?_
      rintro e w1 ⟨⟨b1, o1, hb1, rfl, hc1⟩, hus1, -, -⟩
      have hc2 := (hus1.be.cell (p := ⟨b1, o1, none⟩) hb1).trans hc1
      have HUS1 := hide hus1
      clear hus1
      go_wp2_with fail
      refine (one_any w _ M r vo o _ t ht.1 ht.2 HR.out HUS1.out).mono ?_
      rintro e w2 (⟨hnb, rfl, hus2⟩ | ⟨hnb, rfl, hbe2⟩)
      · have hu := HU.out
        rw [if_neg (by omega)] at hu
        have hbe2 := hus2.be
        have HUS2 := hide (hus2.alloc (.cells #[.int .u64 (wordU t r)] 38))
        have HN1 := hide (new_one64 w2 (wordU t r))
        clear hus2 HUS1 HU hus
        by_cases hm2 : M ≤ o.length
        · rw [if_pos hm2] at hu
          have HU := hide hu
          clear hu
          go_wp2_with fail
          refine (lay_no w _ M _ vo o _ _ 1 1 HUS2.out (by omega) (by omega) (by omega)).mono ?_
          rintro e w3 ⟨rfl, nq, rfl⟩
          go_wp2_with fail
          go_ret2
          rw [← HU.out]
          exact ⟨below_drewN HUS2.out.be nq, none, 0, 0, rfl, rfl, by omega, Reads.none_⟩
        · rw [if_neg hm2] at hu
          have HU := hide hu
          clear hu
          go_wp2_with fail
          refine (lay_any w _ M _ vo o [wordU t r] _ _ 1 1 _ HUS2.out rfl HN1.out (by omega) (by omega) (by omega)).mono ?_
          rintro e w3 ⟨rfl, ⟨v3, hus3⟩, hb3⟩
          have hc3 := (hus3.be.cell (p := ⟨b1, o1, none⟩) hb1).trans hc1
          have HUS3 := hide hus3
          clear hus3 hc2
          go_wp2_with fail
          refine (more_any w _ M _ v3 _ _ t ht.1 ht.2 (HR.out.drop _) HUS3.out (by simp; omega)).mono ?_
          rintro e w4 (⟨rfl, bs', v', o', hus4, hmr, hub4, hbd4, hlen4⟩ | ⟨kk, hk, rfl, hmr, hbe4⟩)
          · have HU4 := hide (hmr.symm.trans HU.out)
            have HUS4 := hide hus4
            have HUB4 := hide hub4
            have HL4 := hide hus4.left
            have hld := List.length_drop (i := nb t 8) (l := r)
            rw [List.length_append, List.length_cons, List.length_nil] at hbd4
            clear hmr hus4 hub4
            go_wp2_with fail
            go_roundw
            case rel => exact ⟨bs', o', v', HUS4, HU4, HUB4, by omega⟩
            case measure =>
              rw [HL4.out, HLF.out]
              simp only [List.length_cons]
              omega
          · have HU4 := hide (hmr.symm.trans HU.out)
            clear hmr
            rcases hk with rfl | rfl
            all_goals
              go_wp2_with fail
              go_ret2
              rw [← HU4.out]
              exact ⟨hbe4, none, 0, 0, rfl, rfl, by omega, Reads.none_⟩
      · have hu := HU.out
        rw [if_pos hnb] at hu
        have HU2 := hide hu
        clear hu HU
        go_wp2_with fail
        go_ret2
        rw [← HU2.out]
        exact ⟨hbe2, none, 0, 0, rfl, rfl, by omega, Reads.none_⟩
end Go.Proofs.Ytfmdnglcmbgpcaa
