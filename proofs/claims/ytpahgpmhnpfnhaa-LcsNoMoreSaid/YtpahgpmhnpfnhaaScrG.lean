/-
  Normal of package script.
-/
import Derived.Test.YtpahgpmhnpfnhaaScrF
namespace Go.Proofs.Ytpahgpmhnpfnhaa
open Go.RowKit Go.Proofs.Ytpahgpmhnpfnhaa.Scr

theorem stp_keep (t : St) (b : Int) (h : okS (0, b) = true) : stp t (0, b) = ⟨(flK 2 (flK 1 t)).out, (flK 2 (flK 1 t)).K + b, 0, 0⟩ := by
  unfold stp
  rw [if_pos h]
  rfl
theorem stp_del (t : St) (b : Int) (h : okS (1, b) = true) : stp t (1, b) = ⟨(flK 0 t).out, 0, (flK 0 t).D + b, (flK 0 t).I⟩ := by
  unfold stp
  rw [if_pos h]
  rfl
theorem stp_ins (t : St) (b : Int) (h : okS (2, b) = true) : stp t (2, b) = ⟨(flK 0 t).out, 0, (flK 0 t).D, (flK 0 t).I + b⟩ := by
  unfold stp
  rw [if_pos h]
  rfl
theorem stp_no (t : St) (s : Step) (h : okS s = false) : stp t s = t := by
  unfold stp
  rw [h, if_neg (by decide)]
theorem fin_fl (t : St) : fin t = (flK 2 (flK 1 (flK 0 t))).out := rfl
theorem bd_tame {t : St} {n : Nat} (h : t.Bd n) (hn : n ≤ 300000) : Tame t ∧ t.out.length ≤ 1000000 := by
  obtain ⟨k0, d0, i0, le, _, len, _⟩ := h
  unfold Tame
  omega

set_option maxHeartbeats 4000000 in
theorem normal_any (A : Option Addr) (n c b0 : Nat) (l : List Step) (w : World) (hn : n = l.length) (hx : Reads w b0 A (stepCells l)) (hb0 : b0 ≤ w.heap.size) (hs : n ≤ 300000) :
    Calls Try.prog 21 #[.slice A n c] w (StepsPost 52 (nrm l) w) := by
  have HX := hide hx
  have HN := hide hn
  clear hx hn
  go_enter Try.func21, Try.ntmps21
  go_wp2_with fail
  go_loopw [11] (fun i wr => ∃ (q : Nat) (u : Value), q ≤ n ∧ i = .int .i64 q ∧ Hid (ScAt wr w.heap.size (w.heap.size + 1) w.heap.size (runS (l.take q)) u) ∧ Below w.heap.size w wr ∧ w.heap.size + 2 ≤ wr.heap.size) (fun i _ => n - (intOf i).toNat)
  case atStart =>
    refine ⟨0, .slice none 0 0, by omega, rfl, ⟨?_, (Blk.new w 24 #[.slice none 0 0]).alloc _, World.ownsRow_nil _ _ _ _⟩, ((Below.refl _ _).alloc (Nat.le_refl _) _).alloc (by simp) _, by simp⟩
    have := Blk.new (w.alloc (.cells #[.slice none 0 0] 24)) 38 #[.int .i64 0, .int .i64 0, .int .i64 0]
    show Blk _ _ _ #[.int .i64 0, .int .i64 0, .int .i64 0]
    simpa using this
  case round =>
    obtain ⟨q, u, hq, rfl, hsc, hbe, hsz⟩ := hrel
    by_cases hlt : q < n
    · have hl1 : q < l.length := by rw [← HN.out]; exact hlt
      obtain ⟨bx, ox, rfl, hbx, c0, c1⟩ := (HX.out.below hbe hb0).stepAt hl1
      have HST := hide (runS_take l q hl1)
      have hbd := bd_tame (runS_bd_take l q (by omega)) (by omega)
      have htm := hide hbd.1
      have hol := hbd.2
      clear hbd
      generalize l[q] = s at *
      generalize runS (l.take q) = t at *
      obtain ⟨s1, s2⟩ := s
      simp only at c0 c1
      go_wp2_with fail
      refine (right_any s1 s2 _).mono ?_
      rintro e w1 ⟨rfl, hb1⟩
      have hb1' : Below wr.heap.size wr w1 := ((Below.refl wr.heap.size wr).alloc (Nat.le_refl _) _).trans (hb1.mono (by simp))
      have hbe1 : Below w.heap.size w w1 := below_step hbe hb1'
      have d0 : w1.cell? ⟨wr.heap.size, 0, none⟩ = some (.int .i64 s1) := (hb1.cell (p := ⟨wr.heap.size, 0, none⟩) (by simp)).trans (by simp [go_sem])
      have d1 : w1.cell? ⟨wr.heap.size, 1, none⟩ = some (.int .i64 s2) := (hb1.cell (p := ⟨wr.heap.size, 1, none⟩) (by simp)).trans (by simp [go_sem])
      have hz1 := hb1'.size
      have hz2 : wr.heap.size < w1.heap.size := by have := hb1.size; simp at this; omega
      obtain ⟨hg, ho, hown⟩ := hsc.out
      have HS1 : Hid (ScAt w1 w.heap.size (w.heap.size + 1) w.heap.size t u) := ⟨hg.below hb1' hg.lt, ho.below hb1' ho.lt, ownsRow_below hown hb1'⟩
      have hrl : ∀ b ∈ (w.heap.size + 1) :: w.heap.size :: rowL u, w.heap.size ≤ b ∧ b < wr.heap.size := fun b hb => by
        simp only [List.mem_cons] at hb
        rcases hb with h | h | h
        · omega
        · omega
        · exact hown.lt b (by unfold rowL at h; split at h <;> simp_all)
      have HRL := hide hrl
      clear hg ho hown hrl
      cases hok : okS (s1, s2)
      · have HOK := hide (stp_no t _ hok)
        clear hok
        go_wp2_with fail
        go_roundw
        case rel => exact ⟨q + 1, u, by omega, by go_num, (by rw [HST.out, HOK.out]; exact HS1.out), hbe1, by omega⟩
        case measure => simp [intOf]; omega
      · have hb := (okS_iff _).1 hok
        simp only at hb
        rcases (show s1 = 0 ∨ s1 = 1 ∨ s1 = 2 by omega) with rfl | rfl | rfl
        · have HOK := hide (stp_keep t s2 hok)
          clear hok
          go_wp2_with fail
          have hA1 : Below w1.heap.size w1 (w1.alloc (.cells #[.int .i64 1, .int .i64 2] 3)) := (Below.refl _ _).alloc (Nat.le_refl _) _
          have hra : Reads (w1.alloc (.cells #[.int .i64 1, .int .i64 2] 3)) (w1.heap.size + 1) (some ⟨w1.heap.size, 0, none⟩) ([1, 2].map fun (k : Nat) => Value.int .i64 k) := Reads.of_lit (by omega) fun j u hu => by
            rw [Nat.zero_add, (Blk.new w1 _ _).cell]
            simpa using hu
          have HSA : Hid (ScAt (w1.alloc (.cells #[.int .i64 1, .int .i64 2] 3)) w.heap.size (w.heap.size + 1) w.heap.size t u) := ⟨HS1.out.1.alloc _, HS1.out.2.1.alloc _, HS1.out.2.2.alloc _⟩
          have hzA : w1.heap.size + 1 ≤ (w1.alloc (.cells #[.int .i64 1, .int .i64 2] 3)).heap.size := by simp
          have HRA := hide hra
          have hbeA := below_step hbe1 hA1
          have d0' := (hA1.cell (p := ⟨wr.heap.size, 0, none⟩) hz2).trans d0
          have d1' := (hA1.cell (p := ⟨wr.heap.size, 1, none⟩) hz2).trans d1
          clear hra d0 d1
          generalize (w1.alloc (.cells #[.int .i64 1, .int .i64 2] 3)) = wA at *
          refine (flush_any w.heap.size (w.heap.size + 1) w.heap.size (w1.heap.size + 1) t u [1, 2] (some ⟨w1.heap.size, 0, none⟩) 2 2 _ rfl (by omega) HRA.out (by decide) HSA.out (by omega) hzA (fun b oo h hb => by
            injection h with h
            injection h with h _
            have := (HRL.out b hb).2
            omega) (by omega) htm.out (by omega)).mono ?_
          rintro e w2 ⟨rfl, u2, hsc2, hon2, hu2⟩
          have hsc2' : ScAt w2 w.heap.size (w.heap.size + 1) w.heap.size (flK 2 (flK 1 t)) u2 := hsc2
          have hbe2 : Below w.heap.size w w2 := hbeA.trans (hon2.to_below (fun x hx => (HRL.out x hx).1) hbeA.size)
          have e0' := (hon2.cell (g := wr.heap.size) (o := 0) (by omega) (fun h => by have := (HRL.out _ h).2; omega)).trans d0'
          have e1' := (hon2.cell (g := wr.heap.size) (o := 1) (by omega) (fun h => by have := (HRL.out _ h).2; omega)).trans d1'
          have hz3 := hon2.size
          clear hsc2 hon2 hu2 d0' d1'
          have htm2 : Tame (flK 2 (flK 1 t)) := by
            have := htm.out
            unfold Tame at this
            simp only [Tame, flK]
            simp
            omega
          have HTM2 := hide htm2
          have HZ : Hid ((flK 2 (flK 1 t)).D = 0 ∧ (flK 2 (flK 1 t)).I = 0) := ⟨rfl, rfl⟩
          have hk2 : 0 ≤ (flK 2 (flK 1 t)).K ∧ (flK 2 (flK 1 t)).K ≤ 1099511627776 := htm2.1
          clear htm2
          generalize (flK 2 (flK 1 t)) = t2 at *
          obtain ⟨hg2, ho2, hown2⟩ := hsc2'
          have hrn := row_ne hown2 hg2 ho2 (by decide) (by decide)
          have e2' := hg2.cell 0
          have e3' := hg2.frozen 0
          simp at e2'
          have HG2 := hide hg2
          have HO2 := hide ho2
          have HOW2 := hide hown2
          have HRN := hide hrn
          clear hg2 ho2 hown2 hrn
          go_wp2_with fail
          go_region
          go_wp2_with fail
          go_roundw
          case rel =>
            refine ⟨q + 1, u2, by omega, by go_num, ?_, (hbe2.setCell (by simp) _).drew, by simp; omega⟩
            rw [HST.out, HOK.out]
            refine ⟨?_, (HO2.out.far (by simp) _).drew, ownsRow_far HOW2.out HRN.out.1 _⟩
            have := (HG2.out.set_ 0 (.int .i64 (t2.K + s2))).drew
            simpa [HZ.out.1, HZ.out.2] using this
          case measure => simp [intOf]; omega
        · have HOK := hide (stp_del t s2 hok)
          clear hok
          go_wp2_with fail
          have hA1 : Below w1.heap.size w1 (w1.alloc (.cells #[.int .i64 0] 3)) := (Below.refl _ _).alloc (Nat.le_refl _) _
          have hra : Reads (w1.alloc (.cells #[.int .i64 0] 3)) (w1.heap.size + 1) (some ⟨w1.heap.size, 0, none⟩) ([0].map fun (k : Nat) => Value.int .i64 k) := Reads.of_lit (by omega) fun j u hu => by
            rw [Nat.zero_add, (Blk.new w1 _ _).cell]
            simpa using hu
          have HSA : Hid (ScAt (w1.alloc (.cells #[.int .i64 0] 3)) w.heap.size (w.heap.size + 1) w.heap.size t u) := ⟨HS1.out.1.alloc _, HS1.out.2.1.alloc _, HS1.out.2.2.alloc _⟩
          have hzA : w1.heap.size + 1 ≤ (w1.alloc (.cells #[.int .i64 0] 3)).heap.size := by simp
          have HRA := hide hra
          have hbeA := below_step hbe1 hA1
          have d0' := (hA1.cell (p := ⟨wr.heap.size, 0, none⟩) hz2).trans d0
          have d1' := (hA1.cell (p := ⟨wr.heap.size, 1, none⟩) hz2).trans d1
          clear hra d0 d1
          generalize (w1.alloc (.cells #[.int .i64 0] 3)) = wA at *
          refine (flush_any w.heap.size (w.heap.size + 1) w.heap.size (w1.heap.size + 1) t u [0] (some ⟨w1.heap.size, 0, none⟩) 1 1 _ rfl (by omega) HRA.out (by decide) HSA.out (by omega) hzA (fun b oo h hb => by
            injection h with h
            injection h with h _
            have := (HRL.out b hb).2
            omega) (by omega) htm.out (by omega)).mono ?_
          rintro e w2 ⟨rfl, u2, hsc2, hon2, hu2⟩
          have hsc2' : ScAt w2 w.heap.size (w.heap.size + 1) w.heap.size (flK 0 t) u2 := hsc2
          have hbe2 : Below w.heap.size w w2 := hbeA.trans (hon2.to_below (fun x hx => (HRL.out x hx).1) hbeA.size)
          have e0' := (hon2.cell (g := wr.heap.size) (o := 0) (by omega) (fun h => by have := (HRL.out _ h).2; omega)).trans d0'
          have e1' := (hon2.cell (g := wr.heap.size) (o := 1) (by omega) (fun h => by have := (HRL.out _ h).2; omega)).trans d1'
          have hz3 := hon2.size
          clear hsc2 hon2 hu2 d0' d1'
          have htm2 : Tame (flK 0 t) := by
            have := htm.out
            unfold Tame at this
            simp only [Tame, flK]
            simp
            omega
          have HTM2 := hide htm2
          have HZ : Hid ((flK 0 t).K = 0 ∧ True) := ⟨rfl, trivial⟩
          have hk2 : 0 ≤ (flK 0 t).D ∧ (flK 0 t).D ≤ 1099511627776 := htm2.2.1
          clear htm2
          generalize (flK 0 t) = t2 at *
          obtain ⟨hg2, ho2, hown2⟩ := hsc2'
          have hrn := row_ne hown2 hg2 ho2 (by decide) (by decide)
          have e2' := hg2.cell 1
          have e3' := hg2.frozen 1
          simp at e2'
          have HG2 := hide hg2
          have HO2 := hide ho2
          have HOW2 := hide hown2
          have HRN := hide hrn
          clear hg2 ho2 hown2 hrn
          go_wp2_with fail
          go_region
          go_wp2_with fail
          go_roundw
          case rel =>
            refine ⟨q + 1, u2, by omega, by go_num, ?_, (hbe2.setCell (by simp) _).drew, by simp; omega⟩
            rw [HST.out, HOK.out]
            refine ⟨?_, (HO2.out.far (by simp) _).drew, ownsRow_far HOW2.out HRN.out.1 _⟩
            have := (HG2.out.set_ 1 (.int .i64 (t2.D + s2))).drew
            simpa [HZ.out.1] using this
          case measure => simp [intOf]; omega
        · have HOK := hide (stp_ins t s2 hok)
          clear hok
          go_wp2_with fail
          have hA1 : Below w1.heap.size w1 (w1.alloc (.cells #[.int .i64 0] 3)) := (Below.refl _ _).alloc (Nat.le_refl _) _
          have hra : Reads (w1.alloc (.cells #[.int .i64 0] 3)) (w1.heap.size + 1) (some ⟨w1.heap.size, 0, none⟩) ([0].map fun (k : Nat) => Value.int .i64 k) := Reads.of_lit (by omega) fun j u hu => by
            rw [Nat.zero_add, (Blk.new w1 _ _).cell]
            simpa using hu
          have HSA : Hid (ScAt (w1.alloc (.cells #[.int .i64 0] 3)) w.heap.size (w.heap.size + 1) w.heap.size t u) := ⟨HS1.out.1.alloc _, HS1.out.2.1.alloc _, HS1.out.2.2.alloc _⟩
          have hzA : w1.heap.size + 1 ≤ (w1.alloc (.cells #[.int .i64 0] 3)).heap.size := by simp
          have HRA := hide hra
          have hbeA := below_step hbe1 hA1
          have d0' := (hA1.cell (p := ⟨wr.heap.size, 0, none⟩) hz2).trans d0
          have d1' := (hA1.cell (p := ⟨wr.heap.size, 1, none⟩) hz2).trans d1
          clear hra d0 d1
          generalize (w1.alloc (.cells #[.int .i64 0] 3)) = wA at *
          refine (flush_any w.heap.size (w.heap.size + 1) w.heap.size (w1.heap.size + 1) t u [0] (some ⟨w1.heap.size, 0, none⟩) 1 1 _ rfl (by omega) HRA.out (by decide) HSA.out (by omega) hzA (fun b oo h hb => by
            injection h with h
            injection h with h _
            have := (HRL.out b hb).2
            omega) (by omega) htm.out (by omega)).mono ?_
          rintro e w2 ⟨rfl, u2, hsc2, hon2, hu2⟩
          have hsc2' : ScAt w2 w.heap.size (w.heap.size + 1) w.heap.size (flK 0 t) u2 := hsc2
          have hbe2 : Below w.heap.size w w2 := hbeA.trans (hon2.to_below (fun x hx => (HRL.out x hx).1) hbeA.size)
          have e0' := (hon2.cell (g := wr.heap.size) (o := 0) (by omega) (fun h => by have := (HRL.out _ h).2; omega)).trans d0'
          have e1' := (hon2.cell (g := wr.heap.size) (o := 1) (by omega) (fun h => by have := (HRL.out _ h).2; omega)).trans d1'
          have hz3 := hon2.size
          clear hsc2 hon2 hu2 d0' d1'
          have htm2 : Tame (flK 0 t) := by
            have := htm.out
            unfold Tame at this
            simp only [Tame, flK]
            simp
            omega
          have HTM2 := hide htm2
          have HZ : Hid ((flK 0 t).K = 0 ∧ True) := ⟨rfl, trivial⟩
          have hk2 : 0 ≤ (flK 0 t).I ∧ (flK 0 t).I ≤ 1099511627776 := htm2.2.2
          clear htm2
          generalize (flK 0 t) = t2 at *
          obtain ⟨hg2, ho2, hown2⟩ := hsc2'
          have hrn := row_ne hown2 hg2 ho2 (by decide) (by decide)
          have e2' := hg2.cell 2
          have e3' := hg2.frozen 2
          simp at e2'
          have HG2 := hide hg2
          have HO2 := hide ho2
          have HOW2 := hide hown2
          have HRN := hide hrn
          clear hg2 ho2 hown2 hrn
          go_wp2_with fail
          go_region
          go_wp2_with fail
          go_roundw
          case rel =>
            refine ⟨q + 1, u2, by omega, by go_num, ?_, (hbe2.setCell (by simp) _).drew, by simp; omega⟩
            rw [HST.out, HOK.out]
            refine ⟨?_, (HO2.out.far (by simp) _).drew, ownsRow_far HOW2.out HRN.out.1 _⟩
            have := (HG2.out.set_ 2 (.int .i64 (t2.I + s2))).drew
            simpa [HZ.out.1] using this
          case measure => simp [intOf]; omega
    · have hqe : q = n := by omega
      subst hqe
      rw [show l.take q = l from List.take_of_length_le (by rw [HN.out]; exact Nat.le_refl _)] at hsc
      have hbd := bd_tame (runS_bd l) (by rw [← HN.out]; exact hs)
      have HBD := hide hbd
      have HNR : Hid (nrm l = (flK 2 (flK 1 (flK 0 (runS l)))).out) := rfl
      clear hbd
      generalize runS l = t at *
      obtain ⟨hg, ho, hown⟩ := hsc.out
      have hrl : ∀ b ∈ (w.heap.size + 1) :: w.heap.size :: rowL u, w.heap.size ≤ b ∧ b < wr.heap.size := fun b hb => by
        simp only [List.mem_cons] at hb
        rcases hb with h | h | h
        · omega
        · omega
        · exact hown.lt b (by unfold rowL at h; split at h <;> simp_all)
      have HRL := hide hrl
      clear hrl hg ho hown
      go_wp2_with fail
      have hA1 : Below wr.heap.size wr (wr.alloc (.cells #[.int .i64 0, .int .i64 1, .int .i64 2] 3)) := (Below.refl _ _).alloc (Nat.le_refl _) _
      have hra : Reads (wr.alloc (.cells #[.int .i64 0, .int .i64 1, .int .i64 2] 3)) (wr.heap.size + 1) (some ⟨wr.heap.size, 0, none⟩) ([0, 1, 2].map fun (k : Nat) => Value.int .i64 k) := Reads.of_lit (by omega) fun j u hu => by
        rw [Nat.zero_add, (Blk.new wr _ _).cell]
        simpa using hu
      have HSA : Hid (ScAt (wr.alloc (.cells #[.int .i64 0, .int .i64 1, .int .i64 2] 3)) w.heap.size (w.heap.size + 1) w.heap.size t u) := ⟨hsc.out.1.alloc _, hsc.out.2.1.alloc _, hsc.out.2.2.alloc _⟩
      have hzA : wr.heap.size + 1 ≤ (wr.alloc (.cells #[.int .i64 0, .int .i64 1, .int .i64 2] 3)).heap.size := by simp
      have HRA := hide hra
      have hbeA := below_step hbe hA1
      clear hra
      generalize (wr.alloc (.cells #[.int .i64 0, .int .i64 1, .int .i64 2] 3)) = wA at *
      refine (flush_any w.heap.size (w.heap.size + 1) w.heap.size (wr.heap.size + 1) t u [0, 1, 2] (some ⟨wr.heap.size, 0, none⟩) 3 3 _ rfl (by omega) HRA.out (by decide) HSA.out (by omega) hzA (fun b oo h hb => by
        injection h with h
        injection h with h _
        have := (HRL.out b hb).2
        omega) (by omega) HBD.out.1 (by have := HBD.out.2; omega)).mono ?_
      rintro e w2 ⟨rfl, u2, hsc2, hon2, hu2⟩
      have hbe2 : Below w.heap.size w w2 := hbeA.trans (hon2.to_below (fun x hx => (HRL.out x hx).1) hbeA.size)
      have hsc2' : ScAt w2 w.heap.size (w.heap.size + 1) w.heap.size (flK 2 (flK 1 (flK 0 t))) u2 := hsc2
      have c0 := hsc2'.2.1.cell 0
      simp at c0
      have HF := hide hsc2'.2.2
      clear hsc2 hsc2' hon2 hu2
      go_wp2_with fail
      go_ret
      refine ⟨hbe2, u2, rfl, ?_⟩
      rw [HNR.out]
      exact HF.out
end Go.Proofs.Ytpahgpmhnpfnhaa
