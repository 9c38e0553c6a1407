/-
  row and turned of package lcs: a block of numbers of the call's own.
-/
import Derived.Test.YtpahgpmhnpfnhaaOnly
import Derived.Test.YtpahgpmhnpfnhaaLcsB
namespace Go.Proofs.Ytpahgpmhnpfnhaa
open Go.RowKit Go.Proofs.Ytpahgpmhnpfnhaa.Lcs

theorem infoInt : (Try.prog.info? 3).map (fun i => (i.zero, i.size, i.bytes)) = some (some (.int .i64 0), 1, 8) := by kernel_rfl
/-- a block of numbers -/
def IBlk (w : World) (g : Nat) (xs : List Int) : Prop := Blk w g 3 (xs.map (Value.int .i64)).toArray
section
variable {w w' : World} {g : Nat} {xs : List Int}
theorem IBlk.lt (h : IBlk w g xs) : g < w.heap.size := Blk.lt h
theorem IBlk.cell (h : IBlk w g xs) {i : Nat} (hi : i < xs.length) : w.cell? ⟨g, i, none⟩ = some (.int .i64 xs[i]) := by
  rw [Blk.cell h]
  simp [hi]
theorem IBlk.frozen (h : IBlk w g xs) (i : Nat) : w.frozen? ⟨g, i, none⟩ = false := Blk.frozen h i
theorem IBlk.set_ (h : IBlk w g xs) (i : Nat) (x : Int) : IBlk (w.setCell ⟨g, i, none⟩ (.int .i64 x)) g (xs.set i x) := by
  have := Blk.set_ h i (.int .i64 x)
  unfold IBlk
  have e : ((xs.set i x).map (Value.int .i64)).toArray = ((xs.map (Value.int .i64)).toArray.setIfInBounds i (.int .i64 x)) := by
    rw [List.map_set]
    simp
  rw [e]
  exact this
theorem IBlk.far (h : IBlk w g xs) {p : Addr} (hp : g ≠ p.block) (u : Value) : IBlk (w.setCell p u) g xs := Blk.far h hp u
theorem IBlk.below {B : Nat} (h : IBlk w g xs) (hb : Below B w w') (hg : g < B) : IBlk w' g xs := Blk.below h hb hg
theorem IBlk.step (h : IBlk w g xs) (hb : Below w.heap.size w w') : IBlk w' g xs := Blk.below h hb (Blk.lt h)
theorem IBlk.drew (h : IBlk w g xs) : IBlk w.drew g xs := h
theorem IBlk.drewN (h : IBlk w g xs) (n : Nat) : IBlk (w.drewN n) g xs := h
theorem IBlk.reads (h : IBlk w g xs) : Reads w w.heap.size (some ⟨g, 0, none⟩) (xs.map (Value.int .i64)) := Reads.of_lit h.lt fun j u hu => by
  rw [Nat.zero_add, Blk.cell h]
  simpa using hu
theorem IBlk.made (w : World) (m : Nat) : IBlk (w.alloc (.cells (madeCells #[.int .i64 0] m) 3)) w.heap.size (List.replicate m 0) := by
  have e : (madeCells #[.int .i64 0] m) = ((List.replicate m (0 : Int)).map (Value.int .i64)).toArray := by
    apply Array.ext
    · simp [madeCells]
    · intro i h1 h2
      simp [madeCells, Nat.mod_one]
  rw [e]
  exact Blk.new w _ _
end

def rowV (M : Nat → Nat → Bool) (m i : Nat) : List Int := (List.range (m + 1)).map fun j => ((C M i j : Nat) : Int)
def mixV (M : Nat → Nat → Bool) (m i j : Nat) : List Int := (List.range (m + 1)).map fun t => (((if t ≤ j then C M (i + 1) t else C M i t) : Nat) : Int)
theorem rowV_len (M : Nat → Nat → Bool) (m i : Nat) : (rowV M m i).length = m + 1 := by simp [rowV]
theorem mixV_len (M : Nat → Nat → Bool) (m i j : Nat) : (mixV M m i j).length = m + 1 := by simp [mixV]
theorem rowV_0 (M : Nat → Nat → Bool) (m : Nat) : rowV M m 0 = List.replicate (m + 1) 0 := by
  apply List.ext_getElem
  · simp [rowV]
  · intro i h1 h2
    simp [rowV, C_z]
theorem mixV_0 (M : Nat → Nat → Bool) (m i : Nat) : mixV M m i 0 = rowV M m i := by
  apply List.ext_getElem
  · simp [rowV, mixV]
  · intro t h1 h2
    simp only [mixV, rowV, List.getElem_map, List.getElem_range]
    by_cases h : t ≤ 0
    · have : t = 0 := by omega
      subst this
      rw [if_pos h, C_i0, C_i0]
    · rw [if_neg h]
theorem mixV_m (M : Nat → Nat → Bool) (m i : Nat) : mixV M m i m = rowV M m (i + 1) := by
  apply List.ext_getElem
  · simp [rowV, mixV]
  · intro t h1 h2
    simp only [mixV, rowV, List.getElem_map, List.getElem_range]
    rw [mixV_len] at h1
    rw [if_pos (by omega)]
theorem mixV_at (M : Nat → Nat → Bool) (m i j t : Nat) (ht : t < (mixV M m i j).length) : (mixV M m i j)[t] = (((if t ≤ j then C M (i + 1) t else C M i t) : Nat) : Int) := by
  simp [mixV]
theorem mixV_set (M : Nat → Nat → Bool) (m i j : Nat) : (mixV M m i j).set (j + 1) ((C M (i + 1) (j + 1) : Nat) : Int) = mixV M m i (j + 1) := by
  apply List.ext_getElem
  · simp [mixV]
  · intro t h1 h2
    rw [List.getElem_set]
    by_cases h : j + 1 = t
    · subst h
      rw [if_pos rfl, mixV_at, if_pos (Nat.le_refl _)]
    · rw [if_neg h, mixV_at, mixV_at]
      by_cases h3 : t ≤ j
      · rw [if_pos h3, if_pos (by omega)]
      · rw [if_neg h3, if_neg (by omega)]
theorem mt_in (a b : List Int) (i j : Nat) (hi : i < a.length) (hj : j < b.length) : mt a b i j = (a.getD i 0 == b.getD j 0) := by
  unfold Lcs.mt
  simp [hi, hj]
theorem Reads.intGet {w : World} {B : Nat} {A : Option Addr} {ys : List Int} (h : Reads w B A (ys.map (Value.int .i64))) {k : Nat} (hk : k < ys.length) : ∃ b o, A = some ⟨b, o, none⟩ ∧ b < B ∧ w.cell? ⟨b, o + k, none⟩ = some (.int .i64 (ys.getD k 0)) := by
  obtain ⟨b, o, e, hb, hc⟩ := h.intAt hk
  refine ⟨b, o, e, hb, ?_⟩
  rw [hc, List.getD_eq_getElem?_getD, List.getElem?_eq_getElem hk]
  rfl

set_option maxHeartbeats 4000000 in
theorem row_any (A : Option Addr) (n c : Nat) (a : List Int) (B : Option Addr) (m d : Nat) (b : List Int) (b0 : Nat) (w : World) (hn : n = a.length) (hm : m = b.length)
    (ha : Reads w b0 A (a.map (Value.int .i64))) (hb : Reads w b0 B (b.map (Value.int .i64))) (hb0 : b0 ≤ w.heap.size) (hnl : n ≤ 100000) (hml : m ≤ 100000) :
    Calls Try.prog 26 #[.slice A n c, .slice B m d] w fun e w' => ∃ g, e = .returned (.slice (some ⟨g, 0, none⟩) (m + 1) (m + 1)) ∧ w.heap.size ≤ g ∧ IBlk w' g (rowV (mt a b) m n) ∧ Below w.heap.size w w' := by
  obtain ⟨i0, hi, hz0, hz1, hz2⟩ := info_parts infoInt
  have HA := hide ha
  have HB := hide hb
  have HN := hide hn
  have HM := hide hm
  clear ha hb hn hm
  have hmk : ∀ W : World, (Instr.makeSlice 22 (.int .i64 ((m : Int) + 1)) (.int .i64 ((m : Int) + 1))).run Try.prog W = .ok (.slice (some ⟨W.heap.size, 0, none⟩) (m + 1) (m + 1)) (W.alloc (.cells (madeCells #[.int .i64 0] (m + 1)) 3)) := fun W => by
    have h := run_make (P := Try.prog) W 22 3 i0 (.int .i64 0) Try.underlying22 hi hz0 .i64 .i64 ((m : Int) + 1) ((m : Int) + 1) (by omega) (by omega) (by rw [hz2]; omega) (by omega)
    have e : ((m : Int) + 1).toNat = m + 1 := by omega
    rw [e] at h
    simpa [hz1, Value.cells] using h
  go_enter Try.func26, Try.ntmps26
  go_wp2_with fail
  go_loopw [18] (fun i wr => ∃ q : Nat, q ≤ n ∧ i = .int .i64 q ∧ Hid (IBlk wr w.heap.size (rowV (mt a b) m q)) ∧ Below w.heap.size w wr) (fun i _ => n - (intOf i).toNat)
  case atStart =>
    refine ⟨0, by omega, rfl, ?_, (Below.refl _ _).alloc (Nat.le_refl _) _⟩
    show IBlk _ _ _
    rw [rowV_0]
    exact IBlk.made w (m + 1)
  case round =>
    obtain ⟨q, hq, rfl, hblk, hbe⟩ := hrel
    by_cases hlt : q < n
    · obtain ⟨bx, ox, rfl, hbx, c0⟩ := (HA.out.below hbe hb0).intGet (k := q) (by rw [← HN.out]; exact hlt)
      have HMT : Hid (∀ j, j < m → mt a b q j = (a.getD q 0 == b.getD j 0)) := fun j hj => mt_in a b q j (by rw [← HN.out]; exact hlt) (by rw [← HM.out]; exact hj)
      have HB1 : Hid (IBlk wr w.heap.size (mixV (mt a b) m q 0)) := by show IBlk _ _ _; rw [mixV_0]; exact hblk.out
      clear hblk
      generalize hM : mt a b = M at *
      generalize a.getD q 0 = x at *
      have HMM := hide hM
      clear hM
      go_wp2_with fail
      obtain ⟨wo, rfl⟩ : ∃ wo : World, wo = wr := ⟨_, rfl⟩
      go_loopw [8, 24] (fun bf j wr => ∃ p : Nat, p ≤ m ∧ j = .int .i64 p ∧ bf = .int .i64 (C M q p : Nat) ∧ Hid (IBlk wr w.heap.size (mixV M m q p)) ∧ Below w.heap.size w wr) (fun _ j _ => m - (intOf j).toNat)
      case atStart => exact ⟨0, by omega, rfl, by rw [C_i0]; rfl, HB1, hbe⟩
      case round =>
        obtain ⟨p, hp, rfl, rfl, hblk, hbe⟩ := hrel
        by_cases hlt2 : p < m
        · obtain ⟨by1, oy1, rfl, hby1, c1⟩ := (HB.out.below hbe hb0).intGet (k := p) (by rw [← HM.out]; exact hlt2)
          have hmt := HMT.out p hlt2
          have d0 := hblk.out.cell (i := p) (by rw [mixV_len]; omega)
          have d1 := hblk.out.cell (i := p + 1) (by rw [mixV_len]; omega)
          rw [mixV_at, if_pos (Nat.le_refl _)] at d0
          rw [mixV_at, if_neg (by omega)] at d1
          have d2 := hblk.out.frozen (p + 1)
          have l1 := lip_h M q p
          have l2 := lip_v M q p
          have HSET := hide (mixV_set M m q p)
          have k1 := C_le_i M q p
          have k2 := C_le_i M q (p + 1)
          have k3 := C_le_i M (q + 1) p
          generalize b.getD p 0 = y at *
          by_cases hxy : x = y
          · subst hxy
            have hh : M q p = true := by rw [hmt]; simp
            have HFIN : Hid ((((mixV M m q p).set (p + 1) (((C M q p : Nat) : Int) + 1)).set (p + 1) (((C M q p : Nat) : Int) + 1)) = mixV M m q (p + 1)) := by
              show _ = _
              rw [List.set_set, ← HSET.out, C_hit M hh]
              rfl
            have HS1 := hide (hblk.out.set_ (p + 1) (((C M q p : Nat) : Int) + 1))
            have hb1 : Below w.heap.size w (wr.setCell ⟨w.heap.size, p + 1, none⟩ (.int .i64 (((C M q p : Nat) : Int) + 1))) := hbe.setCell (by simp) _
            have e0 : (wr.setCell ⟨w.heap.size, p + 1, none⟩ (.int .i64 (((C M q p : Nat) : Int) + 1))).cell? ⟨w.heap.size, p, none⟩ = some (.int .i64 ((C M (q + 1) p : Nat) : Int)) := by
              rw [HS1.out.cell (i := p) (by rw [List.length_set, mixV_len]; omega), List.getElem_set_ne (by omega), mixV_at, if_pos (Nat.le_refl _)]
            have e1 : (wr.setCell ⟨w.heap.size, p + 1, none⟩ (.int .i64 (((C M q p : Nat) : Int) + 1))).cell? ⟨w.heap.size, p + 1, none⟩ = some (.int .i64 (((C M q p : Nat) : Int) + 1)) := by
              rw [HS1.out.cell (i := p + 1) (by rw [List.length_set, mixV_len]; omega), List.getElem_set_self]
            have e2 := HS1.out.frozen (p + 1)
            clear hmt hh
            generalize C M q p = u at *
            generalize hv : C M q (p + 1) = v at *
            generalize C M (q + 1) p = t at *
            have HVV := hide hv
            clear hv
            go_wp2_with fail
            generalize (wr.setCell ⟨w.heap.size, p + 1, none⟩ (.int .i64 ((u : Int) + 1))) = w2 at *
            go_region
            go_wp2_with fail
            go_roundw
            case rel =>
              refine ⟨p + 1, by omega, by go_num, by rw [HVV.out], ?_, (hb1.setCell (by simp) _).drew⟩
              show IBlk _ _ _
              rw [← HFIN.out]
              exact (HS1.out.set_ (p + 1) ((u : Int) + 1)).drew
            case measure => simp [intOf]; omega
          · have hh : M q p = false := by rw [hmt]; simpa using hxy
            have hxb : (x == y) = false := by simpa using hxy
            have HC := hide (C_miss M hh)
            clear hmt hh
            generalize C M q p = u at *
            generalize hv : C M q (p + 1) = v at *
            generalize C M (q + 1) p = t at *
            have HVV := hide hv
            clear hv
            have e2 := hblk.out.frozen (p + 1)
            by_cases hvt : v < t
            · have HFIN : Hid ((mixV M m q p).set (p + 1) (t : Int) = mixV M m q (p + 1)) := by
                show _ = _
                rw [← HSET.out, HC.out, Nat.max_eq_right (by omega)]
              go_wp2_with fail
              go_region
              go_wp2_with fail
              go_roundw
              case rel =>
                refine ⟨p + 1, by omega, by go_num, by rw [HVV.out], ?_, (hbe.setCell (by simp) _).drew⟩
                show IBlk _ _ _
                rw [← HFIN.out]
                exact (hblk.out.set_ (p + 1) (t : Int)).drew
              case measure => simp [intOf]; omega
            · have HFIN : Hid ((mixV M m q p).set (p + 1) (v : Int) = mixV M m q (p + 1)) := by
                show _ = _
                rw [← HSET.out, HC.out, Nat.max_eq_left (by omega)]
              go_wp2_with fail
              go_region
              go_wp2_with fail
              go_roundw
              case rel =>
                refine ⟨p + 1, by omega, by go_num, by rw [HVV.out], ?_, (hbe.setCell (by simp) _).drew⟩
                show IBlk _ _ _
                rw [← HFIN.out]
                exact (hblk.out.set_ (p + 1) (v : Int)).drew
              case measure => simp [intOf]; omega
        · have hpe : p = m := by omega
          subst hpe
          go_wp2_with fail
          go_roundw
          case rel =>
            refine ⟨q + 1, by omega, by go_num, ?_, hbe⟩
            show IBlk _ _ _
            rw [← mixV_m]
            exact hblk.out
          case measure => simp [intOf]; omega
    · have hqe : q = n := by omega
      subst hqe
      go_wp2_with fail
      go_ret
      exact ⟨_, rfl, Nat.le_refl _, hblk.out, hbe⟩
end Go.Proofs.Ytpahgpmhnpfnhaa
