/-
  Table and Common of the reference.
-/
import Derived.Test.YtpahgpmhnpfnhaaLcsI
namespace Go.Proofs.Ytpahgpmhnpfnhaa
open Go.RowKit Go.Proofs.Ytpahgpmhnpfnhaa.Lcs

theorem row_ne1 {w : World} {base : Nat} {e t1 : TypeId} {size n : Nat} {v : Value} {xs : List Value} {g : Nat} {c1 : Array Value} (h : w.ownsRow base e size v n xs) (hg : Blk w g t1 c1) (h1 : e ≠ t1) : v.ownBlock ≠ some g := (row_ne h hg hg h1 h1).1

/-- a table whose last row is being filled -/
structure TabIn (w : World) (base : Nat) (v : Value) (M : Nat → Nat → Bool) (m K p : Nat) (gs : List Nat) (gk : Nat) : Prop where
  len : gs.length = K
  own : w.ownsRow base 22 1 v (K + 1) ((gs ++ [gk]).map (slc m))
  rows : ∀ i (h : i < gs.length), IBlk w gs[i] (rowV M m i)
  last : IBlk w gk (pV M m K p)
  lt : ∀ x ∈ gs, base ≤ x ∧ x < gk
  lo : base ≤ gk
theorem TabIn.done {w : World} {base : Nat} {v : Value} {M : Nat → Nat → Bool} {m K p : Nat} {gs : List Nat} {gk : Nat} (h : TabIn w base v M m K p gs gk) (hp : pV M m K p = rowV M m K) : TabAt w base v M m (K + 1) (gs ++ [gk]) := by
  refine ⟨by rw [List.length_append, h.len]; rfl, h.own, fun i hi => ?_, fun x hx => ?_⟩
  · by_cases e : i < gs.length
    · rw [List.getElem_append_left e]
      exact h.rows i e
    · rw [List.length_append] at hi
      have hl := h.len
      have : i = K := by simp at hi; omega
      subst this
      rw [List.getElem_append_right (by omega)]
      simp only [hl, Nat.sub_self, List.getElem_cons_zero]
      rw [← hp]
      exact h.last
  · rcases List.mem_append.1 hx with hx | hx
    · exact (h.lt x hx).1
    · rw [List.mem_singleton.1 hx]; exact h.lo
theorem TabIn.store {w : World} {base : Nat} {v : Value} {M : Nat → Nat → Bool} {m K p : Nat} {gs : List Nat} {gk : Nat} (h : TabIn w base v M m K p gs gk) :
    TabIn (w.setCell ⟨gk, p + 1, none⟩ (.int .i64 ((C M K (p + 1) : Nat) : Int))) base v M m K (p + 1) gs gk := by
  have hne := row_ne1 h.own h.last (by decide)
  refine ⟨h.len, ownsRow_far h.own hne _, fun i hi => (h.rows i hi).far ?_ _, ?_, h.lt, h.lo⟩
  · have := (h.lt _ (List.getElem_mem hi)).2
    show gs[i] ≠ gk
    omega
  · rw [← pV_set]
    exact h.last.set_ (p + 1) _
theorem TabIn.drewN {w : World} {base : Nat} {v : Value} {M : Nat → Nat → Bool} {m K p : Nat} {gs : List Nat} {gk : Nat} (h : TabIn w base v M m K p gs gk) (k : Nat) : TabIn (w.drewN k) base v M m K p gs gk := ⟨h.len, h.own, h.rows, h.last, h.lt, h.lo⟩
theorem TabIn.at_ {w : World} {base : Nat} {v : Value} {M : Nat → Nat → Bool} {m K p : Nat} {gs : List Nat} {gk : Nat} (h : TabIn w base v M m K p gs gk) : ∃ r cap, v = .slice (some ⟨r, 0, none⟩) (K + 1) cap ∧ w.cell? ⟨r, K, none⟩ = some (slc m gk) ∧
    (0 < K → ∃ g, w.cell? ⟨r, K - 1, none⟩ = some (slc m g) ∧ IBlk w g (rowV M m (K - 1))) := by
  have ho := h.own
  have hl := h.len
  rcases ho.2 with ⟨_, h0⟩ | ⟨r, cap, cur, rfl, hbr, hgg, _⟩
  · omega
  · refine ⟨r, cap, rfl, ?_, fun hK => ?_⟩
    · have := ho.cells (g := r) rfl K (slc m gk) (by rw [List.map_append, List.getElem?_append_right (by simp [hl])]; simp [hl])
      rw [add_lit, Nat.zero_add] at this
      exact this
    · have hi : K - 1 < gs.length := by omega
      refine ⟨gs[K - 1], ?_, h.rows (K - 1) hi⟩
      have := ho.cells (g := r) rfl (K - 1) (slc m gs[K - 1]) (by rw [List.map_append, List.getElem?_append_left (by simpa using hi)]; simp [hi])
      rw [add_lit, Nat.zero_add] at this
      exact this
theorem TabIn.at' {w : World} {base r cap : Nat} {M : Nat → Nat → Bool} {m K p : Nat} {gs : List Nat} {gk : Nat} (h : TabIn w base (.slice (some ⟨r, 0, none⟩) (K + 1) cap) M m K p gs gk) : w.cell? ⟨r, K, none⟩ = some (slc m gk) ∧
    (0 < K → ∃ g, w.cell? ⟨r, K - 1, none⟩ = some (slc m g) ∧ IBlk w g (rowV M m (K - 1))) := by
  obtain ⟨r', cap', hv, h1, h2⟩ := h.at_
  injection hv with hv
  injection hv with hv
  injection hv with hv _ _
  subst hv
  exact ⟨h1, h2⟩
def TabPost (M : Nat → Nat → Bool) (m k : Nat) (w : World) (e : Ending) (w' : World) : Prop := ∃ v gs, e = .returned v ∧ TabAt w' w.heap.size v M m k gs ∧ Below w.heap.size w w'

set_option maxRecDepth 100000 in
set_option maxHeartbeats 8000000 in
theorem table_any (A : Option Addr) (n c : Nat) (a : List Int) (B : Option Addr) (m d : Nat) (b : List Int) (b0 : Nat) (w : World) (hn : n = a.length) (hm : m = b.length)
    (ha : Reads w b0 A (a.map (Value.int .i64))) (hb : Reads w b0 B (b.map (Value.int .i64))) (hb0 : b0 ≤ w.heap.size) (hnl : n ≤ 100000) (hml : m ≤ 100000) :
    Calls Try.prog 24 #[.slice A n c, .slice B m d] w (TabPost (Lcs.mt a b) m (n + 1) w) := by
  obtain ⟨i0, hi, hz0, hz1, hz2⟩ := info_parts infoInt
  obtain ⟨j0, hj, hy0, hy1, hy2⟩ := info_parts infoInts
  have HA := hide ha
  have HB := hide hb
  have HN := hide hn
  have HM := hide hm
  have HMT : Hid (∀ i j, i < n → j < m → Lcs.mt a b i j = (a.getD i 0 == b.getD j 0)) := fun i j hi hj => mt_in a b i j (by omega) (by omega)
  clear ha hb hn hm
  generalize Lcs.mt a b = M at *
  have hmk : ∀ W : World, (Instr.makeSlice 22 (.int .i64 ((m : Int) + 1)) (.int .i64 ((m : Int) + 1))).run Try.prog W = .ok (.slice (some ⟨W.heap.size, 0, none⟩) (m + 1) (m + 1)) (W.alloc (.cells (madeCells #[.int .i64 0] (m + 1)) 3)) := fun W => by
    have h := run_make (P := Try.prog) W 22 3 i0 (.int .i64 0) Try.underlying22 hi hz0 .i64 .i64 ((m : Int) + 1) ((m : Int) + 1) (by omega) (by omega) (by rw [hz2]; omega) (by omega)
    have e : ((m : Int) + 1).toNat = m + 1 := by omega
    rw [e] at h
    simpa [hz1, Value.cells] using h
  clear hi hz0 hz1 hz2
  go_enter Try.func24, Try.ntmps24
  go_wp2_with fail
  go_loopw [5, 6] (fun v i wr => ∃ (k : Nat) (gs : List Nat), k ≤ n + 1 ∧ i = .int .i64 k ∧ Hid (TabAt wr w.heap.size v M m k gs) ∧ Below w.heap.size w wr) (fun _ i _ => n + 1 - (intOf i).toNat)
  case atStart => exact ⟨0, [], by omega, rfl, ⟨rfl, World.ownsRow_nil _ _ _ _, fun i h => by simp at h, fun x h => by simp at h⟩, Below.refl _ _⟩
  case round =>
    obtain ⟨k, gs, hk, rfl, htab, hbe⟩ := hrel
    by_cases hlt : k ≤ n
    · have hown := htab.out.own
      have HNEW : Hid (∀ j u, ([slc m wr.heap.size])[j]? = some u → ∃ ad, some (⟨wr.heap.size + 1, 0, none⟩ : Addr) = some ad ∧ ((wr.alloc (.cells (madeCells #[.int .i64 0] (m + 1)) 3)).alloc (.cells #[.slice (some ⟨wr.heap.size, 0, none⟩) (m + 1) (m + 1)] 22)).cell? (ad.add j) = some u) := fun j u hu => by
        refine ⟨_, rfl, ?_⟩
        have hB := Blk.new (wr.alloc (.cells (madeCells #[.int .i64 0] (m + 1)) 3)) 22 #[.slice (some ⟨wr.heap.size, 0, none⟩) (m + 1) (m + 1)]
        rw [show (wr.alloc (.cells (madeCells #[.int .i64 0] (m + 1)) 3)).heap.size = wr.heap.size + 1 from by simp] at hB
        rw [add_lit, Nat.zero_add, hB.cell]
        simpa [slc] using hu
      go_wp2_with (at_builtin; refine wpList_append_any _ rfl (.tmp 15) (.tmp 20) _ rfl w.heap.size 22 j0 _ 1 24 Try.underlying53 hj hy0 hy1 hy2 rfl (by decide) _ k _ rfl ((hown.alloc _).alloc _) (some ⟨wr.heap.size + 1, 0, none⟩) 1 1 [slc m wr.heap.size] rfl rfl HNEW.out (by simp [Value.oneCell', slc]) (by unfold maxLen; omega) (by omega) (by have := hbe.size; simp; omega) ?_; intro v1 w2 hown2 hg2 hat2)
      have HIN : Hid (TabIn w2 w.heap.size v1 M m k 0 gs wr.heap.size) := by
        have hg2' : ((wr.alloc (.cells (madeCells #[.int .i64 0] (m + 1)) 3)).alloc (.cells #[.slice (some ⟨wr.heap.size, 0, none⟩) (m + 1) (m + 1)] 22)).grownBy w2 u5.ownBlock := hg2
        refine ⟨htab.out.len, ?_, fun i hi => ?_, ?_, fun x hx => ⟨htab.out.lo x hx, ?_⟩, hbe.size⟩
        · rw [List.map_append]
          exact hown2
        · have h1 := htab.out.rows i hi
          exact Blk.grown ((Blk.alloc h1 _).alloc _) hg2' (fun e => row_ne1 hown h1 (by decide) e.symm)
        · rw [pV_0]
          refine Blk.grown (Blk.alloc (IBlk.made wr (m + 1)) _) hg2' (fun e => ?_)
          have := (hown.lt _ e.symm).2
          omega
        · obtain ⟨i, hi, rfl⟩ := List.mem_iff_getElem.1 hx
          exact (htab.out.rows i hi).lt
      have hbe2 : Below w.heap.size w w2 := ((hbe.alloc hbe.size _).alloc (by have := hbe.size; simp; omega) _).grown hg2 (by have := hbe.size; simp; omega) (fun b hb => (hown.lt b hb).1)
      clear hown hown2 hg2 hat2 htab HNEW
      obtain ⟨gk, hgk⟩ : ∃ gk, gk = wr.heap.size := ⟨_, rfl⟩
      rw [← hgk] at HIN
      clear hgk
      obtain ⟨r, cap, rfl⟩ : ∃ r cap, v1 = .slice (some ⟨r, 0, none⟩) (k + 1) cap := by
        obtain ⟨r, cap, h, _⟩ := HIN.out.at_
        exact ⟨r, cap, h⟩
      by_cases hk0 : k = 0
      · have hd : decide (0 < k) = false := by simp; omega
        have hz : pV M m k 0 = rowV M m k := by
          subst hk0
          apply List.ext_getElem
          · simp [pV, rowV]
          · intro t h1 h2
            rw [pV_at, rowV_get, C_z]
            simp
        have HD := hide (HIN.out.done hz)
        clear hz hk0
        have hc1 : (1 : Int) ≤ (m : Int) ∨ (m : Int) < 1 := by omega
        go_wp2_with fail
        go_loopw [7] (fun j wr' => j = .int .i64 1 ∧ wr' = w2) (fun _ _ => 1)
        case atStart => exact ⟨rfl, rfl⟩
        case round =>
          obtain ⟨rfl, rfl⟩ := hrel
          rcases hc1 with hc1 | hc1
          · go_wp2_with fail
            go_roundw
            case rel => exact ⟨k + 1, _, by omega, by go_num, HD.out, hbe2⟩
            case measure => simp [intOf]; omega
          · have hd3 : decide ((1 : Int) ≤ (m : Int)) = false := by simp; omega
            go_wp2_with fail
            go_roundw
            case rel => exact ⟨k + 1, _, by omega, by go_num, HD.out, hbe2⟩
            case measure => simp [intOf]; omega
      · have hk1 : (0 : Int) < (k : Int) := by omega
        have hkp : 0 < k := by omega
        have hkn : (k : Int) ≤ (n : Int) := by omega
        clear hk0
        have HHH : Hid (∀ p, M (k - 1) p = true → C M k (p + 1) = C M (k - 1) p + 1) := fun p h => by
          have := C_hit M h
          rwa [show k - 1 + 1 = k from by omega] at this
        have HMM : Hid (∀ p, M (k - 1) p = false → C M k (p + 1) = max (C M (k - 1) (p + 1)) (C M k p)) := fun p h => by
          have := C_miss M h
          rwa [show k - 1 + 1 = k from by omega] at this
        have i1 : ((k : Int) - 1).toNat = k - 1 := by omega
        have i2 : (0 : Int) ≤ (k : Int) - 1 := by omega
        have i3 : (k : Int) - 1 < (k : Int) + 1 := by omega
        have i4 : (k : Int) < (k : Int) + 1 := by omega
        have i5 : (k : Int) - 1 < (n : Int) := by omega
        go_wp2_with fail
        go_loopw [7] (fun j wr => ∃ p : Nat, p ≤ m ∧ j = .int .i64 ((p : Int) + 1) ∧ Hid (TabIn wr w.heap.size (.slice (some ⟨r, 0, none⟩) (k + 1) cap) M m k p gs gk) ∧ Below w.heap.size w wr) (fun j _ => m + 1 - (intOf j).toNat)
        case atStart => exact ⟨0, by omega, by go_num, HIN, hbe2⟩
        case round =>
          obtain ⟨p, hp, rfl, hin, hbe⟩ := hrel
          by_cases hlt2 : p < m
          · obtain ⟨bx, ox, rfl, hbx, c0⟩ := (HA.out.below hbe hb0).intGet (k := k - 1) (by rw [← HN.out]; omega)
            obtain ⟨by1, oy1, rfl, hby1, c1⟩ := (HB.out.below hbe hb0).intGet (k := p) (by rw [← HM.out]; exact hlt2)
            have hmt := HMT.out (k - 1) p (by omega) hlt2
            have HCH := HHH.out p
            have HCM := HMM.out p
            have hat := hin.out.at'
            obtain ⟨q1, q2⟩ := hat
            obtain ⟨g, q3, q4⟩ := q2 hkp
            clear q2
            unfold slc at q1 q3
            have d0 := q4.cell (i := p + 1) (by rw [rowV_len]; omega)
            have d1 := q4.cell (i := p) (by rw [rowV_len]; omega)
            rw [rowV_get] at d0 d1
            have d2 := hin.out.last.cell (i := p) (by rw [pV_len]; omega)
            rw [pV_at, if_pos (Nat.le_refl _)] at d2
            have d3 := hin.out.last.cell (i := p + 1) (by rw [pV_len]; omega)
            have d4 := hin.out.last.frozen (p + 1)
            have b1 := C_le_j M (k - 1) p
            have b2 := C_le_j M (k - 1) (p + 1)
            have b3 := C_le_j M k p
            clear q4
            have p1 : (p : Int) + 1 < (m : Int) + 1 := by omega
            have p2 : (p : Int) < (m : Int) := by omega
            generalize a.getD (k - 1) 0 = x at *
            generalize b.getD p 0 = y at *
            by_cases hvu : C M (k - 1) (p + 1) < C M k p
            · by_cases hxy : x = y
              · subst hxy
                have HH := HCH (by rw [hmt]; simp)
                clear hmt
                have HV : Hid (((C M k (p + 1) : Nat) : Int) = ((C M (k - 1) p : Nat) : Int) + 1) := by
                  show _ = _
                  rw [HH]; rfl
                have HST : Hid (∀ q, TabIn ((wr.drewN q).setCell ⟨gk, p + 1, none⟩ (.int .i64 (((C M (k - 1) p : Nat) : Int) + 1))) w.heap.size (.slice (some ⟨r, 0, none⟩) (k + 1) cap) M m k (p + 1) gs gk) := fun q => by
                  have := (hin.out.drewN q).store
                  rw [HV.out] at this
                  exact this
                clear HCH HCM HV HH
                generalize C M (k - 1) (p + 1) = u at *
                generalize C M k p = v at *
                generalize C M (k - 1) p = z at *
                go_wp2_with fail
                go_quiet (fail)
                go_wp2_with fail
                go_roundw
                case rel => exact ⟨p + 1, by omega, by go_num, HST.out _, (below_drewN hbe _).setCell hin.out.lo _⟩
                case measure => simp [intOf]; omega
              · have hxb : (x == y) = false := by simpa using hxy
                have HH := HCM (by rw [hmt]; exact hxb)
                clear hmt
                have HV : Hid (((C M k (p + 1) : Nat) : Int) = ((C M k p : Nat) : Int)) := by
                  show _ = _
                  rw [HH, Nat.max_eq_right (by omega)]
                have HST : Hid (∀ q, TabIn ((wr.drewN q).setCell ⟨gk, p + 1, none⟩ (.int .i64 (((C M k p : Nat) : Int)))) w.heap.size (.slice (some ⟨r, 0, none⟩) (k + 1) cap) M m k (p + 1) gs gk) := fun q => by
                  have := (hin.out.drewN q).store
                  rw [HV.out] at this
                  exact this
                clear HCH HCM HV HH
                generalize C M (k - 1) (p + 1) = u at *
                generalize C M k p = v at *
                generalize C M (k - 1) p = z at *
                go_wp2_with fail
                go_quiet (fail)
                go_wp2_with fail
                go_roundw
                case rel => exact ⟨p + 1, by omega, by go_num, HST.out _, (below_drewN hbe _).setCell hin.out.lo _⟩
                case measure => simp [intOf]; omega
            · by_cases hxy : x = y
              · subst hxy
                have HH := HCH (by rw [hmt]; simp)
                clear hmt
                have HV : Hid (((C M k (p + 1) : Nat) : Int) = ((C M (k - 1) p : Nat) : Int) + 1) := by
                  show _ = _
                  rw [HH]; rfl
                have HST : Hid (∀ q, TabIn ((wr.drewN q).setCell ⟨gk, p + 1, none⟩ (.int .i64 (((C M (k - 1) p : Nat) : Int) + 1))) w.heap.size (.slice (some ⟨r, 0, none⟩) (k + 1) cap) M m k (p + 1) gs gk) := fun q => by
                  have := (hin.out.drewN q).store
                  rw [HV.out] at this
                  exact this
                clear HCH HCM HV HH
                generalize C M (k - 1) (p + 1) = u at *
                generalize C M k p = v at *
                generalize C M (k - 1) p = z at *
                go_wp2_with fail
                go_quiet (fail)
                go_wp2_with fail
                go_roundw
                case rel => exact ⟨p + 1, by omega, by go_num, HST.out _, (below_drewN hbe _).setCell hin.out.lo _⟩
                case measure => simp [intOf]; omega
              · have hxb : (x == y) = false := by simpa using hxy
                have HH := HCM (by rw [hmt]; exact hxb)
                clear hmt
                have HV : Hid (((C M k (p + 1) : Nat) : Int) = ((C M (k - 1) (p + 1) : Nat) : Int)) := by
                  show _ = _
                  rw [HH, Nat.max_eq_left (by omega)]
                have HST : Hid (∀ q, TabIn ((wr.drewN q).setCell ⟨gk, p + 1, none⟩ (.int .i64 (((C M (k - 1) (p + 1) : Nat) : Int)))) w.heap.size (.slice (some ⟨r, 0, none⟩) (k + 1) cap) M m k (p + 1) gs gk) := fun q => by
                  have := (hin.out.drewN q).store
                  rw [HV.out] at this
                  exact this
                clear HCH HCM HV HH
                generalize C M (k - 1) (p + 1) = u at *
                generalize C M k p = v at *
                generalize C M (k - 1) p = z at *
                go_wp2_with fail
                go_quiet (fail)
                go_wp2_with fail
                go_roundw
                case rel => exact ⟨p + 1, by omega, by go_num, HST.out _, (below_drewN hbe _).setCell hin.out.lo _⟩
                case measure => simp [intOf]; omega
          · have hpe : p = m := by omega
            subst hpe
            have hd5 : decide ((p : Int) + 1 ≤ (p : Int)) = false := by simp; omega
            have HD := hide (hin.out.done (pV_m M p k))
            go_wp2_with fail
            go_roundw
            case rel => exact ⟨k + 1, _, by omega, by go_num, HD.out, hbe⟩
            case measure => simp [intOf]; omega
    · have hke : k = n + 1 := by omega
      subst hke
      go_wp2_with fail
      go_ret
      exact ⟨_, gs, rfl, htab.out, hbe⟩
end Go.Proofs.Ytpahgpmhnpfnhaa
