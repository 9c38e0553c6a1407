/-
  Back of package script and of its reference.
-/
import Derived.Test.YtokckcnlbalpaaaScrI
namespace Go.Proofs.Ytokckcnlbalpaaa
open Go.RowKit Go.Proofs.Ytokckcnlbalpaaa.Scr

theorem stepsReads {w : World} {base : Nat} {ty : TypeId} {v : Value} {l : List Step} (hown : w.ownsRow base ty 2 v l.length (stepCells l)) :
    ∃ A n c, v = .slice A n c ∧ n = l.length ∧ n ≤ c ∧ c ≤ maxLen ∧ Reads w w.heap.size A (stepCells l) := by
  obtain ⟨A', c', hv, hle, hA'⟩ := ownsRow_slice hown
  refine ⟨A', _, c', hv, rfl, hle, ?_, ?_⟩
  · rcases hown.2 with ⟨hv', hn⟩ | ⟨g, cap, cur, hv', _, _, _, hc, _⟩
    · rw [hv] at hv'
      injection hv' with _ _ h3
      omega
    · rw [hv] at hv'
      injection hv' with _ _ h3
      omega
  · intro j u hu
    rcases hown.2 with ⟨hv', hn⟩ | ⟨g, cap, cur, hv', hbg, hg, _⟩
    · have hl : j < (stepCells l).length := (List.getElem?_eq_some_iff.1 hu).1
      rw [stepCells_len] at hl
      omega
    · have := hown.cells (g := g) (by rw [hv']; rfl) j u hu
      rw [hv] at hv'
      injection hv' with hA
      rw [add_lit] at this
      exact ⟨g, 0, hA, (Array.getElem?_eq_some_iff.1 hg).1, this⟩

set_option maxHeartbeats 2000000 in
theorem back_any (A : Option Addr) (n c b0 : Nat) (l : List Step) (w : World) (hn : n = l.length) (hx : Reads w b0 A (stepCells l)) (hb0 : b0 ≤ w.heap.size) (hs : n ≤ 300000) :
    Calls Try.prog 13 #[.slice A n c] w (StepsPost 39 (nrm (l.map swap)) w) := by
  obtain ⟨i0, hi, hz0, hz1, hz2⟩ := info_parts infoMine
  have HX := hide hx
  have HN := hide hn
  clear hx hn
  go_enter Try.func13, Try.ntmps13
  go_wp2_with fail
  go_loopw [3, 8] (fun v i wr => ∃ q : Nat, q ≤ n ∧ i = .int .i64 q ∧ wr.ownsRow w.heap.size 39 2 v q (stepCells ((l.take q).map swap)) ∧ Below w.heap.size w wr) (fun _ i _ => n - (intOf i).toNat)
  case atStart => exact ⟨0, by omega, rfl, World.ownsRow_nil _ _ _ _, Below.refl _ _⟩
  case round =>
    obtain ⟨q, hq, rfl, hown, hbe⟩ := hrel
    by_cases hlt : q < n
    · have hl1 : q < l.length := by rw [← HN.out]; exact hlt
      obtain ⟨bx, ox, rfl, hbx, c0, c1⟩ := (HX.out.below hbe hb0).stepAt hl1
      have HT : Hid (stepCells ((l.take (q + 1)).map swap) = stepCells ((l.take q).map swap) ++ [.int .i64 (swap l[q]).1, .int .i64 (swap l[q]).2]) := by
        show _ = _
        rw [List.take_succ_eq_append_getElem hl1, List.map_append, stepCells_app]
        rfl
      generalize l[q] = s at *
      obtain ⟨s1, s2⟩ := s
      simp only at c0 c1
      by_cases h1 : s1 = 1
      · subst h1
        have hsw : swap (1, s2) = (2, s2) := rfl
        rw [hsw] at HT
        clear hsw
        have HNEW : Hid (∀ j u, ([Value.int .i64 2, .int .i64 s2])[j]? = some u → ∃ ad, some (⟨wr.heap.size + 1, 0, none⟩ : Addr) = some ad ∧ ((wr.alloc (.cells #[.int .i64 2, .int .i64 s2] 39)).alloc (.cells #[.int .i64 2, .int .i64 s2] 39)).cell? (ad.add j) = some u) := fun j u hu => by
          refine ⟨_, rfl, ?_⟩
          have hB := (Blk.new (wr.alloc (.cells #[.int .i64 2, .int .i64 s2] 39)) 39 #[.int .i64 2, .int .i64 s2])
          rw [show (wr.alloc (.cells #[.int .i64 2, .int .i64 s2] 39)).heap.size = wr.heap.size + 1 from by simp] at hB
          rw [add_lit, Nat.zero_add, hB.cell]
          simpa using hu
        go_wp2_with (at_builtin; refine wpList_append_any _ rfl (.tmp 20) (.tmp 22) _ rfl w.heap.size 39 i0 _ 2 16 Try.underlying24 hi hz0 hz1 hz2 rfl (by decide) _ q _ rfl ((hown.alloc _).alloc _) (some ⟨wr.heap.size + 1, 0, none⟩) 1 1 [.int .i64 2, .int .i64 s2] rfl rfl HNEW.out (by simp [Value.oneCell']) (by unfold maxLen; omega) (by omega) (by have := hbe.size; simp; omega) ?_; intro v1 w2 hown2 hg2 hat2)
        go_roundw
        case rel =>
          refine ⟨q + 1, by omega, by go_num, ?_, ((hbe.alloc hbe.size _).alloc (by have := hbe.size; simp; omega) _).grown hg2 (by have := hbe.size; simp; omega) (fun k hk => (hown.lt k hk).1)⟩
          rw [HT.out]
          exact hown2
        case measure => simp [intOf]; omega
      · by_cases h2 : s1 = 2
        · subst h2
          have hsw : swap (2, s2) = (1, s2) := rfl
          rw [hsw] at HT
          clear hsw
          have HNEW : Hid (∀ j u, ([Value.int .i64 1, .int .i64 s2])[j]? = some u → ∃ ad, some (⟨wr.heap.size + 1, 0, none⟩ : Addr) = some ad ∧ ((wr.alloc (.cells #[.int .i64 1, .int .i64 s2] 39)).alloc (.cells #[.int .i64 1, .int .i64 s2] 39)).cell? (ad.add j) = some u) := fun j u hu => by
            refine ⟨_, rfl, ?_⟩
            have hB := (Blk.new (wr.alloc (.cells #[.int .i64 1, .int .i64 s2] 39)) 39 #[.int .i64 1, .int .i64 s2])
            rw [show (wr.alloc (.cells #[.int .i64 1, .int .i64 s2] 39)).heap.size = wr.heap.size + 1 from by simp] at hB
            rw [add_lit, Nat.zero_add, hB.cell]
            simpa using hu
          go_wp2_with (at_builtin; refine wpList_append_any _ rfl (.tmp 20) (.tmp 22) _ rfl w.heap.size 39 i0 _ 2 16 Try.underlying24 hi hz0 hz1 hz2 rfl (by decide) _ q _ rfl ((hown.alloc _).alloc _) (some ⟨wr.heap.size + 1, 0, none⟩) 1 1 [.int .i64 1, .int .i64 s2] rfl rfl HNEW.out (by simp [Value.oneCell']) (by unfold maxLen; omega) (by omega) (by have := hbe.size; simp; omega) ?_; intro v1 w2 hown2 hg2 hat2)
          go_roundw
          case rel =>
            refine ⟨q + 1, by omega, by go_num, ?_, ((hbe.alloc hbe.size _).alloc (by have := hbe.size; simp; omega) _).grown hg2 (by have := hbe.size; simp; omega) (fun k hk => (hown.lt k hk).1)⟩
            rw [HT.out]
            exact hown2
          case measure => simp [intOf]; omega
        · have hsw : swap (s1, s2) = (s1, s2) := by unfold swap; rw [if_neg h1, if_neg h2]
          rw [hsw] at HT
          clear hsw
          have d1 : (s1 == 1) = false := by simpa using h1
          have d2 : (s1 == 2) = false := by simpa using h2
          have HNEW : Hid (∀ j u, ([Value.int .i64 s1, .int .i64 s2])[j]? = some u → ∃ ad, some (⟨wr.heap.size + 1, 0, none⟩ : Addr) = some ad ∧ ((wr.alloc (.cells #[.int .i64 s1, .int .i64 s2] 39)).alloc (.cells #[.int .i64 s1, .int .i64 s2] 39)).cell? (ad.add j) = some u) := fun j u hu => by
            refine ⟨_, rfl, ?_⟩
            have hB := (Blk.new (wr.alloc (.cells #[.int .i64 s1, .int .i64 s2] 39)) 39 #[.int .i64 s1, .int .i64 s2])
            rw [show (wr.alloc (.cells #[.int .i64 s1, .int .i64 s2] 39)).heap.size = wr.heap.size + 1 from by simp] at hB
            rw [add_lit, Nat.zero_add, hB.cell]
            simpa using hu
          go_wp2_with (at_builtin; refine wpList_append_any _ rfl (.tmp 20) (.tmp 22) _ rfl w.heap.size 39 i0 _ 2 16 Try.underlying24 hi hz0 hz1 hz2 rfl (by decide) _ q _ rfl ((hown.alloc _).alloc _) (some ⟨wr.heap.size + 1, 0, none⟩) 1 1 [.int .i64 s1, .int .i64 s2] rfl rfl HNEW.out (by simp [Value.oneCell']) (by unfold maxLen; omega) (by omega) (by have := hbe.size; simp; omega) ?_; intro v1 w2 hown2 hg2 hat2)
          go_roundw
          case rel =>
            refine ⟨q + 1, by omega, by go_num, ?_, ((hbe.alloc hbe.size _).alloc (by have := hbe.size; simp; omega) _).grown hg2 (by have := hbe.size; simp; omega) (fun k hk => (hown.lt k hk).1)⟩
            rw [HT.out]
            exact hown2
          case measure => simp [intOf]; omega
    · have hqe : q = n := by omega
      subst hqe
      rw [show l.take q = l from List.take_of_length_le (by rw [HN.out]; exact Nat.le_refl _)] at hown
      have hown' : wr.ownsRow w.heap.size 39 2 u3 (l.map swap).length (stepCells (l.map swap)) := by rw [List.length_map, ← HN.out]; exact hown
      obtain ⟨A2, n2, c2, rfl, hn2, _, _, hr2⟩ := stepsReads hown'
      have HN2 := hide hn2
      have HR2 := hide hr2
      have hn2' : n2 ≤ 300000 := by rw [hn2, List.length_map, ← HN.out]; exact hs
      clear hn2 hr2 hown hown'
      go_wp2_with fail
      refine (normal_any A2 n2 c2 wr.heap.size (l.map swap) _ HN2.out HR2.out (Nat.le_refl _) hn2').mono ?_
      rintro e w2 ⟨hb2, v2, rfl, hown2⟩
      go_wp2_with fail
      go_ret
      exact ⟨below_step hbe hb2, _, rfl, ownsRow_base hown2 hbe.size⟩
set_option maxHeartbeats 2000000 in
theorem refBack_any (A : Option Addr) (n c b0 : Nat) (l : List Step) (w : World) (hn : n = l.length) (hx : Reads w b0 A (stepCells l)) (hb0 : b0 ≤ w.heap.size) (hs : n ≤ 300000) :
    Calls Try.prog 14 #[.slice A n c] w (StepsPost 32 (nrm (l.map swap)) w) := by
  obtain ⟨i0, hi, hz0, hz1, hz2⟩ := info_parts infoTheirs
  have HX := hide hx
  have HN := hide hn
  clear hx hn
  go_enter Try.func14, Try.ntmps14
  go_wp2_with fail
  go_loopw [3, 4] (fun v i wr => ∃ q : Nat, q ≤ n ∧ i = .int .i64 q ∧ wr.ownsRow w.heap.size 32 2 v q (stepCells ((l.take q).map swap)) ∧ Below w.heap.size w wr) (fun _ i _ => n - (intOf i).toNat)
  case atStart => exact ⟨0, by omega, rfl, World.ownsRow_nil _ _ _ _, Below.refl _ _⟩
  case round =>
    obtain ⟨q, hq, rfl, hown, hbe⟩ := hrel
    by_cases hlt : q < n
    · have hl1 : q < l.length := by rw [← HN.out]; exact hlt
      obtain ⟨bx, ox, rfl, hbx, c0, c1⟩ := (HX.out.below hbe hb0).stepAt hl1
      have HT : Hid (stepCells ((l.take (q + 1)).map swap) = stepCells ((l.take q).map swap) ++ [.int .i64 (swap l[q]).1, .int .i64 (swap l[q]).2]) := by
        show _ = _
        rw [List.take_succ_eq_append_getElem hl1, List.map_append, stepCells_app]
        rfl
      generalize l[q] = s at *
      obtain ⟨s1, s2⟩ := s
      simp only at c0 c1
      by_cases h1 : s1 = 1
      · subst h1
        have hsw : swap (1, s2) = (2, s2) := rfl
        rw [hsw] at HT
        clear hsw
        have HNEW : Hid (∀ j u, ([Value.int .i64 2, .int .i64 s2])[j]? = some u → ∃ ad, some (⟨wr.heap.size + 1, 0, none⟩ : Addr) = some ad ∧ ((wr.alloc (.cells #[.int .i64 2, .int .i64 s2] 32)).alloc (.cells #[.int .i64 2, .int .i64 s2] 32)).cell? (ad.add j) = some u) := fun j u hu => by
          refine ⟨_, rfl, ?_⟩
          have hB := (Blk.new (wr.alloc (.cells #[.int .i64 2, .int .i64 s2] 32)) 32 #[.int .i64 2, .int .i64 s2])
          rw [show (wr.alloc (.cells #[.int .i64 2, .int .i64 s2] 32)).heap.size = wr.heap.size + 1 from by simp] at hB
          rw [add_lit, Nat.zero_add, hB.cell]
          simpa using hu
        go_wp2_with (at_builtin; refine wpList_append_any _ rfl (.tmp 28) (.tmp 30) _ rfl w.heap.size 32 i0 _ 2 16 Try.underlying22 hi hz0 hz1 hz2 rfl (by decide) _ q _ rfl ((hown.alloc _).alloc _) (some ⟨wr.heap.size + 1, 0, none⟩) 1 1 [.int .i64 2, .int .i64 s2] rfl rfl HNEW.out (by simp [Value.oneCell']) (by unfold maxLen; omega) (by omega) (by have := hbe.size; simp; omega) ?_; intro v1 w2 hown2 hg2 hat2)
        go_roundw
        case rel =>
          refine ⟨q + 1, by omega, by go_num, ?_, ((hbe.alloc hbe.size _).alloc (by have := hbe.size; simp; omega) _).grown hg2 (by have := hbe.size; simp; omega) (fun k hk => (hown.lt k hk).1)⟩
          rw [HT.out]
          exact hown2
        case measure => simp [intOf]; omega
      · by_cases h2 : s1 = 2
        · subst h2
          have hsw : swap (2, s2) = (1, s2) := rfl
          rw [hsw] at HT
          clear hsw
          have HNEW : Hid (∀ j u, ([Value.int .i64 1, .int .i64 s2])[j]? = some u → ∃ ad, some (⟨wr.heap.size + 1, 0, none⟩ : Addr) = some ad ∧ ((wr.alloc (.cells #[.int .i64 1, .int .i64 s2] 32)).alloc (.cells #[.int .i64 1, .int .i64 s2] 32)).cell? (ad.add j) = some u) := fun j u hu => by
            refine ⟨_, rfl, ?_⟩
            have hB := (Blk.new (wr.alloc (.cells #[.int .i64 1, .int .i64 s2] 32)) 32 #[.int .i64 1, .int .i64 s2])
            rw [show (wr.alloc (.cells #[.int .i64 1, .int .i64 s2] 32)).heap.size = wr.heap.size + 1 from by simp] at hB
            rw [add_lit, Nat.zero_add, hB.cell]
            simpa using hu
          go_wp2_with (at_builtin; refine wpList_append_any _ rfl (.tmp 28) (.tmp 30) _ rfl w.heap.size 32 i0 _ 2 16 Try.underlying22 hi hz0 hz1 hz2 rfl (by decide) _ q _ rfl ((hown.alloc _).alloc _) (some ⟨wr.heap.size + 1, 0, none⟩) 1 1 [.int .i64 1, .int .i64 s2] rfl rfl HNEW.out (by simp [Value.oneCell']) (by unfold maxLen; omega) (by omega) (by have := hbe.size; simp; omega) ?_; intro v1 w2 hown2 hg2 hat2)
          go_roundw
          case rel =>
            refine ⟨q + 1, by omega, by go_num, ?_, ((hbe.alloc hbe.size _).alloc (by have := hbe.size; simp; omega) _).grown hg2 (by have := hbe.size; simp; omega) (fun k hk => (hown.lt k hk).1)⟩
            rw [HT.out]
            exact hown2
          case measure => simp [intOf]; omega
        · have hsw : swap (s1, s2) = (s1, s2) := by unfold swap; rw [if_neg h1, if_neg h2]
          rw [hsw] at HT
          clear hsw
          have d1 : (s1 == 1) = false := by simpa using h1
          have d2 : (s1 == 2) = false := by simpa using h2
          have HNEW : Hid (∀ j u, ([Value.int .i64 s1, .int .i64 s2])[j]? = some u → ∃ ad, some (⟨wr.heap.size + 1, 0, none⟩ : Addr) = some ad ∧ ((wr.alloc (.cells #[.int .i64 s1, .int .i64 s2] 32)).alloc (.cells #[.int .i64 s1, .int .i64 s2] 32)).cell? (ad.add j) = some u) := fun j u hu => by
            refine ⟨_, rfl, ?_⟩
            have hB := (Blk.new (wr.alloc (.cells #[.int .i64 s1, .int .i64 s2] 32)) 32 #[.int .i64 s1, .int .i64 s2])
            rw [show (wr.alloc (.cells #[.int .i64 s1, .int .i64 s2] 32)).heap.size = wr.heap.size + 1 from by simp] at hB
            rw [add_lit, Nat.zero_add, hB.cell]
            simpa using hu
          go_wp2_with (at_builtin; refine wpList_append_any _ rfl (.tmp 28) (.tmp 30) _ rfl w.heap.size 32 i0 _ 2 16 Try.underlying22 hi hz0 hz1 hz2 rfl (by decide) _ q _ rfl ((hown.alloc _).alloc _) (some ⟨wr.heap.size + 1, 0, none⟩) 1 1 [.int .i64 s1, .int .i64 s2] rfl rfl HNEW.out (by simp [Value.oneCell']) (by unfold maxLen; omega) (by omega) (by have := hbe.size; simp; omega) ?_; intro v1 w2 hown2 hg2 hat2)
          go_roundw
          case rel =>
            refine ⟨q + 1, by omega, by go_num, ?_, ((hbe.alloc hbe.size _).alloc (by have := hbe.size; simp; omega) _).grown hg2 (by have := hbe.size; simp; omega) (fun k hk => (hown.lt k hk).1)⟩
            rw [HT.out]
            exact hown2
          case measure => simp [intOf]; omega
    · have hqe : q = n := by omega
      subst hqe
      rw [show l.take q = l from List.take_of_length_le (by rw [HN.out]; exact Nat.le_refl _)] at hown
      have hown' : wr.ownsRow w.heap.size 32 2 u3 (l.map swap).length (stepCells (l.map swap)) := by rw [List.length_map, ← HN.out]; exact hown
      obtain ⟨A2, n2, c2, rfl, hn2, _, _, hr2⟩ := stepsReads hown'
      have HN2 := hide hn2
      have HR2 := hide hr2
      have hn2' : n2 ≤ 300000 := by rw [hn2, List.length_map, ← HN.out]; exact hs
      clear hn2 hr2 hown hown'
      go_wp2_with fail
      refine (refNormal_any A2 n2 c2 wr.heap.size (l.map swap) _ HN2.out HR2.out (Nat.le_refl _) hn2').mono ?_
      rintro e w2 ⟨hb2, v2, rfl, hown2⟩
      go_wp2_with fail
      go_ret
      exact ⟨below_step hbe hb2, _, rfl, ownsRow_base hown2 hbe.size⟩
end Go.Proofs.Ytokckcnlbalpaaa
