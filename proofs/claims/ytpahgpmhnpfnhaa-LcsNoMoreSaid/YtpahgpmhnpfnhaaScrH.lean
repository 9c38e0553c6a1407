/-
  put and Normal of the reference.
-/
import Derived.Test.YtpahgpmhnpfnhaaScrG
namespace Go.Proofs.Ytpahgpmhnpfnhaa
open Go.RowKit Go.Proofs.Ytpahgpmhnpfnhaa.Scr

theorem putS_zero (l : List Step) (a : Int) : putS l (a, 0) = l := rfl
theorem putS_nil (a b : Int) (h : b ≠ 0) : putS [] (a, b) = [(a, b)] := by
  unfold putS
  rw [if_neg h]
  rfl
theorem putS_snoc (l : List Step) (x y a b : Int) (h : b ≠ 0) : putS (l ++ [(x, y)]) (a, b) = if x = a then l ++ [(x, y + b)] else l ++ [(x, y)] ++ [(a, b)] := by
  unfold putS
  rw [if_neg h]
  simp
theorem stepCells_setN (k : List Step) (x y z : Int) : (stepCells (k ++ [(x, y)])).set (2 * k.length + 1) (.int .i64 z) = stepCells (k ++ [(x, z)]) := by
  rw [stepCells_app, stepCells_app, List.set_append_right _ _ (by rw [stepCells_len]; omega), stepCells_len, show 2 * k.length + 1 - 2 * k.length = 1 from by omega]
  rfl
theorem dropLast_or (l : List Step) : l = [] ∨ ∃ k x y, l = k ++ [(x, y)] := by
  rcases List.eq_nil_or_concat l with h | ⟨k, ⟨x, y⟩, h⟩
  · exact .inl h
  · exact .inr ⟨k, x, y, by simpa using h⟩

set_option maxHeartbeats 4000000 in
theorem put_any (base : Nat) (v : Value) (l : List Step) (a b : Int) (w : World) (hown : w.ownsRow base 50 2 v l.length (stepCells l)) (hbb : base ≤ w.heap.size) (hl : l.length ≤ 1048576)
    (hb : 0 ≤ b ∧ b ≤ 1099511627776) (hv : ∀ s ∈ l, 0 ≤ s.2 ∧ s.2 ≤ 1099511627776) :
    Calls Try.prog 36 #[v, .agg #[.int .i64 a, .int .i64 b]] w fun e w' => ∃ v', e = .returned v' ∧ w'.ownsRow base 50 2 v' (putS l (a, b)).length (stepCells (putS l (a, b))) ∧ Only (rowL v) w w' := by
  obtain ⟨i0, hi, hz0, hz1, hz2⟩ := info_parts infoTheirs
  obtain ⟨A, c, rfl, hnc, hA⟩ := ownsRow_slice hown
  have HOWN := hide hown
  have HV := hide hv
  clear hown hv
  by_cases h0 : b = 0
  · subst h0
    go_enter Try.func36, Try.ntmps36
    go_wp2_with fail
    go_ret
    exact ⟨_, rfl, HOWN.out.alloc _, (Only.refl _ _).alloc _⟩
  · have h0' : (b == 0) = false := by simpa using h0
    rcases dropLast_or l with rfl | ⟨k, x, y, rfl⟩
    · have HP := hide (putS_nil a b h0)
      go_enter Try.func36, Try.ntmps36
      go_wp2_with fail
      go_quiet (fail)
      have HNEW : Hid (∀ j u, ([Value.int .i64 a, .int .i64 b])[j]? = some u → ∃ ad, some (⟨w.heap.size + 1, 0, none⟩ : Addr) = some ad ∧ ((((w.alloc (.cells #[.int .i64 a, .int .i64 b] 50)).drewN nq).alloc (.cells #[.int .i64 a, .int .i64 b] 50))).cell? (ad.add j) = some u) := fun j u hu => by
        refine ⟨_, rfl, ?_⟩
        have hB := (Blk.new ((w.alloc (.cells #[.int .i64 a, .int .i64 b] 50)).drewN nq) 50 #[.int .i64 a, .int .i64 b])
        rw [show ((w.alloc (.cells #[.int .i64 a, .int .i64 b] 50)).drewN nq).heap.size = w.heap.size + 1 from by simp] at hB
        rw [add_lit, Nat.zero_add, hB.cell]
        simpa using hu
      go_wp2_with (at_builtin; refine wpList_append_any _ rfl (.tmp 44) (.tmp 46) _ rfl base 50 i0 _ 2 16 Try.underlying27 hi hz0 hz1 hz2 rfl (by decide) _ 0 [] rfl ((HOWN.out.alloc _).alloc _) (some ⟨w.heap.size + 1, 0, none⟩) 1 1 [.int .i64 a, .int .i64 b] rfl rfl HNEW.out (by simp [Value.oneCell']) (by unfold maxLen; omega) (by omega) (by simp; omega) ?_; intro v1 w2 hown2 hg2 hat2)
      go_ret
      refine ⟨_, rfl, ?_, ?_⟩
      · rw [HP.out]
        simpa [stepCells_one] using hown2
      · refine ((((Only.refl _ w).alloc _).drewN nq).alloc _).grown hg2 (fun b hb => ?_)
        left
        have hb' : (Value.slice A 0 c).ownBlock = some b := hb
        unfold rowL
        rw [hb']
        simp
    · have HP := hide (putS_snoc k x y a b h0)
      have hlen : (k ++ [(x, y)]).length = k.length + 1 := by simp
      have hwn := HOWN.out
      rw [hlen] at hwn hl
      have hvy := HV.out (x, y) (by simp)
      simp only at hvy
      obtain ⟨g, rfl⟩ : ∃ g, A = some ⟨g, 0, none⟩ := by
        rcases hwn.2 with ⟨_, h⟩ | ⟨g, cap, cur, hv', _⟩
        · omega
        · injection hv' with h1 _ _
          exact ⟨g, h1⟩
      have hgl := (hwn.lt g rfl).2
      have c0 : w.cell? ⟨g, k.length * 2, none⟩ = some (.int .i64 x) := by
        have := hwn.cells (g := g) rfl (2 * k.length) (.int .i64 x) (by rw [stepCells_app, List.getElem?_append_right (by rw [stepCells_len]; omega), stepCells_len, Nat.sub_self]; rfl)
        rw [add_lit, Nat.zero_add, Nat.mul_comm] at this
        exact this
      have c1 : w.cell? ⟨g, k.length * 2 + 1, none⟩ = some (.int .i64 y) := by
        have := hwn.cells (g := g) rfl (2 * k.length + 1) (.int .i64 y) (by rw [stepCells_app, List.getElem?_append_right (by rw [stepCells_len]; omega), stepCells_len, show 2 * k.length + 1 - 2 * k.length = 1 from by omega]; rfl)
        rw [add_lit, Nat.zero_add, Nat.mul_comm] at this
        exact this
      rw [hlen]
      have HOW := hide hwn
      clear hwn hlen HOWN HV hnc hA
      have HKC := hide (stepCells_app k [(x, y)])
      generalize hq : k.length = q at *
      have HQ := hide hq
      clear hq
      by_cases hxa : x = a
      · subst hxa
        rw [if_pos rfl] at HP
        go_enter Try.func36, Try.ntmps36
        go_wp2_with fail
        go_quiet (fail)
        have HSRC : Hid (∀ (j : Nat) (u : Value), (stepCells (k ++ [(x, y)]))[j]? = some u → ∃ ad, some (⟨g, 0, none⟩ : Addr) = some ad ∧ ((w.alloc (.cells #[.int .i64 x, .int .i64 b] 50)).drewN nq).cell? (ad.add j) = some u) := fun j u hu => by
          refine ⟨_, rfl, ?_⟩
          have := HOW.out.cells (g := g) rfl j u hu
          rw [add_lit] at this ⊢
          exact (World.cell?_alloc_lt w _ _ (by simpa using hgl)).trans this
        have HLEN : Hid ((stepCells (k ++ [(x, y)])).length = (q + 1) * 2) := by
          show _ = _
          rw [stepCells_len, List.length_append, HQ.out]
          simp
          omega
        go_wp2_with (at_builtin; refine wpList_append_any _ rfl (.tmp 26) (.tmp 27) _ rfl base 50 i0 _ 2 16 Try.underlying27 hi hz0 hz1 hz2 rfl (by decide) _ 0 [] rfl (World.ownsRow_nil _ _ _ _) (some ⟨g, 0, none⟩) (q + 1) c (stepCells (k ++ [(x, y)])) rfl HLEN.out HSRC.out (stepCells_one1 _) (by unfold maxLen; omega) (by omega) (by simp; omega) ?_; intro v1 w2 hown2 hg2 hat2)
        rw [Nat.zero_add, List.nil_append] at hown2
        have hrow : ∃ gg cap cur, v1 = .slice (some ⟨gg, 0, none⟩) (q + 1) cap ∧ Blk w2 gg 50 cur := by
          rcases hown2.2 with ⟨_, h⟩ | ⟨gg, cap, cur, hv', _, hg', _⟩
          · omega
          · exact ⟨gg, cap, cur, hv', hg'⟩
        obtain ⟨gg, cap, cur, rfl, hB⟩ := hrow
        have d1 : w2.cell? ⟨gg, q * 2 + 1, none⟩ = some (.int .i64 y) := by
          have := hown2.cells (g := gg) rfl (2 * k.length + 1) (.int .i64 y) (by rw [stepCells_app, List.getElem?_append_right (by rw [stepCells_len]; omega), stepCells_len, show 2 * k.length + 1 - 2 * k.length = 1 from by omega]; rfl)
          rw [add_lit, Nat.zero_add, HQ.out, Nat.mul_comm] at this
          exact this
        have d2 := hB.frozen (q * 2 + 1)
        have d3 : w2.cell? ⟨w.heap.size, 1, none⟩ = some (.int .i64 b) := (World.cell?_of_block (a := ⟨w.heap.size, 1, none⟩) (hg2.block w.heap.size (by simp) (fun e => (by cases e)))).trans (by simp [go_sem])
        have hgg : w.heap.size + 1 ≤ gg := by
          rcases hat2 with h | h
          · cases h
          · injection h with h
            simp at h
            omega
        have hon : Only (rowL (.slice (some ⟨g, 0, none⟩) (q + 1) c)) w w2 := (((Only.refl _ w).alloc _).drewN nq).grown hg2 (fun b hb => by cases hb)
        have HO2 := hide hown2
        clear hown2 hg2 hat2 hB c0 c1
        have hq0 : (0 : Int) ≤ (q : Int) := by omega
        have hq1 : (q : Int) < (q : Int) + 1 := by omega
        have hsum : IntKind.i64.wrap (y + b) = y + b := by rw [IntKind.wrap_i64]; omega
        go_region
        go_wp2_with fail
        go_ret
        refine ⟨_, rfl, ?_, (hon.setCell' (.inr (by show w.heap.size ≤ gg; omega)) _).drew⟩
        rw [HP.out]
        have h := ownsRow_set HO2.out (2 * k.length + 1) (.int .i64 (y + b))
        rw [stepCells_setN, HQ.out, Nat.mul_comm] at h
        have hl2 : (k ++ [(x, y + b)]).length = q + 1 := by simp [HQ.out]
        rw [hl2]
        exact h
      · rw [if_neg hxa] at HP
        have hxb : (x == a) = false := by simpa using hxa
        go_enter Try.func36, Try.ntmps36
        go_wp2_with fail
        go_quiet (fail)
        have HNEW : Hid (∀ j u, ([Value.int .i64 a, .int .i64 b])[j]? = some u → ∃ ad, some (⟨w.heap.size + 1, 0, none⟩ : Addr) = some ad ∧ ((((w.alloc (.cells #[.int .i64 a, .int .i64 b] 50)).drewN nq).alloc (.cells #[.int .i64 a, .int .i64 b] 50))).cell? (ad.add j) = some u) := fun j u hu => by
          refine ⟨_, rfl, ?_⟩
          have hB := (Blk.new ((w.alloc (.cells #[.int .i64 a, .int .i64 b] 50)).drewN nq) 50 #[.int .i64 a, .int .i64 b])
          rw [show ((w.alloc (.cells #[.int .i64 a, .int .i64 b] 50)).drewN nq).heap.size = w.heap.size + 1 from by simp] at hB
          rw [add_lit, Nat.zero_add, hB.cell]
          simpa using hu
        go_wp2_with (at_builtin; refine wpList_append_any _ rfl (.tmp 44) (.tmp 46) _ rfl base 50 i0 _ 2 16 Try.underlying27 hi hz0 hz1 hz2 rfl (by decide) _ (q + 1) _ rfl ((HOW.out.alloc _).alloc _) (some ⟨w.heap.size + 1, 0, none⟩) 1 1 [.int .i64 a, .int .i64 b] rfl rfl HNEW.out (by simp [Value.oneCell']) (by unfold maxLen; omega) (by omega) (by simp; omega) ?_; intro v1 w2 hown2 hg2 hat2)
        go_ret
        refine ⟨_, rfl, ?_, ?_⟩
        · rw [HP.out, stepCells_app (k ++ [(x, y)]), stepCells_one]
          have hl2 : (k ++ [(x, y)] ++ [(a, b)]).length = q + 1 + 1 := by simp [HQ.out]
          rw [hl2]
          exact hown2
        · refine ((((Only.refl _ w).alloc _).drewN nq).alloc _).grown hg2 (fun b hb => ?_)
          left
          have hb' : (Value.slice (some ⟨g, 0, none⟩) (q + 1) c).ownBlock = some b := hb
          unfold rowL
          rw [hb']
          simp
end Go.Proofs.Ytpahgpmhnpfnhaa
