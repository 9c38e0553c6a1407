/-
  The same steps; Theirs, Mine.
-/
import Derived.Test.YtpahgpmhnpfnhaaScrB
import Derived.Deep.RegionHeld3
import Derived.Laws.StructEq
import Derived.Outline
namespace Go.Proofs.Ytpahgpmhnpfnhaa
open Go.RowKit Go.Proofs.Ytpahgpmhnpfnhaa.Scr

theorem eqStep (a b c d : Int) (w : World) : (Op.equalIn 10000 50 (.agg #[.int .i64 a, .int .i64 b]) (.agg #[.int .i64 c, .int .i64 d])).run Try.prog w = .ok (a == c && b == d) w := by
  have hS : Try.prog.underlying 50 = some (.struct (Try.prog.fieldsOf 50)) := by kernel_rfl
  have hp : Try.prog.stoodInHeld 50 = false := by kernel_rfl
  rw [show (10000 : Nat) = 9999 + 1 from rfl, run_equalIn_agg w 9999 50 _ _ hS hp]
  have hU := Try.underlying50
  have uI := Try.underlying3
  simp only [Program.fieldsOf, hU]
  go_simp
  by_cases h1 : a = c <;> by_cases h2 : b = d <;> simp [h1, h2]

set_option maxHeartbeats 1000000 in
theorem sameS_any (A B : Option Addr) (c d b0 n m : Nat) (l k : List Step) (w : World) (hn : n = l.length) (hm : m = k.length)
   (hx : Reads w b0 A (stepCells l)) (hy : Reads w b0 B (stepCells k)) (lx : n ≤ maxLen) (ly : m ≤ maxLen) :
    Calls Try.prog 10 #[.slice A n c, .slice B m d] w fun e w' => e = .returned (.bool (l == k)) ∧ ∃ q, w' = w.drewN q := by
  unfold maxLen at lx ly
  by_cases hl : n = m
  · subst hl
    have heq := eqStep
    have HX := hide hx
    have HY := hide hy
    have HN := hide hn
    have HM := hide hm
    clear hx hy hn hm
    go_enter Try.func10, Try.ntmps10
    go_wp2_with fail
    go_loopw [5] (fun i wr => ∃ q : Nat, q ≤ n ∧ i = .int .i64 q ∧ Hid (l.take q = k.take q) ∧ ∃ m, wr = w.drewN m) (fun i _ => n - (intOf i).toNat)
    case atStart => exact ⟨0, by omega, rfl, by exact rfl, 0, rfl⟩
    case round =>
      obtain ⟨q, hq, rfl, he, m, rfl⟩ := hrel
      by_cases hlt : q < n
      · have hl1 : q < l.length := by rw [← HN.out]; exact hlt
        have hl2 : q < k.length := by rw [← HM.out]; exact hlt
        obtain ⟨bx, ox, rfl, _, c0, c1⟩ := HX.out.stepAt hl1
        obtain ⟨bY, oy, rfl, _, d0, d1⟩ := HY.out.stepAt hl2
        have HT1 := hide (List.take_succ_eq_append_getElem hl1)
        have HT2 := hide (List.take_succ_eq_append_getElem hl2)
        have HNE : Hid (l[q] ≠ k[q] → (l == k) = false) := fun h => by
          apply Bool.eq_false_iff.2
          intro h2
          have h3 : l = k := by simpa using h2
          subst h3
          exact h rfl
        generalize l[q] = s at *
        generalize k[q] = t at *
        obtain ⟨s1, s2⟩ := s
        obtain ⟨t1, t2⟩ := t
        simp only at c0 c1 d0 d1
        go_wp2_with fail
        go_quiet (fail)
        go_wp2_with fail
        · have ht : (s1, s2) ≠ (t1, t2) := fun h => by
            injection h with h1 h2
            subst h1 h2
            simp_all
          go_ret
          exact ⟨ret_bool (HNE.out ht).symm, m + nq, by first | rfl | rw [World.drewN_drewN]⟩
        · have ht : (s1, s2) = (t1, t2) := by simp_all
          go_roundw
          case rel =>
            refine ⟨q + 1, by omega, by go_num, ?_, _, rfl⟩
            show _ = _
            rw [HT1.out, HT2.out, he.out, ht]
          case measure => simp [intOf]; omega
      · have hqe : q = n := by omega
        subst hqe
        go_wp2_with fail
        go_ret
        refine ⟨ret_bool ?_, _, rfl⟩
        have h1 := he.out
        rw [List.take_of_length_le (by rw [HN.out]; exact Nat.le_refl _), List.take_of_length_le (by rw [HM.out]; exact Nat.le_refl _)] at h1
        simp [h1]
  · have hl' : ((n : Int) != (m : Int)) = true := by rw [bne_iff_ne]; omega
    have hb : (l == k) = false := by
      apply Bool.eq_false_iff.2
      intro h
      have : l = k := by simpa using h
      exact hl (by rw [hn, hm, this])
    rw [hb]
    clear hx hy hn hm hb hl
    go_enter Try.func10, Try.ntmps10
    go_wp2_with fail
    go_ret
    exact ⟨rfl, 0, rfl⟩

/-- steps of the call's own -/
def StepsPost (ty : TypeId) (l : List Step) (w : World) (e : Ending) (w' : World) : Prop :=
  Below w.heap.size w w' ∧ ∃ v, e = .returned v ∧ w'.ownsRow w.heap.size ty 2 v l.length (stepCells l)
theorem StepsPost.reads {ty : TypeId} {l : List Step} {w w' : World} {e : Ending} (h : StepsPost ty l w e w') :
    Below w.heap.size w w' ∧ ∃ A n c, e = .returned (.slice A n c) ∧ n = l.length ∧ n ≤ c ∧ c ≤ maxLen ∧ Reads w' w'.heap.size A (stepCells l) := by
  obtain ⟨hb, v, he, hown⟩ := h
  obtain ⟨A', c', hv, hle, hA'⟩ := ownsRow_slice hown
  refine ⟨hb, A', _, c', by rw [he, hv], rfl, hle, ?_, ?_⟩
  · rw [hv] at hown
    rcases hown.2 with ⟨hv', hn⟩ | ⟨g, cap, cur, hv', _, _, _, hc, _⟩
    · injection hv' with _ _ h3
      omega
    · injection hv' with _ _ h3
      omega
  · intro j u hu
    rcases hown.2 with ⟨hv', hn⟩ | ⟨g, cap, cur, hv', hbg, hg, _⟩
    · have hl : j < (stepCells l).length := (List.getElem?_eq_some_iff.1 hu).1
      rw [stepCells_len] at hl
      omega
    · rw [hv] at hv'
      injection hv' with hA
      subst hA
      have := hown.cells (g := g) (by rw [hv]; rfl) j u hu
      rw [add_lit] at this
      exact ⟨g, 0, rfl, (Array.getElem?_eq_some_iff.1 hg).1, this⟩
theorem stepsReads {w : World} {base : Nat} {ty : TypeId} {v : Value} {l : List Step} (hown : w.ownsRow base ty 2 v l.length (stepCells l)) :
    ∃ A n c, v = .slice A n c ∧ n = l.length ∧ n ≤ c ∧ c ≤ maxLen ∧ Reads w w.heap.size A (stepCells l) := by
  obtain ⟨A', c', hv, hle, hA'⟩ := ownsRow_slice hown
  refine ⟨A', _, c', hv, rfl, hle, ?_, ?_⟩
  · rcases hown.2 with ⟨hv', hn⟩ | ⟨g, cap, cur, hv', _, _, _, hc, _⟩
    · rw [hv] at hv'
      injection hv' with _ _ h3
      omega
    · rw [hv] at hv'
      injection hv' with _ _ h3
      omega
  · intro j u hu
    rcases hown.2 with ⟨hv', hn⟩ | ⟨g, cap, cur, hv', hbg, hg, _⟩
    · have hl : j < (stepCells l).length := (List.getElem?_eq_some_iff.1 hu).1
      rw [stepCells_len] at hl
      omega
    · have := hown.cells (g := g) (by rw [hv']; rfl) j u hu
      rw [hv] at hv'
      injection hv' with hA
      rw [add_lit] at this
      exact ⟨g, 0, hA, (Array.getElem?_eq_some_iff.1 hg).1, this⟩

theorem infoMine : (Try.prog.info? 52).map (fun i => (i.zero, i.size, i.bytes)) = some (some (.agg #[.int .i64 0, .int .i64 0]), 2, 16) := by kernel_rfl
theorem infoTheirs : (Try.prog.info? 50).map (fun i => (i.zero, i.size, i.bytes)) = some (some (.agg #[.int .i64 0, .int .i64 0]), 2, 16) := by kernel_rfl

set_option maxHeartbeats 2000000 in
theorem theirs_any (A : Option Addr) (n c b0 : Nat) (l : List Step) (w : World) (hn : n = l.length) (hx : Reads w b0 A (stepCells l)) (hb0 : b0 ≤ w.heap.size) (hs : n ≤ 8796093021952) :
    Calls Try.prog 11 #[.slice A n c] w (StepsPost 50 l w) := by
  obtain ⟨i0, hi, hz0, hz1, hz2⟩ := info_parts infoTheirs
  have HX := hide hx
  have HN := hide hn
  clear hx hn
  go_enter Try.func11, Try.ntmps11
  go_wp2_with fail
  go_loopw [3, 4] (fun v i wr => ∃ q : Nat, q ≤ n ∧ i = .int .i64 q ∧ wr.ownsRow w.heap.size 50 2 v q (stepCells (l.take q)) ∧ Below w.heap.size w wr) (fun _ i _ => n - (intOf i).toNat)
  case atStart => exact ⟨0, by omega, rfl, World.ownsRow_nil _ _ _ _, Below.refl _ _⟩
  case round =>
    obtain ⟨q, hq, rfl, hown, hbe⟩ := hrel
    by_cases hlt : q < n
    · have hl1 : q < l.length := by rw [← HN.out]; exact hlt
      obtain ⟨bx, ox, rfl, hbx, c0, c1⟩ := (HX.out.below hbe hb0).stepAt hl1
      have HT : Hid (stepCells (l.take (q + 1)) = stepCells (l.take q) ++ [.int .i64 l[q].1, .int .i64 l[q].2]) := by
        show _ = _
        rw [List.take_succ_eq_append_getElem hl1, stepCells_app]
        rfl
      generalize l[q] = s at *
      obtain ⟨s1, s2⟩ := s
      simp only at c0 c1
      have hbr : bx < wr.heap.size := by have := hbe.size; omega
      have f0 := (World.cell?_alloc_lt wr (.cells #[.int .i64 s1, .int .i64 s2] 50) ⟨bx, ox + q * 2, none⟩ hbr).trans c0
      have f1 := (World.cell?_alloc_lt wr (.cells #[.int .i64 s1, .int .i64 s2] 50) ⟨bx, ox + q * 2 + 1, none⟩ hbr).trans c1
      go_wp2_with fail
      go_region_held3 (fun w' => w'.cell? ⟨bx, ox + q * 2, none⟩ = some (.int .i64 s1) ∧ w'.cell? ⟨bx, ox + q * 2 + 1, none⟩ = some (.int .i64 s2)) (first | exact ⟨c0, c1⟩ | exact ⟨f0, f1⟩ | exact ⟨g0, g1⟩)
        ((refine step_append_lies _ (by rfl) _ _ _ (by rfl) w.heap.size 50 i0 _ 2 16 Try.underlying27 hi hz0 hz1 hz2 rfl (by omega) _ q (stepCells (l.take q)) (by rfl) ((hown.alloc _).drew) ⟨wr.heap.size, 0, none⟩ 1 1 [.int .i64 s1, .int .i64 s2] (by rfl) (by rfl) (World.news_of_block (cs := #[.int .i64 s1, .int .i64 s2]) (t := 50) (fr := (0, 0)) (heap_alloc_new wr _)) (by simp [Value.oneCell']) (by omega) (by unfold maxLen; omega) (by omega) (by have := hbe.size; simp; omega) (wr.heap.size + 1) (by simp) ?_; intro gg cap w4 hown4 hg4 hat4 hlt4; have g0 := (World.cell?_of_block (a := ⟨bx, ox + q * 2, none⟩) (hg4.block bx (by simp; omega) (fun e => by have := (hown.lt bx e.symm).1; omega))).trans f0; have g1 := (World.cell?_of_block (a := ⟨bx, ox + q * 2 + 1, none⟩) (hg4.block bx (by simp; omega) (fun e => by have := (hown.lt bx e.symm).1; omega))).trans f1))
      go_wp2_with fail
      go_roundw
      case rel =>
        refine ⟨q + 1, by omega, by go_num, ?_, ((hbe.alloc hbe.size _).drew).grown hg4 (by have := hbe.size; simp; omega) (fun k hk => (hown.lt k hk).1)⟩
        rw [HT.out]
        exact hown4
      case measure => simp [intOf]; omega
    · have hqe : q = n := by omega
      subst hqe
      rw [show l.take q = l from List.take_of_length_le (by rw [HN.out]; exact Nat.le_refl _)] at hown
      go_wp2_with fail
      go_ret
      rw [HN.out] at hown
      exact ⟨hbe, _, rfl, hown⟩
end Go.Proofs.Ytpahgpmhnpfnhaa
