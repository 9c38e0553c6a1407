/-
  Mine; Sizes of package script and of its reference.
-/
import Derived.Test.YtpahgpmhnpfnhaaScrC
namespace Go.Proofs.Ytpahgpmhnpfnhaa
open Go.RowKit Go.Proofs.Ytpahgpmhnpfnhaa.Scr

set_option maxHeartbeats 2000000 in
theorem mine_any (A : Option Addr) (n c b0 : Nat) (l : List Step) (w : World) (hn : n = l.length) (hx : Reads w b0 A (stepCells l)) (hb0 : b0 ≤ w.heap.size) (hs : n ≤ 8796093021952) :
    Calls Try.prog 18 #[.slice A n c] w (StepsPost 52 l w) := by
  obtain ⟨i0, hi, hz0, hz1, hz2⟩ := info_parts infoMine
  have HX := hide hx
  have HN := hide hn
  clear hx hn
  go_enter Try.func18, Try.ntmps18
  go_wp2_with fail
  go_loopw [3, 4] (fun v i wr => ∃ q : Nat, q ≤ n ∧ i = .int .i64 q ∧ wr.ownsRow w.heap.size 52 2 v q (stepCells (l.take q)) ∧ Below w.heap.size w wr) (fun _ i _ => n - (intOf i).toNat)
  case atStart => exact ⟨0, by omega, rfl, World.ownsRow_nil _ _ _ _, Below.refl _ _⟩
  case round =>
    obtain ⟨q, hq, rfl, hown, hbe⟩ := hrel
    by_cases hlt : q < n
    · have hl1 : q < l.length := by rw [← HN.out]; exact hlt
      obtain ⟨bx, ox, rfl, hbx, c0, c1⟩ := (HX.out.below hbe hb0).stepAt hl1
      have HT : Hid (stepCells (l.take (q + 1)) = stepCells (l.take q) ++ [.int .i64 l[q].1, .int .i64 l[q].2]) := by
        show _ = _
        rw [List.take_succ_eq_append_getElem hl1, stepCells_app]
        rfl
      generalize l[q] = s at *
      obtain ⟨s1, s2⟩ := s
      simp only at c0 c1
      have hbr : bx < wr.heap.size := by have := hbe.size; omega
      have f0 := (World.cell?_alloc_lt wr (.cells #[.int .i64 s1, .int .i64 s2] 52) ⟨bx, ox + q * 2, none⟩ hbr).trans c0
      have f1 := (World.cell?_alloc_lt wr (.cells #[.int .i64 s1, .int .i64 s2] 52) ⟨bx, ox + q * 2 + 1, none⟩ hbr).trans c1
      go_wp2_with fail
      go_region_held3 (fun w' => w'.cell? ⟨bx, ox + q * 2, none⟩ = some (.int .i64 s1) ∧ w'.cell? ⟨bx, ox + q * 2 + 1, none⟩ = some (.int .i64 s2)) (first | exact ⟨c0, c1⟩ | exact ⟨f0, f1⟩ | exact ⟨g0, g1⟩)
        ((refine step_append_lies _ (by rfl) _ _ _ (by rfl) w.heap.size 52 i0 _ 2 16 Try.underlying24 hi hz0 hz1 hz2 rfl (by omega) _ q (stepCells (l.take q)) (by rfl) ((hown.alloc _).drew) ⟨wr.heap.size, 0, none⟩ 1 1 [.int .i64 s1, .int .i64 s2] (by rfl) (by rfl) (World.news_of_block (cs := #[.int .i64 s1, .int .i64 s2]) (t := 52) (fr := (0, 0)) (heap_alloc_new wr _)) (by simp [Value.oneCell']) (by omega) (by unfold maxLen; omega) (by omega) (by have := hbe.size; simp; omega) (wr.heap.size + 1) (by simp) ?_; intro gg cap w4 hown4 hg4 hat4 hlt4; have g0 := (World.cell?_of_block (a := ⟨bx, ox + q * 2, none⟩) (hg4.block bx (by simp; omega) (fun e => by have := (hown.lt bx e.symm).1; omega))).trans f0; have g1 := (World.cell?_of_block (a := ⟨bx, ox + q * 2 + 1, none⟩) (hg4.block bx (by simp; omega) (fun e => by have := (hown.lt bx e.symm).1; omega))).trans f1))
      go_wp2_with fail
      go_roundw
      case rel =>
        refine ⟨q + 1, by omega, by go_num, ?_, ((hbe.alloc hbe.size _).drew).grown hg4 (by have := hbe.size; simp; omega) (fun k hk => (hown.lt k hk).1)⟩
        rw [HT.out]
        exact hown4
      case measure => simp [intOf]; omega
    · have hqe : q = n := by omega
      subst hqe
      rw [show l.take q = l from List.take_of_length_le (by rw [HN.out]; exact Nat.le_refl _)] at hown
      go_wp2_with fail
      go_ret
      rw [HN.out] at hown
      exact ⟨hbe, _, rfl, hown⟩

def sizesS (l : List Step) : Value := if allOk l = true then .tuple #[.int .i64 (sum ahdN l), .int .i64 (sum bhdN l), .bool true] else .tuple #[.int .i64 0, .int .i64 0, .bool false]
theorem ahd_bd (s : Step) (h : okS s = true) : 0 ≤ ahdN s ∧ ahdN s ≤ 1048576 ∧ 0 ≤ bhdN s ∧ bhdN s ≤ 1048576 := by
  have := (okS_iff s).1 h
  unfold ahdN bhdN
  split <;> split <;> omega
theorem sums_bd (l : List Step) (k : Nat) (hk : k ≤ l.length) (h : allOk (l.take k) = true) : (0 ≤ sum ahdN (l.take k) ∧ sum ahdN (l.take k) ≤ 1048576 * k) ∧ (0 ≤ sum bhdN (l.take k) ∧ sum bhdN (l.take k) ≤ 1048576 * k) := by
  induction k with
  | zero => simp [sum]
  | succ k ih =>
    rw [allOk_take l k (by omega), Bool.and_eq_true] at h
    rw [sum_take _ l k (by omega), sum_take _ l k (by omega)]
    have h1 := ih (by omega) h.1
    have h2 := ahd_bd _ h.2
    omega

set_option maxHeartbeats 2000000 in
theorem sizes_any (A : Option Addr) (n c b0 : Nat) (l : List Step) (w : World) (hn : n = l.length) (hx : Reads w b0 A (stepCells l)) (hb0 : b0 ≤ w.heap.size) (hs : n ≤ 8796093021952) :
    Calls Try.prog 29 #[.slice A n c] w fun e w' => e = .returned (sizesS l) ∧ Below w.heap.size w w' := by
  have HX := hide hx
  have HN := hide hn
  clear hx hn
  go_enter Try.func29, Try.ntmps29
  go_wp2_with fail
  go_loopw [5, 6, 11] (fun x y i wr => ∃ (q : Nat) (p r : Int), q ≤ n ∧ i = .int .i64 q ∧ x = .int .i64 p ∧ y = .int .i64 r ∧ 0 ≤ p ∧ p ≤ 1048576 * q ∧ 0 ≤ r ∧ r ≤ 1048576 * q ∧ Hid (allOk (l.take q) = true ∧ p = sum ahdN (l.take q) ∧ r = sum bhdN (l.take q)) ∧ Below w.heap.size w wr) (fun _ _ i _ => n - (intOf i).toNat)
  case atStart => exact ⟨0, 0, 0, by omega, rfl, rfl, rfl, by omega, by omega, by omega, by omega, ⟨rfl, rfl, rfl⟩, Below.refl _ _⟩
  case round =>
    obtain ⟨q, p, r, hq, rfl, rfl, rfl, hp0, hp1, hr0, hr1, hS, hbe⟩ := hrel
    by_cases hlt : q < n
    · have hl1 : q < l.length := by rw [← HN.out]; exact hlt
      obtain ⟨bx, ox, rfl, hbx, c0, c1⟩ := (HX.out.below hbe hb0).stepAt hl1
      have HA := hide (allOk_take l q hl1)
      have HH := hide (fun (h : okS l[q] = false) => allOk_hit l q hl1 h)
      have HS1 := hide (sum_take ahdN l q hl1)
      have HS2 := hide (sum_take bhdN l q hl1)
      have HB := hide (fun (h : okS l[q] = true) => ahd_bd l[q] h)
      generalize l[q] = s at *
      obtain ⟨s1, s2⟩ := s
      simp only at c0 c1
      have hbr : bx < wr.heap.size := by have := hbe.size; omega
      go_wp2_with fail
      refine (right_any s1 s2 _).mono ?_
      rintro e w1 ⟨rfl, hb1⟩
      have hbe1 : Below w.heap.size w w1 := hbe.trans (((Below.refl w.heap.size wr).alloc hbe.size _).trans (hb1.mono (by have := hbe.size; simp; omega)))
      have d0 : w1.cell? ⟨wr.heap.size, 0, none⟩ = some (.int .i64 s1) := (hb1.cell (p := ⟨wr.heap.size, 0, none⟩) (by simp)).trans (by simp [go_sem])
      have d1 : w1.cell? ⟨wr.heap.size, 1, none⟩ = some (.int .i64 s2) := (hb1.cell (p := ⟨wr.heap.size, 1, none⟩) (by simp)).trans (by simp [go_sem])
      cases hok : okS (s1, s2)
      · have HOK := hide hok
        clear hok
        have HF := hide (HH.out HOK.out)
        go_wp2_with fail
        go_ret3
        refine ⟨?_, hbe1⟩
        unfold sizesS
        rw [HF.out]
        rfl
      · have hb := (okS_iff _).1 hok
        simp only at hb
        have hbb := HB.out hok
        have HOK := hide hok
        clear hok
        rw [HOK.out, Bool.and_true] at HA
        rcases (show s1 = 0 ∨ s1 = 1 ∨ s1 = 2 by omega) with rfl | rfl | rfl
        all_goals
          go_wp2_with fail
          go_roundw
          case rel =>
            refine ⟨q + 1, _, _, by omega, by go_num, rfl, rfl, by omega, by omega, by omega, by omega, ⟨by rw [HA.out]; exact hS.out.1, ?_, ?_⟩, hbe1⟩
            · rw [HS1.out, ← hS.out.2.1]
              simp [ahdN]
            · rw [HS2.out, ← hS.out.2.2]
              simp [bhdN]
          case measure => simp [intOf]; omega
    · have hqe : q = n := by omega
      subst hqe
      go_wp2_with fail
      go_ret3
      refine ⟨?_, hbe⟩
      obtain ⟨h1, h2, h3⟩ := hS.out
      rw [show l.take q = l from List.take_of_length_le (by rw [HN.out]; exact Nat.le_refl _)] at h1 h2 h3
      unfold sizesS
      rw [h1, ← h2, ← h3]
      rfl
end Go.Proofs.Ytpahgpmhnpfnhaa
