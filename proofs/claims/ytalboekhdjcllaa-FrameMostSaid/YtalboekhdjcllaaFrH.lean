/-
  The same segments; the example of chapter 3.
-/
import Derived.Test.YtalboekhdjcllaaFrQ
import Derived.Test.YtalboekhdjcllaaFrC
import Derived.Test.YtalboekhdjcllaaFrG
namespace Go.Proofs.Ytalboekhdjcllaa
open Go.RowKit

theorem quiet_sum {P : Program} {f : FuncId} {args : Array Value} {w : World} {m x : Nat} {v : Value}
    (h : Calls P f args (w.drewN (m + x)) fun e w' => e = .returned v ∧ ∃ k, w' = (w.drewN (m + x)).drewN k) :
    Calls P f args (w.drewN (m + x)) fun e w'' => e = .returned v ∧ ∃ n, w'' = w.drewN (m + n) :=
  h.mono fun _ _ ⟨he, k, hk⟩ => ⟨he, x + k, by rw [hk, World.drewN_drewN, Nat.add_assoc]⟩

set_option maxHeartbeats 1000000 in
theorem segsSame_any (A B : Option Addr) (n m c d b0 : Nat) (vs us : List Value) (ls ms : List (List Int)) (w : World) (hn : n = ls.length) (hm : m = ms.length) (hs : SegsAt w b0 A vs ls) (ht : SegsAt w b0 B us ms) (ln : n ≤ maxLen) (lm : m ≤ maxLen) :
    Calls Try.prog 11 #[.slice A n c, .slice B m d] w fun e w' => e = .returned (.bool (ls == ms)) ∧ ∃ k, w' = w.drewN k := by
  unfold maxLen at ln lm
  by_cases hl : n = m
  · subst hl
    have HS := hide hs
    have HT := hide ht
    have HN := hide hn
    have HM := hide hm
    clear hs ht hn hm
    go_enter Try.func11, Try.ntmps11
    go_wp2_with fail
    go_loopw [5] (fun i wr => ∃ k : Nat, k ≤ n ∧ i = .int .i64 k ∧ Hid (ls.take k = ms.take k) ∧ ∃ m, wr = w.drewN m) (fun i _ => n - (intOf i).toNat)
    case atStart => exact ⟨0, by omega, rfl, by exact rfl, 0, rfl⟩
    case round =>
      obtain ⟨k, hk, rfl, he, m, rfl⟩ := hrel
      by_cases hlt : k < n
      · have hl1 : k < ls.length := by rw [← HN.out]; exact hlt
        have hl2 : k < ms.length := by rw [← HM.out]; exact hlt
        obtain ⟨bx, ox, A1, n1, c1, rfl, _, cx, hn1, hr1, _, h81⟩ := HS.out.at_ hl1
        obtain ⟨bY, oy, A2, n2, c2, rfl, _, cy, hn2, hr2, _, h82⟩ := HT.out.at_ hl2
        have HN1 := hide hn1
        have HN2 := hide hn2
        have HR1 := hide hr1
        have HR2 := hide hr2
        have HT1 := hide (List.take_succ_eq_append_getElem hl1)
        have HT2 := hide (List.take_succ_eq_append_getElem hl2)
        have HNE : Hid ((ls[k] == ms[k]) = false → (ls == ms) = false) := fun h => by
          apply Bool.eq_false_iff.2
          intro h2
          have h3 : ls = ms := by simpa using h2
          subst h3
          simp at h
        clear hn1 hn2 hr1 hr2
        generalize ls[k] = x at *
        generalize ms[k] = y at *
        have lx1 : n1 ≤ maxLen := by unfold maxLen; omega
        have lx2 : n2 ≤ maxLen := by unfold maxLen; omega
        go_wp2_with fail
        go_quiet ((go_at_call 20; exact quiet_sum (same_any A1 A2 c1 c2 b0 n1 n2 x y _ HN1.out HN2.out (HR1.out.drewN _) (HR2.out.drewN _) lx1 lx2)))
        generalize hxy : (x == y) = bb at *
        cases bb
        · have HF := hide (HNE.out rfl)
          clear hxy
          go_wp2_with fail
          go_ret
          exact ⟨ret_bool HF.out.symm, _, by first | rfl | rw [World.drewN_drewN]⟩
        · have hxe : x = y := by simpa using hxy
          have HE := hide hxe
          clear hxy hxe
          go_wp2_with fail
          go_roundw
          case rel =>
            refine ⟨k + 1, by omega, by go_num, ?_, _, by first | rfl | rw [World.drewN_drewN]⟩
            show _ = _
            rw [HT1.out, HT2.out, he.out, HE.out]
          case measure => simp [intOf]; omega
      · have hke : k = n := by omega
        subst hke
        go_wp2_with fail
        go_ret
        refine ⟨ret_bool ?_, _, rfl⟩
        have h1 := he.out
        rw [List.take_of_length_le (by rw [HN.out]; exact Nat.le_refl _), List.take_of_length_le (by rw [HM.out]; exact Nat.le_refl _)] at h1
        simp [h1]
  · have hl' : ((n : Int) != (m : Int)) = true := by rw [bne_iff_ne]; omega
    have hb : (ls == ms) = false := by
      apply Bool.eq_false_iff.2
      intro h
      have : ls = ms := by simpa using h
      exact hl (by rw [hn, hm, this])
    rw [hb]
    clear hs ht hn hm hb hl
    go_enter Try.func11, Try.ntmps11
    go_wp2_with fail
    go_ret
    exact ⟨rfl, 0, rfl⟩

theorem segs_seven (w : World) : SegsAt ((w.alloc (.cells #[.int .u64 7] 41)).alloc (.cells #[.slice (some ⟨w.heap.size, 0, none⟩) 1 1] 38)) (w.heap.size + 2) (some ⟨w.heap.size + 1, 0, none⟩) [.slice (some ⟨w.heap.size, 0, none⟩) 1 1] [[7]] := by
  have h1 := (Blk.new w 41 #[.int .u64 7]).alloc (.cells #[.slice (some ⟨w.heap.size, 0, none⟩) 1 1] 38)
  have h2 := Blk.new (w.alloc (.cells #[.int .u64 7] 41)) 38 #[.slice (some ⟨w.heap.size, 0, none⟩) 1 1]
  rw [show (w.alloc (.cells #[.int .u64 7] 41)).heap.size = w.heap.size + 1 from by simp] at h2
  refine ⟨Reads.of_lit (by omega) fun j u hu => ?_, rfl, fun i g1 g2 => ?_⟩
  · rw [Nat.zero_add, h2.cell]
    simpa using hu
  · have : i = 0 := by simpa using g1
    subst this
    refine ⟨_, 1, 1, rfl, rfl, Reads.of_lit (by omega) fun j u hu => ?_, fun x hx => by simp at hx; omega, by omega⟩
    rw [Nat.zero_add, h1.cell]
    simpa using hu

def frB : List Int := [0, 0, 0, 0, 1, 0, 0, 0, 7, 0, 0, 0, 0, 0, 0, 0]
theorem fr_ok : okSegs [[7]] = true := by decide +kernel
theorem fr_bytes : frameB [[7]] = frB := by decide +kernel
theorem fr_err : unfErr frB = 0 := by decide +kernel
theorem fr_n : nSegs frB = 1 := by decide +kernel
theorem fr_segs : segsOf frB 1 1 = [[7]] := by decide +kernel

set_option maxHeartbeats 1000000 in
theorem awake_any (w : World) :
    Calls Try.prog 9 #[] w fun e w' => e = .returned (.bool true) ∧ Below w.heap.size w w' := by
  go_enter Try.func9, Try.ntmps9
  go_wp2_with fail
  have h0 : Below w.heap.size w (((w.alloc (.cells #[.int .u64 7] 41)).alloc (.cells #[.slice (some ⟨w.heap.size, 0, none⟩) 1 1] 38))) := ((Below.refl _ _).alloc (Nat.le_refl _) _).alloc (by simp) _
  have hs0 : SegsAt ((w.alloc (.cells #[.int .u64 7] 41)).alloc (.cells #[.slice (some ⟨w.heap.size, 0, none⟩) 1 1] 38)) (w.heap.size + 2) (some ⟨w.heap.size + 1, 0, none⟩) [.slice (some ⟨w.heap.size, 0, none⟩) 1 1] [[7]] := segs_seven w
  have HS0 := hide hs0
  have hz0 : w.heap.size + 2 ≤ ((w.alloc (.cells #[.int .u64 7] 41)).alloc (.cells #[.slice (some ⟨w.heap.size, 0, none⟩) 1 1] 38)).heap.size := by simp
  clear hs0
  generalize ((w.alloc (.cells #[.int .u64 7] 41)).alloc (.cells #[.slice (some ⟨w.heap.size, 0, none⟩) 1 1] 38)) = w0 at *
  refine (frame_any _ 1 1 (w.heap.size + 2) _ [[7]] _ rfl HS0.out hz0 (by decide)).mono ?_
  intro e w1 hp
  obtain ⟨h1, A2, n2, c2, rfl, hn2, hnc2, hc2, hr2⟩ := hp.yes fr_ok
  rw [fr_bytes] at hn2 hr2
  have hn2' : n2 = 16 := hn2
  subst hn2'
  have R2 := hide hr2
  have h11 := h0.trans (h1.mono (by omega))
  clear hp hr2 hn2
  go_wp2_with fail
  refine (unframe_any A2 16 c2 w1.heap.size frB _ rfl R2.out (Nat.le_refl _) (by decide) hnc2 hc2 (by decide)).mono ?_
  intro e w2 hp
  obtain ⟨h2, A3, vs3, c3, rfl, hs3⟩ := hp.yesq (q := 1) (ls := [[7]]) fr_err fr_n fr_segs
  have HS3 := hide hs3
  have h12 := below_step h11 h2
  have R2' := hide ((R2.out.below h2 (Nat.le_refl _)).more h2.size)
  clear hp hs3
  go_wp2_with fail
  have hB : Below w2.heap.size w2 (w2.alloc (.cells (frB.map (Value.int .u8)).toArray 5)) := (Below.refl _ _).alloc (Nat.le_refl _) _
  have RL : Hid (Reads (w2.alloc (.cells (frB.map (Value.int .u8)).toArray 5)) (w2.alloc (.cells (frB.map (Value.int .u8)).toArray 5)).heap.size (some ⟨w2.heap.size, 0, none⟩) (frB.map (Value.int .u8))) :=
    Reads.of_lit (by simp) fun j u hu => by
      rw [Nat.zero_add, (Blk.new w2 _ _).cell]
      simpa using hu
  have R3 := hide ((R2'.out.below hB (Nat.le_refl _)).more hB.size)
  have HS4 := hide ((HS3.out.below hB (Nat.le_refl _)).more hB.size)
  have h13 := below_step h12 hB
  change Calls _ _ _ (w2.alloc (.cells (frB.map (Value.int .u8)).toArray 5)) _
  generalize (w2.alloc (.cells (frB.map (Value.int .u8)).toArray 5)) = w3 at *
  refine (sameBytes_any A2 _ c2 16 w3.heap.size 16 16 frB frB _ rfl rfl R3.out RL.out (by decide) (by decide)).mono ?_
  rintro e w4 ⟨rfl, k4, rfl⟩
  rw [beq_self_eq_true]
  go_wp2_with fail
  have h14 : Below w.heap.size w (w3.drewN k4) := below_drewN h13 _
  have HS5 : Hid (SegsAt (w3.drewN k4) (w3.drewN k4).heap.size A3 vs3 [[7]]) := HS4.out.drewN k4
  have hs7 := segs_seven (w3.drewN k4)
  have hb7 : Below (w3.drewN k4).heap.size (w3.drewN k4) (((w3.drewN k4).alloc (.cells #[.int .u64 7] 41)).alloc (.cells #[.slice (some ⟨w3.heap.size, 0, none⟩) 1 1] 38)) := ((Below.refl _ _).alloc (Nat.le_refl _) _).alloc (by simp) _
  have hz7 : w3.heap.size + 2 ≤ (((w3.drewN k4).alloc (.cells #[.int .u64 7] 41)).alloc (.cells #[.slice (some ⟨w3.heap.size, 0, none⟩) 1 1] 38)).heap.size := by simp
  have HS7 : Hid (SegsAt (((w3.drewN k4).alloc (.cells #[.int .u64 7] 41)).alloc (.cells #[.slice (some ⟨w3.heap.size, 0, none⟩) 1 1] 38)) (w3.heap.size + 2) (some ⟨w3.heap.size + 1, 0, none⟩) [.slice (some ⟨w3.heap.size, 0, none⟩) 1 1] [[7]]) := hs7
  have HS6 := hide ((HS5.out.below hb7 (Nat.le_refl _)).more hb7.size)
  have h15 := below_step h14 hb7
  clear hs7
  generalize (((w3.drewN k4).alloc (.cells #[.int .u64 7] 41)).alloc (.cells #[.slice (some ⟨w3.heap.size, 0, none⟩) 1 1] 38)) = w5 at *
  refine (segsSame_any A3 _ 1 1 c3 1 w5.heap.size vs3 _ [[7]] [[7]] _ rfl rfl HS6.out (HS7.out.more hz7) (by decide) (by decide)).mono ?_
  rintro e w6 ⟨rfl, k6, rfl⟩
  rw [beq_self_eq_true]
  go_wp2_with fail
  go_ret
  exact ⟨rfl, below_drewN h15 _⟩
end Go.Proofs.Ytalboekhdjcllaa
