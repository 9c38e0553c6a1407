/-
  The walk of the law on mixed words.
-/
import Derived.Test.YtnipbkplobpnhaaWordW
namespace Go.Proofs.Ytnipbkplobpnhaa
open Go.RowKit

theorem unl_bd (x : Int) : 0 ≤ unlTo x 8 ∧ unlTo x 8 ≤ 255 := by
  have := unlTo_bd x 8
  rw [show (2 : Int) ^ 8 = 256 from by decide] at this
  omega

set_option maxHeartbeats 1000000 in
theorem mixes_walk (a b m : Int) (ha : 0 ≤ a ∧ a ≤ 18446744073709551615) (hb : 0 ≤ b ∧ b ≤ 18446744073709551615) (hm : 0 ≤ m ∧ m ≤ 255) (w : World) :
    Calls Try.prog 3 #[.int .u64 a, .int .u64 b, .int .u8 m] w fun e w' => e = .returned (.bool true) ∧ Below w.heap.size w w' := by
  have hu := unl_bd (bits .xor .u64 a b)
  have e1 := unl_same a b ha.1 ha.2 hb.1 hb.2 8
  have e2 := mix_same a b m ha.1 ha.2 hb.1 hb.2
  have e3 := mix_same a b (unlTo (bits .xor .u64 a b) 8) ha.1 ha.2 hb.1 hb.2
  have e4 := mix_unlike a b hb.1 hb.2
  have e5 := wide_same m
  rw [← e1] at e4
  rw [e4] at e3
  have E1 := hide e1
  have E2 := hide e2
  have E3 := hide e3
  have E5 := hide e5
  clear e1 e2 e3 e4 e5
  obtain ⟨hu0, hu1⟩ := hu
  obtain ⟨a0, a1⟩ := ha
  obtain ⟨b0, b1⟩ := hb
  obtain ⟨m0, m1⟩ := hm
  go_enter Try.func3, Try.ntmps3
  go_wp2_with fail
  refine (unlike_any a b a0 a1 b0 b1 _).mono ?_
  rintro e w1 ⟨rfl, h1⟩
  generalize hg : unlTo (bits .xor .u64 a b) 8 = u at *
  have HG := hide hg
  clear hg
  go_wp2_with fail
  refine (mix_any a b m a0 a1 b0 b1 m0 m1 _).mono ?_
  rintro e w2 ⟨rfl, rfl⟩
  rw [E2.out]
  go_wp2_with fail
  refine (refMix_any a b m a0 a1 b0 b1 m0 m1 _).mono ?_
  rintro e w2 ⟨rfl, h2⟩
  generalize join8 (mxb a b m 8) = x
  go_wp2_with fail
  refine (refUnlike_any a b a0 a1 b0 b1 _).mono ?_
  rintro e w3 ⟨rfl, h3⟩
  rw [← E1.out]
  go_wp2_with fail
  refine (mix_any a b u a0 a1 b0 b1 hu0 hu1 _).mono ?_
  rintro e w4 ⟨rfl, rfl⟩
  rw [E3.out]
  go_wp2_with fail
  refine (wide_any m m0 m1 _).mono ?_
  rintro e w4 ⟨rfl, rfl⟩
  rw [E5.out]
  go_wp2_with fail
  refine (refMix_any 0 18446744073709551615 m (by decide) (by decide) (by decide) (by decide) m0 m1 _).mono ?_
  rintro e w4 ⟨rfl, h4⟩
  generalize join8 (mxb 0 18446744073709551615 m 8) = y
  go_wp2_with fail
  refine (awake_any _).mono ?_
  rintro e w5 ⟨rfl, h5⟩
  go_wp2_with fail
  go_ret
  exact ⟨rfl, below_step (below_step (below_step (below_step h1 h2) h3) h4) h5⟩
end Go.Proofs.Ytnipbkplobpnhaa
