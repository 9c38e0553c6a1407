/-
  The walk of the law on Get, Fits and Room.
-/
import Derived.Test.YtnipbkplobpnhaaWordW
namespace Go.Proofs.Ytnipbkplobpnhaa
open Go.RowKit

set_option maxHeartbeats 2000000 in
theorem gets_walk (A : Option Addr) (n k : Nat) (xs : List Int) (c i m : Int) (w : World) (hn : n = xs.length) (_hc : n ≤ k) (_hm : k ≤ maxLen)
    (hr : Reads w w.heap.size A (xs.map (Value.int .u64))) (hw : ∀ x ∈ xs, 0 ≤ x ∧ x ≤ 18446744073709551615) (_hs : n * 8 ≤ 140737488351232)
    (_hcode : -9223372036854775808 ≤ c ∧ c ≤ 9223372036854775807) (_hi : -9223372036854775808 ≤ i ∧ i ≤ 9223372036854775807) (hmm : 0 ≤ m ∧ m ≤ 18446744073709551615) :
    Calls Try.prog 6 #[.slice A n k, .int .i64 c, .int .i64 i, .int .u64 m] w fun e w' => e = .returned (.bool true) ∧ Below w.heap.size w w' := by
  have lx : n ≤ maxLen := by unfold maxLen; omega
  have fin : ∀ w4 : World, Below w.heap.size w w4 → Reads w4 w4.heap.size A (xs.map (Value.int .u64)) := fun w4 h => (hr.below h (Nat.le_refl _)).more h.size
  have FIN := hide fin
  have HW := hide hw
  have HN := hide hn
  have HR := hide hr
  clear fin hw hn hr
  cases hc : okC c
  · have HC := hide hc
    have HR1 := hide (rwd_neg c hc)
    have HW0 := hide (okC_false hc).2
    clear hc
    go_enter Try.func6, Try.ntmps6
    go_wp2_with fail
    refine (Width_any c _).mono ?_
    rintro e w1 ⟨rfl, h1⟩
    rw [HC.out, HW0.out]
    go_wp2_with fail
    refine (refWidth_any c _).mono ?_
    rintro e w2 ⟨rfl, rfl⟩
    rw [HR1.out]
    go_wp2_with fail
    have hr1 := FIN.out _ h1
    refine (get_any A k w1.heap.size n xs c i _ HN.out lx hr1 (Nat.le_refl _) HW.out).mono ?_
    rintro e w2 ⟨rfl, h2⟩
    go_wp2_with fail
    have h12 := below_step h1 h2
    refine (refGet_any A k w2.heap.size n xs c i _ HN.out lx (FIN.out _ h12) HW.out).mono ?_
    rintro e w3 ⟨rfl, rfl⟩
    go_wp2_with fail
    refine (fits_any c m hmm.1 hmm.2 _).mono ?_
    rintro e w3 ⟨rfl, h3⟩
    go_wp2_with fail
    refine (refFits_any c m hmm.1 hmm.2 _).mono ?_
    rintro e w4 ⟨rfl, rfl⟩
    go_wp2_with fail
    refine (room_any c i _).mono ?_
    rintro e w4 ⟨rfl, h4⟩
    go_wp2_with fail
    refine (refRoom_any c i _).mono ?_
    rintro e w5 ⟨rfl, rfl⟩
    go_wp2_with fail
    refine (awake_any _).mono ?_
    rintro e w5 ⟨rfl, h5⟩
    go_wp2_with fail
    go_ret
    exact ⟨rfl, below_step (below_step (below_step h12 h3) h4) h5⟩
  · have HC := hide hc
    have HR1 := hide (okC_rwd c hc)
    have hwd := wd_bd c
    clear hc
    generalize hwdd : wd c = wd0 at *
    have HWD := hide hwdd
    clear hwdd
    obtain ⟨hwd0, hwd1⟩ := hwd
    go_enter Try.func6, Try.ntmps6
    go_wp2_with fail
    refine (Width_any c _).mono ?_
    rintro e w1 ⟨rfl, h1⟩
    rw [HC.out, HWD.out]
    go_wp2_with fail
    refine (refWidth_any c _).mono ?_
    rintro e w2 ⟨rfl, rfl⟩
    rw [HR1.out]
    go_wp2_with fail
    have hr1 := FIN.out _ h1
    refine (get_any A k w1.heap.size n xs c i _ HN.out lx hr1 (Nat.le_refl _) HW.out).mono ?_
    rintro e w2 ⟨rfl, h2⟩
    go_wp2_with fail
    have h12 := below_step h1 h2
    refine (refGet_any A k w2.heap.size n xs c i _ HN.out lx (FIN.out _ h12) HW.out).mono ?_
    rintro e w3 ⟨rfl, rfl⟩
    go_wp2_with fail
    refine (fits_any c m hmm.1 hmm.2 _).mono ?_
    rintro e w3 ⟨rfl, h3⟩
    go_wp2_with fail
    refine (refFits_any c m hmm.1 hmm.2 _).mono ?_
    rintro e w4 ⟨rfl, rfl⟩
    go_wp2_with fail
    refine (room_any c i _).mono ?_
    rintro e w4 ⟨rfl, h4⟩
    go_wp2_with fail
    refine (refRoom_any c i _).mono ?_
    rintro e w5 ⟨rfl, rfl⟩
    go_wp2_with fail
    refine (awake_any _).mono ?_
    rintro e w5 ⟨rfl, h5⟩
    go_wp2_with fail
    go_ret
    exact ⟨rfl, below_step (below_step (below_step h12 h3) h4) h5⟩
end Go.Proofs.Ytnipbkplobpnhaa
