/-
  The walk of the law on Put: what was put is got.
-/
import Derived.Test.YtnipbkplobpnhaaWordW
import Derived.Deep.RegionHeld3
namespace Go.Proofs.Ytnipbkplobpnhaa
open Go.RowKit

theorem put_facts (c : Int) (xs : List Int) (m r : Nat) (hok : putOk c xs = true) (hm : wd c = m) (hr : r = (xs.length * m + 63) / 64) (hl : xs.length ≤ 1099511627776) (hxb : ∀ x ∈ xs, 0 ≤ x ∧ x ≤ 18446744073709551615) :
    (∀ x ∈ putTo xs m r xs.length, 0 ≤ x ∧ x ≤ 18446744073709551615) ∧ ∀ i : Nat, i < xs.length → getN (putTo xs m r xs.length) c i = xs.getD i 0 := by
  have hc : okC c = true := by unfold putOk at hok; simp only [Bool.and_eq_true] at hok; exact hok.1
  have ha : xs.all (fitsN c) = true := by unfold putOk at hok; simp only [Bool.and_eq_true] at hok; exact hok.2
  have hf : ∀ i, i < xs.length → 0 ≤ xs.getD i 0 ∧ xs.getD i 0 < 2 ^ m := fun i hi => by
    have h0 := (getD_bd xs hxb i).1
    refine ⟨h0, fitsN_lt c _ m hm ?_ h0⟩
    rw [List.getD_eq_getElem?_getD, List.getElem?_eq_getElem hi]
    exact List.all_eq_true.1 ha _ (List.getElem_mem hi)
  by_cases h0 : m = 0
  · subst h0
    have hz : ∀ t, putTo xs 0 r t = List.replicate r 0 := fun t => by
      induction t with
      | zero => rfl
      | succ t ih => simp only [putTo, if_true]; exact ih
    refine ⟨fun x hx => ?_, fun i hi => ?_⟩
    · rw [hz] at hx
      have := List.eq_of_mem_replicate hx
      omega
    · rw [getN_no _ _ _ (by rw [hm]; rintro ⟨_, h, _⟩; exact h rfl)]
      have := hf i hi
      omega
  · have hcw := code_width c m hm h0
    have hinv := putTo_inv xs m r hcw xs.length (Nat.le_refl _) hf (by omega) xs.length (Nat.le_refl _)
    refine ⟨fun x hx => ?_, fun i hi => ?_⟩
    · obtain ⟨j, hj, rfl⟩ := List.mem_iff_getElem.1 hx
      have h1 := hinv.1 j
      rw [List.getD_eq_getElem?_getD, List.getElem?_eq_getElem hj] at h1
      have h2 : (2 : Int) ^ (min 64 (xs.length * m - 64 * j)) ≤ 18446744073709551616 := by
        have : (2 : Nat) ^ (min 64 (xs.length * m - 64 * j)) ≤ 2 ^ 64 := Nat.pow_le_pow_right (by decide) (by omega)
        have e64 : (2 : Int) ^ 64 = 18446744073709551616 := by decide
        rw [← e64, show (2 : Int) ^ 64 = ((2 ^ 64 : Nat) : Int) from rfl, show (2 : Int) ^ (min 64 (xs.length * m - 64 * j)) = ((2 ^ (min 64 (xs.length * m - 64 * j)) : Nat) : Int) from (Int.natCast_pow 2 _).symm]
        exact Int.ofNat_le.2 this
      have h3 : 0 ≤ (putTo xs m r xs.length)[j] ∧ (putTo xs m r xs.length)[j] < (2 : Int) ^ (min 64 (xs.length * m - 64 * j)) := h1
      omega
    · have h2 := hinv.2 i hi
      have hlt := idx_lt i m xs.length r hi h0 hr
      have e1 : ((i : Int) * (m : Int)) = ((i * m : Nat) : Int) := by rw [Int.natCast_mul]
      unfold getN
      rw [hm, e1, if_pos ⟨hc, by omega, by omega, by omega, by rw [putTo_len]; omega⟩]
      rw [← h2]
      congr 2

set_option maxHeartbeats 4000000 in
theorem puts_walk (c : Int) (A : Option Addr) (n k : Nat) (xs : List Int) (w : World) (_hcode : -9223372036854775808 ≤ c ∧ c ≤ 9223372036854775807) (hn : n = xs.length) (_hc : n ≤ k) (_hm : k ≤ maxLen)
    (hr : Reads w w.heap.size A (xs.map (Value.int .u64))) (hw : ∀ x ∈ xs, 0 ≤ x ∧ x ≤ 18446744073709551615) (_hs : n * 8 ≤ 140737488351232) (hu : n ≤ 1048576) :
    Calls Try.prog 5 #[.int .i64 c, .slice A n k] w fun e w' => e = .returned (.bool true) ∧ Below w.heap.size w w' := by
  have F := hide (show ∀ w4 : World, Below w.heap.size w w4 → Reads w4 w4.heap.size A (xs.map (Value.int .u64)) from fun w4 h => (hr.below h (Nat.le_refl _)).more h.size)
  have HR := hide hr
  have HW := hide hw
  have HN := hide hn
  clear hr hw hn
  have hu2 : n ≤ 1099511627776 := by omega
  have lx : n ≤ maxLen := by unfold maxLen; omega
  cases hok : putOk c xs
  · have HP := hide hok
    clear hok
    go_enter Try.func5, Try.ntmps5
    go_wp2_with fail
    refine (put_any A k w.heap.size n xs c _ HN.out hu2 HR.out (Nat.le_refl _) HW.out).mono ?_
    rintro e w1 ⟨h1, ⟨_, rfl⟩ | ⟨h, _⟩⟩
    rotate_left
    · have := HP.out; rw [h] at this; cases this
    go_wp2_with fail
    refine (refPut_any A k w1.heap.size n xs c _ HN.out hu2 (F.out _ h1) (Nat.le_refl _) HW.out).mono ?_
    rintro e w2 ⟨h2, ⟨_, rfl⟩ | ⟨h, _⟩⟩
    rotate_left
    · have := HP.out; rw [h] at this; cases this
    have h12 := below_step h1 h2
    go_wp2_with fail
    refine (same_any none none 0 0 0 0 0 [] [] _ rfl rfl Reads.none_ Reads.none_ (by decide) (by decide)).mono ?_
    rintro e w3 ⟨rfl, k3, rfl⟩
    rw [beq_self_eq_true]
    have h13 := below_drewN h12 k3
    generalize w2.drewN k3 = w3 at *
    go_wp2_with fail
    go_loopw [9] (fun i wr => i = .int .i64 0 ∧ wr = w3) (fun i _ => 1)
    case atStart => exact ⟨rfl, rfl⟩
    case round =>
      obtain ⟨rfl, rfl⟩ := hrel
      by_cases hlt : 0 < n
      · go_wp2_with fail
        refine (awake_any _).mono ?_
        rintro e w5 ⟨rfl, h5⟩
        go_wp2_with fail
        go_ret
        exact ⟨rfl, below_step h13 h5⟩
      · go_wp2_with fail
        refine (awake_any _).mono ?_
        rintro e w5 ⟨rfl, h5⟩
        go_wp2_with fail
        go_ret
        exact ⟨rfl, below_step h13 h5⟩
  · have HP := hide hok
    clear hok
    go_enter Try.func5, Try.ntmps5
    go_wp2_with fail
    refine (put_any A k w.heap.size n xs c _ HN.out hu2 HR.out (Nat.le_refl _) HW.out).mono ?_
    rintro e w1 ⟨h1, ⟨h, _⟩ | ⟨_, g1, m, r, hmw, hr, hg1, rfl, hB1⟩⟩
    · have := HP.out; rw [h] at this; cases this
    have HMW := hide hmw
    have HRR := hide hr
    clear hmw hr
    go_wp2_with fail
    refine (refPut_any A k w1.heap.size n xs c _ HN.out hu2 (F.out _ h1) (Nat.le_refl _) HW.out).mono ?_
    rintro e w2 ⟨h2, ⟨h, _⟩ | ⟨_, g2, m2, r2, hmw2, hr2, hg2, rfl, hB2⟩⟩
    · have := HP.out; rw [h] at this; cases this
    have hmw := HMW.out
    have hr := HRR.out
    clear HMW HRR
    obtain rfl : m2 = m := by omega
    obtain rfl : r2 = r := by omega
    obtain ⟨hpb, hpg⟩ := put_facts c xs m2 r2 HP.out hmw hr (by rw [← HN.out]; exact hu2) HW.out
    have HPB := hide hpb
    have HPG := hide hpg
    have HLP := hide (putTo_len xs m2 r2 xs.length)
    have R1 := hide hB1.reads
    have R2 := hide hB2.reads
    have hr3 : r2 ≤ 1048576 := by
      have : m2 ≤ 64 := by
        by_cases h0 : m2 = 0
        · omega
        · have := code_width c m2 hmw h0; omega
      have : xs.length * m2 ≤ 1048576 * 64 := Nat.mul_le_mul (by rw [← HN.out]; exact hu) this
      omega
    have lr : r2 ≤ maxLen := Nat.le_trans hr3 (by decide)
    clear hmw hmw2 hr hr2 hB1 hB2 hpb hpg
    generalize putTo xs m2 r2 xs.length = ys at *
    have h12 := below_step h1 h2
    have R1' := hide ((R1.out.below h2 (Nat.le_refl _)).more h2.size)
    go_wp2_with fail
    refine (same_any (some ⟨g1, 0, none⟩) (some ⟨g2, 0, none⟩) r2 r2 w2.heap.size r2 r2 ys ys _ HLP.out.symm HLP.out.symm R1'.out R2.out lr lr).mono ?_
    rintro e w3 ⟨rfl, k3, rfl⟩
    rw [beq_self_eq_true]
    have h13 := below_drewN h12 k3
    have R3 := hide (R1'.out.drewN k3)
    have hwz : w2.heap.size = (w2.drewN k3).heap.size := rfl
    rw [hwz] at R3
    clear hwz
    generalize w2.drewN k3 = w3 at *
    go_wp2_with fail
    go_loopw [9] (fun i wr => ∃ t : Nat, t ≤ n ∧ i = .int .i64 t ∧ Below w.heap.size w wr ∧ Below w3.heap.size w3 wr) (fun i _ => n - (intOf i).toNat)
    case atStart => exact ⟨0, by omega, rfl, h13, Below.refl _ _⟩
    case round =>
      obtain ⟨t, ht, rfl, hbe, hbe3⟩ := hrel
      by_cases hlt : t < n
      · obtain ⟨bx, ox, rfl, hbx, cx⟩ := (F.out _ hbe).intAt (k := t) (by rw [← HN.out]; exact hlt)
        have HG := hide (HPG.out t (by rw [← HN.out]; exact hlt))
        have R4 := hide ((R3.out.below hbe3 (Nat.le_refl _)).more hbe3.size)
        have hcx : xs[t]'(by rw [← HN.out]; exact hlt) = xs.getD t 0 := by
          rw [List.getD_eq_getElem?_getD, List.getElem?_eq_getElem (by rw [← HN.out]; exact hlt)]
          rfl
        rw [hcx, ← HG.out] at cx
        clear hcx
        have t0 : (0 : Int) ≤ (t : Int) := by omega
        have t1 : (t : Int) < (n : Int) := by omega
        generalize hgv : getN ys c (t : Int) = gv at *
        have HGV := hide hgv
        clear hgv
        go_wp2_with fail
        go_region_held3 (fun w' => w'.cell? ⟨bx, ox + t, none⟩ = some (.int .u64 gv))
          (first | exact d1 | exact cx | (simp [go_sem]; done))
          (first | (go_at_call 20; refine (get_any (some ⟨g1, 0, none⟩) r2 wr.heap.size r2 ys c (t : Int) _ (by exact HLP.out.symm) (by exact lr) (by exact R4.out.drewN _) (by exact Nat.le_refl _) (by exact HPB.out)).mono ?_; rintro e w4 ⟨rfl, h4⟩; rw [HGV.out]; have h4' : Below wr.heap.size wr w4 := (Below.refl _ _).drew.trans h4; have d1 := (h4'.cell (p := ⟨bx, ox + t, none⟩) hbx).trans cx))
        all_goals go_wp2_with fail
        all_goals
          go_roundw
          case rel => exact ⟨t + 1, by omega, by go_num, below_step hbe h4', hbe3.trans (h4'.mono hbe3.size)⟩
          case measure => simp [intOf]; omega
      · go_wp2_with fail
        refine (awake_any _).mono ?_
        rintro e w5 ⟨rfl, h5⟩
        go_wp2_with fail
        go_ret
        exact ⟨rfl, below_step hbe h5⟩
end Go.Proofs.Ytnipbkplobpnhaa
