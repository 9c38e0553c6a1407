/-
  The walk of PackUnpacks.
-/
import Derived.Test.YtfmdnglcmbgpcaaPkM
namespace Go.Proofs.Ytfmdnglcmbgpcaa
open Go.RowKit Go.Proofs.Ytfmdnglcmbgpcaa.Pk

theorem unp_len (f : Nat) : ∀ (bs : List Int) (M : Nat) (o : List Int), u8s bs → (unp f bs M o).1.length ≤ o.length + 256 * bs.length ∧ (unp f bs M o).1.length ≤ 1000000 + 256 * bs.length + o.length := by
  intro bs M o h
  have key : ∀ f bs o, u8s bs → (unp f bs M o).1.length ≤ o.length + 256 * bs.length := by
    intro f
    induction f with
    | zero => intro bs o h; simp [unp]
    | succ f ih =>
      intro bs o h
      cases bs with
      | nil => simp [unp]
      | cons t r =>
        have hr : u8s r := fun x hx => h x (List.mem_cons_of_mem _ hx)
        have hdl := List.length_drop (i := nb t 8) (l := r)
        rw [unp, List.length_cons]
        split
        · simp
        · split
          · simp
          · split
            · have := ih (r.drop (nb t 8)) (o ++ [wordU t r]) (hr.drop _)
              rw [List.length_append, List.length_singleton] at this
              omega
            · have hd := hr.drop (nb t 8)
              cases hq : r.drop (nb t 8) with
              | nil => simp
              | cons c q =>
                rw [hq] at hd hdl
                rw [List.length_cons] at hdl
                have hc := hd c (List.mem_cons_self ..)
                have hqu : u8s q := fun x hx => hd x (List.mem_cons_of_mem _ hx)
                simp only
                split
                · simp
                · split
                  · simp
                  · split
                    · have := ih q (o ++ [wordU t r] ++ List.replicate c.toNat 0) hqu
                      rw [List.length_append, List.length_append, List.length_singleton, List.length_replicate] at this
                      omega
                    · have := ih (q.drop (8 * c.toNat)) (o ++ [wordU t r] ++ wordsOf q c.toNat) (hqu.drop _)
                      rw [List.length_append, List.length_append, List.length_singleton, wordsOf_len, List.length_drop] at this
                      omega
  have := key f bs o h
  omega

theorem first_list (A : Option Addr) (n : Nat) (l : List Int) (w : World) (b0 : Nat) (hn : n = l.length) (hx : Reads w b0 A (l.map (Value.int .u8))) :
    (if n > 2000 then 2000 else n) = (l.take 2000).length ∧ Hid (Reads w b0 A ((l.take 2000).map (Value.int .u8))) := by
  refine ⟨by rw [List.length_take, ← hn]; split <;> omega, ?_⟩
  have := hx.take 2000
  rwa [← List.map_take] at this

set_option maxHeartbeats 4000000 in
theorem unpacks_walk (A : Option Addr) (n0 c : Nat) (l0 : List Int) (most : Int) (w : World) (hn0 : n0 = l0.length) (hc0 : n0 ≤ c) (hcm : c ≤ maxLen)
    (hl0 : Reads w w.heap.size A (l0.map (Value.int .u8))) (h1 : ∀ x ∈ l0, 0 ≤ x ∧ x ≤ 255) (_h2 : n0 * 1 ≤ 140737488351232)
    (hmo : -9223372036854775808 ≤ most ∧ most ≤ 9223372036854775807) :
    Calls Try.prog 4 #[.slice A n0 c, .int .i64 most] w fun e w' => e = .returned (.bool true) ∧ Below w.heap.size w w' := by
  obtain ⟨n, hn⟩ : ∃ n, (if n0 > 2000 then 2000 else n0) = n := ⟨_, rfl⟩
  obtain ⟨hnl, HL⟩ := first_list A n0 l0 w _ hn0 hl0
  rw [hn] at hnl
  have HU : Hid (u8s (l0.take 2000)) := fun x hx => h1 x (List.mem_of_mem_take hx)
  generalize l0.take 2000 = l at *
  have hn7 : n ≤ 2000 ∧ n ≤ c := by rw [← hn]; split <;> omega
  have hlm0 : n0 ≤ 9223372036854775807 := by have := Nat.le_trans hc0 hcm; unfold maxLen at this; omega
  have hc63 : (c : Int) ≤ 9223372036854775807 := by have := hcm; unfold maxLen at this; omega
  have HCM := hide hcm
  have HFN := hide hn
  have HN := hide hnl
  have HMO := hide hmo
  have HRL : Hid ((unp l.length l most.toNat []).1.length ≤ 512000) := by
    have := (unp_len l.length l most.toNat [] HU.out).1
    show _ ≤ _
    simp only [List.length_nil] at this
    omega
  clear hl0 hn0 h1 hmo hcm hnl
  generalize hres : unp l.length l most.toNat [] = res at *
  have key : ∀ W : World, Below w.heap.size w W → Calls Try.prog 12 #[.slice A n c, .int .i64 most] W (UnpPost res W) := fun W hb => by
    rw [← hres]
    exact unpack_any A n c w.heap.size l most W HN.out (HL.out.below hb (Nat.le_refl _)) hb.size hn7.2 HCM.out HU.out (by omega) HMO.out.2
  have rkey : ∀ W : World, Below w.heap.size w W → Calls Try.prog 13 #[.slice A n c, .int .i64 most] W (UnpPost res W) := fun W hb => by
    rw [← hres]
    exact refUnpack_any A n c w.heap.size l most W HN.out (HL.out.below hb (Nat.le_refl _)) hb.size hn7.2 HCM.out HU.out (by omega) HMO.out.2
  have KEY := hide key
  have RKEY := hide rkey
  clear key rkey hres
  have hor : (n0 > 2000 ∧ n = 2000) ∨ (¬ n0 > 2000 ∧ n = n0) := by
    rw [← hn]
    by_cases h : n0 > 2000
    · rw [if_pos h]; exact .inl ⟨h, rfl⟩
    · rw [if_neg h]; exact .inr ⟨h, rfl⟩
  clear hn HFN
  rcases hor with ⟨hbig, rfl⟩ | ⟨hbig, rfl⟩
  all_goals
    first
      | (have hd1 : (2000 : Int) < (n0 : Int) := by omega; have hd2 : (2000 : Int) ≤ (c : Int) := by omega)
      | skip
    go_enter Try.func4, Try.ntmps4
    go_wp2_with fail
    refine (KEY.out _ (Below.refl _ _)).mono ?_
    rintro e w1 ⟨hb1, A1, n1, c1, rfl, hn1, -, hr1⟩
    have hn1' : n1 ≤ 512000 := by have := HRL.out; omega
    have HN1 := hide hn1
    have R1 := hide hr1
    clear hn1 hr1
    go_wp2_with fail
    refine (RKEY.out _ hb1).mono ?_
    rintro e w2 ⟨hb2, A2, n2, c2, rfl, hn2, -, hr2⟩
    have hn2' : n2 ≤ 512000 := by have := HRL.out; omega
    have HN2 := hide hn2
    have R2 := hide hr2
    have R1 := rd_step R1 hb2
    have hW2 := below_step hb1 hb2
    clear hn2 hr2 hb1 hb2
    go_wp2_with fail
    refine (same_bel A1 A2 c1 c2 w2.heap.size n1 n2 res.1 res.1 _ HN1.out HN2.out R1.out R2.out (by unfold maxLen; omega) (by unfold maxLen; omega)).mono ?_
    rintro e w3 ⟨rfl, hb3⟩
    rw [beq_self_eq_true]
    have hW3 := below_step hW2 hb3
    clear hW2 hb3
    go_wp2_with fail
    refine (awake_any _).mono ?_
    rintro e w4 ⟨rfl, hb4⟩
    go_wp2_with fail
    go_ret
    exact ⟨rfl, below_step hW3 hb4⟩
end Go.Proofs.Ytfmdnglcmbgpcaa
