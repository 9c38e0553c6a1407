/-
  find: by halves.
-/
import Derived.Test.YtpahgpmhnpfnhaaLcsF
namespace Go.Proofs.Ytpahgpmhnpfnhaa
open Go.RowKit Go.Proofs.Ytpahgpmhnpfnhaa.Lcs Go.Proofs.Ytpahgpmhnpfnhaa.Scr

theorem FAt.drew {w : World} {base f : Nat} {L : List Step} {v : Value} (h : FAt w base f L v) : FAt w.drew base f L v := h

set_option maxRecDepth 100000 in
set_option maxHeartbeats 8000000 in
theorem find_any (base f b0 : Nat) (hbf : base ≤ f) (hb0 : b0 ≤ base) (fu : Nat) : ∀ (L : List Step) (v : Value) (A : Option Addr) (n c : Nat) (a : List Int) (B : Option Addr) (m d : Nat) (b : List Int) (w : World),
    n ≤ fu → 0 < fu → FAt w base f L v → base ≤ w.heap.size → L.length + 3 * (n + 1) ≤ 800000 → n = a.length → Reads w b0 A (a.map (Value.int .i64)) → n ≤ c → c ≤ maxLen → n ≤ 100000 →
    m = b.length → Reads w b0 B (b.map (Value.int .i64)) → m ≤ d → d ≤ maxLen → m ≤ 100000 →
    Calls Try.prog 20 #[.pointer (some ⟨f, 0, none⟩), .slice A n c, .slice B m d] w fun e w' => e = .returned (.tuple #[]) ∧ AddPost base f (L ++ findL cutS fu a b) w w' := by
  induction fu with
  | zero => intro L v A n c a B m d b w h1 h2; omega
  | succ fu ih =>
    intro L v A n c a B m d b w hfu _ hf hbb hl hn ha hnc hc hnl hm hb hmd hd hml
    unfold maxLen at hc hd
    have IH := hide ih
    have HF := hide hf
    have HA := hide ha
    have HB := hide hb
    have HN := hide hn
    have HM := hide hm
    clear ih hf ha hb hn hm
    by_cases he : n = 0 ∨ m = 0
    · have HR : Hid (findL cutS (fu + 1) a b = Lcs.add 1 (n : Nat) ++ Lcs.add 2 (m : Nat)) := by
        show _ = _
        simp only [findL]
        rw [← HN.out, ← HM.out, if_pos he]
      have hln1 := Lcs.add_len 1 (n : Nat)
      have hcase : (n = 0) ∨ (((n : Int) == 0) = false ∧ m = 0) := by
        by_cases h : n = 0
        · exact .inl h
        · refine .inr ⟨by simp; omega, by omega⟩
      clear he
      rcases hcase with rfl | ⟨hq, rfl⟩
      all_goals
        go_enter Try.func20, Try.ntmps20
        go_wp2_with fail
        refine (add_any base f L v 1 _ _ HF.out hbf hbb (by omega)).mono ?_
        rintro e w1 ⟨rfl, v1, hf1, hb1⟩
        have HF1 := hide hf1
        clear hf1
        go_wp2_with fail
        refine (add_any base f _ v1 2 _ _ HF1.out hbf (Nat.le_trans hbb hb1.size) (by rw [List.length_append]; first | omega | (have := Lcs.add_len 1 0; omega))).mono ?_
        rintro e w2 ⟨rfl, v2, hf2, hb2⟩
        go_wp2_with fail
        first | go_end0 | go_returns
        refine ⟨rfl, v2, ?_, hb1.trans hb2⟩
        rw [HR.out, ← List.append_assoc]
        exact hf2
    · have hn0 : ((n : Int) == 0) = false := by simp; omega
      have hm0 : ((m : Int) == 0) = false := by simp; omega
      obtain ⟨bx, ox, rfl, hbx, _⟩ := HA.out.all (by simp; rw [← HN.out]; omega)
      by_cases h1 : n = 1
      · have HR : Hid (findL cutS (fu + 1) a b = oneL (a.getD 0 0) b) := by
          show _ = _
          simp only [findL]
          rw [← HN.out, ← HM.out, if_neg he, if_pos h1]
        obtain ⟨b', o', e', _, c0⟩ := HA.out.intGet (k := 0) (by rw [← HN.out]; omega)
        injection e' with e'
        injection e' with e1 e2
        subst e1 e2
        have c0' : w.cell? ⟨bx, ox, none⟩ = some (.int .i64 (a.getD 0 0)) := c0
        clear c0 he
        subst h1
        generalize a.getD 0 0 = x at *
        go_enter Try.func20, Try.ntmps20
        go_wp2_with fail
        refine (one_any base f L v x B m d b b0 _ HF.out hbf hbb (by omega) HM.out HB.out hb0 hml).mono ?_
        rintro e w1 ⟨rfl, v1, hf1, hb1⟩
        go_wp2_with fail
        first | go_end0 | go_returns
        refine ⟨rfl, v1, ?_, hb1⟩
        rw [HR.out]
        exact hf1
      · have hn1 : ((n : Int) == 1) = false := by simp; omega
        have HR : Hid (findL cutS (fu + 1) a b = findL cutS fu (a.take (n / 2)) (b.take (cutS a b (n / 2))) ++ findL cutS fu (a.drop (n / 2)) (b.drop (cutS a b (n / 2)))) := by
          show _ = _
          simp only [findL]
          rw [← HN.out, ← HM.out, if_neg he, if_neg h1]
        obtain ⟨h, hh⟩ : ∃ h, n / 2 = h := ⟨_, rfl⟩
        obtain ⟨j, hj⟩ : ∃ j, cutS a b h = j := ⟨_, rfl⟩
        rw [hh, hj] at HR
        have hh1 : 1 ≤ h := by omega
        have hh2 : h < n := by omega
        have hjm : j ≤ m := by
          rw [← hj]
          have := (bst_spec (thru (Lcs.mt a b) a.length b.length h) b.length).1
          unfold cutS Jof
          rw [HM.out]
          exact this
        obtain ⟨by1, oy1, rfl, hby, _⟩ := HB.out.all (by simp; rw [← HM.out]; omega)
        have HJ := hide hj
        have hdiv : ((n : Int) / 2) = (h : Int) := by omega
        have hlen1 := findL_len cutS fu (a.take h) (b.take j)
        rw [List.length_take, ← HN.out] at hlen1
        have HLN : Hid ((findL cutS fu (a.take h) (b.take j)).length ≤ 3 * h) := by show _ ≤ _; omega
        have HA1 : Hid (Reads w b0 (some ⟨bx, ox, none⟩) ((a.take h).map (Value.int .i64))) := by
          have := HA.out.take h
          rwa [← List.map_take] at this
        have HB1 : Hid (Reads w b0 (some ⟨by1, oy1, none⟩) ((b.take j).map (Value.int .i64))) := by
          have := HB.out.take j
          rwa [← List.map_take] at this
        have hcut := HA.out.cut (k := h) (cap := c) (by rw [List.length_map, ← HN.out]; exact hnc)
        rw [Option.map_some, add_lit, ← List.map_drop] at hcut
        have hcutb := HB.out.cut (k := j) (cap := d) (by rw [List.length_map, ← HM.out]; exact hmd)
        rw [Option.map_some, add_lit, ← List.map_drop] at hcutb
        obtain ⟨o2, ho2⟩ : ∃ o2, (if c = h then (some ⟨bx, ox, none⟩ : Option Addr) else some ⟨bx, ox + h, none⟩) = some ⟨bx, o2, none⟩ := by
          split
          · exact ⟨_, rfl⟩
          · exact ⟨_, rfl⟩
        obtain ⟨o3, ho3⟩ : ∃ o3, (if d = j then (some ⟨by1, oy1, none⟩ : Option Addr) else some ⟨by1, oy1 + j, none⟩) = some ⟨by1, o3, none⟩ := by
          split
          · exact ⟨_, rfl⟩
          · exact ⟨_, rfl⟩
        rw [ho2] at hcut
        rw [ho3] at hcutb
        have HA2 := hide hcut
        have HB2 := hide hcutb
        have l1 : Hid (h = (a.take h).length) := by show _ = _; rw [List.length_take, ← HN.out]; omega
        have l2 : Hid (n - h = (a.drop h).length) := by show _ = _; rw [List.length_drop, ← HN.out]
        have l3 : Hid (j = (b.take j).length) := by show _ = _; rw [List.length_take, ← HM.out]; omega
        have l4 : Hid (m - j = (b.drop j).length) := by show _ = _; rw [List.length_drop, ← HM.out]
        clear hj hh he h1 hcut hcutb hlen1
        have g1 : (0 : Int) ≤ (h : Int) := by omega
        have g2 : (h : Int) ≤ (n : Int) := by omega
        have g3 : (h : Int) ≤ (c : Int) := by omega
        have g4 : (n : Int) ≤ (c : Int) := by omega
        have g5 : (0 : Int) ≤ (j : Int) := by omega
        have g6 : (j : Int) ≤ (m : Int) := by omega
        have g7 : (j : Int) ≤ (d : Int) := by omega
        have g8 : (m : Int) ≤ (d : Int) := by omega
        have q1 : h ≤ c := by omega
        have q2 : j ≤ d := by omega
        have q3 : n - h ≤ c - h := by omega
        have q4 : m - j ≤ d - j := by omega
        have q5 : c ≤ maxLen := by unfold maxLen; omega
        have q6 : d ≤ maxLen := by unfold maxLen; omega
        have q7 : c - h ≤ maxLen := by unfold maxLen; omega
        have q8 : d - j ≤ maxLen := by unfold maxLen; omega
        go_enter Try.func20, Try.ntmps20
        go_wp2_with fail
        refine (split_any (some ⟨bx, ox, none⟩) n c a (some ⟨by1, oy1, none⟩) m d b h b0 _ HN.out HM.out HA.out HB.out (by omega) hnl hml (by omega) (by omega) hnc q5).mono ?_
        rintro e w1 ⟨rfl, hb1⟩
        rw [HJ.out]
        have HF1 := hide (HF.out.step hb1)
        have hb1' : Below base w w1 := hb1.mono hbb
        have hbb1 : base ≤ w1.heap.size := Nat.le_trans hbb hb1.size
        go_wp2_with fail
        go_region_with ((go_at_call 20; refine (IH.out L v (some ⟨bx, ox, none⟩) h c (a.take h) (some ⟨by1, oy1, none⟩) j d (b.take j) w1.drew (by omega) (by omega) HF1.out.drew hbb1 (by omega) l1.out ((HA1.out.below hb1' hb0).keep (fun _ _ => rfl)) q1 q5 (by omega) l3.out ((HB1.out.below hb1' hb0).keep (fun _ _ => rfl)) q2 q6 (by omega)).mono ?_; rintro e w2 ⟨rfl, v2, hf2, hb2⟩; have HF2 := hide hf2; clear hf2))
        have hb2' : Below base w w2 := hb1'.drew.trans hb2
        have hbb2 : base ≤ w2.heap.size := Nat.le_trans hbb hb2'.size
        go_wp2_with fail
        go_region_with ((go_at_call 20; refine (IH.out _ v2 (some ⟨bx, o2, none⟩) (n - h) (c - h) (a.drop h) (some ⟨by1, o3, none⟩) (m - j) (d - j) (b.drop j) w2.drew (by omega) (by omega) HF2.out.drew hbb2 (by rw [List.length_append]; have := HLN.out; omega) l2.out ((HA2.out.below hb2' hb0).keep (fun _ _ => rfl)) q3 q7 (by omega) l4.out ((HB2.out.below hb2' hb0).keep (fun _ _ => rfl)) q4 q8 (by omega)).mono ?_; rintro e w3 ⟨rfl, v3, hf3, hb3⟩; have HF3 := hide hf3; clear hf3))
        go_wp2_with fail
        first | go_end0 | go_returns
        refine ⟨rfl, v3, ?_, hb2'.drew.trans hb3⟩
        rw [HR.out, ← List.append_assoc]
        exact HF3.out
end Go.Proofs.Ytpahgpmhnpfnhaa
