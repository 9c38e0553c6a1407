/-
  The finder: add, one, find.
-/
import Derived.Test.YtpahgpmhnpfnhaaLcsE
import Derived.Test.YtpahgpmhnpfnhaaScrI
namespace Go.Proofs.Ytpahgpmhnpfnhaa
open Go.RowKit Go.Proofs.Ytpahgpmhnpfnhaa.Lcs Go.Proofs.Ytpahgpmhnpfnhaa.Scr

def FAt (w : World) (base f : Nat) (L : List Step) (v : Value) : Prop := Blk w f 45 #[v] ∧ w.ownsRow base 52 2 v L.length (stepCells L)
def AddPost (base f : Nat) (L : List Step) (w w' : World) : Prop := ∃ v', FAt w' base f L v' ∧ Below base w w'
theorem FAt.step {w w' : World} {base f : Nat} {L : List Step} {v : Value} (h : FAt w base f L v) (hb : Below w.heap.size w w') : FAt w' base f L v := ⟨h.1.below hb h.1.lt, ownsRow_below h.2 hb⟩

set_option maxHeartbeats 2000000 in
theorem add_any (base f : Nat) (L : List Step) (v : Value) (k n : Int) (w : World) (hf : FAt w base f L v) (hbf : base ≤ f) (hbb : base ≤ w.heap.size) (hl : L.length ≤ 1000000) :
    Calls Try.prog 30 #[.pointer (some ⟨f, 0, none⟩), .int .i64 k, .int .i64 n] w fun e w' => e = .returned (.tuple #[]) ∧ AddPost base f (L ++ Lcs.add k n) w w' := by
  obtain ⟨i0, hi, hz0, hz1, hz2⟩ := info_parts infoMine
  by_cases hn : n > 0
  · have HAD : Hid (Lcs.add k n = [(k, n)]) := if_pos hn
    obtain ⟨hb, hown⟩ := hf
    have c0 := hb.cell 0
    have c1 := hb.frozen 0
    simp at c0
    have hfl := hb.lt
    have hrow : Hid (v.ownBlock ≠ some f) := (row_ne hown hb hb (by decide) (by decide)).1
    have HB := hide hb
    have HO := hide hown
    clear hb hown
    go_enter Try.func30, Try.ntmps30
    have HNEW : Hid (∀ j u, ([Value.int .i64 k, .int .i64 n])[j]? = some u → ∃ ad, some (⟨w.heap.size, 0, none⟩ : Addr) = some ad ∧ (w.alloc (.cells #[.int .i64 k, .int .i64 n] 52)).cell? (ad.add j) = some u) := fun j u hu => by
      refine ⟨_, rfl, ?_⟩
      rw [add_lit, Nat.zero_add, (Blk.new w 52 #[.int .i64 k, .int .i64 n]).cell]
      simpa using hu
    go_wp2_with (at_builtin; refine wpList_append_any _ rfl (.tmp 12) (.tmp 16) _ rfl base 52 i0 _ 2 16 Try.underlying24 hi hz0 hz1 hz2 rfl (by decide) _ L.length _ rfl (HO.out.alloc _) (some ⟨w.heap.size, 0, none⟩) 1 1 [.int .i64 k, .int .i64 n] rfl rfl HNEW.out (by simp [Value.oneCell']) (by unfold maxLen; omega) (by omega) (by simp; omega) ?_; intro v1 w2 hown2 hg2 hat2; have hgB : Blk w2 f 45 #[v] := (HB.out.alloc _).grown hg2 (fun e => hrow.out e.symm); have d0 := hgB.cell 0; have d1 := hgB.frozen 0; simp at d0; obtain ⟨A9, c9, rfl, hle9, hA9⟩ := ownsRow_slice hown2)
    go_end0
    have hv1 : (Value.slice A9 (L.length + 1) c9).ownBlock ≠ some f := by
      rcases hat2 with h | h
      · rw [h]; exact hrow.out
      · rw [h]
        intro e
        injection e with e
        simp at e
        omega
    refine ⟨rfl, Value.slice A9 (L.length + 1) c9, ⟨?_, ?_⟩, ?_⟩
    · have := hgB.set_ 0 (Value.slice A9 (L.length + 1) c9)
      simpa using this
    · rw [HAD.out, stepCells_app, stepCells_one, List.length_append]
      exact ownsRow_far hown2 hv1 _
    · exact (((Below.refl base w).alloc hbb _).grown hg2 (by simp; omega) (fun b hb => (HO.out.lt b hb).1)).setCell hbf _
  · have HAD : Hid (Lcs.add k n = []) := if_neg hn
    go_enter Try.func30, Try.ntmps30
    go_wp2_with fail
    go_end0
    exact ⟨rfl, v, by rw [HAD.out, List.append_nil]; exact hf, Below.refl _ _⟩

theorem firstAt_eq (x : Int) (b : List Int) (q : Nat) (h : q < b.length) (hx : x = b.getD q 0) (hn : ∀ t, t < q → x ≠ b.getD t 0) : firstAt x b = some q := by
  cases hf : firstAt x b with
  | none => exact absurd hx (firstAt_none x b hf q h)
  | some k =>
    obtain ⟨h1, h2, h3⟩ := firstAt_some x b k hf
    by_cases e : k < q
    · exact absurd h2 (hn k e)
    · by_cases e2 : q < k
      · exact absurd hx (h3 q e2)
      · have : k = q := by omega
        rw [this]
theorem firstAt_no (x : Int) (b : List Int) (hn : ∀ t, t < b.length → x ≠ b.getD t 0) : firstAt x b = none := by
  cases hf : firstAt x b with
  | none => rfl
  | some k =>
    obtain ⟨h1, h2, h3⟩ := firstAt_some x b k hf
    exact absurd h2 (hn k h1)

set_option maxHeartbeats 4000000 in
theorem one_any (base f : Nat) (L : List Step) (v : Value) (x : Int) (B : Option Addr) (m d : Nat) (b : List Int) (b0 : Nat) (w : World) (hf : FAt w base f L v) (hbf : base ≤ f) (hbb : base ≤ w.heap.size) (hl : L.length ≤ 900000)
    (hm : m = b.length) (hb : Reads w b0 B (b.map (Value.int .i64))) (hb0 : b0 ≤ base) (hml : m ≤ 100000) :
    Calls Try.prog 31 #[.pointer (some ⟨f, 0, none⟩), .int .i64 x, .slice B m d] w fun e w' => e = .returned (.tuple #[]) ∧ AddPost base f (L ++ oneL x b) w w' := by
  have HF := hide hf
  have HB := hide hb
  have HM := hide hm
  clear hf hb hm
  go_enter Try.func31, Try.ntmps31
  go_wp2_with fail
  go_loopw [10] (fun j wr => ∃ q : Nat, q ≤ m ∧ j = .int .i64 q ∧ Hid (∀ t, t < q → x ≠ b.getD t 0) ∧ wr = w) (fun j _ => m - (intOf j).toNat)
  case atStart => exact ⟨0, by omega, rfl, fun t ht => by omega, rfl⟩
  case round =>
    obtain ⟨q, hq, rfl, hno, rfl⟩ := hrel
    by_cases hlt : q < m
    · obtain ⟨bx, ox, rfl, hbx, c0⟩ := HB.out.intGet (k := q) (by rw [← HM.out]; exact hlt)
      have HFE := hide (fun h => firstAt_eq x b q (by rw [← HM.out]; exact hlt) h hno.out)
      have HNN : Hid (x ≠ b.getD q 0 → ∀ t, t < q + 1 → x ≠ b.getD t 0) := fun h t ht => by
        by_cases e : t = q
        · subst e; exact h
        · exact hno.out t (by omega)
      generalize b.getD q 0 = y at *
      by_cases hxy : x = y
      · subst hxy
        have HR : Hid (oneL x b = Lcs.add 2 (q : Nat) ++ Lcs.add 0 1 ++ Lcs.add 2 ((m - q - 1 : Nat) : Int)) := by
          show _ = _
          unfold oneL
          rw [HFE.out rfl, HM.out]
        have hln1 := Lcs.add_len 2 ((q : Nat) : Int)
        have hln2 := Lcs.add_len 0 1
        have e1 : (m : Int) - (q : Int) - 1 = ((m - q - 1 : Nat) : Int) := by omega
        have HE1 := hide e1
        clear e1
        go_wp2_with fail
        refine (add_any base f L v 2 (q : Int) _ HF.out hbf hbb (by omega)).mono ?_
        rintro e w1 ⟨rfl, v1, hf1, hb1⟩
        have HF1 := hide hf1
        clear hf1
        go_wp2_with fail
        refine (add_any base f _ v1 0 1 _ HF1.out hbf (Nat.le_trans hbb hb1.size) (by rw [List.length_append]; omega)).mono ?_
        rintro e w2 ⟨rfl, v2, hf2, hb2⟩
        have HF2 := hide hf2
        clear hf2
        go_wp2_with fail
        rw [HE1.out]
        refine (add_any base f _ v2 2 _ _ HF2.out hbf (Nat.le_trans hbb (Nat.le_trans hb1.size hb2.size)) (by rw [List.length_append, List.length_append]; omega)).mono ?_
        rintro e w3 ⟨rfl, v3, hf3, hb3⟩
        go_wp2_with fail
        go_returns
        refine ⟨rfl, v3, ?_, (hb1.trans hb2).trans hb3⟩
        rw [HR.out, ← List.append_assoc, ← List.append_assoc]
        exact hf3
      · have hxb : (x == y) = false := by simpa using hxy
        have HNX := hide (HNN.out hxy)
        go_wp2_with fail
        go_roundw
        case rel => exact ⟨q + 1, by omega, by go_num, HNX.out, by first | trivial | rfl⟩
        case measure => simp [intOf]; omega
    · have hqe : q = m := by omega
      subst hqe
      have HR : Hid (oneL x b = Lcs.add 1 1 ++ Lcs.add 2 (q : Nat)) := by
        show _ = _
        unfold oneL
        rw [firstAt_no x b (by rw [← HM.out]; exact hno.out), HM.out]
      have hln1 := Lcs.add_len 1 1
      go_wp2_with fail
      refine (add_any base f L v 1 1 _ HF.out hbf hbb (by omega)).mono ?_
      rintro e w1 ⟨rfl, v1, hf1, hb1⟩
      have HF1 := hide hf1
      clear hf1
      go_wp2_with fail
      refine (add_any base f _ v1 2 (q : Int) _ HF1.out hbf (Nat.le_trans hbb hb1.size) (by rw [List.length_append]; omega)).mono ?_
      rintro e w2 ⟨rfl, v2, hf2, hb2⟩
      go_wp2_with fail
      go_end0
      refine ⟨rfl, v2, ?_, hb1.trans hb2⟩
      rw [HR.out, ← List.append_assoc]
      exact hf2
end Go.Proofs.Ytpahgpmhnpfnhaa
