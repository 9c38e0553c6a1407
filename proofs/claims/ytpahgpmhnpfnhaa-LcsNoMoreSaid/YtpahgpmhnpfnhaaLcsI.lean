/-
  Of the reference: turned, Table, Common.
-/
import Derived.Test.YtpahgpmhnpfnhaaLcsE
import Derived.Test.YtpahgpmhnpfnhaaScrF
namespace Go.Proofs.Ytpahgpmhnpfnhaa
open Go.RowKit Go.Proofs.Ytpahgpmhnpfnhaa.Lcs

theorem infoInts : (Try.prog.info? 22).map (fun i => (i.zero, i.size, i.bytes)) = some (some (.slice none 0 0), 1, 24) := by kernel_rfl
theorem take_rev_succ (a : List Int) (q : Nat) (h : q < a.length) : (a.drop (a.length - q)).reverse ++ [a.getD (a.length - 1 - q) 0] = (a.drop (a.length - (q + 1))).reverse := by
  have e : a.drop (a.length - (q + 1)) = a[a.length - (q + 1)]'(by omega) :: a.drop (a.length - q) := by
    rw [List.drop_eq_getElem_cons (by omega), show a.length - (q + 1) + 1 = a.length - q from by omega]
  rw [e, List.reverse_cons, List.getD_eq_getElem?_getD, List.getElem?_eq_getElem (by omega)]
  congr 2
  simp only [Option.getD_some]
  congr 1
  omega

set_option maxHeartbeats 2000000 in
theorem refTurned_any (A : Option Addr) (n c : Nat) (a : List Int) (b0 : Nat) (w : World) (hn : n = a.length)
    (ha : Reads w b0 A (a.map (Value.int .i64))) (hb0 : b0 ≤ w.heap.size) (hnl : n ≤ 100000) :
    Calls Try.prog 34 #[.slice A n c] w fun e w' => ∃ A' c', e = .returned (.slice A' n c') ∧ Reads w' w'.heap.size A' (a.reverse.map (Value.int .i64)) ∧ Below w.heap.size w w' := by
  obtain ⟨i0, hi, hz0, hz1, hz2⟩ := info_parts infoInt
  have HA := hide ha
  have HN := hide hn
  clear ha hn
  go_enter Try.func34, Try.ntmps34
  go_wp2_with fail
  go_loopw [3, 4] (fun v i wr => ∃ (q : Nat) (I : Int), q ≤ n ∧ i = .int .i64 I ∧ Hid (I = (n : Int) - 1 - q) ∧ wr.ownsRow w.heap.size 3 1 v q ((a.drop (a.length - q)).reverse.map (Value.int .i64)) ∧ Below w.heap.size w wr) (fun _ i _ => (intOf i + 1).toNat)
  case atStart => exact ⟨0, (n : Int) - 1, by omega, rfl, (by show _ = _; omega), by simpa using World.ownsRow_nil _ _ _ _, Below.refl _ _⟩
  case round =>
    obtain ⟨q, I, hq, rfl, hI, hown, hbe⟩ := hrel
    by_cases hlt : q < n
    · have hi0 : 0 ≤ I := by have := hI.out; omega
      have hin : I < (n : Int) := by have := hI.out; omega
      obtain ⟨bx, ox, rfl, hbx, c0⟩ := (HA.out.below hbe hb0).intGet (k := n - 1 - q) (by rw [← HN.out]; omega)
      have hidx : I.toNat = n - 1 - q := by have := hI.out; omega
      have HT := hide (take_rev_succ a q (by rw [← HN.out]; exact hlt))
      rw [← HN.out] at HT
      generalize a.getD (n - 1 - q) 0 = x at *
      have HNEW : Hid (∀ j u, ([x].map (Value.int .i64))[j]? = some u → ∃ ad, some (⟨wr.heap.size, 0, none⟩ : Addr) = some ad ∧ (wr.alloc (.cells #[.int .i64 x] 3)).cell? (ad.add j) = some u) := fun j u hu => by
        refine ⟨_, rfl, ?_⟩
        rw [add_lit, Nat.zero_add, (Blk.new wr 3 #[.int .i64 x]).cell]
        simpa using hu
      go_wp2_with (at_builtin; refine wpList_append_any _ rfl (.tmp 12) (.tmp 17) _ rfl w.heap.size 3 i0 _ 1 8 Try.underlying22 hi hz0 hz1 hz2 rfl (by decide) _ _ _ rfl (hown.alloc _) (some ⟨wr.heap.size, 0, none⟩) 1 1 ([x].map (Value.int .i64)) rfl rfl HNEW.out (ints_oneCell _ _) (by unfold maxLen; omega) (by omega) (by have := hbe.size; simp; omega) ?_; intro v1 w2 hown2 hg2 hat2)
      go_roundw
      case rel =>
        refine ⟨q + 1, I - 1, by omega, by go_num, (by show _ = _; rw [hI.out]; omega), ?_, (hbe.alloc hbe.size _).grown hg2 (by have := hbe.size; simp; omega) (fun k hk => (hown.lt k hk).1)⟩
        rw [← HN.out, ← HT.out, List.map_append]
        rw [← HN.out] at hown2
        exact hown2
      case measure => simp [intOf]; omega
    · have hqe : q = n := by omega
      subst hqe
      have hneg : I < 0 := by have := hI.out; omega
      rw [← HN.out, Nat.sub_self, List.drop_zero] at hown
      go_wp2_with fail
      go_ret
      obtain ⟨A', c', hv, hle, hA'⟩ := ownsRow_slice hown
      exact ⟨A', c', by rw [← hv]; rfl, Reads.of_own hown hv, hbe⟩

def slc (m g : Nat) : Value := .slice (some ⟨g, 0, none⟩) (m + 1) (m + 1)
structure TabAt (w : World) (base : Nat) (v : Value) (M : Nat → Nat → Bool) (m k : Nat) (gs : List Nat) : Prop where
  len : gs.length = k
  own : w.ownsRow base 22 1 v k (gs.map (slc m))
  rows : ∀ i (h : i < gs.length), IBlk w gs[i] (rowV M m i)
  lo : ∀ x ∈ gs, base ≤ x
theorem TabAt.step {w w' : World} {base : Nat} {v : Value} {M : Nat → Nat → Bool} {m k : Nat} {gs : List Nat} (h : TabAt w base v M m k gs) (hb : Below w.heap.size w w') : TabAt w' base v M m k gs :=
  ⟨h.len, ownsRow_below h.own hb, fun i hi => (h.rows i hi).step hb, h.lo⟩
theorem TabAt.row {w : World} {base : Nat} {v : Value} {M : Nat → Nat → Bool} {m k : Nat} {gs : List Nat} (h : TabAt w base v M m k gs) (hk : 0 < k) : ∃ r cap, v = .slice (some ⟨r, 0, none⟩) k cap ∧ base ≤ r ∧ r < w.heap.size ∧
    ∀ i (hi : i < k), ∃ g, g < w.heap.size ∧ w.cell? ⟨r, i, none⟩ = some (slc m g) ∧ IBlk w g (rowV M m i) := by
  obtain ⟨hl, ho, hr, hlo⟩ := h
  rcases ho.2 with ⟨_, h0⟩ | ⟨r, cap, cur, rfl, hbr, hgg, _⟩
  · omega
  · refine ⟨r, cap, rfl, hbr, (Array.getElem?_eq_some_iff.1 hgg).1, fun i hi => ?_⟩
    have hi' : i < gs.length := by omega
    refine ⟨gs[i], (hr i hi').lt, ?_, hr i hi'⟩
    have := ho.cells (g := r) rfl i (slc m gs[i]) (by simp [hi'])
    rw [add_lit, Nat.zero_add] at this
    exact this
def pV (M : Nat → Nat → Bool) (m i p : Nat) : List Int := (List.range (m + 1)).map fun t => (((if t ≤ p then C M i t else 0) : Nat) : Int)
theorem pV_len (M : Nat → Nat → Bool) (m i p : Nat) : (pV M m i p).length = m + 1 := by simp [pV]
theorem pV_at (M : Nat → Nat → Bool) (m i p t : Nat) (ht : t < (pV M m i p).length) : (pV M m i p)[t] = (((if t ≤ p then C M i t else 0) : Nat) : Int) := by simp [pV]
theorem pV_0 (M : Nat → Nat → Bool) (m i : Nat) : pV M m i 0 = List.replicate (m + 1) 0 := by
  apply List.ext_getElem
  · simp [pV]
  · intro t h1 h2
    rw [pV_at, List.getElem_replicate]
    by_cases h : t ≤ 0
    · have : t = 0 := by omega
      subst this
      rw [if_pos h, C_i0]
      rfl
    · rw [if_neg h]; rfl
theorem pV_m (M : Nat → Nat → Bool) (m i : Nat) : pV M m i m = rowV M m i := by
  apply List.ext_getElem
  · simp [pV, rowV]
  · intro t h1 h2
    rw [pV_len] at h1
    rw [pV_at, rowV_get, if_pos (by omega)]
theorem pV_set (M : Nat → Nat → Bool) (m i p : Nat) : (pV M m i p).set (p + 1) ((C M i (p + 1) : Nat) : Int) = pV M m i (p + 1) := by
  apply List.ext_getElem
  · simp [pV]
  · intro t h1 h2
    rw [List.getElem_set]
    by_cases h : p + 1 = t
    · subst h
      rw [if_pos rfl, pV_at, if_pos (Nat.le_refl _)]
    · rw [if_neg h, pV_at, pV_at]
      by_cases h3 : t ≤ p
      · rw [if_pos h3, if_pos (by omega)]
      · rw [if_neg h3, if_neg (by omega)]
end Go.Proofs.Ytpahgpmhnpfnhaa
