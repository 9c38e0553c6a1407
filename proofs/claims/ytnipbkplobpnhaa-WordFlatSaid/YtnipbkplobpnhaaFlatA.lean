/-
  Flat and Words of package word and of its reference.
-/
import Derived.Test.YtnipbkplobpnhaaWordW
namespace Go.Proofs.Ytnipbkplobpnhaa
open Go.RowKit

/-- the bytes of a word -/
def bytesOf (x : Int) : List Int := [bt x 0, bt x 1, bt x 2, bt x 3, bt x 4, bt x 5, bt x 6, bt x 7]
def flatOf (xs : List Int) : List Int := xs.flatMap bytesOf
theorem bytesOf_len (x : Int) : (bytesOf x).length = 8 := rfl
theorem flatOf_len (xs : List Int) : (flatOf xs).length = 8 * xs.length := by
  unfold flatOf
  induction xs with
  | nil => rfl
  | cons x r ih => rw [List.flatMap_cons, List.length_append, ih, bytesOf_len, List.length_cons]; omega
theorem flatOf_snoc (xs : List Int) (k : Nat) (h : k < xs.length) : flatOf (xs.take (k + 1)) = flatOf (xs.take k) ++ bytesOf xs[k] := by
  rw [List.take_succ_eq_append_getElem h]
  unfold flatOf
  rw [List.flatMap_append]
  simp
theorem oneCells (K : IntKind) (xs : List Int) : ∀ u ∈ xs.map (Value.int K), u.oneCell' = true := ints_oneCell K xs

theorem ownsRow_cap {w : World} {base : Nat} {e : TypeId} {size n : Nat} {A : Option Addr} {m c : Nat} {xs : List Value} (h : w.ownsRow base e size (.slice A m c) n xs) : c ≤ maxLen := by
  rcases h.2 with ⟨hv, _⟩ | ⟨g, cap, cur, hv, _, _, _, hc, _⟩
  · injection hv with _ _ h3
    omega
  · injection hv with _ _ h3
    omega
def BytesPost (ys : List Int) (w : World) (e : Ending) (w' : World) : Prop :=
  Below w.heap.size w w' ∧ ∃ A n c, e = .returned (.slice A n c) ∧ n = ys.length ∧ n ≤ c ∧ c ≤ maxLen ∧ (A = none → c = 0) ∧ Reads w' w'.heap.size A (ys.map (Value.int .u8))

set_option maxHeartbeats 2000000 in
theorem refFlat_any (A : Option Addr) (n c b0 : Nat) (xs : List Int) (w : World) (hn : n = xs.length) (hr : Reads w b0 A (xs.map (Value.int .u64))) (hb0 : b0 ≤ w.heap.size) (hw : ∀ x ∈ xs, 0 ≤ x ∧ x ≤ 18446744073709551615) (hs : n * 8 ≤ 140737488351232) :
    Calls Try.prog 31 #[.slice A n c] w (BytesPost (flatOf xs) w) := by
  subst hn
  obtain ⟨i0, hi, hz0, hz1, hz2⟩ := info_parts infoByte
  have HW := hide hw
  clear hw
  go_enter Try.func31, Try.ntmps31
  go_wp2_with fail
  go_loopw [3, 4] (fun v i wr => ∃ k : Nat, k ≤ xs.length ∧ i = .int .i64 k ∧ wr.ownsRow w.heap.size 5 1 v (8 * k) ((flatOf (xs.take k)).map (Value.int .u8)) ∧ Below w.heap.size w wr) (fun _ i _ => xs.length - (intOf i).toNat)
  case atStart => exact ⟨0, by omega, rfl, World.ownsRow_nil _ _ _ _, Below.refl _ _⟩
  case round =>
    obtain ⟨k, hk, rfl, hown, hbe⟩ := hrel
    by_cases hlt : k < xs.length
    · obtain ⟨bx, ox, rfl, hbx, cx⟩ := (hr.below hbe hb0).intAt hlt
      have hb := HW.out _ (List.getElem_mem hlt)
      have HF := hide (flatOf_snoc xs k hlt)
      generalize xs[k] = x at *
      go_wp2_with fail
      refine (refBytes_any x hb.1 hb.2 _).mono ?_
      rintro e w1 ⟨rfl, hb1⟩
      have hown1 := ownsRow_below hown hb1
      have hbe1 := hbe.trans (hb1.mono hbe.size)
      have hnew : ∀ j u, ((bytesOf x).map (Value.int .u8))[j]? = some u → ∃ ad, some (⟨w1.heap.size, 0, none⟩ : Addr) = some ad ∧ (w1.alloc (.cells #[.int .u8 (bt x 0), .int .u8 (bt x 1), .int .u8 (bt x 2), .int .u8 (bt x 3), .int .u8 (bt x 4), .int .u8 (bt x 5), .int .u8 (bt x 6), .int .u8 (bt x 7)] 28)).cell? (ad.add j) = some u := fun j u hu => by
        refine ⟨_, rfl, ?_⟩
        rw [add_lit, Nat.zero_add, (Blk.new w1 _ _).cell]
        simpa [bytesOf] using hu
      have HNEW := hide hnew
      clear hnew
      go_wp2_with (at_builtin; refine wpList_append_any _ rfl (.tmp 17) (.tmp 18) _ rfl w.heap.size 5 i0 _ 1 1 Try.underlying44 hi hz0 hz1 hz2 rfl (by decide) _ _ _ rfl (hown1.alloc _) (some ⟨w1.heap.size, 0, none⟩) 8 8 ((bytesOf x).map (Value.int .u8)) rfl rfl HNEW.out (oneCells _ _) (by unfold maxLen; omega) (by omega) (by have := hbe1.size; simp; omega) ?_; intro v1 w2 hown2 hg2 hat2)
      go_roundw
      case rel =>
        refine ⟨k + 1, by omega, by go_num, ?_, (hbe1.alloc hbe1.size _).grown hg2 (by have := hbe1.size; simp; omega) (fun k hk => (hown1.lt k hk).1)⟩
        rw [HF.out, List.map_append, show 8 * (k + 1) = 8 * k + 8 from by omega]
        exact hown2
      case measure => simp [intOf]; omega
    · have hke : k = xs.length := by omega
      subst hke
      rw [List.take_of_length_le (Nat.le_refl _)] at hown
      go_wp2_with fail
      go_ret
      obtain ⟨A', c', hv, hle, hA'⟩ := ownsRow_slice hown
      exact ⟨hbe, A', _, c', by rw [← hv]; rfl, (flatOf_len xs).symm, hle, ownsRow_cap (by rw [← hv]; exact hown), hA', Reads.of_own hown hv⟩

set_option maxHeartbeats 2000000 in
theorem flat_any (A : Option Addr) (n c b0 : Nat) (xs : List Int) (w : World) (hn : n = xs.length) (hr : Reads w b0 A (xs.map (Value.int .u64))) (hb0 : b0 ≤ w.heap.size) (hw : ∀ x ∈ xs, 0 ≤ x ∧ x ≤ 18446744073709551615) (hs : n * 8 ≤ 140737488351232) :
    Calls Try.prog 28 #[.slice A n c] w (BytesPost (flatOf xs) w) := by
  subst hn
  obtain ⟨i0, hi, hz0, hz1, hz2⟩ := info_parts infoByte
  have HW := hide hw
  clear hw
  have hmk : ∀ W : World, (Instr.makeSlice 44 (.int .i64 0) (.int .i64 (8 * (xs.length : Int)))).run Try.prog W = .ok (.slice (some ⟨W.heap.size, 0, none⟩) 0 (8 * xs.length)) (W.alloc (.cells (madeCells #[.int .u8 0] (8 * xs.length)) 5)) := fun W => by
    have h := run_make (P := Try.prog) W 44 5 i0 (.int .u8 0) Try.underlying44 hi hz0 .i64 .i64 0 (8 * (xs.length : Int)) (by omega) (by omega) (by rw [hz2]; omega) (by omega)
    have e : (8 * (xs.length : Int)).toNat = 8 * xs.length := by omega
    rw [e] at h
    simpa [hz1, Value.cells] using h
  have hown0 := World.ownsRow_made (base := w.heap.size) (e := 5) (size := 1) w (madeCells #[.int .u8 0] (8 * xs.length)) (8 * xs.length) (Nat.le_refl _) (by unfold maxLen; omega) (by simp [madeCells])
  have HOWN := hide hown0
  clear hown0
  go_enter Try.func28, Try.ntmps28
  go_wp2_with fail
  go_loopw [3, 13] (fun v i wr => ∃ k : Nat, k ≤ xs.length ∧ i = .int .i64 k ∧ wr.ownsRow w.heap.size 5 1 v (8 * k) ((flatOf (xs.take k)).map (Value.int .u8)) ∧ Below w.heap.size w wr) (fun _ i _ => xs.length - (intOf i).toNat)
  case atStart => exact ⟨0, by omega, rfl, HOWN.out, (Below.refl _ _).alloc (Nat.le_refl _) _⟩
  case round =>
    obtain ⟨k, hk, rfl, hown, hbe⟩ := hrel
    by_cases hlt : k < xs.length
    · obtain ⟨bx, ox, rfl, hbx, cx⟩ := (hr.below hbe hb0).intAt hlt
      have hb := HW.out _ (List.getElem_mem hlt)
      have HF := hide (flatOf_snoc xs k hlt)
      generalize xs[k] = x at *
      go_wp2_with fail
      refine (bytes_any x hb.1 hb.2 _).mono ?_
      rintro e w1 ⟨rfl, hb1⟩
      have hown1 := ownsRow_below hown hb1
      have hbe1 := hbe.trans (hb1.mono hbe.size)
      have hnew : ∀ j u, ((bytesOf x).map (Value.int .u8))[j]? = some u → ∃ ad, some (⟨w1.heap.size, 0, none⟩ : Addr) = some ad ∧ (w1.alloc (.cells #[.int .u8 (bt x 0), .int .u8 (bt x 1), .int .u8 (bt x 2), .int .u8 (bt x 3), .int .u8 (bt x 4), .int .u8 (bt x 5), .int .u8 (bt x 6), .int .u8 (bt x 7)] 28)).cell? (ad.add j) = some u := fun j u hu => by
        refine ⟨_, rfl, ?_⟩
        rw [add_lit, Nat.zero_add, (Blk.new w1 _ _).cell]
        simpa [bytesOf] using hu
      have HNEW := hide hnew
      clear hnew
      go_wp2_with (at_builtin; refine wpList_append_any _ rfl (.tmp 19) (.tmp 20) _ rfl w.heap.size 5 i0 _ 1 1 Try.underlying44 hi hz0 hz1 hz2 rfl (by decide) _ _ _ rfl (hown1.alloc _) (some ⟨w1.heap.size, 0, none⟩) 8 8 ((bytesOf x).map (Value.int .u8)) rfl rfl HNEW.out (oneCells _ _) (by unfold maxLen; omega) (by omega) (by have := hbe1.size; simp; omega) ?_; intro v1 w2 hown2 hg2 hat2)
      go_roundw
      case rel =>
        refine ⟨k + 1, by omega, by go_num, ?_, (hbe1.alloc hbe1.size _).grown hg2 (by have := hbe1.size; simp; omega) (fun k hk => (hown1.lt k hk).1)⟩
        rw [HF.out, List.map_append, show 8 * (k + 1) = 8 * k + 8 from by omega]
        exact hown2
      case measure => simp [intOf]; omega
    · have hke : k = xs.length := by omega
      subst hke
      rw [List.take_of_length_le (Nat.le_refl _)] at hown
      go_wp2_with fail
      go_ret
      obtain ⟨A', c', hv, hle, hA'⟩ := ownsRow_slice hown
      exact ⟨hbe, A', _, c', by rw [← hv]; rfl, (flatOf_len xs).symm, hle, ownsRow_cap (by rw [← hv]; exact hown), hA', Reads.of_own hown hv⟩
end Go.Proofs.Ytnipbkplobpnhaa
