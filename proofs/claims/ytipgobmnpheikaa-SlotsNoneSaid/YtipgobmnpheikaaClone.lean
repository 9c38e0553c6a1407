/-
  slices.Clone at words.
-/
import Derived.Test.YtipgobmnpheikaaSame
namespace Go.Proofs.Ytipgobmnpheikaa
open Go.RowKit

theorem infoWord : (Try.prog.info? 54).map (fun i => (i.zero, i.size, i.bytes)) = some (some (.int .u64 0), 1, 8) := by kernel_rfl
theorem infoInt : (Try.prog.info? 3).map (fun i => (i.zero, i.size, i.bytes)) = some (some (.int .i64 0), 1, 8) := by kernel_rfl
theorem oneCells (K : IntKind) (xs : List Int) : ∀ u ∈ xs.map (Value.int K), u.oneCell' = true := ints_oneCell K xs

def ClonePost (n : Nat) (xs : List Value) (w : World) (e : Ending) (w' : World) : Prop := ∃ A' c', e = .returned (.slice A' n c') ∧ (A' = none → n = 0) ∧ n ≤ c' ∧ Reads w' w'.heap.size A' xs ∧ Below w.heap.size w w'
set_option maxHeartbeats 1000000 in
theorem clone_any (A : Option Addr) (n c b0 : Nat) (xs : List Int) (w : World) (hn : n = xs.length) (hA : A = none → n = 0) (hx : Reads w b0 A (xs.map (Value.int .u64))) (hb0 : b0 ≤ w.heap.size) (hs : n * 8 ≤ 140737488351232) :
    Calls Try.prog 22 #[.slice A n c] w (ClonePost n (xs.map (Value.int .u64)) w) := by
  rcases A with _ | a
  · have h0 := hA rfl
    subst h0
    have hxs : xs = [] := List.eq_nil_of_length_eq_zero hn.symm
    subst hxs
    have hq : ∀ W, (binOp .eql 26 (.slice none 0 c) (.slice none 0 0)).run Try.prog W = .ok (.bool true) W := fun W => Lib.run_eql_slice_nil W _ _ none 0 c 0 0 Try.underlying26
    clear hx hn hA
    go_enter Try.func22, Try.ntmps22
    go_wp2
    go_ret
    exact ⟨none, 0, rfl, fun _ => rfl, Nat.zero_le _, Reads.none_, Below.refl _ _⟩
  · subst hn
    obtain ⟨i0, hi, hz0, hz1, hz2⟩ := info_parts infoWord
    have hq : ∀ W, (binOp .eql 26 (.slice (some a) xs.length c) (.slice none 0 0)).run Try.prog W = .ok (.bool false) W := fun W => Lib.run_eql_slice_nil W _ _ (some a) xs.length c 0 0 Try.underlying26
    go_enter Try.func22, Try.ntmps22
    have hown : (w.alloc (.cells #[] 54)).ownsRow w.heap.size 54 1 (.slice (some ⟨w.heap.size, 0, none⟩) 0 0) 0 [] := World.ownsRow_made w #[] 0 (Nat.le_refl _) (by decide) rfl
    have hxa := hx.alloc hb0 (.cells #[] 54)
    go_wp2_with (at_builtin; refine wpList_append_any _ rfl (.tmp 5) (.tmp 6) _ rfl w.heap.size 54 i0 _ 1 8 Try.underlying26 hi hz0 hz1 hz2 rfl (by decide) _ 0 [] rfl hown (some a) xs.length c (xs.map (Value.int .u64)) rfl (by simp) (fun j u hu => by obtain ⟨b, o, e, _, hc⟩ := hxa j u hu; exact ⟨⟨b, o, none⟩, e, by rw [add_lit]; exact hc⟩) (oneCells _ _) (by unfold maxLen; omega) (by omega) (by simp) ?_; intro v1 w1 hown1 hg1 hat1)
    go_ret
    obtain ⟨A', c', hv, hle, hA'⟩ := ownsRow_slice hown1
    have hr1 := Reads.of_own hown1 hv
    rw [Nat.zero_add] at hv hle
    exact ⟨A', c', by rw [← hv]; rfl, fun h => by have := hA' h; omega, hle, by simpa using hr1, ((Below.refl _ _).alloc (Nat.le_refl _) _).grown hg1 (by simp) (fun k hk => by
      have hk' : some w.heap.size = some k := hk
      injection hk' with h
      omega)⟩
end Go.Proofs.Ytipgobmnpheikaa
