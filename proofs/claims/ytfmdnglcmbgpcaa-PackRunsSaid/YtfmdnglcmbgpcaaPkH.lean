/-
  The unpacker: take, lay.
-/
import Derived.Test.YtfmdnglcmbgpcaaPkE
import Derived.Test.YtfmdnglcmbgpcaaPkF
import Derived.IntWalk
import Derived.BigQuiet
namespace Go.Proofs.Ytfmdnglcmbgpcaa
open Go.RowKit Go.Proofs.Ytfmdnglcmbgpcaa.Pk

def u8s (l : List Int) : Prop := ∀ x ∈ l, 0 ≤ x ∧ x ≤ 255
/-- an unpacker at block U: the bytes that are left, the words so far -/
def US (w0 : World) (U M : Nat) (bs : List Int) (vo : Value) (o : List Int) (w : World) : Prop :=
  ∃ (A : Option Addr) (n c : Nat), Blk w U 47 #[.slice A n c, .int .i64 (M : Int), vo] ∧ n = bs.length ∧ n ≤ c ∧ c ≤ 9223372036854775807 ∧ Reads w0 w0.heap.size A (bs.map (Value.int .u8)) ∧
    w.ownsRow (U + 1) 38 1 vo o.length (o.map (Value.int .u64)) ∧ Below w0.heap.size w0 w ∧ w0.heap.size ≤ U ∧ M ≤ 9223372036854775807
section
variable {w0 w w' : World} {U M : Nat} {bs o : List Int} {vo : Value}
theorem US.lt (h : US w0 U M bs vo o w) : U < w.heap.size := by obtain ⟨A, n, c, hb, _⟩ := h; exact hb.lt
theorem US.own (h : US w0 U M bs vo o w) : w.ownsRow (U + 1) 38 1 vo o.length (o.map (Value.int .u64)) := by obtain ⟨A, n, c, hb, _, _, _, _, h, _⟩ := h; exact h
theorem US.be (h : US w0 U M bs vo o w) : Below w0.heap.size w0 w := by obtain ⟨A, n, c, hb, _, _, _, _, _, h, _⟩ := h; exact h
theorem US.low (h : US w0 U M bs vo o w) : w0.heap.size ≤ U := by obtain ⟨A, n, c, hb, _, _, _, _, _, _, h, _⟩ := h; exact h
theorem US.below (h : US w0 U M bs vo o w) (hb : Below w.heap.size w w') : US w0 U M bs vo o w' := by
  obtain ⟨A, n, c, h1, h2, h3, h4, h5, h6, h7, h8, h9⟩ := h
  exact ⟨A, n, c, h1.below hb h1.lt, h2, h3, h4, h5, ownsRow_below h6 hb, h7.trans (hb.mono h7.size), h8, h9⟩
theorem US.alloc (h : US w0 U M bs vo o w) (x : Obj) : US w0 U M bs vo o (w.alloc x) := h.below ((Below.refl _ _).alloc (Nat.le_refl _) x)
/-- a store into a block that is neither the unpacker's nor its words' -/
theorem US.far (h : US w0 U M bs vo o w) {p : Addr} (hU : U < p.block) (hp : vo.ownBlock ≠ some p.block) (u : Value) : US w0 U M bs vo o (w.setCell p u) := by
  obtain ⟨A, n, c, h1, h2, h3, h4, h5, h6, h7, h8, h9⟩ := h
  exact ⟨A, n, c, h1.far (by omega) u, h2, h3, h4, h5, ownsRow_far h6 hp u, h7.setCell (by omega) u, h8, h9⟩
end

set_option maxHeartbeats 1000000 in
theorem take_any (w0 : World) (U M : Nat) (bs : List Int) (vo : Value) (o : List Int) (w : World) (m : Nat) (h : US w0 U M bs vo o w) (hm : m ≤ bs.length) :
    Calls Try.prog 25 #[.pointer (some ⟨U, 0, none⟩), .int .i64 (m : Int)] w fun e w' =>
      (∃ A', e = .returned (.tuple #[.slice A' m m, .bool true]) ∧ Reads w0 w0.heap.size A' ((bs.take m).map (Value.int .u8))) ∧ US w0 U M (bs.drop m) vo o w' ∧ Only [U] w w' ∧ w'.heap.size = w.heap.size := by
  obtain ⟨A, n, c, h1, h2, h3, h4, h5, h6, h7, h8, h9⟩ := h
  have hnm : (m : Int) ≤ (n : Int) := by omega
  have hnc : (m : Int) ≤ (c : Int) := by omega
  have c0 := h1.cell 0
  have f0 := h1.frozen 0
  simp at c0
  go_enter Try.func25, Try.ntmps25
  go_wp2_with fail
  all_goals
    go_ret2
    refine ⟨⟨A, rfl, by simpa using h5.take m⟩, ⟨_, _, _, by simpa using h1.set_ 0 _, by rw [List.length_drop], by omega, by omega, ?_, ownsRow_far h6 (fun e => by have := (h6.lt _ e).1; simp at this; omega) _, h7.setCell h8 _, h8, h9⟩, (Only.refl _ _).setCell (by simp) _, by simp [World.setCell]⟩
    have hcut := h5.cut (k := m) (cap := c) (by rw [List.length_map]; omega)
    first
      | (rw [if_pos h] at hcut; simpa using hcut)
      | (rw [if_neg h] at hcut; simpa using hcut)

set_option maxHeartbeats 1000000 in
theorem take_no (w0 : World) (U M : Nat) (bs : List Int) (vo : Value) (o : List Int) (w : World) (m : Nat) (h : US w0 U M bs vo o w) (hm : bs.length < m) :
    Calls Try.prog 25 #[.pointer (some ⟨U, 0, none⟩), .int .i64 (m : Int)] w fun e w' => e = .returned (.tuple #[.slice none 0 0, .bool false]) ∧ w = w' := by
  obtain ⟨A, n, c, h1, h2, h3, h4, h5, h6, h7, h8, h9⟩ := h
  have hnm : (n : Int) < (m : Int) := by omega
  have c0 := h1.cell 0
  simp at c0
  go_enter Try.func25, Try.ntmps25
  go_wp2_with fail
  go_ret2
  exact ⟨rfl, rfl⟩

set_option maxHeartbeats 1000000 in
theorem lay_no (w0 : World) (U M : Nat) (bs : List Int) (vo : Value) (o : List Int) (w : World) (A : Option Addr) (n c : Nat) (h : US w0 U M bs vo o w) (hn : n ≤ 1000000) (ho : o.length ≤ 1000000000) (hm : M < o.length + n) :
    Calls Try.prog 27 #[.pointer (some ⟨U, 0, none⟩), .slice A n c] w fun e w' => e = .returned (.bool false) ∧ ∃ k, w' = w.drewN k := by
  obtain ⟨A0, n0, c0, h1, h2, h3, h4, h5, h6, h7, h8, h9⟩ := h
  obtain ⟨Av, cv, rfl, hle, hA⟩ := ownsRow_slice h6
  have d1 := h1.cell 1
  have d2 := h1.cell 2
  simp at d1 d2
  have e1 : (M : Int) - (o.length : Int) < (n : Int) := by omega
  go_enter Try.func27, Try.ntmps27
  go_wp2_with fail
  go_quiet (fail)
  go_wp2_with fail
  go_ret
  exact ⟨rfl, _, rfl⟩

set_option maxHeartbeats 1000000 in
theorem lay_any (w0 : World) (U M : Nat) (bs : List Int) (vo : Value) (o ls : List Int) (w : World) (A : Option Addr) (n c b0 : Nat) (h : US w0 U M bs vo o w) (hn : n = ls.length) (hr : Reads w b0 A (ls.map (Value.int .u64))) (hl : n ≤ 1000000) (ho : o.length ≤ 1000000000) (hm : o.length + n ≤ M) :
    Calls Try.prog 27 #[.pointer (some ⟨U, 0, none⟩), .slice A n c] w fun e w' => e = .returned (.bool true) ∧ (∃ v', US w0 U M bs v' (o ++ ls) w') ∧ Below w0.heap.size w0 w' := by
  subst hn
  obtain ⟨i0, hi, hz0, hz1, hz2⟩ := info_parts infoWord
  obtain ⟨A0, n0, c0, h1, h2, h3, h4, h5, h6, h7, h8, h9⟩ := h
  obtain ⟨Av, cv, rfl, hle, hA⟩ := ownsRow_slice h6
  have d1 := h1.cell 1
  have d2 := h1.cell 2
  simp at d1 d2
  have e1 : ¬ (M : Int) - (o.length : Int) < (ls.length : Int) := by omega
  have hne : some U ≠ (Value.slice Av o.length cv).ownBlock := fun e => by have := (h6.lt _ e.symm).1; omega
  go_enter Try.func27, Try.ntmps27
  go_wp2_with fail
  go_quiet (fail)
  go_wp2_with (at_builtin; refine wpList_append_any _ rfl (.tmp 22) (.tmp 23) _ rfl (U + 1) 38 i0 _ 1 8 Try.underlying22 hi hz0 hz1 hz2 rfl (by decide) _ _ _ rfl (ownsRow_drewN h6 _) A ls.length c (ls.map (Value.int .u64)) rfl (by simp) (hr.drewN _).src (oneCells _ _) (by unfold maxLen; omega) (by omega) (by show U + 1 ≤ w.heap.size; have := h1.lt; omega) ?_; intro v' w' hown' hg' hat'; obtain ⟨Av', cv', rfl, hle', hAv'⟩ := ownsRow_slice hown'; have hB := (h1.drewN nq).grown hg' hne; have d2' := hB.cell 2; have f2 := hB.frozen 2; simp at d2')
  go_ret
  have hown2 : (w'.setCell ⟨U, 2, none⟩ (Value.slice Av' (o.length + ls.length) cv')).ownsRow (U + 1) 38 1 (.slice Av' (o.length + ls.length) cv') (o ++ ls).length ((o ++ ls).map (Value.int .u64)) := by
    rw [List.length_append, List.map_append]
    exact ownsRow_far hown' (fun e => by have := (hown'.lt _ e).1; simp at this; omega) _
  have hbw : Below w0.heap.size w0 w' := (below_drewN h7 nq).grown hg' h7.size (fun k hk => by have := (h6.lt k hk).1; omega)
  exact ⟨rfl, ⟨_, A0, n0, c0, by simpa using hB.set_ 2 _, h2, h3, h4, h5, hown2, hbw.setCell h8 _, h8, h9⟩, hbw.setCell h8 _⟩
end Go.Proofs.Ytfmdnglcmbgpcaa
