/-
  Flat of package word: its result owns its row.
-/
import Derived.Test.YtfmdnglcmbgpcaaPkC
import Derived.Test.YtfmdnglcmbgpcaaOnly
namespace Go.Proofs.Ytfmdnglcmbgpcaa
open Go.RowKit Go.Proofs.Ytfmdnglcmbgpcaa.Pk

section
variable {P : Program} {w : World}
/-- an append of any source at a step of a region that draws its order: for go_region_law -/
theorem step_append_any {ops : Array Oper} {o : Oper} {a : Act} {K : Act → World → Prop} {Q : Exit → Act → World → Prop} {E : Prop} (hgd : o.guard = none) (s x : Operand) (t : TypeId)
    (ho : o.op = .call { callee := .builtin .append, args := #[s, x], argTypes := #[t, t] })
    (base : Nat) (e : TypeId) (i : TypeInfo) (z : Value) (size bytes : Nat) (ht : P.underlying t = some (.slice e)) (hi : P.info? e = some i) (hz : i.zero = some z)
    (hsize : i.size = size) (hby : i.bytes = bytes) (hzs : z.cells.size = size) (hsz : 0 < size)
    (v : Value) (n : Nat) (xs : List Value) (hs : a.eval s = v) (hown : w.ownsRow base e size v n xs)
    (A : Option Addr) (m c : Nat) (news : List Value) (hx : a.eval x = .slice A m c) (hl : news.length = m * size) (hr : ∀ j u, news[j]? = some u → ∃ ad, A = some ad ∧ w.cell? (ad.add j) = some u) (h1 : ∀ u ∈ news, u.oneCell' = true)
    (h63 : n + m ≤ maxLen) (hbytes : (n + m) * bytes ≤ 140737488355328) (hbase : base ≤ w.heap.size)
    (h : ∀ v' w', w'.ownsRow base e size v' (n + m) (xs ++ news) → w.grownBy w' v.ownBlock → (v'.ownBlock = v.ownBlock ∨ v'.ownBlock = some w.heap.size) → K (a.put o.dst v') w') :
    if Region.wanted o (yielded ops a.tmps) = true then Oper.wp P o a w K Q else E := by
  have hw : Region.wanted o (yielded ops a.tmps) = true := by simp [Region.wanted, hgd]
  rw [if_pos hw]
  exact wp_append_any w s x t ho base e i z size bytes ht hi hz hsize hby hzs hsz v n xs hs hown A m c news hx hl hr h1 h63 hbytes hbase fun v' w' h2 h3 h4 => h v' w' h2 h3 h4
end

theorem step_chk {P : Program} {w : World} {ops : Array Oper} {o : Oper} {a : Act} {K : Act → World → Prop} {Q : Exit → Act → World → Prop} {E : Prop} (s x : Operand) (t : TypeId)
    (_ : o.op = .call { callee := .builtin .append, args := #[s, x], argTypes := #[t, t] }) (h : if Region.wanted o (yielded ops a.tmps) = true then Oper.wp P o a w K Q else E) : if Region.wanted o (yielded ops a.tmps) = true then Oper.wp P o a w K Q else E := h
theorem Reads.src {w : World} {B : Nat} {A : Option Addr} {xs : List Value} (h : Reads w B A xs) : ∀ j u, xs[j]? = some u → ∃ ad, A = some ad ∧ w.cell? (ad.add j) = some u := fun j u hu => by
  obtain ⟨b, o, e, _, hc⟩ := h j u hu
  exact ⟨_, e, by rw [add_lit]; exact hc⟩

theorem rd_step {a b : World} {A : Option Addr} {xs : List Value} (h : Hid (Reads a a.heap.size A xs)) (hb : Below a.heap.size a b) : Hid (Reads b b.heap.size A xs) := (h.out.below hb (Nat.le_refl _)).more hb.size
theorem new_one (w : World) (x : Int) : Hid (∀ j u, ([x].map (Value.int .u8))[j]? = some u → ∃ ad, some (⟨w.heap.size, 0, none⟩ : Addr) = some ad ∧ (w.alloc (.cells #[.int .u8 x] 5)).cell? (ad.add j) = some u) := fun j u hu => by
  refine ⟨_, rfl, ?_⟩
  rw [add_lit, Nat.zero_add, (Blk.new w _ _).cell]
  simpa using hu
theorem tag_of (x : Int) (h0 : 0 ≤ x) (h1 : x ≤ 18446744073709551615) : unlTo (bits .xor .u64 x 0) 8 = tagOf x := unl_same x 0 h0 h1 (by decide) (by decide) 8
theorem Reads.cutLit {w : World} {B b o k cap : Nat} {xs : List Value} (h : Reads w B (some ⟨b, o, none⟩) xs) (hc : xs.length ≤ cap) :
    Reads w B (if cap = k then some ⟨b, o, none⟩ else some ⟨b, o + k, none⟩) (xs.drop k) := by
  have h1 := h.cut (k := k) hc
  rw [Option.map_some, add_lit] at h1
  exact h1

theorem Reads.intLit {w : World} {B b o : Nat} {K : IntKind} {ys : List Int} (h : Reads w B (some ⟨b, o, none⟩) (ys.map (Value.int K))) {k : Nat} (hk : k < ys.length) : w.cell? ⟨b, o + k, none⟩ = some (.int K (ys.getD k 0)) := by
  obtain ⟨b', o', e, _, hc⟩ := h.intAt hk
  injection e with e
  injection e with e1 e2
  subst e1 e2
  rw [List.getD_eq_getElem?_getD, List.getElem?_eq_getElem hk]
  exact hc
theorem Reads.sub {w : World} {B b o : Nat} {K : IntKind} {ys : List Int} (h : Reads w B (some ⟨b, o, none⟩) (ys.map (Value.int K))) (k m : Nat) : Reads w B (some ⟨b, o + k, none⟩) (((ys.drop k).take m).map (Value.int K)) := by
  have h1 := (h.drop k).take m
  rw [Option.map_some, add_lit] at h1
  rwa [List.map_take, List.map_drop]
theorem Pk.u64s.getD {l : List Int} (h : u64s l) (k : Nat) (hk : k < l.length) : 0 ≤ l.getD k 0 ∧ l.getD k 0 ≤ 18446744073709551615 := by
  have := h _ (List.getElem_mem hk)
  rwa [List.getD_eq_getElem?_getD, List.getElem?_eq_getElem hk]
theorem run_more {p : Int → Bool} {l : List Int} {m : Nat} (h : ∀ i, i < m → p (l.getD i 0) = true) (hm : p (l.getD m 0) = true) : ∀ i, i < m + 1 → p (l.getD i 0) = true := fun i hi => by
  by_cases e : i = m
  · subst e; exact hm
  · exact h i (by omega)

def OwnB (ys : List Int) (w : World) (e : Ending) (w' : World) : Prop := Below w.heap.size w w' ∧ ∃ v, e = .returned v ∧ w'.ownsRow w.heap.size 5 1 v ys.length (ys.map (Value.int .u8))

set_option maxHeartbeats 2000000 in
theorem flat_own (A : Option Addr) (n c b0 : Nat) (xs : List Int) (w : World) (hn : n = xs.length) (hr : Reads w b0 A (xs.map (Value.int .u64))) (hb0 : b0 ≤ w.heap.size) (hw : ∀ x ∈ xs, 0 ≤ x ∧ x ≤ 18446744073709551615) (hs : n * 8 ≤ 140737488351232) :
    Calls Try.prog 20 #[.slice A n c] w (OwnB (flatOf xs) w) := by
  subst hn
  obtain ⟨i0, hi, hz0, hz1, hz2⟩ := info_parts infoByte
  have HW := hide hw
  clear hw
  have hmk : ∀ W : World, (Instr.makeSlice 25 (.int .i64 0) (.int .i64 (8 * (xs.length : Int)))).run Try.prog W = .ok (.slice (some ⟨W.heap.size, 0, none⟩) 0 (8 * xs.length)) (W.alloc (.cells (madeCells #[.int .u8 0] (8 * xs.length)) 5)) := fun W => by
    have h := run_make (P := Try.prog) W 25 5 i0 (.int .u8 0) Try.underlying25 hi hz0 .i64 .i64 0 (8 * (xs.length : Int)) (by omega) (by omega) (by rw [hz2]; omega) (by omega)
    have e : (8 * (xs.length : Int)).toNat = 8 * xs.length := by omega
    rw [e] at h
    simpa [hz1, Value.cells] using h
  have hown0 := World.ownsRow_made (base := w.heap.size) (e := 5) (size := 1) w (madeCells #[.int .u8 0] (8 * xs.length)) (8 * xs.length) (Nat.le_refl _) (by unfold maxLen; omega) (by simp [madeCells])
  have HOWN := hide hown0
  clear hown0
  go_enter Try.func20, Try.ntmps20
  go_wp2_with fail
  go_loopw [3, 13] (fun v i wr => ∃ k : Nat, k ≤ xs.length ∧ i = .int .i64 k ∧ wr.ownsRow w.heap.size 5 1 v (8 * k) ((flatOf (xs.take k)).map (Value.int .u8)) ∧ Below w.heap.size w wr) (fun _ i _ => xs.length - (intOf i).toNat)
  case atStart => exact ⟨0, by omega, rfl, HOWN.out, (Below.refl _ _).alloc (Nat.le_refl _) _⟩
  case round =>
    obtain ⟨k, hk, rfl, hown, hbe⟩ := hrel
    by_cases hlt : k < xs.length
    · obtain ⟨bx, ox, rfl, hbx, cx⟩ := (hr.below hbe hb0).intAt hlt
      have hb := HW.out _ (List.getElem_mem hlt)
      have HF := hide (flatOf_snoc xs k hlt)
      generalize xs[k] = x at *
      go_wp2_with fail
      refine (bytes_any x hb.1 hb.2 _).mono ?_
      rintro e w1 ⟨rfl, hb1⟩
      have hown1 := ownsRow_below hown hb1
      have hbe1 := hbe.trans (hb1.mono hbe.size)
      have hnew : ∀ j u, ((bytesOf x).map (Value.int .u8))[j]? = some u → ∃ ad, some (⟨w1.heap.size, 0, none⟩ : Addr) = some ad ∧ (w1.alloc (.cells #[.int .u8 (bt x 0), .int .u8 (bt x 1), .int .u8 (bt x 2), .int .u8 (bt x 3), .int .u8 (bt x 4), .int .u8 (bt x 5), .int .u8 (bt x 6), .int .u8 (bt x 7)] 39)).cell? (ad.add j) = some u := fun j u hu => by
        refine ⟨_, rfl, ?_⟩
        rw [add_lit, Nat.zero_add, (Blk.new w1 _ _).cell]
        simpa [bytesOf] using hu
      have HNEW := hide hnew
      clear hnew
      go_wp2_with (at_builtin; refine wpList_append_any _ rfl (.tmp 19) (.tmp 20) _ rfl w.heap.size 5 i0 _ 1 1 Try.underlying25 hi hz0 hz1 hz2 rfl (by decide) _ _ _ rfl (hown1.alloc _) (some ⟨w1.heap.size, 0, none⟩) 8 8 ((bytesOf x).map (Value.int .u8)) rfl rfl HNEW.out (oneCells _ _) (by unfold maxLen; omega) (by omega) (by have := hbe1.size; simp; omega) ?_; intro v1 w2 hown2 hg2 hat2)
      go_roundw
      case rel =>
        refine ⟨k + 1, by omega, by go_num, ?_, (hbe1.alloc hbe1.size _).grown hg2 (by have := hbe1.size; simp; omega) (fun k hk => (hown1.lt k hk).1)⟩
        rw [HF.out, List.map_append, show 8 * (k + 1) = 8 * k + 8 from by omega]
        exact hown2
      case measure => simp [intOf]; omega
    · have hke : k = xs.length := by omega
      subst hke
      rw [List.take_of_length_le (Nat.le_refl _)] at hown
      go_wp2_with fail
      go_ret
      refine ⟨hbe, _, rfl, ?_⟩
      rw [flatOf_len]
      exact hown
end Go.Proofs.Ytfmdnglcmbgpcaa
