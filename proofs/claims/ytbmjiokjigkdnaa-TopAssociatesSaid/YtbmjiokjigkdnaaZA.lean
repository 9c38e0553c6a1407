/-
  Part A of the proofs of TopAssociates and TopConverse.
-/
import Derived.Test.YtbmjiokjigkdnaaRows
import Derived.Handy
import Derived.WalkSpells
import Derived.WalkLawsBesides
import Derived.BigQuiet
import Derived.Deep.QuietTactic
import Derived.Deep.Draws
import Derived.Deep.AppendLies
import Derived.Maps.AppendAt
import Derived.Lib.Hide
import Derived.ProofKit
import Derived.OpenShut
import Derived.ShutString
import Derived.ChangeOld
import Derived.SizedLaws
import Derived.JoinedCond
import Derived.Deep.CondSized
import Derived.Deep.Slices
import Derived.Deep.Fields
import Derived.Laws.ResultCell
import Derived.Laws.NewBlocks
set_option linter.unusedVariables false
set_option linter.unusedSimpArgs false
namespace Go.Proofs.Ytbmjiokjigkdnaa
open Go.RowKit
theorem hide {p : Prop} (h : p) : Hid p := h
theorem ret_int {k : IntKind} {a b : Int} (h : a = b) : Ending.returned (.int k a) = .returned (.int k b) := by rw [h]
theorem ret_bool {a b : Bool} (h : a = b) : Ending.returned (.bool a) = .returned (.bool b) := by rw [h]
theorem add_of_add (a : Addr) (i j : Nat) : (a.add i).add j = a.add (i + j) := by
 unfold Addr.add
 by_cases hi : i = 0 <;> by_cases hj : j = 0 <;> simp [hi, hj, Nat.add_assoc]
theorem below_drewN {B : Nat} {a w : World} (h : Below B a w) (n : Nat) : Below B a (w.drewN n) := ⟨h.os, h.tape, h.output, h.size, h.block⟩
theorem below_of_drewN (B : Nat) (w : World) (n : Nat) : Below B w (w.drewN n) := below_drewN (Below.refl B w) n
theorem below_then {B : Nat} {a b c : World} (h : Below B a b) (k : Below b.heap.size b c) (hB : B ≤ b.heap.size) : Below B a c := h.trans (k.mono hB)
theorem below_step {a b c : World} (h : Below a.heap.size a b) (k : Below b.heap.size b c) : Below a.heap.size a c := h.trans (k.mono h.size)
def Reads (w : World) (B : Nat) (A : Option Addr) (xs : List Value) : Prop :=
 ∀ j u, xs[j]? = some u → ∃ b o, A = some ⟨b, o, none⟩ ∧ b < B ∧ w.cell? ⟨b, o + j, none⟩ = some u
section
variable {w w' : World} {B B' : Nat} {A : Option Addr} {xs : List Value}
theorem Reads.none_ : Reads w B A [] := fun j u h => by simp at h
theorem Reads.cellAt (h : Reads w B A xs) {k : Nat} (hk : k < xs.length) : ∃ b o, A = some ⟨b, o, none⟩ ∧ b < B ∧ w.cell? ⟨b, o + k, none⟩ = some xs[k] :=
 h k _ (List.getElem?_eq_getElem hk)
theorem Reads.intAt {K : IntKind} {ys : List Int} (h : Reads w B A (ys.map (Value.int K))) {k : Nat} (hk : k < ys.length) : ∃ b o, A = some ⟨b, o, none⟩ ∧ b < B ∧ w.cell? ⟨b, o + k, none⟩ = some (.int K ys[k]) :=
 h k (.int K ys[k]) (by simp [hk])
theorem Reads.all (h : Reads w B A xs) (hk : 0 < xs.length) : ∃ b o, A = some ⟨b, o, none⟩ ∧ b < B ∧ ∀ j u, xs[j]? = some u → w.cell? ⟨b, o + j, none⟩ = some u := by
 obtain ⟨b, o, e, hb, _⟩ := h.cellAt hk
 refine ⟨b, o, e, hb, fun j u hu => ?_⟩
 obtain ⟨b', o', e', _, hc⟩ := h j u hu
 rw [e] at e'
 injection e' with e'
 injection e' with e1 e2
 subst e1; subst e2
 exact hc
theorem Reads.keep (h : Reads w B A xs) (hk : ∀ p : Addr, p.block < B → w'.cell? p = w.cell? p) : Reads w' B A xs := fun j u hu => by
 obtain ⟨b, o, e, hb, hc⟩ := h j u hu
 exact ⟨b, o, e, hb, (hk _ hb).trans hc⟩
theorem Reads.more (h : Reads w B A xs) (hB : B ≤ B') : Reads w B' A xs := fun j u hu => by
 obtain ⟨b, o, e, hb, hc⟩ := h j u hu
 exact ⟨b, o, e, by omega, hc⟩
theorem Reads.below {C : Nat} (h : Reads w B A xs) (hb : Below C w w') (hC : B ≤ C) : Reads w' B A xs := h.keep fun _ hp => hb.cell (by omega)
theorem Reads.drewN (h : Reads w B A xs) (k : Nat) : Reads (w.drewN k) B A xs := h
theorem Reads.alloc (h : Reads w B A xs) (hB : B ≤ w.heap.size) (o : Obj) : Reads (w.alloc o) B A xs := h.keep fun p hp => World.cell?_alloc_lt w o p (by omega)
theorem Reads.setCell (h : Reads w B A xs) {p : Addr} (hB : B ≤ p.block) (u : Value) : Reads (w.setCell p u) B A xs :=
 h.keep fun q hq => World.cell?_setCell_other w p q u (fun e => by subst e; omega)
theorem Reads.grown (h : Reads w B A xs) {row : Option Nat} (hg : w.grownBy w' row) (hB : B ≤ w.heap.size) (hr : ∀ g, row = some g → B ≤ g) : Reads w' B A xs :=
 h.keep fun p hp => World.cell?_of_block (hg.block p.block (by omega) (fun e => by have := hr _ e.symm; omega))
theorem add_lit (b o k : Nat) : (⟨b, o, none⟩ : Addr).add k = ⟨b, o + k, none⟩ := by unfold Addr.add; split <;> simp_all
theorem Reads.drop (h : Reads w B A xs) (k : Nat) : Reads w B (A.map (·.add k)) (xs.drop k) := fun j u hu => by
 rw [List.getElem?_drop] at hu
 obtain ⟨b, o, rfl, hb, hc⟩ := h (k + j) u hu
 exact ⟨b, o + k, by rw [Option.map_some, add_lit], hb, by rw [Nat.add_assoc]; exact hc⟩
theorem Reads.take (h : Reads w B A xs) (k : Nat) : Reads w B A (xs.take k) := fun j u hu => by
 rw [List.getElem?_take] at hu
 split at hu
 ·exact h j u hu
 ·cases hu
theorem Reads.of_own {base : Nat} {e : TypeId} {n : Nat} {v : Value} {c : Nat} {A : Option Addr} (h : w.ownsRow base e 1 v n xs) (hv : v = .slice A n c) : Reads w w.heap.size A xs := fun j u hu => by
 have hl : j < xs.length := (List.getElem?_eq_some_iff.1 hu).1
 have h1 := h.1
 rcases h.2 with ⟨hv', hn⟩ | ⟨g, cap, cur, hv', hb, hg, _⟩
 ·omega
 ·rw [hv] at hv'
  injection hv' with hA
  subst hA
  have := h.cells (g := g) (by rw [hv]; rfl) j u hu
  rw [add_lit] at this
  exact ⟨g, 0, rfl, (Array.getElem?_eq_some_iff.1 hg).1, this⟩
end
theorem ownsRow_slice {w : World} {base : Nat} {e : TypeId} {size n : Nat} {v : Value} {xs : List Value} (h : w.ownsRow base e size v n xs) : ∃ A c, v = .slice A n c ∧ n ≤ c ∧ (A = none → c = 0) := by
 rcases h.2 with ⟨rfl, rfl⟩ | ⟨g, cap, cur, rfl, _, _, hnc, _⟩
 ·exact ⟨none, 0, rfl, Nat.le_refl _, fun _ => rfl⟩
 ·exact ⟨_, _, rfl, hnc, fun h => by cases h⟩
theorem ownsRow_below {w w' : World} {base : Nat} {e : TypeId} {size n : Nat} {v : Value} {xs : List Value} (h : w.ownsRow base e size v n xs) (hb : Below w.heap.size w w') : w'.ownsRow base e size v n xs := by
 refine ⟨h.1, ?_⟩
 rcases h.2 with hn | ⟨g, cap, cur, rfl, hbg, hgg, rest⟩
 ·exact .inl hn
 ·exact .inr ⟨g, cap, cur, rfl, hbg, (hb.block g (Array.getElem?_eq_some_iff.1 hgg).1).trans hgg, rest⟩
theorem ownsRow_base {w : World} {base base' : Nat} {e : TypeId} {size n : Nat} {v : Value} {xs : List Value} (h : w.ownsRow base e size v n xs) (hB : base' ≤ base) : w.ownsRow base' e size v n xs := by
 refine ⟨h.1, ?_⟩
 rcases h.2 with hn | ⟨g, cap, cur, rfl, hbg, rest⟩
 ·exact .inl hn
 ·exact .inr ⟨g, cap, cur, rfl, by omega, rest⟩
section
variable {P : Program} (w : World)
theorem run_append_of_nil (base : Nat) (t ty e : TypeId) (i : TypeInfo) (size : Nat) (ht : P.underlying t = some (.slice e)) (hi : P.info? e = some i)
  (v : Value) (n : Nat) (xs : List Value) (hown : w.ownsRow base e size v n xs) (c : Nat) : (Builtin.append_ #[t, t] ty #[v, .slice none 0 c]).run P w = .ok v w := by
 rcases hown.2 with ⟨rfl, rfl⟩ | ⟨g, cap, cur, rfl, _, _, hnc, _⟩
 ·simp [Builtin.append_, run_underlying ht, sizeOf, typeInfo, hi, Builtin.lenOf, Builtin.firstCells]
 ·simp [Builtin.append_, run_underlying ht, sizeOf, typeInfo, hi, Builtin.lenOf, Builtin.firstCells, hnc, storeCells]
theorem run_append_any (base : Nat) (t ty e : TypeId) (i : TypeInfo) (z : Value) (size bytes : Nat) (ht : P.underlying t = some (.slice e)) (hi : P.info? e = some i) (hz : i.zero = some z)
  (hsize : i.size = size) (hby : i.bytes = bytes) (hzs : z.cells.size = size) (hsz : 0 < size)
  (v : Value) (n : Nat) (xs : List Value) (hown : w.ownsRow base e size v n xs)
  (A : Option Addr) (m c : Nat) (news : List Value) (hl : news.length = m * size) (hr : ∀ j u, news[j]? = some u → ∃ ad, A = some ad ∧ w.cell? (ad.add j) = some u) (h1 : ∀ u ∈ news, u.oneCell' = true)
  (h63 : n + m ≤ maxLen) (hbytes : (n + m) * bytes ≤ 140737488355328) (hbase : base ≤ w.heap.size) :
  ∃ v' w', (Builtin.append_ #[t, t] ty #[v, .slice A m c]).run P w = .ok v' w' ∧ w'.ownsRow base e size v' (n + m) (xs ++ news) ∧ w.grownBy w' v.ownBlock ∧
   (v'.ownBlock = v.ownBlock ∨ v'.ownBlock = some w.heap.size) := by
 rcases A with _ | ad
 ·have hn : news = [] := by
   rcases news with _ | ⟨u, r⟩
   ·rfl
   ·obtain ⟨ad, h, _⟩ := hr 0 u rfl
    cases h
  subst hn
  have hm : m = 0 := by
   rcases Nat.eq_zero_or_pos m with h0 | h0
   ·exact h0
   ·have := Nat.mul_pos h0 hsz
    simp at hl
    omega
  subst hm
  exact ⟨v, w, run_append_of_nil w base t ty e i size ht hi v n xs hown c, by simpa using hown, World.grownBy.refl w _, .inl rfl⟩
 ·have hcells : ∀ j u, news[j]? = some u → w.cell? (ad.add j) = some u := by
   intro j u hu
   obtain ⟨ad', h, hc⟩ := hr j u hu
   injection h with h
   subst h
   exact hc
  obtain ⟨v', w', hrun, h2, h3, _, h5⟩ := run_append_own_at (P := P) w base t ty e i z size bytes ht hi hz hsize hby hzs hsz v n xs hown ad m c news hl hcells h1 h63 hbytes hbase
  exact ⟨v', w', hrun, h2, h3, h5⟩
theorem wp_append_any {o : Oper} {a : Act} {K : Act → World → Prop} {Q : Exit → Act → World → Prop} (s x : Operand) (t : TypeId)
  (ho : o.op = .call { callee := .builtin .append, args := #[s, x], argTypes := #[t, t] })
  (base : Nat) (e : TypeId) (i : TypeInfo) (z : Value) (size bytes : Nat) (ht : P.underlying t = some (.slice e)) (hi : P.info? e = some i) (hz : i.zero = some z)
  (hsize : i.size = size) (hby : i.bytes = bytes) (hzs : z.cells.size = size) (hsz : 0 < size)
  (v : Value) (n : Nat) (xs : List Value) (hs : a.eval s = v) (hown : w.ownsRow base e size v n xs)
  (A : Option Addr) (m c : Nat) (news : List Value) (hx : a.eval x = .slice A m c) (hl : news.length = m * size) (hr : ∀ j u, news[j]? = some u → ∃ ad, A = some ad ∧ w.cell? (ad.add j) = some u) (h1 : ∀ u ∈ news, u.oneCell' = true)
  (h63 : n + m ≤ maxLen) (hbytes : (n + m) * bytes ≤ 140737488355328) (hbase : base ≤ w.heap.size)
  (h : ∀ v' w', w'.ownsRow base e size v' (n + m) (xs ++ news) → w.grownBy w' v.ownBlock → (v'.ownBlock = v.ownBlock ∨ v'.ownBlock = some w.heap.size) → K (a.put o.dst v') w') : o.wp P a w K Q := by
 obtain ⟨v', w', hrun, h2, h3, h4⟩ := run_append_any (P := P) w base t o.type e i z size bytes ht hi hz hsize hby hzs hsz v n xs hown A m c news hl hr h1 h63 hbytes hbase
 unfold Oper.wp execOp
 simp only [ho, resolve, invoke, builtin, Sem.run_bind, Sem.run_pure, Result.andThen_ok, List.map_toArray, List.map_cons, List.map_nil, hs, hx, hrun]
 exact h v' w' h2 h3 h4
theorem wpList_append_any {ops : Array Oper} {rest : List Oper} {o : Oper} {a : Act} {Q : Exit → Act → World → Prop} (hgd : o.guard = none) (s x : Operand) (t : TypeId)
  (ho : o.op = .call { callee := .builtin .append, args := #[s, x], argTypes := #[t, t] })
  (base : Nat) (e : TypeId) (i : TypeInfo) (z : Value) (size bytes : Nat) (ht : P.underlying t = some (.slice e)) (hi : P.info? e = some i) (hz : i.zero = some z)
  (hsize : i.size = size) (hby : i.bytes = bytes) (hzs : z.cells.size = size) (hsz : 0 < size)
  (v : Value) (n : Nat) (xs : List Value) (hs : a.eval s = v) (hown : w.ownsRow base e size v n xs)
  (A : Option Addr) (m c : Nat) (news : List Value) (hx : a.eval x = .slice A m c) (hl : news.length = m * size) (hr : ∀ j u, news[j]? = some u → ∃ ad, A = some ad ∧ w.cell? (ad.add j) = some u) (h1 : ∀ u ∈ news, u.oneCell' = true)
  (h63 : n + m ≤ maxLen) (hbytes : (n + m) * bytes ≤ 140737488355328) (hbase : base ≤ w.heap.size)
  (h : ∀ v' w', w'.ownsRow base e size v' (n + m) (xs ++ news) → w.grownBy w' v.ownBlock → (v'.ownBlock = v.ownBlock ∨ v'.ownBlock = some w.heap.size) → wpList P ops Q rest (a.put o.dst v') w') : wpList P ops Q (o :: rest) a w :=
 wpList_plain hgd fun _ hK => wp_append_any w s x t ho base e i z size bytes ht hi hz hsize hby hzs hsz v n xs hs hown A m c news hx hl hr h1 h63 hbytes hbase fun v' w' h2 h3 h4 => hK _ _ (h v' w' h2 h3 h4)
end
def Blk (w : World) (g : Nat) (t : TypeId) (cs : Array Value) : Prop := w.heap[g]? = some (.cells cs t (0, 0))
section
variable {w w' : World} {g : Nat} {t : TypeId} {cs : Array Value}
theorem Blk.lt (h : Blk w g t cs) : g < w.heap.size := by
 rcases Nat.lt_or_ge g w.heap.size with hlt | hge
 ·exact hlt
 ·unfold Blk at h; rw [Array.getElem?_eq_none hge] at h; cases h
theorem Blk.cell (h : Blk w g t cs) (i : Nat) : w.cell? ⟨g, i, none⟩ = cs[i]? := cell_of_row w g i cs t (0, 0) h
theorem Blk.frozen (h : Blk w g t cs) (i : Nat) : w.frozen? ⟨g, i, none⟩ = false := by
 unfold Blk at h
 simp [World.frozen?, h]
theorem Blk.new (w : World) (t : TypeId) (cs : Array Value) : Blk (w.alloc (.cells cs t)) w.heap.size t cs := heap_alloc_new w _
theorem Blk.drew (h : Blk w g t cs) : Blk w.drew g t cs := h
theorem Blk.drewN (h : Blk w g t cs) (n : Nat) : Blk (w.drewN n) g t cs := h
theorem Blk.alloc (h : Blk w g t cs) (o : Obj) : Blk (w.alloc o) g t cs := (Below.heap_alloc w o g h.lt).trans h
theorem Blk.set_ (h : Blk w g t cs) (i : Nat) (u : Value) : Blk (w.setCell ⟨g, i, none⟩ u) g t (cs.setIfInBounds i u) := by
 unfold Blk at h ⊢
 simp [World.setCell, Array.getElem?_modify, h]
theorem Blk.far (h : Blk w g t cs) {p : Addr} (hp : g ≠ p.block) (u : Value) : Blk (w.setCell p u) g t cs := (Below.heap_setCell w p u g hp).trans h
theorem Blk.below {B : Nat} (h : Blk w g t cs) (hb : Below B w w') (hg : g < B) : Blk w' g t cs := (hb.block g hg).trans h
theorem Blk.grown {row : Option Nat} (h : Blk w g t cs) (hb : w.grownBy w' row) (hg : some g ≠ row) : Blk w' g t cs := (hb.block g h.lt hg).trans h
end
end Go.Proofs.Ytbmjiokjigkdnaa
namespace Go.Proofs.Ytbmjiokjigkdnaa
open Go.ChangeShapes Go.WideShapes Go.ChangeAt Go.RowKit
theorem own : ownKnob Try.prog.godebug = none := by kernel_rfl
theorem laidOut : laidOutB Try.prog = true := by kernel_rfl
theorem spot_none {w : World} {a : Addr} {v : Value} (h : w.cell? a = some v) : a.spot = none := by
 unfold World.cell? at h
 split at h
 ·split at h
  ·cases h
  ·rename_i hs
   cases e : a.spot
   ·rfl
   ·rw [e] at hs
    simp at hs
 ·cases h
theorem add_of_spot {a : Addr} (h : a.spot = none) (k : Nat) : a.add k = ⟨a.block, a.off + k, none⟩ := by
 cases a
 simp only at h
 subst h
 exact add_lit _ _ _
section
variable {H : Type} {enc : TypeId × Value → H} {P : Program} {W : World}
theorem trod_lt' {t : TypeId} {v : Value} {d : DataW H} {p : List MemPlace} (h : DataW.Trod enc P W 0 (fun _ => true) true t v d p) : ∀ x ∈ p, x.block < W.heap.size := by
 obtain ⟨m, hm⟩ := h
 exact DataW.trod_lt m _ _ _ hm
end
theorem wf_u64 {x : Int} (h : (Lit.int .u64 x).wf = true) : 0 ≤ x ∧ x ≤ 18446744073709551615 := by simpa [Lit.wf, IntKind.min, IntKind.max, IntKind.signed, IntKind.bits] using h
theorem wf_u8 {x : Int} (h : (Lit.int .u8 x).wf = true) : 0 ≤ x ∧ x ≤ 255 := by simpa [Lit.wf, IntKind.min, IntKind.max, IntKind.signed, IntKind.bits] using h
end Go.Proofs.Ytbmjiokjigkdnaa
namespace Go.Proofs.Ytbmjiokjigkdnaa
open Go.ChangeShapes Go.WideShapes Go.ChangeAt Go.RowKit Go.Deep
theorem list_of {α : Type} {n : Nat} (Q : Nat → α → Prop) (h : ∀ i, i < n → ∃ x, Q i x) : ∃ xs : List α, xs.length = n ∧ ∀ i x, xs[i]? = some x → Q i x := by
 induction n with
 | zero => exact ⟨[], rfl, fun i x hx => by simp at hx⟩
 | succ n ih =>
  obtain ⟨xs, hl, hx⟩ := ih (fun i hi => h i (by omega))
  obtain ⟨z, hz⟩ := h n (by omega)
  refine ⟨xs ++ [z], by simp [hl], fun i x hi => ?_⟩
  by_cases e : i < n
  ·rw [List.getElem?_append_left (by omega)] at hi
   exact hx i x hi
  ·have : i = n := by
    have := (List.getElem?_eq_some_iff.1 hi).1
    simp [hl] at this
    omega
   subst this
   rw [List.getElem?_append_right (by omega), hl, Nat.sub_self] at hi
   injection hi with hi
   subst hi
   exact hz
section
variable {H : Type} {enc : TypeId × Value → H} {P : Program} {W : World}
theorem weights_all {e : TypeId} {ds : List (DataW H)} {d : DataW H} (h : d ∈ ds) : ∀ n ∈ d.weights P e, n ∈ DataW.weightsAll P e ds := by
 induction ds with
 | nil => cases h
 | cons x r ih =>
  intro n hn
  simp only [DataW.weightsAll, List.mem_append]
  rcases List.mem_cons.1 h with rfl | h
  ·exact .inl hn
  ·exact .inr (ih h n hn)
def Opens (enc : TypeId × Value → H) (P : Program) (W : World) (t : TypeId) (cs : List Value) (y : DataW H × List MemPlace) : Prop :=
 (∃ fuel, DataW.trod enc P W 0 (fun _ => true) true fuel t cs = some y) ∧ ∀ n ∈ y.1.weights P t, n ≤ reachBytes
theorem opens_top {ts : List TypeId} {ds : List (DataW H)} {j : Nat} {t : TypeId} {v : Value} {d : DataW H} {p : List MemPlace} (hsz : (DataW.weightsEach P ts ds).all (· ≤ reachBytes) = true) (ht : ts[j]? = some t) (hd : ds[j]? = some d)
  (h : DataW.Trod enc P W 0 (fun _ => true) true t v d p) : Opens enc P W t v.cells.toList (d, p) := by
 refine ⟨h, fun n hn => ?_⟩
 have := List.all_eq_true.1 hsz _ (DataW.weights_mem_each ht hd n hn)
 simpa using this
theorem Opens.int {t : TypeId} {k : IntKind} {cs : List Value} {y : DataW H × List MemPlace} (ht : P.underlying t = some (.int k)) (h : Opens enc P W t cs y) : ∃ n, cs = [.int k n] ∧ (Lit.int k n).wf = true := by
 obtain ⟨⟨fuel, hf⟩, _⟩ := h
 obtain ⟨n, e, _, hw⟩ := DataW.trod_int ht hf
 exact ⟨n, e, hw⟩
theorem Opens.elems {t e : TypeId} {C : Nat} {cs : List Value} {y : DataW H × List MemPlace} (ht : P.underlying t = some (.slice e)) (hC : P.cellsOf e = C) (hC0 : 0 < C) (h : Opens enc P W t cs y) :
  ∃ (A : Option Addr) (n c : Nat), cs = [.slice A n c] ∧ n ≤ c ∧ c ≤ maxLen ∧ (A = none → n = 0 ∧ c = 0) ∧ n * P.bytesOf e ≤ reachBytes ∧
   ∀ i, i < n → ∃ (b o : Nat) (cs' : List Value) (y' : DataW H × List MemPlace), A = some ⟨b, o, none⟩ ∧ b < W.heap.size ∧ cs'.length = C ∧ (∀ j u, cs'[j]? = some u → W.cell? ⟨b, o + i * C + j, none⟩ = some u) ∧ Opens enc P W e cs' y' := by
 obtain ⟨⟨fuel, hf⟩, hw⟩ := h
 have hlt := DataW.trod_lt fuel _ _ _ hf
 subst hC
 rcases open_slice ht hf with ⟨rfl, rfl⟩ | ⟨a, len, cap, m, n, D, Pl, rfl, _, hl, hm, hmm, hx, hi⟩
 ·exact ⟨none, 0, 0, rfl, Nat.le_refl _, Nat.zero_le _, fun _ => ⟨rfl, rfl⟩, by simp, fun i hi => by omega⟩
 ·simp only [if_true] at hmm
  subst hmm
  have hy1 : y.1 = .slice ((List.range len).map D) ((List.range (m - len)).map fun j => D (len + j)) := by rw [hx]
  rw [hy1] at hw
  simp only [DataW.weights, ht] at hw
  have hsz := hw _ (List.mem_cons_self ..)
  simp only [List.length_map, List.length_range] at hsz
  refine ⟨some a, len, m, rfl, hl, hm, (fun h => by cases h), ?_, fun i hil => ?_⟩
  ·exact Nat.le_trans (Nat.mul_le_mul_right _ (by omega)) hsz
  ·obtain ⟨cs0, hc0, _⟩ := hi 0 (by omega)
   obtain ⟨_, hl0, hat0⟩ := World.cells?_some hc0
   have h00 := hat0 0 hC0
   rw [List.getElem?_eq_getElem (by omega)] at h00
   have hs : a.spot = none := by simpa [Addr.add] using spot_none h00
   obtain ⟨cs', hc', ht'⟩ := hi i (by omega)
   obtain ⟨_, hl', hat'⟩ := World.cells?_some hc'
   refine ⟨a.block, a.off, cs', (D i, Pl i), ?_, ?_, hl', fun j u hu => ?_, ⟨n, ht'⟩, fun k hk => ?_⟩
   ·cases a
    simp only at hs
    subst hs
    rfl
   ·have hb := World.block_lt_of_cell? W _ h00
    simpa [Addr.add] using hb
   ·have hj : j < P.cellsOf e := by
     have := (List.getElem?_eq_some_iff.1 hu).1
     omega
    have h1 := hat' j hj
    rw [hu, add_of_add, add_of_spot hs, ← Nat.add_assoc] at h1
    exact h1
   ·exact hw k (List.mem_cons_of_mem _ (List.mem_append.2 (.inl (weights_all (List.mem_map.2 ⟨i, List.mem_range.2 hil, rfl⟩) k hk))))
theorem Opens.fields {t : TypeId} {fs : Array Field} {cs : List Value} {y : DataW H × List MemPlace} (ht : P.underlying t = some (.struct fs)) (h : Opens enc P W t cs y) :
  cs.length = P.cellsOf t ∧ ∀ (i : Nat) (f : Field), fs[i]? = some f → ∃ y', Opens enc P W f.type ((cs.drop f.offset).take (P.cellsOf f.type)) y' := by
 obtain ⟨⟨fuel, hf⟩, hw⟩ := h
 obtain ⟨xs, n, _, hx, hlen, hsz, hg⟩ := DataW.trod_struct ht hf
 refine ⟨hlen, fun i f hi => ?_⟩
 have hlt : i < fs.size := (Array.getElem?_eq_some_iff.1 hi).1
 have h1 := hg i f hi
 have hxi : xs[i]? = some (xs[i]'(by omega)) := List.getElem?_eq_getElem (by omega)
 rw [hxi] at h1
 refine ⟨_, ⟨n, h1⟩, fun k hk => hw k ?_⟩
 rw [hx]
 simp only [DataW.weights, ht]
 refine DataW.weights_mem_each (j := i) (t := f.type) (d := (xs[i]'(by omega)).1) ?_ ?_ k hk
 ·rw [List.getElem?_map, Array.getElem?_toList, hi]; rfl
 ·rw [List.getElem?_map, hxi]; rfl
theorem Opens.cell {t : TypeId} {fs : Array Field} {cs : List Value} {y : DataW H × List MemPlace} (ht : P.underlying t = some (.struct fs)) (hone : oneCellFields P fs = true) (h : Opens enc P W t cs y) {i : Nat} {ti : TypeId} {c : Value}
  (hi : (fs[i]?).map (·.type) = some ti) (hc : cs[i]? = some c) : ∃ y', Opens enc P W ti [c] y' := by
 obtain ⟨f, hf, rfl⟩ := Option.map_eq_some_iff.1 hi
 obtain ⟨ho, hk⟩ := hone_of hone i f hf
 obtain ⟨y', h'⟩ := (h.fields ht).2 i f hf
 rw [ho, hk] at h'
 have hlt : i < cs.length := (List.getElem?_eq_some_iff.1 hc).1
 have e : (cs.drop i).take 1 = [c] := by
  rw [List.drop_eq_getElem_cons hlt]
  rw [List.getElem?_eq_getElem hlt] at hc
  injection hc with hc
  rw [hc]
  rfl
 rw [e] at h'
 exact ⟨y', h'⟩
theorem Opens.ints {t e : TypeId} {k : IntKind} {cs : List Value} {y : DataW H × List MemPlace} (ht : P.underlying t = some (.slice e)) (he : P.underlying e = some (.int k)) (hc : P.cellsOf e = 1) (h : Opens enc P W t cs y) :
  ∃ (A : Option Addr) (n c : Nat) (xs : List Int), cs = [.slice A n c] ∧ n = xs.length ∧ n ≤ c ∧ c ≤ maxLen ∧ (A = none → n = 0 ∧ c = 0) ∧ Reads W W.heap.size A (xs.map (Value.int k)) ∧ (∀ x ∈ xs, (Lit.int k x).wf = true) ∧ n * P.bytesOf e ≤ reachBytes := by
 obtain ⟨A, n, c, hcs, hnc, hcm, hA, hb, hel⟩ := h.elems ht hc (by decide)
 have hall : ∀ i, i < n → ∃ z, (Lit.int k z).wf = true ∧ ∃ b o, A = some ⟨b, o, none⟩ ∧ b < W.heap.size ∧ W.cell? ⟨b, o + i, none⟩ = some (.int k z) := by
  intro i hi
  obtain ⟨b, o, cs', y', hA', hb', hl', hat, ho⟩ := hel i hi
  obtain ⟨z, rfl, hz⟩ := ho.int he
  refine ⟨z, hz, b, o, hA', hb', ?_⟩
  have := hat 0 _ rfl
  rwa [Nat.mul_one, Nat.add_zero] at this
 obtain ⟨xs, hl, hx⟩ := list_of _ hall
 refine ⟨A, n, c, xs, hcs, hl.symm, hnc, hcm, hA, fun j u hu => ?_, fun x hxm => ?_, hb⟩
 ·rw [List.getElem?_map] at hu
  obtain ⟨z, hz, rfl⟩ := Option.map_eq_some_iff.1 hu
  exact (hx j z hz).2
 ·obtain ⟨i, hi⟩ := List.getElem?_of_mem hxm
  exact (hx i x hi).1
end
end Go.Proofs.Ytbmjiokjigkdnaa
namespace Go.Proofs.Ytbmjiokjigkdnaa
open Go.RowKit
inductive T where
 | node (k : Int) (ws : List Int) (ks : List T)
def T.kind : T → Int | .node k _ _ => k
def T.ws : T → List Int | .node _ ws _ => ws
def T.ks : T → List T | .node _ _ ks => ks
def nilT : T := .node 0 [] []
def trimW : List Int → List Int
 | [] => []
 | x :: r => match trimW r with
  | [] => if x = 0 then [] else [x]
  | y :: q => x :: y :: q
def trimK : List T → List T
 | [] => []
 | x :: r => match trimK r with
  | [] => if x.kind = 0 then [] else [x]
  | y :: q => x :: y :: q
mutual
def norm : T → T
 | .node k ws ks => if k = 0 then nilT else if k = 1 then .node 1 (trimW ws) (trimK (normL ks)) else .node k ws (normL ks)
def normL : List T → List T
 | [] => []
 | t :: r => norm t :: normL r
end
theorem normL_len (l : List T) : (normL l).length = l.length := by
 induction l with
 | nil => rfl
 | cons t r ih => rw [normL, List.length_cons, ih, List.length_cons]
theorem trimW_snoc (l : List Int) (x : Int) : trimW (l ++ [x]) = if x = 0 then trimW l else l ++ [x] := by
 induction l with
 | nil => simp [trimW]
 | cons y r ih =>
  rw [List.cons_append, trimW, ih]
  by_cases h : x = 0
  ·rw [if_pos h, if_pos h, trimW]
  ·rw [if_neg h, if_neg h]
   cases r with
   | nil => rfl
   | cons z q => rfl
theorem trimK_snoc (l : List T) (x : T) : trimK (l ++ [x]) = if x.kind = 0 then trimK l else l ++ [x] := by
 induction l with
 | nil => simp [trimK]
 | cons y r ih =>
  rw [List.cons_append, trimK, ih]
  by_cases h : x.kind = 0
  ·rw [if_pos h, if_pos h, trimK]
  ·rw [if_neg h, if_neg h]
   cases r with
   | nil => rfl
   | cons z q => rfl
structure Tv where
 k : Int
 A : Option Addr
 n : Nat
 c : Nat
 K : Option Addr
 m : Nat
 d : Nat
def Tv.cells (v : Tv) : List Value := [.int .i64 v.k, .slice v.A v.n v.c, .slice v.K v.m v.d]
def Tv.val (v : Tv) : Value := .agg #[.int .i64 v.k, .slice v.A v.n v.c, .slice v.K v.m v.d]
def kidCells (l : List Tv) : List Value := l.flatMap Tv.cells
theorem kidCells_app (l k : List Tv) : kidCells (l ++ k) = kidCells l ++ kidCells k := by
 unfold kidCells
 rw [List.flatMap_append]
theorem kidCells_one (v : Tv) : kidCells [v] = v.cells := by simp [kidCells]
theorem kidCells_len (l : List Tv) : (kidCells l).length = l.length * 3 := by
 unfold kidCells
 induction l with
 | nil => rfl
 | cons s r ih => rw [List.flatMap_cons, List.length_append, ih, List.length_cons]; simp [Tv.cells]; omega
theorem kidCells_at (l : List Tv) (k : Nat) (h : k < l.length) : (kidCells l)[k * 3]? = some (.int .i64 l[k].k) ∧ (kidCells l)[k * 3 + 1]? = some (.slice l[k].A l[k].n l[k].c) ∧ (kidCells l)[k * 3 + 2]? = some (.slice l[k].K l[k].m l[k].d) := by
 induction l generalizing k with
 | nil => simp at h
 | cons s r ih =>
  have e : kidCells (s :: r) = s.cells ++ kidCells r := rfl
  cases k with
  | zero => rw [e]; exact ⟨rfl, rfl, rfl⟩
  | succ k =>
   have hl : s.cells.length = 3 := rfl
   rw [e, List.getElem?_append_right (by omega), List.getElem?_append_right (by omega), List.getElem?_append_right (by omega), hl]
   have := ih k (by simpa using h)
   simpa [show (k + 1) * 3 - 3 = k * 3 from by omega, show (k + 1) * 3 + 1 - 3 = k * 3 + 1 from by omega, show (k + 1) * 3 + 2 - 3 = k * 3 + 2 from by omega] using this
theorem kidCells_one1 (l : List Tv) : ∀ u ∈ kidCells l, u.oneCell' = true := by
 intro u hu
 unfold kidCells at hu
 obtain ⟨s, _, h⟩ := List.mem_flatMap.1 hu
 unfold Tv.cells at h
 simp only [List.mem_cons, List.not_mem_nil, or_false] at h
 rcases h with h | h | h <;> subst h <;> rfl
def u64L (l : List Int) : Prop := ∀ x ∈ l, 0 ≤ x ∧ x ≤ 18446744073709551615
def RdS (w : World) (S : Nat → Prop) (A : Option Addr) (xs : List Value) : Prop := ∀ j u, xs[j]? = some u → ∃ b o, A = some ⟨b, o, none⟩ ∧ S b ∧ w.cell? ⟨b, o + j, none⟩ = some u
section
variable {w w' : World} {S S' : Nat → Prop} {A : Option Addr} {xs : List Value}
theorem RdS.keep (h : RdS w S A xs) (hk : ∀ p : Addr, S p.block → w'.cell? p = w.cell? p) : RdS w' S A xs := fun j u hu => by
 obtain ⟨b, o, e, hb, hc⟩ := h j u hu
 exact ⟨b, o, e, hb, (hk _ hb).trans hc⟩
theorem RdS.mono (h : RdS w S A xs) (hS : ∀ b, S b → S' b) : RdS w S' A xs := fun j u hu => by
 obtain ⟨b, o, e, hb, hc⟩ := h j u hu
 exact ⟨b, o, e, hS b hb, hc⟩
theorem RdS.reads {B : Nat} (h : RdS w S A xs) (hS : ∀ b, S b → b < B) : Reads w B A xs := fun j u hu => by
 obtain ⟨b, o, e, hb, hc⟩ := h j u hu
 exact ⟨b, o, e, hS b hb, hc⟩
theorem RdS.all (h : RdS w S A xs) (hk : 0 < xs.length) : ∃ b o, A = some ⟨b, o, none⟩ ∧ S b ∧ ∀ j u, xs[j]? = some u → w.cell? ⟨b, o + j, none⟩ = some u := by
 obtain ⟨b, o, e, hb, _⟩ := h 0 xs[0] (List.getElem?_eq_getElem hk)
 refine ⟨b, o, e, hb, fun j u hu => ?_⟩
 obtain ⟨b', o', e', _, hc⟩ := h j u hu
 rw [e] at e'
 injection e' with e'
 injection e' with e1 e2
 subst e1 e2
 exact hc
theorem RdS.take (h : RdS w S A xs) (k : Nat) : RdS w S A (xs.take k) := fun j u hu => by
 rw [List.getElem?_take] at hu
 split at hu
 ·exact h j u hu
 ·cases hu
theorem RdS.none_ : RdS w S A [] := fun j u h => by simp at h
end
inductive TreeAt (w : World) (S : Nat → Prop) : T → Tv → Prop
 | mk (ws : List Int) (ks : List T) (v : Tv) (kv : List Tv) : v.n = ws.length → v.n ≤ v.c → v.c ≤ maxLen → ws.length ≤ 17592186043904 → (v.A = none → v.c = 0) → RdS w S v.A (ws.map (Value.int .u64)) → u64L ws →
   v.m = ks.length → v.m ≤ v.d → v.d ≤ maxLen → ks.length ≤ 2513169434843 → kv.length = ks.length → RdS w S v.K (kidCells kv) →
   (∀ i (h : i < ks.length) (h' : i < kv.length), TreeAt w S ks[i] kv[i]) → TreeAt w S (.node v.k ws ks) v
theorem TreeAt.keep {w w' : World} {S : Nat → Prop} {t : T} {v : Tv} (h : TreeAt w S t v) (hk : ∀ p : Addr, S p.block → w'.cell? p = w.cell? p) : TreeAt w' S t v := by
 induction h with
 | mk ws ks v kv h1 h2 h3 h4 h5 h6 h7 h8 h9 h10 h11 h12 h13 _ ih => exact .mk ws ks v kv h1 h2 h3 h4 h5 (h6.keep hk) h7 h8 h9 h10 h11 h12 (h13.keep hk) ih
theorem TreeAt.mono {w : World} {S S' : Nat → Prop} {t : T} {v : Tv} (h : TreeAt w S t v) (hS : ∀ b, S b → S' b) : TreeAt w S' t v := by
 induction h with
 | mk ws ks v kv h1 h2 h3 h4 h5 h6 h7 h8 h9 h10 h11 h12 h13 _ ih => exact .mk ws ks v kv h1 h2 h3 h4 h5 (h6.mono hS) h7 h8 h9 h10 h11 h12 (h13.mono hS) ih
theorem TreeAt.bel {w w' : World} {S : Nat → Prop} {C : Nat} {t : T} {v : Tv} (h : TreeAt w S t v) (hb : Below C w w') (hC : ∀ b, S b → b < C) : TreeAt w' S t v := h.keep fun _ hp => hb.cell (hC _ hp)
theorem TreeAt.kind {w : World} {S : Nat → Prop} {t : T} {v : Tv} (h : TreeAt w S t v) : t.kind = v.k := by cases h; rfl
theorem TreeAt.nil {w : World} {S : Nat → Prop} : TreeAt w S nilT ⟨0, none, 0, 0, none, 0, 0⟩ :=
 .mk [] [] ⟨0, none, 0, 0, none, 0, 0⟩ [] rfl (Nat.le_refl _) (by decide) (by decide) (fun _ => rfl) RdS.none_ (fun x hx => by simp at hx) rfl (Nat.le_refl _) (by decide) (by decide) rfl (by intro j u hu; simp [kidCells] at hu) (fun i h => by simp at h)
structure WordsAt (w : World) (S : Nat → Prop) (A : Option Addr) (n c : Nat) (ws : List Int) : Prop where
 len : n = ws.length
 cap : n ≤ c
 capM : c ≤ maxLen
 few : ws.length ≤ 17592186043904
 nil : A = none → c = 0
 read : RdS w S A (ws.map (Value.int .u64))
 u64 : u64L ws
structure KidsAt (w : World) (S : Nat → Prop) (K : Option Addr) (m d : Nat) (ks : List T) (kv : List Tv) : Prop where
 len : m = ks.length
 cap : m ≤ d
 capM : d ≤ maxLen
 few : ks.length ≤ 2513169434843
 kvl : kv.length = ks.length
 read : RdS w S K (kidCells kv)
 kid : ∀ i (h : i < ks.length) (h' : i < kv.length), TreeAt w S ks[i] kv[i]
theorem WordsAt.keep {w w' : World} {S : Nat → Prop} {A : Option Addr} {n c : Nat} {ws : List Int} (h : WordsAt w S A n c ws) (hk : ∀ p : Addr, S p.block → w'.cell? p = w.cell? p) : WordsAt w' S A n c ws := ⟨h.1, h.2, h.3, h.4, h.5, h.6.keep hk, h.7⟩
theorem WordsAt.mono {w : World} {S S' : Nat → Prop} {A : Option Addr} {n c : Nat} {ws : List Int} (h : WordsAt w S A n c ws) (hS : ∀ b, S b → S' b) : WordsAt w S' A n c ws := ⟨h.1, h.2, h.3, h.4, h.5, h.6.mono hS, h.7⟩
theorem KidsAt.keep {w w' : World} {S : Nat → Prop} {K : Option Addr} {m d : Nat} {ks : List T} {kv : List Tv} (h : KidsAt w S K m d ks kv) (hk : ∀ p : Addr, S p.block → w'.cell? p = w.cell? p) : KidsAt w' S K m d ks kv := ⟨h.1, h.2, h.3, h.4, h.5, h.6.keep hk, fun i a b => (h.7 i a b).keep hk⟩
theorem KidsAt.mono {w : World} {S S' : Nat → Prop} {K : Option Addr} {m d : Nat} {ks : List T} {kv : List Tv} (h : KidsAt w S K m d ks kv) (hS : ∀ b, S b → S' b) : KidsAt w S' K m d ks kv := ⟨h.1, h.2, h.3, h.4, h.5, h.6.mono hS, fun i a b => (h.7 i a b).mono hS⟩
theorem TreeAt.words {w : World} {S : Nat → Prop} {k : Int} {ws : List Int} {ks : List T} {v : Tv} (h : TreeAt w S (.node k ws ks) v) : WordsAt w S v.A v.n v.c ws := by
 cases h with
 | mk _ _ _ kv h1 h2 h3 h4 h5 h6 h7 h8 h9 h10 h11 h12 h13 h14 => exact ⟨h1, h2, h3, h4, h5, h6, h7⟩
theorem TreeAt.kids {w : World} {S : Nat → Prop} {k : Int} {ws : List Int} {ks : List T} {v : Tv} (h : TreeAt w S (.node k ws ks) v) : ∃ kv, KidsAt w S v.K v.m v.d ks kv := by
 cases h with
 | mk _ _ _ kv h1 h2 h3 h4 h5 h6 h7 h8 h9 h10 h11 h12 h13 h14 => exact ⟨kv, h8, h9, h10, h11, h12, h13, h14⟩
theorem TreeAt.of {w : World} {S : Nat → Prop} {k : Int} {ws : List Int} {ks : List T} {kv : List Tv} {A K : Option Addr} {n c m d : Nat} (hw : WordsAt w S A n c ws) (hk : KidsAt w S K m d ks kv) : TreeAt w S (.node k ws ks) ⟨k, A, n, c, K, m, d⟩ :=
 .mk ws ks ⟨k, A, n, c, K, m, d⟩ kv hw.len hw.cap hw.capM hw.few hw.nil hw.read hw.u64 hk.len hk.cap hk.capM hk.few hk.kvl hk.read hk.kid
theorem WordsAt.none_ {w : World} {S : Nat → Prop} : WordsAt w S none 0 0 [] := ⟨rfl, Nat.le_refl _, by decide, by decide, fun _ => rfl, RdS.none_, fun x hx => by simp at hx⟩
theorem KidsAt.none_ {w : World} {S : Nat → Prop} : KidsAt w S none 0 0 [] [] := ⟨rfl, Nat.le_refl _, by decide, by decide, rfl, fun j u hu => by simp [kidCells] at hu, fun i h => by simp at h⟩
theorem KidsAt.at {w : World} {S : Nat → Prop} {K : Option Addr} {m d : Nat} {ks : List T} {kv : List Tv} (h : KidsAt w S K m d ks kv) {i : Nat} (hi : i < ks.length) :
  ∃ b o v, K = some ⟨b, o, none⟩ ∧ S b ∧ w.cell? ⟨b, o + i * 3, none⟩ = some (.int .i64 v.k) ∧ w.cell? ⟨b, o + i * 3 + 1, none⟩ = some (.slice v.A v.n v.c) ∧ w.cell? ⟨b, o + i * 3 + 2, none⟩ = some (.slice v.K v.m v.d) ∧ TreeAt w S ks[i] v := by
 have hi' : i < kv.length := by rw [h.kvl]; exact hi
 obtain ⟨e0, e1, e2⟩ := kidCells_at kv i hi'
 obtain ⟨b, o, e, hb, hc⟩ := h.read.all (by rw [kidCells_len]; omega)
 exact ⟨b, o, kv[i], e, hb, by rw [← hc _ _ e0], by rw [Nat.add_assoc]; exact hc _ _ e1, by rw [Nat.add_assoc]; exact hc _ _ e2, h.kid i hi hi'⟩
theorem WordsAt.at {w : World} {S : Nat → Prop} {A : Option Addr} {n c : Nat} {ws : List Int} (h : WordsAt w S A n c ws) {i : Nat} (hi : i < ws.length) :
  ∃ b o, A = some ⟨b, o, none⟩ ∧ S b ∧ w.cell? ⟨b, o + i, none⟩ = some (.int .u64 ws[i]) := by
 obtain ⟨b, o, e, hb, hc⟩ := h.read.all (by rw [List.length_map]; omega)
 exact ⟨b, o, e, hb, hc i _ (by rw [List.getElem?_map, List.getElem?_eq_getElem hi]; rfl)⟩
theorem T.size_kid {k : Int} {ws : List Int} {ks : List T} {i : Nat} (h : i < ks.length) : SizeOf.sizeOf ks[i] < SizeOf.sizeOf (T.node k ws ks) := by
 have := List.sizeOf_lt_of_mem (List.getElem_mem h)
 rw [T.node.sizeOf_spec]
 omega
end Go.Proofs.Ytbmjiokjigkdnaa
namespace Go.Proofs.Ytbmjiokjigkdnaa
open Go.ChangeShapes Go.WideShapes Go.ChangeAt Go.RowKit Go.Deep
section
variable {H : Type} {enc : TypeId × Value → H} {P : Program} {W : World}
theorem Opens.elemsZ {t e : TypeId} {C : Nat} {cs : List Value} {y : DataW H × List MemPlace} (ht : P.underlying t = some (.slice e)) (hC : P.cellsOf e = C) (hC0 : 0 < C) (h : Opens enc P W t cs y) :
  ∃ (A : Option Addr) (n c : Nat), cs = [.slice A n c] ∧ n ≤ c ∧ c ≤ maxLen ∧ (A = none → n = 0 ∧ c = 0) ∧ n * P.bytesOf e ≤ reachBytes ∧
   ∀ i, i < n → ∃ (b o : Nat) (cs' : List Value) (y' : DataW H × List MemPlace), A = some ⟨b, o, none⟩ ∧ b < W.heap.size ∧ cs'.length = C ∧ (∀ j u, cs'[j]? = some u → W.cell? ⟨b, o + i * C + j, none⟩ = some u) ∧ Opens enc P W e cs' y' ∧ SizeOf.sizeOf y'.1 < SizeOf.sizeOf y.1 := by
 obtain ⟨⟨fuel, hf⟩, hw⟩ := h
 have hlt := DataW.trod_lt fuel _ _ _ hf
 subst hC
 rcases open_slice ht hf with ⟨rfl, rfl⟩ | ⟨a, len, cap, m, n, D, Pl, rfl, _, hl, hm, hmm, hx, hi⟩
 ·exact ⟨none, 0, 0, rfl, Nat.le_refl _, Nat.zero_le _, fun _ => ⟨rfl, rfl⟩, by simp, fun i hi => by omega⟩
 ·simp only [if_true] at hmm
  subst hmm
  have hy1 : y.1 = .slice ((List.range len).map D) ((List.range (m - len)).map fun j => D (len + j)) := by rw [hx]
  rw [hy1] at hw
  simp only [DataW.weights, ht] at hw
  have hsz := hw _ (List.mem_cons_self ..)
  simp only [List.length_map, List.length_range] at hsz
  refine ⟨some a, len, m, rfl, hl, hm, (fun h => by cases h), ?_, fun i hil => ?_⟩
  ·exact Nat.le_trans (Nat.mul_le_mul_right _ (by omega)) hsz
  ·obtain ⟨cs0, hc0, _⟩ := hi 0 (by omega)
   obtain ⟨_, hl0, hat0⟩ := World.cells?_some hc0
   have h00 := hat0 0 hC0
   rw [List.getElem?_eq_getElem (by omega)] at h00
   have hs : a.spot = none := by simpa [Addr.add] using spot_none h00
   obtain ⟨cs', hc', ht'⟩ := hi i (by omega)
   obtain ⟨_, hl', hat'⟩ := World.cells?_some hc'
   refine ⟨a.block, a.off, cs', (D i, Pl i), ?_, ?_, hl', fun j u hu => ?_, ⟨⟨n, ht'⟩, fun k hk => ?_⟩, ?_⟩
   ·cases a
    simp only at hs
    subst hs
    rfl
   ·have hb := World.block_lt_of_cell? W _ h00
    simpa [Addr.add] using hb
   ·have hj : j < P.cellsOf e := by
     have := (List.getElem?_eq_some_iff.1 hu).1
     omega
    have h1 := hat' j hj
    rw [hu, add_of_add, add_of_spot hs, ← Nat.add_assoc] at h1
    exact h1
   ·exact hw k (List.mem_cons_of_mem _ (List.mem_append.2 (.inl (weights_all (List.mem_map.2 ⟨i, List.mem_range.2 hil, rfl⟩) k hk))))
   ·rw [hy1, DataW.slice.sizeOf_spec]
    have := List.sizeOf_lt_of_mem (List.mem_map.2 ⟨i, List.mem_range.2 hil, rfl⟩ : D i ∈ (List.range len).map D)
    show SizeOf.sizeOf (D i) < _
    omega
theorem Opens.fieldsZ {t : TypeId} {fs : Array Field} {cs : List Value} {y : DataW H × List MemPlace} (ht : P.underlying t = some (.struct fs)) (h : Opens enc P W t cs y) :
  cs.length = P.cellsOf t ∧ ∀ (i : Nat) (f : Field), fs[i]? = some f → ∃ y', Opens enc P W f.type ((cs.drop f.offset).take (P.cellsOf f.type)) y' ∧ SizeOf.sizeOf y'.1 < SizeOf.sizeOf y.1 := by
 obtain ⟨⟨fuel, hf⟩, hw⟩ := h
 obtain ⟨xs, n, _, hx, hlen, hsz, hg⟩ := DataW.trod_struct ht hf
 refine ⟨hlen, fun i f hi => ?_⟩
 have hlt : i < fs.size := (Array.getElem?_eq_some_iff.1 hi).1
 have h1 := hg i f hi
 have hxi : xs[i]? = some (xs[i]'(by omega)) := List.getElem?_eq_getElem (by omega)
 rw [hxi] at h1
 refine ⟨_, ⟨⟨n, h1⟩, fun k hk => hw k ?_⟩, ?_⟩
 ·rw [hx]
  simp only [DataW.weights, ht]
  refine DataW.weights_mem_each (j := i) (t := f.type) (d := (xs[i]'(by omega)).1) ?_ ?_ k hk
  ·rw [List.getElem?_map, Array.getElem?_toList, hi]; rfl
  ·rw [List.getElem?_map, hxi]; rfl
 ·rw [hx]
  have := List.sizeOf_lt_of_mem (List.mem_map.2 ⟨xs[i]'(by omega), List.getElem_mem _, rfl⟩ : (xs[i]'(by omega)).1 ∈ xs.map (·.1))
  simp only [DataW.agg.sizeOf_spec]
  omega
theorem Opens.cellZ {t : TypeId} {fs : Array Field} {cs : List Value} {y : DataW H × List MemPlace} (ht : P.underlying t = some (.struct fs)) (hone : oneCellFields P fs = true) (h : Opens enc P W t cs y) {i : Nat} {ti : TypeId} {c : Value}
  (hi : (fs[i]?).map (·.type) = some ti) (hc : cs[i]? = some c) : ∃ y', Opens enc P W ti [c] y' ∧ SizeOf.sizeOf y'.1 < SizeOf.sizeOf y.1 := by
 obtain ⟨f, hf, rfl⟩ := Option.map_eq_some_iff.1 hi
 obtain ⟨ho, hk⟩ := hone_of hone i f hf
 obtain ⟨y', h', hz⟩ := (h.fieldsZ ht).2 i f hf
 rw [ho, hk] at h'
 have hlt : i < cs.length := (List.getElem?_eq_some_iff.1 hc).1
 have e : (cs.drop i).take 1 = [c] := by
  rw [List.drop_eq_getElem_cons hlt]
  rw [List.getElem?_eq_getElem hlt] at hc
  injection hc with hc
  rw [hc]
  rfl
 rw [e] at h'
 exact ⟨y', h', hz⟩
end
section
variable {H : Type} {enc : TypeId × Value → H} {W : World}
theorem kidCells_get (l : List Tv) (j : Nat) (h : j < l.length * 3) : ∃ (hq : j / 3 < l.length), (kidCells l)[j]? = (l[j / 3]).cells[j % 3]? := by
 have hq : j / 3 < l.length := by omega
 refine ⟨hq, ?_⟩
 have hr : j % 3 < 3 := by omega
 have hj : j = j / 3 * 3 + j % 3 := by omega
 generalize j / 3 = q at *
 generalize j % 3 = r at *
 subst hj
 obtain ⟨e0, e1, e2⟩ := kidCells_at l q hq
 rcases (show r = 0 ∨ r = 1 ∨ r = 2 by omega) with h0 | h0 | h0
 ·subst h0; exact e0
 ·subst h0; exact e1
 ·subst h0; exact e2
set_option maxRecDepth 100000 in
theorem open_tree (N : Nat) : ∀ (cs : List Value) (y : DataW H × List MemPlace), SizeOf.sizeOf y.1 ≤ N → Opens enc Try.prog W 25 cs y → ∃ (t : T) (v : Tv), cs = v.cells ∧ TreeAt W (fun b => b < W.heap.size) t v := by
 induction N with
 | zero => 
  intro cs y hN h
  have := (h.fieldsZ Try.underlying25).2 0 _ rfl
  obtain ⟨y', _, hz⟩ := this
  omega
 | succ N ih =>
  intro cs y hN h
  obtain ⟨hlen, _⟩ := h.fieldsZ Try.underlying25
  rw [show Try.prog.cellsOf 25 = 3 from by kernel_rfl] at hlen
  match cs, hlen with
  | [c0, c1, c2], _ =>
   have hone : oneCellFields Try.prog (match Try.prog.underlying 25 with | some (.struct fs) => fs | _ => #[]) = true := by kernel_rfl
   rw [Try.underlying25] at hone
   obtain ⟨y0, h0, _⟩ := h.cellZ (i := 0) Try.underlying25 hone rfl rfl
   obtain ⟨y1, h1, _⟩ := h.cellZ (i := 1) Try.underlying25 hone rfl rfl
   obtain ⟨y2, h2, hz2⟩ := h.cellZ (i := 2) Try.underlying25 hone rfl rfl
   obtain ⟨k, e0, _⟩ := h0.int Try.underlying3
   obtain ⟨A, n, c, ws, e1, hn, hnc, hcm, hA, hr, hu, hb⟩ := h1.ints Try.underlying22 Try.underlying45 (by kernel_rfl)
   obtain ⟨K, m, d, e2, hmd, hdm, hKn, hbk, hel⟩ := h2.elemsZ (C := 3) Try.underlying23 (by kernel_rfl) (by decide)
   rw [show Try.prog.bytesOf 45 = 8 from by kernel_rfl] at hb
   rw [show Try.prog.bytesOf 25 = 56 from by kernel_rfl] at hbk
   unfold reachBytes at hb hbk
   have hall : ∀ i, i < m → ∃ p : T × Tv, ∃ b o, K = some ⟨b, o, none⟩ ∧ b < W.heap.size ∧ (∀ j u, p.2.cells[j]? = some u → W.cell? ⟨b, o + i * 3 + j, none⟩ = some u) ∧ TreeAt W (fun b => b < W.heap.size) p.1 p.2 := fun i hi => by
    obtain ⟨b, o, cs', y', hA', hb', _, hat, ho, hz⟩ := hel i hi
    obtain ⟨t, v, rfl, ht⟩ := ih cs' y' (by omega) ho
    exact ⟨(t, v), b, o, hA', hb', hat, ht⟩
   obtain ⟨l, hl, hx⟩ := list_of _ hall
   simp only [List.cons.injEq, and_true] at e0 e1 e2
   refine ⟨.node k ws (l.map (·.1)), ⟨k, A, n, c, K, m, d⟩, by rw [e0, e1, e2]; rfl, TreeAt.of (kv := l.map (·.2)) ⟨hn, hnc, hcm, by omega, fun h => (hA h).2, fun j u hj => hr j u hj, fun x hx => wf_u64 (hu x hx)⟩ ⟨by rw [List.length_map, hl], hmd, hdm, by rw [List.length_map]; omega, by rw [List.length_map, List.length_map], fun j u hu => ?_, fun i hi hi' => ?_⟩⟩
   ·have hj := (List.getElem?_eq_some_iff.1 hu).1
    rw [kidCells_len] at hj
    obtain ⟨hq, hg⟩ := kidCells_get (l.map (·.2)) j hj
    rw [hg, List.getElem_map] at hu
    rw [List.length_map] at hq
    obtain ⟨b, o, hA', hb', hc, _⟩ := hx (j / 3) _ (List.getElem?_eq_getElem hq)
    refine ⟨b, o, hA', hb', ?_⟩
    have h3 := hc (j % 3) u hu
    rwa [show o + j / 3 * 3 + j % 3 = o + j from by omega] at h3
   ·rw [List.getElem_map, List.getElem_map]
    rw [List.length_map] at hi
    obtain ⟨_, _, _, _, _, ht⟩ := hx i _ (List.getElem?_eq_getElem hi)
    exact ht
theorem open_tree1 {cs : List Value} {y : DataW H × List MemPlace} (h : Opens enc Try.prog W 25 cs y) : ∃ (t : T) (v : Tv), cs = v.cells ∧ TreeAt W (fun b => b < W.heap.size) t v := open_tree _ cs y (Nat.le_refl _) h
end
end Go.Proofs.Ytbmjiokjigkdnaa
namespace Go.Proofs.Ytbmjiokjigkdnaa
open Go.RowKit
theorem two_below (w : World) (a b : Obj) : Below w.heap.size w ((w.alloc a).alloc b) := ((Below.refl _ _).alloc (Nat.le_refl _) _).alloc (by simp) _
def kidT (t : T) (i : Int) : T := if 0 ≤ i then (t.ks[i.toNat]?).getD nilT else nilT
set_option maxHeartbeats 1000000 in
theorem kid_any (t : T) (v : Tv) (i : Int) (S : Nat → Prop) (w : World) (h : TreeAt w S t v) (hS : ∀ b, S b → b < w.heap.size) :
  Calls Try.prog 57 #[v.val, .int .i64 i] w fun e w' => ∃ v', e = .returned v'.val ∧ TreeAt w' S (kidT t i) v' ∧ Below w.heap.size w w' := by
 obtain ⟨k, ws, ks⟩ := t
 obtain ⟨kv, hk⟩ := h.kids
 obtain ⟨k', A, n, c, K, m, d⟩ := v
 simp only at hk
 have hm := hk.len
 have hmd := hk.cap
 have hdm := hk.capM
 unfold maxLen at hdm
 show Calls _ _ #[.agg #[.int .i64 k', .slice A n c, .slice K m d], _] _ _
 by_cases h0 : i < 0
 ·have hkt : Hid (kidT (.node k ws ks) i = nilT) := by show _ = _; unfold kidT; rw [if_neg (by omega)]
  have e0 : decide (i < 0) = true := by simpa using h0
  go_enter Try.func57, Try.ntmps57
  go_wp2_with fail
  go_returns
  rw [hkt.out]
  exact ⟨⟨0, none, 0, 0, none, 0, 0⟩, rfl, TreeAt.nil, two_below _ _ _⟩
 ·have e0 : decide (i < 0) = false := by simpa using h0
  obtain ⟨j, rfl⟩ := Int.eq_ofNat_of_zero_le (show 0 ≤ i by omega)
  by_cases hj : j < m
  ·have hjl : j < ks.length := by omega
   obtain ⟨b, o, v', rfl, hb, c0, c1, c2, ht⟩ := hk.at hjl
   have hkt : Hid (kidT (.node k ws ks) j = ks[j]) := by show _ = _; unfold kidT; rw [if_pos (by omega)]; simp [T.ks, hjl]
   have hbw : b < w.heap.size := hS b hb
   clear hk h
   go_enter Try.func57, Try.ntmps57
   go_wp2_with fail
   go_returns
   rw [hkt.out]
   exact ⟨v', rfl, ht.bel (two_below _ _ _) hS, two_below _ _ _⟩
  ·have hkt : Hid (kidT (.node k ws ks) j = nilT) := by
    show _ = _
    unfold kidT
    rw [if_pos (by omega), List.getElem?_eq_none (by simp [T.ks]; omega)]
    rfl
   have e1 : (m : Int) ≤ (j : Int) := by omega
   clear hk h
   go_enter Try.func57, Try.ntmps57
   go_wp2_with fail
   go_returns
   rw [hkt.out]
   exact ⟨⟨0, none, 0, 0, none, 0, 0⟩, rfl, TreeAt.nil, two_below _ _ _⟩
def wordT (t : T) (i : Int) : Int := if 0 ≤ i then t.ws.getD i.toNat 0 else 0
theorem wordT_bd {w : World} {S : Nat → Prop} {t : T} {v : Tv} (h : TreeAt w S t v) (i : Int) : 0 ≤ wordT t i ∧ wordT t i ≤ 18446744073709551615 := by
 obtain ⟨k, ws, ks⟩ := t
 unfold wordT
 split
 ·show 0 ≤ ws.getD i.toNat 0 ∧ ws.getD i.toNat 0 ≤ _
  rw [List.getD_eq_getElem?_getD]
  cases e : ws[i.toNat]? with
  | none => decide
  | some x => exact h.words.u64 x (List.mem_of_getElem? e)
 ·decide
set_option maxHeartbeats 1000000 in
theorem word_any (t : T) (v : Tv) (i : Int) (S : Nat → Prop) (w : World) (h : TreeAt w S t v) (hS : ∀ b, S b → b < w.heap.size) :
  Calls Try.prog 56 #[v.val, .int .i64 i] w fun e w' => e = .returned (.int .u64 (wordT t i)) ∧ Below w.heap.size w w' := by
 obtain ⟨k, ws, ks⟩ := t
 have hk := h.words
 obtain ⟨k', A, n, c, K, m, d⟩ := v
 simp only at hk
 have hm := hk.len
 have hmd := hk.cap
 have hdm := hk.capM
 unfold maxLen at hdm
 show Calls _ _ #[.agg #[.int .i64 k', .slice A n c, .slice K m d], _] _ _
 have hb1 : Below w.heap.size w (w.alloc (.cells #[.int .i64 k', .slice A n c, .slice K m d] 25)) := (Below.refl _ _).alloc (Nat.le_refl _) _
 by_cases h0 : i < 0
 ·have hkt : Hid (wordT (.node k ws ks) i = 0) := by show _ = _; unfold wordT; rw [if_neg (by omega)]
  have e0 : decide (i < 0) = true := by simpa using h0
  clear hk h
  go_enter Try.func56, Try.ntmps56
  go_wp2_with fail
  go_ret
  rw [hkt.out]
  exact ⟨rfl, (Below.refl _ _).alloc (Nat.le_refl _) _⟩
 ·have e0 : decide (i < 0) = false := by simpa using h0
  obtain ⟨j, rfl⟩ := Int.eq_ofNat_of_zero_le (show 0 ≤ i by omega)
  by_cases hj : j < n
  ·have hjl : j < ws.length := by omega
   obtain ⟨b, o, rfl, hb, c0⟩ := hk.at hjl
   have hkt : Hid (wordT (.node k ws ks) j = ws[j]) := by show _ = _; unfold wordT; rw [if_pos (by omega)]; simp [T.ws, hjl]
   have hbw : b < w.heap.size := hS b hb
   clear hk h
   generalize ws[j] = x at *
   go_enter Try.func56, Try.ntmps56
   go_wp2_with fail
   go_ret
   rw [hkt.out]
   exact ⟨rfl, (Below.refl _ _).alloc (Nat.le_refl _) _⟩
  ·have hkt : Hid (wordT (.node k ws ks) j = 0) := by
    show _ = _
    unfold wordT
    rw [if_pos (by omega), List.getD_eq_getElem?_getD, List.getElem?_eq_none (by simp [T.ws]; omega)]
    rfl
   have e1 : (n : Int) ≤ (j : Int) := by omega
   clear hk h
   go_enter Try.func56, Try.ntmps56
   go_wp2_with fail
   go_ret
   rw [hkt.out]
   exact ⟨rfl, (Below.refl _ _).alloc (Nat.le_refl _) _⟩
end Go.Proofs.Ytbmjiokjigkdnaa
namespace Go.Proofs.Ytbmjiokjigkdnaa.Top
inductive U (X F : Type) where
 | K
 | D (x : X)
 | I (x : X)
 | S (f : F)
section
variable {X F : Type} (r : X → X → Prop) (Sem : F → X → X → Prop)
inductive Run : List (U X F) → List X → List X → Prop
 | nil : Run [] [] []
 | keep {us a b x y} : r x y → Run us a b → Run (.K :: us) (x :: a) (y :: b)
 | del {us a b x z} : r x z → Run us a b → Run (.D z :: us) (x :: a) b
 | ins {us a b y z} : r z y → Run us a b → Run (.I z :: us) a (y :: b)
 | sub {us a b x y f} : Sem f x y → Run us a b → Run (.S f :: us) (x :: a) (y :: b)
def compU (eqv : X → X → Bool) (both : F → F → Option F) (app : F → X → Option X) (inv : F → F) : Nat → List (U X F) → List (U X F) → Option (List (U X F))
 | 0, _, _ => none
 | n + 1, .D x :: p, q => (compU eqv both app inv n p q).map (.D x :: ·)
 | n + 1, p, .I y :: q => (compU eqv both app inv n p q).map (.I y :: ·)
 | _ + 1, [], [] => some []
 | _ + 1, [], _ :: _ => none
 | _ + 1, _ :: _, [] => none
 | n + 1, .K :: p, u :: q => (compU eqv both app inv n p q).map (u :: ·)
 | n + 1, .I x :: p, .K :: q => (compU eqv both app inv n p q).map (.I x :: ·)
 | n + 1, .I x :: p, .D y :: q => if eqv x y then compU eqv both app inv n p q else none
 | n + 1, .I x :: p, .S f :: q => (app f x).bind fun y => (compU eqv both app inv n p q).map (.I y :: ·)
 | n + 1, .S f :: p, .K :: q => (compU eqv both app inv n p q).map (.S f :: ·)
 | n + 1, .S f :: p, .D y :: q => (app (inv f) y).bind fun x => (compU eqv both app inv n p q).map (.D x :: ·)
 | n + 1, .S f :: p, .S g :: q => (both f g).bind fun h => (compU eqv both app inv n p q).map (.S h :: ·)
structure Laws (r : X → X → Prop) (Sem : F → X → X → Prop) (eqv : X → X → Bool) (both : F → F → Option F) (app : F → X → Option X) (inv : F → F) (okF okG : F → Prop) (okX : X → Prop) : Prop where
 toG : ∀ {f}, okF f → okG f
 refl : ∀ x, r x x
 symm : ∀ {x y}, r x y → r y x
 trans : ∀ {x y z}, r x y → r y z → r x z
 eqv : ∀ x y, eqv x y = true ↔ r x y
 cong : ∀ {f x x' y y'}, okG f → Sem f x y → r x x' → r y y' → Sem f x' y'
 bothSome : ∀ {f g h}, okF f → okF g → both f g = some h → ∀ x z, Sem h x z ↔ ∃ y, Sem f x y ∧ Sem g y z
 bothNone : ∀ {f g}, okF f → okF g → both f g = none → ∀ x y z, Sem f x y → Sem g y z → False
 appSome : ∀ {f x y}, okG f → okX x → app f x = some y → ∀ z, Sem f x z ↔ r y z
 appNone : ∀ {f x}, okG f → okX x → app f x = none → ∀ z, ¬ Sem f x z
 invOk : ∀ {f}, okF f → okG (inv f)
 inv : ∀ {f}, okF f → ∀ x y, Sem (inv f) y x ↔ Sem f x y
def U.ok (okF : F → Prop) (okX : X → Prop) : U X F → Prop
 | .K => True
 | .D x => okX x
 | .I x => okX x
 | .S f => okF f
variable {r Sem} {eqv : X → X → Bool} {both : F → F → Option F} {app : F → X → Option X} {inv : F → F} {okF okG : F → Prop} {okX : X → Prop}
section inversion
variable {us : List (U X F)} {a b : List X} {x z : X} {f : F}
theorem run_nil : Run r Sem [] a b ↔ a = [] ∧ b = [] := ⟨fun h => by cases h; exact ⟨rfl, rfl⟩, fun ⟨h1, h2⟩ => by subst h1 h2; exact .nil⟩
theorem run_K : Run r Sem (.K :: us) a b ↔ ∃ x a' y b', a = x :: a' ∧ b = y :: b' ∧ r x y ∧ Run r Sem us a' b' :=
 ⟨fun h => by cases h with | keep h1 h2 => exact ⟨_, _, _, _, rfl, rfl, h1, h2⟩, fun ⟨_, _, _, _, h1, h2, h3, h4⟩ => by subst h1 h2; exact .keep h3 h4⟩
theorem run_D : Run r Sem (.D z :: us) a b ↔ ∃ x a', a = x :: a' ∧ r x z ∧ Run r Sem us a' b :=
 ⟨fun h => by cases h with | del h1 h2 => exact ⟨_, _, rfl, h1, h2⟩, fun ⟨_, _, h1, h3, h4⟩ => by subst h1; exact .del h3 h4⟩
theorem run_I : Run r Sem (.I z :: us) a b ↔ ∃ y b', b = y :: b' ∧ r z y ∧ Run r Sem us a b' :=
 ⟨fun h => by cases h with | ins h1 h2 => exact ⟨_, _, rfl, h1, h2⟩, fun ⟨_, _, h1, h3, h4⟩ => by subst h1; exact .ins h3 h4⟩
theorem run_S : Run r Sem (.S f :: us) a b ↔ ∃ x a' y b', a = x :: a' ∧ b = y :: b' ∧ Sem f x y ∧ Run r Sem us a' b' :=
 ⟨fun h => by cases h with | sub h1 h2 => exact ⟨_, _, _, _, rfl, rfl, h1, h2⟩, fun ⟨_, _, _, _, h1, h2, h3, h4⟩ => by subst h1 h2; exact .sub h3 h4⟩
end inversion
def Good (_ : F → F → Option F) (L : Option (List (U X F))) (p q : List (U X F)) (r : X → X → Prop) (Sem : F → X → X → Prop) : Prop :=
 (∀ e, L = some e → ∀ a c, Run r Sem e a c ↔ ∃ b, Run r Sem p a b ∧ Run r Sem q b c) ∧ (L = none → ∀ a b c, Run r Sem p a b → Run r Sem q b c → False)
theorem good_map {both : F → F → Option F} {L : Option (List (U X F))} {p q p' q' : List (U X F)} {u : U X F} (h : Good both L p q r Sem)
  (h1 : ∀ e a c, (∀ a c, Run r Sem e a c ↔ ∃ b, Run r Sem p a b ∧ Run r Sem q b c) → (Run r Sem (u :: e) a c ↔ ∃ b, Run r Sem p' a b ∧ Run r Sem q' b c))
  (h2 : ∀ a b c, Run r Sem p' a b → Run r Sem q' b c → ∃ a b c, Run r Sem p a b ∧ Run r Sem q b c) : Good both (L.map (u :: ·)) p' q' r Sem := by
 refine ⟨fun e he a c => ?_, fun he a b c hp hq => ?_⟩
 ·cases L with
  | none => cases he
  | some e' =>
   injection he with he
   subst he
   exact h1 e' a c (h.1 e' rfl)
 ·cases L with
  | none =>
   obtain ⟨a, b, c, h3, h4⟩ := h2 a b c hp hq
   exact h.2 rfl a b c h3 h4
  | some e' => cases he
theorem compU_good (L : Laws r Sem eqv both app inv okF okG okX) : ∀ (n : Nat) (p q : List (U X F)), p.length + q.length < n → (∀ u ∈ p, u.ok okF okX) → (∀ u ∈ q, u.ok okF okX) → Good both (compU eqv both app inv n p q) p q r Sem := by
 intro n
 induction n with
 | zero => intro p q h; omega
 | succ n ih =>
  intro p q hn hp hq
  have okp : ∀ {u p'}, p = u :: p' → u.ok okF okX ∧ ∀ v ∈ p', v.ok okF okX := fun e => by subst e; exact ⟨hp _ (List.mem_cons_self ..), fun v hv => hp v (List.mem_cons_of_mem _ hv)⟩
  have okq : ∀ {u q'}, q = u :: q' → u.ok okF okX ∧ ∀ v ∈ q', v.ok okF okX := fun e => by subst e; exact ⟨hq _ (List.mem_cons_self ..), fun v hv => hq v (List.mem_cons_of_mem _ hv)⟩
  have hD : ∀ x p', p = .D x :: p' → Good both (compU eqv both app inv (n + 1) p q) p q r Sem := by
   intro x p' e
   subst e
   rw [compU]
   refine good_map (ih p' q (by simp at hn; omega) (okp rfl).2 hq) (fun e a c he => ?_) (fun a b c h1 h2 => ?_)
   ·rw [run_D]
    constructor
    ·rintro ⟨x', a', rfl, h1, h2⟩
     obtain ⟨b, h3, h4⟩ := (he _ _).1 h2
     exact ⟨b, .del h1 h3, h4⟩
    ·rintro ⟨b, h1, h2⟩
     obtain ⟨x', a', rfl, h3, h4⟩ := run_D.1 h1
     exact ⟨x', a', rfl, h3, (he _ _).2 ⟨b, h4, h2⟩⟩
   ·obtain ⟨x', a', rfl, h3, h4⟩ := run_D.1 h1
    exact ⟨_, _, _, h4, h2⟩
  have hI : ∀ y q', q = .I y :: q' → (∀ x p', p ≠ .D x :: p') → Good both (compU eqv both app inv (n + 1) p q) p q r Sem := by
   intro y q' e hne
   subst e
   have e2 : compU eqv both app inv (n + 1) p (.I y :: q') = (compU eqv both app inv n p q').map (.I y :: ·) := by
    cases p with
    | nil => rfl
    | cons u p => cases u with
     | D x => exact absurd rfl (hne x p)
     | K => rfl
     | I x => rfl
     | S f => rfl
   rw [e2]
   refine good_map (ih p q' (by simp at hn; omega) hp (okq rfl).2) (fun e a c he => ?_) (fun a b c h1 h2 => ?_)
   ·rw [run_I]
    constructor
    ·rintro ⟨y', c', rfl, h1, h2⟩
     obtain ⟨b, h3, h4⟩ := (he _ _).1 h2
     exact ⟨b, h3, .ins h1 h4⟩
    ·rintro ⟨b, h1, h2⟩
     obtain ⟨y', c', rfl, h3, h4⟩ := run_I.1 h2
     exact ⟨y', c', rfl, h3, (he _ _).2 ⟨b, h1, h4⟩⟩
   ·obtain ⟨y', c', rfl, h3, h4⟩ := run_I.1 h2
    exact ⟨_, _, _, h1, h4⟩
  cases p with
  | nil =>
   cases q with
   | nil =>
    rw [compU]
    ·refine ⟨fun e he a c => ?_, fun he => (by cases he)⟩
     injection he with he
     subst he
     constructor
     ·intro h; obtain ⟨rfl, rfl⟩ := run_nil.1 h; exact ⟨[], .nil, .nil⟩
     ·rintro ⟨b, h1, h2⟩
      obtain ⟨rfl, rfl⟩ := run_nil.1 h1
      exact h2
   | cons v q =>
    cases v with
    | I y => exact hI y q rfl (fun x p' h => by cases h)
    | K => exact ⟨fun e he => (by cases he), fun _ a b c h1 h2 => by obtain ⟨rfl, rfl⟩ := run_nil.1 h1; obtain ⟨_, _, _, _, h, _⟩ := run_K.1 h2; cases h⟩
    | D y => exact ⟨fun e he => (by cases he), fun _ a b c h1 h2 => by obtain ⟨rfl, rfl⟩ := run_nil.1 h1; obtain ⟨_, _, h, _⟩ := run_D.1 h2; cases h⟩
    | S g => exact ⟨fun e he => (by cases he), fun _ a b c h1 h2 => by obtain ⟨rfl, rfl⟩ := run_nil.1 h1; obtain ⟨_, _, _, _, h, _⟩ := run_S.1 h2; cases h⟩
  | cons u p =>
   cases u with
   | D x => exact hD x p rfl
   | K =>
    cases q with
    | nil => exact ⟨fun e he => (by cases he), fun _ a b c h1 h2 => by obtain ⟨rfl, rfl⟩ := run_nil.1 h2; obtain ⟨_, _, _, _, _, h, _⟩ := run_K.1 h1; cases h⟩
    | cons v q =>
     have hlen : p.length + q.length < n := by simp at hn; omega
     have hh := ih p q hlen (okp rfl).2 (okq rfl).2
     cases v with
     | I y => exact hI y q rfl (fun x p' h => by cases h)
     | K =>
      refine good_map hh (fun e a c he => ?_) (fun a b c h1 h2 => ?_)
      ·rw [run_K]
       constructor
       ·rintro ⟨x, a', z, c', rfl, rfl, h1, h2⟩
        obtain ⟨b, h3, h4⟩ := (he _ _).1 h2
        exact ⟨x :: b, .keep (L.refl x) h3, .keep h1 h4⟩
       ·rintro ⟨b, h1, h2⟩
        obtain ⟨x, a', y, b', rfl, rfl, h3, h4⟩ := run_K.1 h1
        obtain ⟨y', b'', z, c', h5, rfl, h6, h7⟩ := run_K.1 h2
        injection h5 with h5 h8
        subst h5 h8
        exact ⟨x, a', z, c', rfl, rfl, L.trans h3 h6, (he _ _).2 ⟨_, h4, h7⟩⟩
      ·obtain ⟨x, a', y, b', rfl, rfl, h3, h4⟩ := run_K.1 h1
       obtain ⟨y', b'', z, c', h5, rfl, h6, h7⟩ := run_K.1 h2
       injection h5 with h5 h8
       subst h5 h8
       exact ⟨_, _, _, h4, h7⟩
     | D w =>
      refine good_map hh (fun e a c he => ?_) (fun a b c h1 h2 => ?_)
      ·rw [run_D]
       constructor
       ·rintro ⟨x, a', rfl, h1, h2⟩
        obtain ⟨b, h3, h4⟩ := (he _ _).1 h2
        exact ⟨x :: b, .keep (L.refl x) h3, .del h1 h4⟩
       ·rintro ⟨b, h1, h2⟩
        obtain ⟨x, a', y, b', rfl, rfl, h3, h4⟩ := run_K.1 h1
        obtain ⟨y', b'', h5, h6, h7⟩ := run_D.1 h2
        injection h5 with h5 h8
        subst h5 h8
        exact ⟨x, a', rfl, L.trans h3 h6, (he _ _).2 ⟨_, h4, h7⟩⟩
      ·obtain ⟨x, a', y, b', rfl, rfl, h3, h4⟩ := run_K.1 h1
       obtain ⟨y', b'', h5, h6, h7⟩ := run_D.1 h2
       injection h5 with h5 h8
       subst h5 h8
       exact ⟨_, _, _, h4, h7⟩
     | S g =>
      refine good_map hh (fun e a c he => ?_) (fun a b c h1 h2 => ?_)
      ·rw [run_S]
       constructor
       ·rintro ⟨x, a', z, c', rfl, rfl, h1, h2⟩
        obtain ⟨b, h3, h4⟩ := (he _ _).1 h2
        exact ⟨x :: b, .keep (L.refl x) h3, .sub h1 h4⟩
       ·rintro ⟨b, h1, h2⟩
        obtain ⟨x, a', y, b', rfl, rfl, h3, h4⟩ := run_K.1 h1
        obtain ⟨y', b'', z, c', h5, rfl, h6, h7⟩ := run_S.1 h2
        injection h5 with h5 h8
        subst h5 h8
        exact ⟨x, a', z, c', rfl, rfl, L.cong (L.toG (okq rfl).1) h6 (L.symm h3) (L.refl z), (he _ _).2 ⟨_, h4, h7⟩⟩
      ·obtain ⟨x, a', y, b', rfl, rfl, h3, h4⟩ := run_K.1 h1
       obtain ⟨y', b'', z, c', h5, rfl, h6, h7⟩ := run_S.1 h2
       injection h5 with h5 h8
       subst h5 h8
       exact ⟨_, _, _, h4, h7⟩
   | I x =>
    cases q with
    | nil => exact ⟨fun e he => (by cases he), fun _ a b c h1 h2 => by obtain ⟨rfl, rfl⟩ := run_nil.1 h2; obtain ⟨_, _, h, _⟩ := run_I.1 h1; cases h⟩
    | cons v q =>
     have hlen : p.length + q.length < n := by simp at hn; omega
     have hh := ih p q hlen (okp rfl).2 (okq rfl).2
     cases v with
     | I y => exact hI y q rfl (fun x p' h => by cases h)
     | K =>
      refine good_map hh (fun e a c he => ?_) (fun a b c h1 h2 => ?_)
      ·rw [run_I]
       constructor
       ·rintro ⟨z, c', rfl, h1, h2⟩
        obtain ⟨b, h3, h4⟩ := (he _ _).1 h2
        exact ⟨x :: b, .ins (L.refl x) h3, .keep h1 h4⟩
       ·rintro ⟨b, h1, h2⟩
        obtain ⟨y, b', rfl, h3, h4⟩ := run_I.1 h1
        obtain ⟨y', b'', z, c', h5, rfl, h6, h7⟩ := run_K.1 h2
        injection h5 with h5 h8
        subst h5 h8
        exact ⟨z, c', rfl, L.trans h3 h6, (he _ _).2 ⟨_, h4, h7⟩⟩
      ·obtain ⟨y, b', rfl, h3, h4⟩ := run_I.1 h1
       obtain ⟨y', b'', z, c', h5, rfl, h6, h7⟩ := run_K.1 h2
       injection h5 with h5 h8
       subst h5 h8
       exact ⟨_, _, _, h4, h7⟩
     | D y =>
      show Good both (if eqv x y then compU eqv both app inv n p q else none) _ _ _ _
      by_cases he : eqv x y = true
      ·rw [if_pos he]
       refine ⟨fun e h a c => ?_, fun h a b c h1 h2 => ?_⟩
       ·rw [hh.1 e h]
        constructor
        ·rintro ⟨b, h1, h2⟩
         exact ⟨x :: b, .ins (L.refl x) h1, .del ((L.eqv x y).1 he) h2⟩
        ·rintro ⟨b, h1, h2⟩
         obtain ⟨y1, b', rfl, h3, h4⟩ := run_I.1 h1
         obtain ⟨y', b'', h5, h6, h7⟩ := run_D.1 h2
         injection h5 with h5 h8
         subst h5 h8
         exact ⟨_, h4, h7⟩
       ·obtain ⟨y1, b', rfl, h3, h4⟩ := run_I.1 h1
        obtain ⟨y', b'', h5, h6, h7⟩ := run_D.1 h2
        injection h5 with h5 h8
        subst h5 h8
        exact hh.2 h _ _ _ h4 h7
      ·rw [if_neg he]
       refine ⟨fun e h => (by cases h), fun _ a b c h1 h2 => ?_⟩
       obtain ⟨y1, b', rfl, h3, h4⟩ := run_I.1 h1
       obtain ⟨y', b'', h5, h6, h7⟩ := run_D.1 h2
       injection h5 with h5 h8
       subst h5 h8
       exact he ((L.eqv x y).2 (L.trans h3 h6))
     | S g =>
      show Good both ((app g x).bind fun y => (compU eqv both app inv n p q).map (.I y :: ·)) _ _ _ _
      have okx : okX x := (okp rfl).1
      have okg : okF g := (okq rfl).1
      cases ha : app g x with
      | none =>
       refine ⟨fun e h => (by cases h), fun _ a b c h1 h2 => ?_⟩
       obtain ⟨y1, b', rfl, h3, h4⟩ := run_I.1 h1
       obtain ⟨y', b'', z, c', h5, rfl, h6, h7⟩ := run_S.1 h2
       injection h5 with h5 h8
       subst h5 h8
       exact L.appNone (L.toG okg) okx ha z (L.cong (L.toG okg) h6 (L.symm h3) (L.refl z))
      | some y =>
       have hy := L.appSome (L.toG okg) okx ha
       refine good_map hh (fun e a c he => ?_) (fun a b c h1 h2 => ?_)
       ·rw [run_I]
        constructor
        ·rintro ⟨z, c', rfl, h1, h2⟩
         obtain ⟨b, h3, h4⟩ := (he _ _).1 h2
         exact ⟨x :: b, .ins (L.refl x) h3, .sub ((hy z).2 h1) h4⟩
        ·rintro ⟨b, h1, h2⟩
         obtain ⟨y1, b', rfl, h3, h4⟩ := run_I.1 h1
         obtain ⟨y', b'', z, c', h5, rfl, h6, h7⟩ := run_S.1 h2
         injection h5 with h5 h8
         subst h5 h8
         exact ⟨z, c', rfl, (hy z).1 (L.cong (L.toG okg) h6 (L.symm h3) (L.refl z)), (he _ _).2 ⟨_, h4, h7⟩⟩
       ·obtain ⟨y1, b', rfl, h3, h4⟩ := run_I.1 h1
        obtain ⟨y', b'', z, c', h5, rfl, h6, h7⟩ := run_S.1 h2
        injection h5 with h5 h8
        subst h5 h8
        exact ⟨_, _, _, h4, h7⟩
   | S f =>
    cases q with
    | nil => exact ⟨fun e he => (by cases he), fun _ a b c h1 h2 => by obtain ⟨rfl, rfl⟩ := run_nil.1 h2; obtain ⟨_, _, _, _, _, h, _⟩ := run_S.1 h1; cases h⟩
    | cons v q =>
     have hlen : p.length + q.length < n := by simp at hn; omega
     have hh := ih p q hlen (okp rfl).2 (okq rfl).2
     have okf : okF f := (okp rfl).1
     cases v with
     | I y => exact hI y q rfl (fun x p' h => by cases h)
     | K =>
      refine good_map hh (fun e a c he => ?_) (fun a b c h1 h2 => ?_)
      ·rw [run_S]
       constructor
       ·rintro ⟨x, a', z, c', rfl, rfl, h1, h2⟩
        obtain ⟨b, h3, h4⟩ := (he _ _).1 h2
        exact ⟨z :: b, .sub h1 h3, .keep (L.refl z) h4⟩
       ·rintro ⟨b, h1, h2⟩
        obtain ⟨x, a', y, b', rfl, rfl, h3, h4⟩ := run_S.1 h1
        obtain ⟨y', b'', z, c', h5, rfl, h6, h7⟩ := run_K.1 h2
        injection h5 with h5 h8
        subst h5 h8
        exact ⟨x, a', z, c', rfl, rfl, L.cong (L.toG okf) h3 (L.refl x) h6, (he _ _).2 ⟨_, h4, h7⟩⟩
      ·obtain ⟨x, a', y, b', rfl, rfl, h3, h4⟩ := run_S.1 h1
       obtain ⟨y', b'', z, c', h5, rfl, h6, h7⟩ := run_K.1 h2
       injection h5 with h5 h8
       subst h5 h8
       exact ⟨_, _, _, h4, h7⟩
     | D y =>
      show Good both ((app (inv f) y).bind fun x => (compU eqv both app inv n p q).map (.D x :: ·)) _ _ _ _
      have oky : okX y := (okq rfl).1
      cases ha : app (inv f) y with
      | none =>
       refine ⟨fun e h => (by cases h), fun _ a b c h1 h2 => ?_⟩
       obtain ⟨x, a', y1, b', rfl, rfl, h3, h4⟩ := run_S.1 h1
       obtain ⟨y', b'', h5, h6, h7⟩ := run_D.1 h2
       injection h5 with h5 h8
       subst h5 h8
       exact L.appNone (L.invOk okf) oky ha x ((L.inv okf x y).2 (L.cong (L.toG okf) h3 (L.refl x) h6))
      | some x0 =>
       have hy := L.appSome (L.invOk okf) oky ha
       refine good_map hh (fun e a c he => ?_) (fun a b c h1 h2 => ?_)
       ·rw [run_D]
        constructor
        ·rintro ⟨x, a', rfl, h1, h2⟩
         obtain ⟨b, h3, h4⟩ := (he _ _).1 h2
         exact ⟨y :: b, .sub ((L.inv okf x y).1 ((hy x).2 (L.symm h1))) h3, .del (L.refl y) h4⟩
        ·rintro ⟨b, h1, h2⟩
         obtain ⟨x, a', y1, b', rfl, rfl, h3, h4⟩ := run_S.1 h1
         obtain ⟨y', b'', h5, h6, h7⟩ := run_D.1 h2
         injection h5 with h5 h8
         subst h5 h8
         exact ⟨x, a', rfl, L.symm ((hy x).1 ((L.inv okf x y).2 (L.cong (L.toG okf) h3 (L.refl x) h6))), (he _ _).2 ⟨_, h4, h7⟩⟩
       ·obtain ⟨x, a', y1, b', rfl, rfl, h3, h4⟩ := run_S.1 h1
        obtain ⟨y', b'', h5, h6, h7⟩ := run_D.1 h2
        injection h5 with h5 h8
        subst h5 h8
        exact ⟨_, _, _, h4, h7⟩
     | S g =>
      show Good both ((both f g).bind fun h => (compU eqv both app inv n p q).map (.S h :: ·)) _ _ _ _
      have okg : okF g := (okq rfl).1
      cases ha : both f g with
      | none =>
       refine ⟨fun e h => (by cases h), fun _ a b c h1 h2 => ?_⟩
       obtain ⟨x, a', y1, b', rfl, rfl, h3, h4⟩ := run_S.1 h1
       obtain ⟨y', b'', z, c', h5, rfl, h6, h7⟩ := run_S.1 h2
       injection h5 with h5 h8
       subst h5 h8
       exact L.bothNone okf okg ha _ _ _ h3 h6
      | some h =>
       have hy := L.bothSome okf okg ha
       refine good_map hh (fun e a c he => ?_) (fun a b c h1 h2 => ?_)
       ·rw [run_S]
        constructor
        ·rintro ⟨x, a', z, c', rfl, rfl, h1, h2⟩
         obtain ⟨b, h3, h4⟩ := (he _ _).1 h2
         obtain ⟨y, h5, h6⟩ := (hy x z).1 h1
         exact ⟨y :: b, .sub h5 h3, .sub h6 h4⟩
        ·rintro ⟨b, h1, h2⟩
         obtain ⟨x, a', y1, b', rfl, rfl, h3, h4⟩ := run_S.1 h1
         obtain ⟨y', b'', z, c', h5, rfl, h6, h7⟩ := run_S.1 h2
         injection h5 with h5 h8
         subst h5 h8
         exact ⟨x, a', z, c', rfl, rfl, (hy x z).2 ⟨_, h3, h6⟩, (he _ _).2 ⟨_, h4, h7⟩⟩
       ·obtain ⟨x, a', y1, b', rfl, rfl, h3, h4⟩ := run_S.1 h1
        obtain ⟨y', b'', z, c', h5, rfl, h6, h7⟩ := run_S.1 h2
        injection h5 with h5 h8
        subst h5 h8
        exact ⟨_, _, _, h4, h7⟩
end
section trim
variable {α : Type}
def trimP (p : α → Bool) : List α → List α
 | [] => []
 | x :: r => match trimP p r with
  | [] => if p x then [] else [x]
  | y :: q => x :: y :: q
theorem trimW_P (l : List Int) : trimW l = trimP (fun x => x == 0) l := by
 induction l with
 | nil => rfl
 | cons x r ih =>
  rw [trimW, trimP, ih]
  cases trimP (fun x => x == 0) r with
  | nil => simp
  | cons y q => rfl
theorem trimK_P (l : List T) : trimK l = trimP (fun t => t.kind == 0) l := by
 induction l with
 | nil => rfl
 | cons x r ih =>
  rw [trimK, trimP, ih]
  cases trimP (fun t : T => t.kind == 0) r with
  | nil => simp
  | cons y q => rfl
variable {p : α → Bool} {z : α}
theorem trimP_get (l : List α) (hl : ∀ x ∈ l, p x = true → x = z) (i : Nat) : (trimP p l)[i]?.getD z = l[i]?.getD z := by
 induction l generalizing i with
 | nil => rfl
 | cons x r ih =>
  have ih := ih (fun x hx => hl x (List.mem_cons_of_mem _ hx))
  rw [trimP]
  cases e : trimP p r with
  | nil =>
   rw [e] at ih
   by_cases hx : p x = true
   ·have hz := hl x (List.mem_cons_self ..) hx
    cases i with
    | zero => subst hz; simp [hx]
    | succ i => have := ih i; simp [hx] at this ⊢; exact this
   ·cases i with
    | zero => simp [hx]
    | succ i => have := ih i; simp [hx] at this ⊢; exact this
  | cons y q =>
   rw [e] at ih
   cases i with
   | zero => rfl
   | succ i => have := ih i; simpa using this
def Trimmed (p : α → Bool) : List α → Prop
 | [] => True
 | [x] => p x = false
 | _ :: y :: q => Trimmed p (y :: q)
theorem trimP_trimmed (l : List α) : Trimmed p (trimP p l) := by
 induction l with
 | nil => trivial
 | cons x r ih =>
  rw [trimP]
  cases e : trimP p r with
  | nil =>
   by_cases hx : p x = true
   ·simp [hx, Trimmed]
   ·simp [hx, Trimmed]
  | cons y q => rw [e] at ih; exact ih
theorem trimmed_tail {x : α} {r : List α} (h : Trimmed p (x :: r)) : Trimmed p r := by
 cases r with
 | nil => trivial
 | cons y q => exact h
theorem trimmed_some (hz : p z = true) : ∀ {l : List α}, Trimmed p l → l ≠ [] → ∃ i : Nat, l[i]?.getD z ≠ z
 | [], _, h => absurd rfl h
 | [x], h, _ => ⟨0, fun e => by
   have h1 : p x = false := h
   have e1 : x = z := e
   rw [e1, hz] at h1
   cases h1⟩
 | x :: y :: q, h, _ => by
  obtain ⟨i, hi⟩ := trimmed_some hz (l := y :: q) h (by simp)
  exact ⟨i + 1, by simpa using hi⟩
theorem trimmed_ext (hz : p z = true) : ∀ {l l' : List α}, Trimmed p l → Trimmed p l' → (∀ i : Nat, l[i]?.getD z = l'[i]?.getD z) → l = l'
 | [], [], _, _, _ => rfl
 | [], y :: q, _, h', he => by
  obtain ⟨i, hi⟩ := trimmed_some hz h' (by simp)
  exact absurd ((he i).symm.trans (by simp)) hi
 | x :: r, [], h, _, he => by
  obtain ⟨i, hi⟩ := trimmed_some hz h (by simp)
  exact absurd ((he i).trans (by simp)) hi
 | x :: r, y :: q, h, h', he => by
  have h0 : x = y := by simpa using he 0
  rw [h0, trimmed_ext hz (trimmed_tail h) (trimmed_tail h') (fun i => by simpa using he (i + 1))]
theorem trimP_ext (hz : p z = true) {l l' : List α} (hl : ∀ x ∈ l, p x = true → x = z) (hl' : ∀ x ∈ l', p x = true → x = z) : trimP p l = trimP p l' ↔ ∀ i : Nat, l[i]?.getD z = l'[i]?.getD z := by
 constructor
 ·intro h i
  rw [← trimP_get l hl i, h, trimP_get l' hl' i]
 ·intro h
  exact trimmed_ext hz (trimP_trimmed l) (trimP_trimmed l') fun i => by rw [trimP_get l hl i, trimP_get l' hl' i, h i]
end trim
theorem norm_kind (t : T) : (norm t).kind = t.kind := by
 obtain ⟨k, ws, ks⟩ := t
 unfold norm
 split
 ·rename_i h; exact h.symm
 ·split
  ·rename_i h; exact h.symm
  ·rfl
theorem norm_zero (t : T) (h : t.kind = 0) : norm t = nilT := by
 obtain ⟨k, ws, ks⟩ := t
 have h : k = 0 := h
 unfold norm
 rw [if_pos h]
theorem normL_map (l : List T) : normL l = l.map norm := by
 induction l with
 | nil => rfl
 | cons t r ih => rw [normL, ih, List.map_cons]
theorem norm_struct (ws : List Int) (ks : List T) : norm (.node 1 ws ks) = .node 1 (trimW ws) (trimK (ks.map norm)) := by
 unfold norm
 rw [if_neg (by decide), if_pos rfl, normL_map]
theorem norm_list (k : Int) (ws : List Int) (ks : List T) (h0 : k ≠ 0) (h1 : k ≠ 1) : norm (.node k ws ks) = .node k ws (ks.map norm) := by
 unfold norm
 rw [if_neg h0, if_neg h1, normL_map]
theorem kid_get (t : T) (i : Nat) : norm (kidT t i) = ((t.ks.map norm)[i]?).getD nilT := by
 unfold kidT
 rw [if_pos (Int.natCast_nonneg i), Int.toNat_natCast, List.getElem?_map]
 cases t.ks[i]? with
 | none => rfl
 | some x => rfl
theorem word_get (t : T) (i : Nat) : wordT t i = (t.ws[i]?).getD 0 := by
 unfold wordT
 rw [if_pos (Int.natCast_nonneg i), Int.toNat_natCast, List.getD_eq_getElem?_getD]
theorem norm_struct_iff {t u : T} (ht : t.kind = 1) (hu : u.kind = 1) : norm t = norm u ↔ (∀ i : Nat, wordT t i = wordT u i) ∧ (∀ i : Nat, norm (kidT t i) = norm (kidT u i)) := by
 have hw : trimW t.ws = trimW u.ws ↔ ∀ i : Nat, wordT t i = wordT u i := by
  rw [trimW_P, trimW_P, trimP_ext (z := (0 : Int)) (by rfl) (fun x _ h => by simpa using h) (fun x _ h => by simpa using h)]
  simp only [word_get]
 have hz : ∀ l : List T, ∀ x ∈ l.map norm, (fun t : T => t.kind == 0) x = true → x = nilT := by
  intro l x hx h
  obtain ⟨y, _, rfl⟩ := List.mem_map.1 hx
  have h : (norm y).kind = 0 := by simpa using h
  rw [norm_kind] at h
  exact norm_zero y h
 have hk : trimK (t.ks.map norm) = trimK (u.ks.map norm) ↔ ∀ i : Nat, norm (kidT t i) = norm (kidT u i) := by
  rw [trimK_P, trimK_P, trimP_ext (z := nilT) (by rfl) (hz _) (hz _)]
  simp only [kid_get]
 obtain ⟨k, ws, ks⟩ := t
 obtain ⟨k', ws', ks'⟩ := u
 have ht : k = 1 := ht
 have hu : k' = 1 := hu
 subst ht hu
 rw [norm_struct, norm_struct, ← hw, ← hk]
 simp [T.ws, T.ks]
theorem norm_kind_eq {t u : T} (h : norm t = norm u) : t.kind = u.kind := by rw [← norm_kind t, h, norm_kind]
def inW (x : Int) : Prop := 0 ≤ x ∧ x ≤ 18446744073709551615
def bitW (x : Int) (k : Nat) : Bool := x.toNat.testBit k
def mbit (m : Int) (k : Nat) : Bool := m.toNat.testBit (k / 8)
theorem inW_ext {x y : Int} (hx : inW x) (hy : inW y) (h : ∀ k, k < 64 → bitW x k = bitW y k) : x = y := by
 have h1 : x.toNat = y.toNat := Nat.eq_of_testBit_eq fun k => by
  by_cases hk : k < 64
  ·exact h k hk
  ·have e1 : x.toNat < 2 ^ k := Nat.lt_of_lt_of_le (show x.toNat < 2 ^ 64 by have := hx.2; omega) (Nat.pow_le_pow_right (by decide) (by omega))
   have e2 : y.toNat < 2 ^ k := Nat.lt_of_lt_of_le (show y.toNat < 2 ^ 64 by have := hy.2; omega) (Nat.pow_le_pow_right (by decide) (by omega))
   rw [Nat.testBit_lt_two_pow e1, Nat.testBit_lt_two_pow e2]
 have := hx.1
 have := hy.1
 omega
def ofBits (f : Nat → Bool) : Nat → Nat
 | 0 => 0
 | n + 1 => ofBits f n + (if f n then 2 ^ n else 0)
theorem ofBits_lt (f : Nat → Bool) (n : Nat) : ofBits f n < 2 ^ n := by
 induction n with
 | zero => simp [ofBits]
 | succ n ih =>
  rw [ofBits, Nat.pow_succ]
  split <;> omega
theorem ofBits_bit (f : Nat → Bool) (n k : Nat) : (ofBits f n).testBit k = (decide (k < n) && f k) := by
 induction n with
 | zero => simp [ofBits]
 | succ n ih =>
  rw [ofBits]
  have hlt := ofBits_lt f n
  by_cases hf : f n = true
  ·rw [if_pos hf, Nat.add_comm]
   by_cases hk : k = n
   ·subst hk
    rw [Nat.testBit_two_pow_add_eq, Nat.testBit_lt_two_pow hlt]
    simp [hf]
   ·by_cases hkn : k < n
    ·rw [Nat.testBit_two_pow_add_gt hkn, ih]
     simp [hkn, Nat.lt_succ_of_lt hkn]
    ·have h2 : 2 ^ n + ofBits f n < 2 ^ k := by
      have : 2 ^ (n + 1) ≤ 2 ^ k := Nat.pow_le_pow_right (by decide) (by omega)
      rw [Nat.pow_succ] at this
      omega
     rw [Nat.testBit_lt_two_pow h2]
     simp
     intro h3
     omega
  ·rw [if_neg hf, Nat.add_zero, ih]
   by_cases hk : k = n
   ·subst hk; simp [hf]
   ·have : decide (k < n + 1) = decide (k < n) := by simp; omega
    rw [this]
def mixT (a b m : Int) : Int := ((ofBits (fun k => if mbit m k then bitW b k else bitW a k) 64 : Nat) : Int)
theorem mixT_in (a b m : Int) : inW (mixT a b m) := by
 unfold mixT inW
 have := ofBits_lt (fun k => if mbit m k then bitW b k else bitW a k) 64
 omega
theorem mixT_bit (a b m : Int) (k : Nat) (h : k < 64) : bitW (mixT a b m) k = if mbit m k then bitW b k else bitW a k := by
 unfold mixT
 rw [bitW, Int.toNat_natCast, ofBits_bit]
 simp [h]
def mAnd (a b : Int) : Int := ((a.toNat &&& b.toNat : Nat) : Int)
def mOr (a b : Int) : Int := ((a.toNat ||| b.toNat : Nat) : Int)
theorem mAnd_bit (a b : Int) (k : Nat) : mbit (mAnd a b) k = (mbit a k && mbit b k) := by
 unfold mbit mAnd
 rw [Int.toNat_natCast, Nat.testBit_and]
theorem mOr_bit (a b : Int) (k : Nat) : mbit (mOr a b) k = (mbit a k || mbit b k) := by
 unfold mbit mOr
 rw [Int.toNat_natCast, Nat.testBit_or]
theorem bitW_zero (k : Nat) : bitW 0 k = false := by simp [bitW]
theorem mix_eq {a b m x : Int} (hx : inW x) : mixT a b m = x ↔ ∀ k, k < 64 → (if mbit m k then bitW b k else bitW a k) = bitW x k :=
 ⟨fun h k hk => by rw [← h, mixT_bit a b m k hk], fun h => inW_ext (mixT_in _ _ _) hx fun k hk => by rw [mixT_bit a b m k hk, h k hk]⟩
structure WE where
 at_ : Int
 mask : Int
 old : Int
 new : Int
def WE.ok (w : WE) : Prop := inW w.old ∧ inW w.new ∧ mixT w.old 0 w.mask = 0 ∧ mixT w.new 0 w.mask = 0
def WE.Sem (w : WE) (x y : Int) : Prop := inW x ∧ inW y ∧ mixT 0 x w.mask = w.old ∧ mixT x w.new w.mask = y
def WE.turned (w : WE) : WE := ⟨w.at_, w.mask, w.new, w.old⟩
theorem zero_in : inW 0 := by unfold inW; omega
theorem WE.sem_iff {w : WE} (h : w.ok) (x y : Int) : w.Sem x y ↔ inW x ∧ inW y ∧ ∀ k, k < 64 → (mbit w.mask k = true → bitW x k = bitW w.old k ∧ bitW y k = bitW w.new k) ∧ (mbit w.mask k = false → bitW x k = bitW y k) := by
 have o := (mix_eq zero_in).1 h.2.2.1
 unfold WE.Sem
 constructor
 ·rintro ⟨hx, hy, h1, h2⟩
  refine ⟨hx, hy, fun k hk => ?_⟩
  have h1 := (mix_eq h.1).1 h1 k hk
  have h2 := (mix_eq hy).1 h2 k hk
  constructor
  ·intro hm
   rw [hm] at h1 h2
   exact ⟨h1, h2.symm⟩
  ·intro hm
   rw [hm] at h1 h2
   exact h2
 ·rintro ⟨hx, hy, hh⟩
  refine ⟨hx, hy, (mix_eq h.1).2 fun k hk => ?_, (mix_eq hy).2 fun k hk => ?_⟩
  ·have h3 := o k hk
   cases hm : mbit w.mask k with
   | true => exact ((hh k hk).1 hm).1
   | false =>
    rw [hm] at h3
    rw [bitW_zero]
    simpa [bitW_zero] using h3.symm
  ·cases hm : mbit w.mask k with
   | true => exact ((hh k hk).1 hm).2.symm
   | false => exact (hh k hk).2 hm
theorem WE.turned_ok {w : WE} (h : w.ok) : w.turned.ok := ⟨h.2.1, h.1, h.2.2.2, h.2.2.1⟩
theorem WE.turned_sem {w : WE} (h : w.ok) (x y : Int) : w.turned.Sem y x ↔ w.Sem x y := by
 rw [WE.sem_iff h, WE.sem_iff (WE.turned_ok h)]
 constructor
 ·rintro ⟨h1, h2, h3⟩; exact ⟨h2, h1, fun k hk => ⟨fun hm => ((h3 k hk).1 hm).symm, fun hm => ((h3 k hk).2 hm).symm⟩⟩
 ·rintro ⟨h1, h2, h3⟩; exact ⟨h2, h1, fun k hk => ⟨fun hm => ((h3 k hk).1 hm).symm, fun hm => ((h3 k hk).2 hm).symm⟩⟩
def WE.comp (p q : WE) : Option WE :=
 if mixT 0 p.new (mAnd p.mask q.mask) = mixT 0 q.old (mAnd p.mask q.mask) then some ⟨p.at_, mOr p.mask q.mask, mixT q.old p.old p.mask, mixT p.new q.new q.mask⟩ else none
theorem WE.comp_ok {p q h : WE} (hp : p.ok) (hq : q.ok) (e : WE.comp p q = some h) : h.ok := by
 unfold WE.comp at e
 split at e
 ·injection e with e
  subst e
  have o1 := (mix_eq zero_in).1 hp.2.2.1
  have o2 := (mix_eq zero_in).1 hp.2.2.2
  have o3 := (mix_eq zero_in).1 hq.2.2.1
  have o4 := (mix_eq zero_in).1 hq.2.2.2
  refine ⟨mixT_in _ _ _, mixT_in _ _ _, (mix_eq zero_in).2 fun k hk => ?_, (mix_eq zero_in).2 fun k hk => ?_⟩
  ·have a := o1 k hk
   have b := o3 k hk
   rw [mOr_bit, mixT_bit _ _ _ _ hk]
   cases h1 : mbit p.mask k <;> cases h2 : mbit q.mask k <;> simp_all [bitW_zero]
  ·have a := o2 k hk
   have b := o4 k hk
   rw [mOr_bit, mixT_bit _ _ _ _ hk]
   cases h1 : mbit p.mask k <;> cases h2 : mbit q.mask k <;> simp_all [bitW_zero]
 ·cases e
theorem WE.comp_some {p q h : WE} (hp : p.ok) (hq : q.ok) (e : WE.comp p q = some h) (x z : Int) : h.Sem x z ↔ ∃ y, p.Sem x y ∧ q.Sem y z := by
 have hh := WE.comp_ok hp hq e
 unfold WE.comp at e
 split at e
 ·rename_i hc
  injection e with e
  subst e
  have hc := (mix_eq (mixT_in _ _ _)).1 hc
  rw [WE.sem_iff hh]
  constructor
  ·rintro ⟨hx, hz, h3⟩
   refine ⟨mixT x p.new p.mask, (WE.sem_iff hp _ _).2 ⟨hx, mixT_in _ _ _, fun k hk => ?_⟩, (WE.sem_iff hq _ _).2 ⟨mixT_in _ _ _, hz, fun k hk => ?_⟩⟩
   ·have a := h3 k hk
    simp only [mOr_bit, mixT_bit _ _ _ _ hk] at a
    rw [mixT_bit _ _ _ _ hk]
    cases h1 : mbit p.mask k <;> cases h2 : mbit q.mask k <;> simp_all
   ·have a := h3 k hk
    have b := hc k hk
    simp only [mOr_bit, mixT_bit _ _ _ _ hk] at a
    rw [mixT_bit _ _ _ _ hk, mAnd_bit] at b
    rw [mixT_bit _ _ _ _ hk]
    cases h1 : mbit p.mask k <;> cases h2 : mbit q.mask k <;> simp_all
  ·rintro ⟨y, h1, h2⟩
   have h1 := (WE.sem_iff hp _ _).1 h1
   have h2 := (WE.sem_iff hq _ _).1 h2
   refine ⟨h1.1, h2.2.1, fun k hk => ?_⟩
   have a := h1.2.2 k hk
   have b := h2.2.2 k hk
   simp only [mOr_bit, mixT_bit _ _ _ _ hk]
   cases h1 : mbit p.mask k <;> cases h2 : mbit q.mask k <;> simp_all
 ·cases e
theorem WE.comp_none {p q : WE} (hp : p.ok) (hq : q.ok) (e : WE.comp p q = none) (x y z : Int) (h1 : p.Sem x y) (h2 : q.Sem y z) : False := by
 unfold WE.comp at e
 split at e
 ·cases e
 ·rename_i hc
  have h1 := (WE.sem_iff hp _ _).1 h1
  have h2 := (WE.sem_iff hq _ _).1 h2
  refine hc ((mix_eq (mixT_in _ _ _)).2 fun k hk => ?_)
  have a := h1.2.2 k hk
  have b := h2.2.2 k hk
  rw [mixT_bit _ _ _ _ hk, mAnd_bit]
  cases h1 : mbit p.mask k <;> cases h2 : mbit q.mask k <;> simp_all
theorem WE.some_sem {w : WE} (h : w.ok) : ∃ x y, w.Sem x y := by
 refine ⟨w.old, w.new, (WE.sem_iff h _ _).2 ⟨h.1, h.2.1, fun k hk => ⟨fun _ => ⟨rfl, rfl⟩, fun hm => ?_⟩⟩⟩
 have a := (mix_eq zero_in).1 h.2.2.1 k hk
 have b := (mix_eq zero_in).1 h.2.2.2 k hk
 simp_all [bitW_zero]
theorem WE.det {w : WE} {x y y' : Int} (h : w.Sem x y) (h' : w.Sem x y') : y = y' := h.2.2.2.symm.trans h'.2.2.2
mutual
inductive Ed where
 | mk (kind : Int) (old new : T) (ws : List WE) (ks : List KEd) (lk : Int) (ops : List Opn)
inductive KEd where
 | mk (at_ : Int) (e : Ed)
inductive Opn where
 | mk (kind n : Int) (l : List T) (e : Ed)
end
def Ed.kind : Ed → Int | .mk kind _ _ _ _ _ _ => kind
def KEd.at_ : KEd → Int | .mk a _ => a
def KEd.e : KEd → Ed | .mk _ e => e
mutual
def okT : T → Prop
 | .node k ws ks => 0 ≤ k ∧ k ≤ 10 ∧ (∀ x ∈ ws, inW x) ∧ (k ≠ 1 → k ≠ 10 → ws = []) ∧ (k = 10 → ws.length = 1) ∧ (k = 0 → ks = []) ∧ (k = 10 → ks = []) ∧ (k = 1 → ∀ x ∈ ks, x.kind ≠ 10) ∧ (2 ≤ k → k ≤ 7 → ∀ x ∈ ks, x.kind = 10) ∧ (k = 8 → ∀ x ∈ ks, x.kind ≠ 10) ∧ (k = 9 → ∀ x ∈ ks, x.kind = 1) ∧ okTL ks
def okTL : List T → Prop
 | [] => True
 | t :: r => okT t ∧ okTL r
end
theorem okTL_iff (l : List T) : okTL l ↔ ∀ x ∈ l, okT x := by
 induction l with
 | nil => simp [okTL]
 | cons t r ih => simp [okTL, ih]
def alike (a b : List T) : Prop := a.map norm = b.map norm
def upd {α : Type} (f : Int → α) (a : Int) (z : α) : Int → α := fun i => if i = a then z else f i
def SemW : List WE → (Int → Int) → (Int → Int) → Prop
 | [], f, g => ∀ i : Nat, f i = g i
 | w :: r, f, g => w.Sem (f w.at_) (g w.at_) ∧ SemW r (upd f w.at_ 0) (upd g w.at_ 0)
mutual
def Sem : Ed → T → T → Prop
 | .mk kind old new ws ks lk ops, t, u =>
  (kind = 0 ∧ norm t = norm u) ∨
  (kind = 1 ∧ norm t = norm old ∧ norm u = norm new) ∨
  (kind = 2 ∧ t.kind = 1 ∧ u.kind = 1 ∧ SemW ws (wordT t) (wordT u) ∧ SemK ks (kidT t) (kidT u)) ∨
  (kind = 3 ∧ t.kind = lk ∧ u.kind = lk ∧ t.ws = [] ∧ u.ws = [] ∧ (lk = 9 → (∀ x ∈ t.ks, x.kind = 1) ∧ ∀ x ∈ u.ks, x.kind = 1) ∧ SemO ops t.ks u.ks)
def SemK : List KEd → (Int → T) → (Int → T) → Prop
 | [], f, g => ∀ i : Nat, norm (f i) = norm (g i)
 | .mk a e :: r, f, g => Sem e (f a) (g a) ∧ SemK r (upd f a nilT) (upd g a nilT)
def SemO : List Opn → List T → List T → Prop
 | [], a, b => a = [] ∧ b = []
 | .mk kind n l e :: r, a, b => ∃ a1 a2 b1 b2, a = a1 ++ a2 ∧ b = b1 ++ b2 ∧
   ((kind = 0 ∧ a1.length = n.toNat ∧ alike a1 b1) ∨ (kind = 1 ∧ alike a1 l ∧ b1 = []) ∨ (kind = 2 ∧ a1 = [] ∧ alike l b1) ∨ (kind = 3 ∧ ∃ x y, a1 = [x] ∧ b1 = [y] ∧ Sem e x y)) ∧ SemO r a2 b2
end
mutual
def okE : Ed → Prop
 | .mk kind old new ws ks lk ops => 0 ≤ kind ∧ kind ≤ 3 ∧ (kind = 1 → okT old ∧ okT new ∧ old.kind ≠ 10 ∧ new.kind ≠ 10) ∧ (kind = 2 → (∀ w ∈ ws, w.ok) ∧ okWs (-1) ws ∧ okKs (-1) ks) ∧ (kind = 3 → 2 ≤ lk ∧ lk ≤ 9 ∧ okOs lk ops)
def okWs : Int → List WE → Prop
 | _, [] => True
 | a, w :: r => a < w.at_ ∧ okWs w.at_ r
def okKs : Int → List KEd → Prop
 | _, [] => True
 | a, .mk b e :: r => a < b ∧ e.kind ≠ 0 ∧ okE e ∧ okKs b r
def okOs : Int → List Opn → Prop
 | _, [] => True
 | lk, .mk kind n l e :: r => 0 ≤ kind ∧ kind ≤ 3 ∧ (kind = 0 → 1 ≤ n) ∧ (kind = 1 ∨ kind = 2 → okT (.node lk [] l)) ∧
   (kind = 3 → e.kind ≠ 0 ∧ 8 ≤ lk ∧ okE e ∧ (lk = 9 → e.kind = 2 ∨ (e.kind = 1 ∧ ∀ old new ws ks k o, e = .mk 1 old new ws ks k o → old.kind = 1 ∧ new.kind = 1))) ∧ okOs lk r
end
theorem alike_len {a b : List T} (h : alike a b) : a.length = b.length := by
 have := congrArg List.length h
 simpa using this
theorem alike_split {a1 a2 c : List T} (h : alike (a1 ++ a2) c) : ∃ c1 c2, c = c1 ++ c2 ∧ alike a1 c1 ∧ alike a2 c2 := by
 refine ⟨c.take a1.length, c.drop a1.length, (List.take_append_drop _ _).symm, ?_, ?_⟩
 ·unfold alike at *
  rw [List.map_take, ← h, List.map_append, ← List.length_map (f := norm), List.take_left]
 ·unfold alike at *
  rw [List.map_drop, ← h, List.map_append, ← List.length_map (f := norm), List.drop_left]
theorem alike_one {x : T} {c : List T} (h : alike [x] c) : ∃ y, c = [y] ∧ norm x = norm y := by
 unfold alike at h
 match c, h with
 | [], h => simp at h
 | [y], h => simp at h; exact ⟨y, rfl, h⟩
 | _ :: _ :: _, h => simp at h
theorem alike_nil {c : List T} (h : alike [] c) : c = [] := by
 unfold alike at h
 simpa using h.symm
theorem list_parts {t t' : T} (h : norm t = norm t') (h0 : t.kind ≠ 0) (h1 : t.kind ≠ 1) : t.kind = t'.kind ∧ t.ws = t'.ws ∧ alike t.ks t'.ks := by
 have hk := norm_kind_eq h
 obtain ⟨k, ws, ks⟩ := t
 obtain ⟨k', ws', ks'⟩ := t'
 have hk : k = k' := hk
 subst hk
 rw [norm_list k ws ks h0 h1, norm_list k ws' ks' h0 h1] at h
 injection h with _ h2 h3
 exact ⟨rfl, h2, h3⟩
theorem SemW_congr : ∀ {l : List WE} {a : Int} {f g f' g' : Int → Int}, okWs a l → -1 ≤ a → (∀ i : Nat, f i = f' i) → (∀ i : Nat, g i = g' i) → SemW l f g → SemW l f' g'
 | [], _, f, g, f', g', _, _, hf, hg, h => fun i => by rw [← hf, ← hg]; exact h i
 | w :: r, a, f, g, f', g', ho, ha, hf, hg, h => by
  obtain ⟨n, hn⟩ := Int.eq_ofNat_of_zero_le (show 0 ≤ w.at_ by have := ho.1; omega)
  refine ⟨?_, SemW_congr (l := r) ho.2 (by have := ho.1; omega) (fun i => ?_) (fun i => ?_) h.2⟩
  ·have := h.1
   rw [hn, hf n, hg n] at this
   rw [hn]
   exact this
  ·unfold upd; split
   ·rfl
   ·exact hf i
  ·unfold upd; split
   ·rfl
   ·exact hg i
mutual
theorem Sem_congr : ∀ {e : Ed} {t u t' u' : T}, okE e → norm t = norm t' → norm u = norm u' → Sem e t u → Sem e t' u'
 | .mk kind old new ws ks lk ops, t, u, t', u', ho, ht, hu, h => by
  rw [Sem] at h ⊢
  rw [okE] at ho
  rcases h with ⟨h0, h1⟩ | ⟨h0, h1, h2⟩ | ⟨h0, h1, h2, h3, h4⟩ | ⟨h0, h1, h2, h3, h4, h5, h6⟩
  ·exact .inl ⟨h0, by rw [← ht, h1, hu]⟩
  ·exact .inr (.inl ⟨h0, by rw [← ht, h1], by rw [← hu, h2]⟩)
  ·have hkt := norm_kind_eq ht
   have hku := norm_kind_eq hu
   have st := (norm_struct_iff h1 (hkt ▸ h1)).1 ht
   have su := (norm_struct_iff h2 (hku ▸ h2)).1 hu
   have o2 := ho.2.2.2.1 h0
   exact .inr (.inr (.inl ⟨h0, hkt ▸ h1, hku ▸ h2, SemW_congr o2.2.1 (by decide) st.1 su.1 h3, SemK_congr o2.2.2 (by decide) st.2 su.2 h4⟩))
  ·have o3 := ho.2.2.2.2 h0
   obtain ⟨k1, k2, k3⟩ := list_parts ht (by omega) (by omega)
   obtain ⟨k4, k5, k6⟩ := list_parts hu (by omega) (by omega)
   refine .inr (.inr (.inr ⟨h0, k1 ▸ h1, k4 ▸ h2, k2 ▸ h3, k5 ▸ h4, fun h9 => ⟨fun x hx => ?_, fun x hx => ?_⟩, SemO_congr o3.2.2 k3 k6 h6⟩))
   ·have hm : norm x ∈ t.ks.map norm := by rw [show t.ks.map norm = t'.ks.map norm from k3]; exact List.mem_map_of_mem hx
    obtain ⟨y, hy, e⟩ := List.mem_map.1 hm
    rw [← norm_kind x, ← e, norm_kind]
    exact (h5 h9).1 y hy
   ·have hm : norm x ∈ u.ks.map norm := by rw [show u.ks.map norm = u'.ks.map norm from k6]; exact List.mem_map_of_mem hx
    obtain ⟨y, hy, e⟩ := List.mem_map.1 hm
    rw [← norm_kind x, ← e, norm_kind]
    exact (h5 h9).2 y hy
theorem SemK_congr : ∀ {l : List KEd} {a : Int} {f g f' g' : Int → T}, okKs a l → -1 ≤ a → (∀ i : Nat, norm (f i) = norm (f' i)) → (∀ i : Nat, norm (g i) = norm (g' i)) → SemK l f g → SemK l f' g'
 | [], _, f, g, f', g', _, _, hf, hg, h => by
  rw [SemK] at h ⊢
  intro i
  rw [← hf, ← hg]; exact h i
 | .mk b e :: r, a, f, g, f', g', ho, ha, hf, hg, h => by
  rw [SemK] at h ⊢
  rw [okKs] at ho
  obtain ⟨n, hn⟩ := Int.eq_ofNat_of_zero_le (show 0 ≤ b by have := ho.1; omega)
  refine ⟨Sem_congr ho.2.2.1 (by rw [hn]; exact hf n) (by rw [hn]; exact hg n) h.1, SemK_congr (l := r) ho.2.2.2 (by have := ho.1; omega) (fun i => ?_) (fun i => ?_) h.2⟩
  ·unfold upd; split
   ·rfl
   ·exact hf i
  ·unfold upd; split
   ·rfl
   ·exact hg i
theorem SemO_congr : ∀ {l : List Opn} {lk : Int} {a b a' b' : List T}, okOs lk l → alike a a' → alike b b' → SemO l a b → SemO l a' b'
 | [], _, a, b, a', b', _, ha, hb, h => by
  rw [SemO] at h ⊢
  obtain ⟨rfl, rfl⟩ := h
  exact ⟨alike_nil ha, alike_nil hb⟩
 | .mk kind n l e :: r, lk, a, b, a', b', ho, ha, hb, h => by
  rw [SemO] at h ⊢
  rw [okOs] at ho
  obtain ⟨a1, a2, b1, b2, rfl, rfl, hs, hr⟩ := h
  obtain ⟨c1, c2, rfl, e1, e2⟩ := alike_split ha
  obtain ⟨d1, d2, rfl, e3, e4⟩ := alike_split hb
  refine ⟨c1, c2, d1, d2, rfl, rfl, ?_, SemO_congr (l := r) ho.2.2.2.2.2 e2 e4 hr⟩
  rcases hs with ⟨h0, h1, h2⟩ | ⟨h0, h1, h2⟩ | ⟨h0, h1, h2⟩ | ⟨h0, x, y, h1, h2, h3⟩
  ·exact .inl ⟨h0, by rw [← alike_len e1, h1], e1.symm.trans (h2.trans e3)⟩
  ·subst h2
   exact .inr (.inl ⟨h0, e1.symm.trans h1, alike_nil e3⟩)
  ·subst h1
   exact .inr (.inr (.inl ⟨h0, alike_nil e1, h2.trans e3⟩))
  ·subst h1 h2
   obtain ⟨x', rfl, hx⟩ := alike_one e1
   obtain ⟨y', rfl, hy⟩ := alike_one e3
   exact .inr (.inr (.inr ⟨h0, x', y', rfl, rfl, Sem_congr (ho.2.2.2.2.1 h0).2.2.1 hx hy h3⟩))
end
theorem append_len {α : Type} {a1 a2 b1 b2 : List α} (h : a1 ++ a2 = b1 ++ b2) (hl : a1.length = b1.length) : a1 = b1 ∧ a2 = b2 := List.append_inj h hl
theorem alike_app {a1 a2 b1 b2 : List T} (h : alike a1 b1) (h' : alike a2 b2) : alike (a1 ++ a2) (b1 ++ b2) := by
 unfold alike at *
 rw [List.map_append, List.map_append, h, h']
theorem SemW_det : ∀ {l : List WE} {a : Int} {f g g' : Int → Int}, okWs a l → -1 ≤ a → SemW l f g → SemW l f g' → ∀ i : Nat, g i = g' i
 | [], _, f, g, g', _, _, h, h', i => (h i).symm.trans (h' i)
 | w :: r, a, f, g, g', ho, ha, h, h', i => by
  have ih := SemW_det (l := r) ho.2 (by have := ho.1; omega) h.2 h'.2 i
  unfold upd at ih
  by_cases hi : (i : Int) = w.at_
  ·rw [hi]; exact WE.det h.1 h'.1
  ·rw [if_neg hi, if_neg hi] at ih; exact ih
theorem norm_list_eq {t u : T} (hk : t.kind = u.kind) (h0 : t.kind ≠ 0) (h1 : t.kind ≠ 1) (hw : t.ws = u.ws) (ha : alike t.ks u.ks) : norm t = norm u := by
 obtain ⟨k, ws, ks⟩ := t
 obtain ⟨k', ws', ks'⟩ := u
 have hk : k = k' := hk
 subst hk
 have hw : ws = ws' := hw
 subst hw
 rw [norm_list k ws ks h0 h1, norm_list k ws ks' h0 h1]
 have ha : ks.map norm = ks'.map norm := ha
 rw [ha]
mutual
theorem Sem_det : ∀ {e : Ed} {t u u' : T}, okE e → Sem e t u → Sem e t u' → norm u = norm u'
 | .mk kind old new ws ks lk ops, t, u, u', ho, h, h' => by
  rw [Sem] at h h'
  rw [okE] at ho
  rcases h with ⟨h0, h1⟩ | ⟨h0, h1, h2⟩ | ⟨h0, h1, h2, h3, h4⟩ | ⟨h0, h1, h2, h3, h4, h5, h6⟩ <;> rcases h' with ⟨g0, g1⟩ | ⟨g0, g1, g2⟩ | ⟨g0, g1, g2, g3, g4⟩ | ⟨g0, g1, g2, g3, g4, g5, g6⟩ <;> (first | (exfalso; omega) | skip)
  ·exact h1.symm.trans g1
  ·exact h2.trans g2.symm
  ·have o2 := ho.2.2.2.1 h0
   exact (norm_struct_iff h2 g2).2 ⟨SemW_det o2.2.1 (by decide) h3 g3, SemK_det o2.2.2 (by decide) h4 g4⟩
  ·have o3 := ho.2.2.2.2 h0
   exact norm_list_eq (h2.trans g2.symm) (by omega) (by omega) (h4.trans g4.symm) (SemO_det o3.2.2 h6 g6)
theorem SemK_det : ∀ {l : List KEd} {a : Int} {f g g' : Int → T}, okKs a l → -1 ≤ a → SemK l f g → SemK l f g' → ∀ i : Nat, norm (g i) = norm (g' i)
 | [], _, f, g, g', _, _, h, h', i => by
  rw [SemK] at h h'
  exact (h i).symm.trans (h' i)
 | .mk b e :: r, a, f, g, g', ho, ha, h, h', i => by
  rw [SemK] at h h'
  rw [okKs] at ho
  have ih := SemK_det (l := r) ho.2.2.2 (by have := ho.1; omega) h.2 h'.2 i
  unfold upd at ih
  by_cases hi : (i : Int) = b
  ·rw [hi]; exact Sem_det ho.2.2.1 h.1 h'.1
  ·rw [if_neg hi, if_neg hi] at ih; exact ih
theorem SemO_det : ∀ {l : List Opn} {lk : Int} {a b b' : List T}, okOs lk l → SemO l a b → SemO l a b' → alike b b'
 | [], _, a, b, b', _, h, h' => by
  rw [SemO] at h h'
  rw [h.2, h'.2]
  rfl
 | .mk kind n l e :: r, lk, a, b, b', ho, h, h' => by
  rw [SemO] at h h'
  rw [okOs] at ho
  obtain ⟨a1, a2, b1, b2, rfl, rfl, hs, hr⟩ := h
  obtain ⟨c1, c2, d1, d2, hac, rfl, hs', hr'⟩ := h'
  rcases hs with ⟨h0, h1, h2⟩ | ⟨h0, h1, h2⟩ | ⟨h0, h1, h2⟩ | ⟨h0, x, y, h1, h2, h3⟩ <;> rcases hs' with ⟨g0, g1, g2⟩ | ⟨g0, g1, g2⟩ | ⟨g0, g1, g2⟩ | ⟨g0, x', y', g1, g2, g3⟩ <;> (first | (exfalso; omega) | skip)
  ·obtain ⟨rfl, rfl⟩ := append_len hac (h1.trans g1.symm)
   exact alike_app (h2.symm.trans g2) (SemO_det (l := r) ho.2.2.2.2.2 hr hr')
  ·obtain ⟨rfl, rfl⟩ := append_len hac ((alike_len h1).trans (alike_len g1).symm)
   subst h2 g2
   exact SemO_det (l := r) ho.2.2.2.2.2 hr hr'
  ·obtain ⟨rfl, rfl⟩ := append_len hac (by rw [h1, g1])
   exact alike_app (h2.symm.trans g2) (SemO_det (l := r) ho.2.2.2.2.2 hr hr')
  ·obtain ⟨rfl, rfl⟩ := append_len hac (by rw [h1, g1]; rfl)
   subst h1 h2 g2
   injection g1 with g1
   subst g1
   exact alike_app (by unfold alike; rw [List.map_cons, List.map_cons, Sem_det (ho.2.2.2.2.1 h0).2.2.1 h3 g3]) (SemO_det (l := r) ho.2.2.2.2.2 hr hr')
end
mutual
def turned : Ed → Ed
 | .mk kind old new ws ks lk ops => .mk kind new old (ws.map WE.turned) (turnedK ks) lk (turnedO ops)
def turnedK : List KEd → List KEd
 | [] => []
 | .mk a e :: r => .mk a (turned e) :: turnedK r
def turnedO : List Opn → List Opn
 | [] => []
 | .mk kind n l e :: r => (if kind = 1 then .mk 2 n l e else if kind = 2 then .mk 1 n l e else if kind = 3 then .mk kind n l (turned e) else .mk kind n l e) :: turnedO r
end
theorem turned_kind (e : Ed) : (turned e).kind = e.kind := by
 obtain ⟨kind, old, new, ws, ks, lk, ops⟩ := e
 rfl
theorem SemW_turned : ∀ {l : List WE} {a : Int} {f g : Int → Int}, (∀ w ∈ l, w.ok) → okWs a l → (SemW (l.map WE.turned) g f ↔ SemW l f g)
 | [], _, f, g, _, _ => ⟨fun h i => (h i).symm, fun h i => (h i).symm⟩
 | w :: r, a, f, g, hk, ho => by
  rw [List.map_cons, SemW, SemW]
  rw [show (WE.turned w).at_ = w.at_ from rfl, WE.turned_sem (hk w (List.mem_cons_self ..)), SemW_turned (l := r) (fun v hv => hk v (List.mem_cons_of_mem _ hv)) ho.2]
mutual
theorem Sem_turned : ∀ {e : Ed} {t u : T}, okE e → (Sem (turned e) u t ↔ Sem e t u)
 | .mk kind old new ws ks lk ops, t, u, ho => by
  rw [turned, Sem, Sem]
  rw [okE] at ho
  constructor
  ·rintro (⟨h0, h1⟩ | ⟨h0, h1, h2⟩ | ⟨h0, h1, h2, h3, h4⟩ | ⟨h0, h1, h2, h3, h4, h5, h6⟩)
   ·exact .inl ⟨h0, h1.symm⟩
   ·exact .inr (.inl ⟨h0, h2, h1⟩)
   ·have o2 := ho.2.2.2.1 h0
    exact .inr (.inr (.inl ⟨h0, h2, h1, (SemW_turned o2.1 o2.2.1).1 h3, (SemK_turned o2.2.2).1 h4⟩))
   ·have o3 := ho.2.2.2.2 h0
    exact .inr (.inr (.inr ⟨h0, h2, h1, h4, h3, fun h9 => ⟨(h5 h9).2, (h5 h9).1⟩, (SemO_turned o3.2.2).1 h6⟩))
  ·rintro (⟨h0, h1⟩ | ⟨h0, h1, h2⟩ | ⟨h0, h1, h2, h3, h4⟩ | ⟨h0, h1, h2, h3, h4, h5, h6⟩)
   ·exact .inl ⟨h0, h1.symm⟩
   ·exact .inr (.inl ⟨h0, h2, h1⟩)
   ·have o2 := ho.2.2.2.1 h0
    exact .inr (.inr (.inl ⟨h0, h2, h1, (SemW_turned o2.1 o2.2.1).2 h3, (SemK_turned o2.2.2).2 h4⟩))
   ·have o3 := ho.2.2.2.2 h0
    exact .inr (.inr (.inr ⟨h0, h2, h1, h4, h3, fun h9 => ⟨(h5 h9).2, (h5 h9).1⟩, (SemO_turned o3.2.2).2 h6⟩))
theorem SemK_turned : ∀ {l : List KEd} {a : Int} {f g : Int → T}, okKs a l → (SemK (turnedK l) g f ↔ SemK l f g)
 | [], _, f, g, _ => by
  rw [turnedK, SemK, SemK]
  exact ⟨fun h i => (h i).symm, fun h i => (h i).symm⟩
 | .mk b e :: r, a, f, g, ho => by
  rw [turnedK, SemK, SemK]
  rw [okKs] at ho
  rw [Sem_turned ho.2.2.1, SemK_turned (l := r) ho.2.2.2]
theorem SemO_turned : ∀ {l : List Opn} {lk : Int} {a b : List T}, okOs lk l → (SemO (turnedO l) b a ↔ SemO l a b)
 | [], _, a, b, _ => by
  rw [turnedO, SemO, SemO]
  exact ⟨fun h => ⟨h.2, h.1⟩, fun h => ⟨h.2, h.1⟩⟩
 | .mk kind n l e :: r, lk, a, b, ho => by
  rw [turnedO]
  rw [okOs] at ho
  have ihr := fun a b => SemO_turned (l := r) (a := a) (b := b) ho.2.2.2.2.2
  by_cases k1 : kind = 1
  ·rw [if_pos k1, SemO, SemO]
   constructor
   ·rintro ⟨b1, b2, a1, a2, rfl, rfl, hs, hr⟩
    refine ⟨a1, a2, b1, b2, rfl, rfl, ?_, (ihr _ _).1 hr⟩
    rcases hs with ⟨h0, h1, h2⟩ | ⟨h0, h1, h2⟩ | ⟨h0, h1, h2⟩ | ⟨h0, x, y, h1, h2, h3⟩ <;> (first | (exfalso; omega) | skip)
    exact .inr (.inl ⟨k1, h2.symm, h1⟩)
   ·rintro ⟨a1, a2, b1, b2, rfl, rfl, hs, hr⟩
    refine ⟨b1, b2, a1, a2, rfl, rfl, ?_, (ihr _ _).2 hr⟩
    rcases hs with ⟨h0, h1, h2⟩ | ⟨h0, h1, h2⟩ | ⟨h0, h1, h2⟩ | ⟨h0, x, y, h1, h2, h3⟩ <;> (first | (exfalso; omega) | skip)
    exact .inr (.inr (.inl ⟨rfl, h2, h1.symm⟩))
  ·rw [if_neg k1]
   by_cases k2 : kind = 2
   ·rw [if_pos k2, SemO, SemO]
    constructor
    ·rintro ⟨b1, b2, a1, a2, rfl, rfl, hs, hr⟩
     refine ⟨a1, a2, b1, b2, rfl, rfl, ?_, (ihr _ _).1 hr⟩
     rcases hs with ⟨h0, h1, h2⟩ | ⟨h0, h1, h2⟩ | ⟨h0, h1, h2⟩ | ⟨h0, x, y, h1, h2, h3⟩ <;> (first | (exfalso; omega) | skip)
     exact .inr (.inr (.inl ⟨k2, h2, h1.symm⟩))
    ·rintro ⟨a1, a2, b1, b2, rfl, rfl, hs, hr⟩
     refine ⟨b1, b2, a1, a2, rfl, rfl, ?_, (ihr _ _).2 hr⟩
     rcases hs with ⟨h0, h1, h2⟩ | ⟨h0, h1, h2⟩ | ⟨h0, h1, h2⟩ | ⟨h0, x, y, h1, h2, h3⟩ <;> (first | (exfalso; omega) | skip)
     exact .inr (.inl ⟨rfl, h2.symm, h1⟩)
   ·rw [if_neg k2]
    by_cases k3 : kind = 3
    ·rw [if_pos k3, SemO, SemO]
     have ihe := fun x y => Sem_turned (e := e) (t := x) (u := y) (ho.2.2.2.2.1 k3).2.2.1
     constructor
     ·rintro ⟨b1, b2, a1, a2, rfl, rfl, hs, hr⟩
      refine ⟨a1, a2, b1, b2, rfl, rfl, ?_, (ihr _ _).1 hr⟩
      rcases hs with ⟨h0, h1, h2⟩ | ⟨h0, h1, h2⟩ | ⟨h0, h1, h2⟩ | ⟨h0, x, y, h1, h2, h3⟩ <;> (first | (exfalso; omega) | skip)
      exact .inr (.inr (.inr ⟨k3, y, x, h2, h1, (ihe _ _).1 h3⟩))
     ·rintro ⟨a1, a2, b1, b2, rfl, rfl, hs, hr⟩
      refine ⟨b1, b2, a1, a2, rfl, rfl, ?_, (ihr _ _).2 hr⟩
      rcases hs with ⟨h0, h1, h2⟩ | ⟨h0, h1, h2⟩ | ⟨h0, h1, h2⟩ | ⟨h0, x, y, h1, h2, h3⟩ <;> (first | (exfalso; omega) | skip)
      exact .inr (.inr (.inr ⟨k3, y, x, h2, h1, (ihe _ _).2 h3⟩))
    ·rw [if_neg k3, SemO, SemO]
     have k0 : kind = 0 := by omega
     constructor
     ·rintro ⟨b1, b2, a1, a2, rfl, rfl, hs, hr⟩
      refine ⟨a1, a2, b1, b2, rfl, rfl, ?_, (ihr _ _).1 hr⟩
      rcases hs with ⟨h0, h1, h2⟩ | ⟨h0, h1, h2⟩ | ⟨h0, h1, h2⟩ | ⟨h0, x, y, h1, h2, h3⟩ <;> (first | (exfalso; omega) | skip)
      exact .inl ⟨k0, by rw [← alike_len h2, h1], h2.symm⟩
     ·rintro ⟨a1, a2, b1, b2, rfl, rfl, hs, hr⟩
      refine ⟨b1, b2, a1, a2, rfl, rfl, ?_, (ihr _ _).2 hr⟩
      rcases hs with ⟨h0, h1, h2⟩ | ⟨h0, h1, h2⟩ | ⟨h0, h1, h2⟩ | ⟨h0, x, y, h1, h2, h3⟩ <;> (first | (exfalso; omega) | skip)
      exact .inl ⟨k0, by rw [← alike_len h2, h1], h2.symm⟩
end
section
variable {X F : Type} {r : X → X → Prop} {S : F → X → X → Prop}
theorem run_app {us vs : List (U X F)} {a b : List X} : Run r S (us ++ vs) a b ↔ ∃ a1 a2 b1 b2, a = a1 ++ a2 ∧ b = b1 ++ b2 ∧ Run r S us a1 b1 ∧ Run r S vs a2 b2 := by
 induction us generalizing a b with
 | nil =>
  constructor
  ·intro h; exact ⟨[], a, [], b, rfl, rfl, .nil, h⟩
  ·rintro ⟨a1, a2, b1, b2, rfl, rfl, h1, h2⟩
   obtain ⟨rfl, rfl⟩ := run_nil.1 h1
   exact h2
 | cons u us ih =>
  rw [List.cons_append]
  cases u with
  | K =>
   rw [run_K]
   constructor
   ·rintro ⟨x, a', y, b', rfl, rfl, h1, h2⟩
    obtain ⟨a1, a2, b1, b2, rfl, rfl, h3, h4⟩ := ih.1 h2
    exact ⟨x :: a1, a2, y :: b1, b2, rfl, rfl, .keep h1 h3, h4⟩
   ·rintro ⟨a1, a2, b1, b2, rfl, rfl, h1, h2⟩
    obtain ⟨x, a', y, b', rfl, rfl, h3, h4⟩ := run_K.1 h1
    exact ⟨x, a' ++ a2, y, b' ++ b2, rfl, rfl, h3, ih.2 ⟨_, _, _, _, rfl, rfl, h4, h2⟩⟩
  | D z =>
   rw [run_D]
   constructor
   ·rintro ⟨x, a', rfl, h1, h2⟩
    obtain ⟨a1, a2, b1, b2, rfl, rfl, h3, h4⟩ := ih.1 h2
    exact ⟨x :: a1, a2, b1, b2, rfl, rfl, .del h1 h3, h4⟩
   ·rintro ⟨a1, a2, b1, b2, rfl, rfl, h1, h2⟩
    obtain ⟨x, a', rfl, h3, h4⟩ := run_D.1 h1
    exact ⟨x, a' ++ a2, rfl, h3, ih.2 ⟨_, _, _, _, rfl, rfl, h4, h2⟩⟩
  | I z =>
   rw [run_I]
   constructor
   ·rintro ⟨y, b', rfl, h1, h2⟩
    obtain ⟨a1, a2, b1, b2, rfl, rfl, h3, h4⟩ := ih.1 h2
    exact ⟨a1, a2, y :: b1, b2, rfl, rfl, .ins h1 h3, h4⟩
   ·rintro ⟨a1, a2, b1, b2, rfl, rfl, h1, h2⟩
    obtain ⟨y, b', rfl, h3, h4⟩ := run_I.1 h1
    exact ⟨y, b' ++ b2, rfl, h3, ih.2 ⟨_, _, _, _, rfl, rfl, h4, h2⟩⟩
  | S f =>
   rw [run_S]
   constructor
   ·rintro ⟨x, a', y, b', rfl, rfl, h1, h2⟩
    obtain ⟨a1, a2, b1, b2, rfl, rfl, h3, h4⟩ := ih.1 h2
    exact ⟨x :: a1, a2, y :: b1, b2, rfl, rfl, .sub h1 h3, h4⟩
   ·rintro ⟨a1, a2, b1, b2, rfl, rfl, h1, h2⟩
    obtain ⟨x, a', y, b', rfl, rfl, h3, h4⟩ := run_S.1 h1
    exact ⟨x, a' ++ a2, y, b' ++ b2, rfl, rfl, h3, ih.2 ⟨_, _, _, _, rfl, rfl, h4, h2⟩⟩
end
def req (x y : T) : Prop := norm x = norm y
theorem alike_cons {x y : T} {a b : List T} : alike (x :: a) (y :: b) ↔ norm x = norm y ∧ alike a b := by
 unfold alike
 simp
theorem alike_cons_left {x : T} {a b : List T} : alike (x :: a) b ↔ ∃ y b', b = y :: b' ∧ norm x = norm y ∧ alike a b' := by
 constructor
 ·intro h
  cases b with
  | nil => simp [alike] at h
  | cons y b' => exact ⟨y, b', rfl, alike_cons.1 h⟩
 ·rintro ⟨y, b', rfl, h⟩
  exact alike_cons.2 h
theorem run_keeps {n : Nat} {a b : List T} : Run req Sem (List.replicate n .K) a b ↔ a.length = n ∧ alike a b := by
 induction n generalizing a b with
 | zero =>
  rw [List.replicate_zero, run_nil]
  constructor
  ·rintro ⟨rfl, rfl⟩; exact ⟨rfl, rfl⟩
  ·rintro ⟨h1, h2⟩
   have : a = [] := List.eq_nil_of_length_eq_zero h1
   subst this
   exact ⟨rfl, alike_nil h2⟩
 | succ n ih =>
  rw [List.replicate_succ, run_K]
  constructor
  ·rintro ⟨x, a', y, b', rfl, rfl, h1, h2⟩
   obtain ⟨h3, h4⟩ := ih.1 h2
   exact ⟨by rw [List.length_cons, h3], alike_cons.2 ⟨h1, h4⟩⟩
  ·rintro ⟨h1, h2⟩
   cases a with
   | nil => cases h1
   | cons x a' =>
    obtain ⟨y, b', rfl, h3, h4⟩ := alike_cons_left.1 h2
    exact ⟨x, a', y, b', rfl, rfl, h3, ih.2 ⟨by simpa using h1, h4⟩⟩
theorem run_dels {l a b : List T} : Run req Sem (l.map .D) a b ↔ alike a l ∧ b = [] := by
 induction l generalizing a b with
 | nil =>
  rw [List.map_nil, run_nil]
  constructor
  ·rintro ⟨rfl, rfl⟩; exact ⟨rfl, rfl⟩
  ·rintro ⟨h1, rfl⟩; exact ⟨alike_nil h1.symm, rfl⟩
 | cons z l ih =>
  rw [List.map_cons, run_D]
  constructor
  ·rintro ⟨x, a', rfl, h1, h2⟩
   obtain ⟨h3, h4⟩ := ih.1 h2
   exact ⟨alike_cons.2 ⟨h1, h3⟩, h4⟩
  ·rintro ⟨h1, rfl⟩
   obtain ⟨x, a', rfl, h3, h4⟩ := alike_cons_left.1 h1.symm
   exact ⟨x, a', rfl, h3.symm, ih.2 ⟨h4.symm, rfl⟩⟩
theorem run_inss {l a b : List T} : Run req Sem (l.map .I) a b ↔ a = [] ∧ alike l b := by
 induction l generalizing a b with
 | nil =>
  rw [List.map_nil, run_nil]
  constructor
  ·rintro ⟨rfl, rfl⟩; exact ⟨rfl, rfl⟩
  ·rintro ⟨rfl, h1⟩; exact ⟨rfl, alike_nil h1⟩
 | cons z l ih =>
  rw [List.map_cons, run_I]
  constructor
  ·rintro ⟨y, b', rfl, h1, h2⟩
   obtain ⟨h3, h4⟩ := ih.1 h2
   exact ⟨h3, alike_cons.2 ⟨h1, h4⟩⟩
  ·rintro ⟨rfl, h1⟩
   obtain ⟨y, b', rfl, h3, h4⟩ := alike_cons_left.1 h1
   exact ⟨y, b', rfl, h3, ih.2 ⟨rfl, h4⟩⟩
theorem run_one {e : Ed} {a b : List T} : Run req Sem [.S e] a b ↔ ∃ x y, a = [x] ∧ b = [y] ∧ Sem e x y := by
 rw [run_S]
 constructor
 ·rintro ⟨x, a', y, b', rfl, rfl, h1, h2⟩
  obtain ⟨rfl, rfl⟩ := run_nil.1 h2
  exact ⟨x, y, rfl, rfl, h1⟩
 ·rintro ⟨x, y, rfl, rfl, h⟩
  exact ⟨x, [], y, [], rfl, rfl, h, .nil⟩
def unitsOf : Opn → List (U T Ed)
 | .mk kind n l e => if kind = 0 then List.replicate n.toNat .K else if kind = 1 then l.map .D else if kind = 2 then l.map .I else [.S e]
def units : List Opn → List (U T Ed)
 | [] => []
 | o :: r => unitsOf o ++ units r
theorem units_app (a b : List Opn) : units (a ++ b) = units a ++ units b := by
 induction a with
 | nil => rfl
 | cons o r ih => rw [List.cons_append, units, units, ih, List.append_assoc]
theorem SemO_units : ∀ {l : List Opn} {lk : Int} {a b : List T}, okOs lk l → (SemO l a b ↔ Run req Sem (units l) a b)
 | [], _, a, b, _ => by rw [SemO, units, run_nil]
 | .mk kind n l e :: r, lk, a, b, ho => by
  rw [okOs] at ho
  rw [SemO, units, run_app]
  have ih := fun a b => SemO_units (l := r) (a := a) (b := b) ho.2.2.2.2.2
  have hstep : ∀ a1 b1, ((kind = 0 ∧ a1.length = n.toNat ∧ alike a1 b1) ∨ (kind = 1 ∧ alike a1 l ∧ b1 = []) ∨ (kind = 2 ∧ a1 = [] ∧ alike l b1) ∨ (kind = 3 ∧ ∃ x y, a1 = [x] ∧ b1 = [y] ∧ Sem e x y)) ↔ Run req Sem (unitsOf (.mk kind n l e)) a1 b1 := by
   intro a1 b1
   rw [unitsOf]
   by_cases k0 : kind = 0
   ·subst k0; rw [if_pos rfl, run_keeps]; simp
   ·rw [if_neg k0]
    by_cases k1 : kind = 1
    ·subst k1; rw [if_pos rfl, run_dels]; simp
    ·rw [if_neg k1]
     by_cases k2 : kind = 2
     ·subst k2; rw [if_pos rfl, run_inss]; simp
     ·rw [if_neg k2, run_one]
      have k3 : kind = 3 := by omega
      subst k3
      simp
  constructor
  ·rintro ⟨a1, a2, b1, b2, h1, h2, h3, h4⟩
   exact ⟨a1, a2, b1, b2, h1, h2, (hstep _ _).1 h3, (ih _ _).1 h4⟩
  ·rintro ⟨a1, a2, b1, b2, h1, h2, h3, h4⟩
   exact ⟨a1, a2, b1, b2, h1, h2, (hstep _ _).2 h3, (ih _ _).2 h4⟩
end Go.Proofs.Ytbmjiokjigkdnaa.Top
namespace Go.Proofs.Ytbmjiokjigkdnaa.Top
mutual
def beqT : T → T → Bool
 | .node k ws ks, .node k' ws' ks' => k == k' && ws == ws' && beqTL ks ks'
def beqTL : List T → List T → Bool
 | [], [] => true
 | x :: a, y :: b => beqT x y && beqTL a b
 | [], _ :: _ => false
 | _ :: _, [] => false
end
mutual
theorem beqT_iff : ∀ {a b : T}, beqT a b = true ↔ a = b
 | .node k ws ks, .node k' ws' ks' => by
  rw [beqT, Bool.and_eq_true, Bool.and_eq_true, beqTL_iff, beq_iff_eq, beq_iff_eq]
  constructor
  ·rintro ⟨⟨rfl, rfl⟩, rfl⟩; rfl
  ·intro h; injection h with h1 h2 h3; exact ⟨⟨h1, h2⟩, h3⟩
theorem beqTL_iff : ∀ {a b : List T}, beqTL a b = true ↔ a = b
 | [], [] => by simp [beqTL]
 | x :: a, y :: b => by
  rw [beqTL, Bool.and_eq_true, beqT_iff (a := x) (b := y), beqTL_iff (a := a) (b := b)]
  simp
 | [], _ :: _ => by simp [beqTL]
 | _ :: _, [] => by simp [beqTL]
end
def eqT (a b : T) : Bool := beqT (norm a) (norm b)
theorem eqT_iff {a b : T} : eqT a b = true ↔ norm a = norm b := beqT_iff
def eqL : List T → List T → Bool
 | [], [] => true
 | x :: a, y :: b => eqT x y && eqL a b
 | [], _ :: _ => false
 | _ :: _, [] => false
theorem eqL_iff : ∀ {a b : List T}, eqL a b = true ↔ alike a b
 | [], [] => by simp [eqL, alike]
 | x :: a, y :: b => by rw [eqL, Bool.and_eq_true, eqT_iff, eqL_iff, alike_cons]
 | [], _ :: _ => by simp [eqL, alike]
 | _ :: _, [] => by simp [eqL, alike]
def setPad {α : Type} (z : α) : List α → Nat → α → List α
 | [], 0, x => [x]
 | [], n + 1, x => z :: setPad z [] n x
 | _ :: r, 0, x => x :: r
 | y :: r, n + 1, x => y :: setPad z r n x
theorem setPad_get {α : Type} (z : α) : ∀ (l : List α) (n : Nat) (x : α) (i : Nat), (setPad z l n x)[i]?.getD z = if i = n then x else l[i]?.getD z
 | [], 0, x, 0 => rfl
 | [], 0, x, i + 1 => by simp [setPad]
 | [], n + 1, x, 0 => by simp [setPad]
 | [], n + 1, x, i + 1 => by
  rw [setPad, List.getElem?_cons_succ, setPad_get z [] n x i]
  simp
 | y :: r, 0, x, 0 => rfl
 | y :: r, 0, x, i + 1 => by simp [setPad]
 | y :: r, n + 1, x, 0 => by simp [setPad]
 | y :: r, n + 1, x, i + 1 => by
  rw [setPad, List.getElem?_cons_succ, setPad_get z r n x i, List.getElem?_cons_succ]
  simp
theorem setPad_mem {α : Type} (z : α) : ∀ (l : List α) (n : Nat) (x y : α), y ∈ setPad z l n x → y = x ∨ y = z ∨ y ∈ l
 | [], 0, x, y, h => by simp [setPad] at h; exact .inl h
 | [], n + 1, x, y, h => by
  rw [setPad] at h
  rcases List.mem_cons.1 h with h | h
  ·exact .inr (.inl h)
  ·exact setPad_mem z [] n x y h
 | w :: r, 0, x, y, h => by
  rw [setPad] at h
  rcases List.mem_cons.1 h with h | h
  ·exact .inl h
  ·exact .inr (.inr (List.mem_cons_of_mem _ h))
 | w :: r, n + 1, x, y, h => by
  rw [setPad] at h
  rcases List.mem_cons.1 h with h | h
  ·exact .inr (.inr (by rw [h]; exact List.mem_cons_self ..))
  ·rcases setPad_mem z r n x y h with h | h | h
   ·exact .inl h
   ·exact .inr (.inl h)
   ·exact .inr (.inr (List.mem_cons_of_mem _ h))
def wordsS (t : T) : List WE → List Int → Option (List Int)
 | [], out => some out
 | w :: r, out => if mixT 0 (wordT t w.at_) w.mask = w.old then wordsS t r (setPad 0 out w.at_.toNat (mixT (wordT t w.at_) w.new w.mask)) else none
mutual
def oneS : Ed → T → Option T
 | .mk kind old new ws ks lk ops, t =>
  if kind = 0 then some t
  else if kind = 1 then (if eqT old t then some new else none)
  else if kind = 2 then (if t.kind = 1 then (wordsS t ws t.ws).bind fun w' => (kidsS t ks t.ks).map fun k' => .node 1 w' k' else none)
  else if kind = 3 then (if t.kind = lk then (opsS ops t.ks []).map fun out => .node t.kind [] out else none)
  else none
def kidsS (t : T) : List KEd → List T → Option (List T)
 | [], out => some out
 | .mk a e :: r, out => (oneS e (kidT t a)).bind fun k => kidsS t r (setPad nilT out a.toNat k)
def opsS : List Opn → List T → List T → Option (List T)
 | [], rest, out => if rest.length = 0 then some out else none
 | .mk kind n l e :: r, rest, out =>
  if kind = 2 then opsS r rest (out ++ l)
  else if kind = 1 then (if rest.length < l.length then none else if eqL l (rest.take l.length) then opsS r (rest.drop l.length) out else none)
  else if kind = 3 then (rest.head?.bind fun x => (oneS e x).bind fun k => opsS r rest.tail (out ++ [k]))
  else (if rest.length < n.toNat then none else opsS r (rest.drop n.toNat) (out ++ rest.take n.toNat))
end
def applyS (e : Ed) (t : T) : Option T := (oneS e t).map norm
def okKid (lk : Int) (x : T) : Prop := okT x ∧ (2 ≤ lk → lk ≤ 7 → x.kind = 10) ∧ (lk = 8 → x.kind ≠ 10) ∧ (lk = 9 → x.kind = 1)
theorem okT_list {lk : Int} {ks : List T} (h2 : 2 ≤ lk) (h9 : lk ≤ 9) : okT (.node lk [] ks) ↔ ∀ x ∈ ks, okKid lk x := by
 rw [okT, okTL_iff]
 constructor
 ·rintro ⟨_, _, _, _, _, _, _, _, h1, h3, h4, h5⟩ x hx
  exact ⟨h5 x hx, fun a b => h1 a b x hx, fun a => h3 a x hx, fun a => h4 a x hx⟩
 ·intro h
  refine ⟨by omega, by omega, fun x hx => by simp at hx, fun _ _ => rfl, fun a => by omega, fun a => by omega, fun a => by omega, fun a => by omega, fun a b x hx => (h x hx).2.1 a b, fun a x hx => (h x hx).2.2.1 a, fun a x hx => (h x hx).2.2.2 a, fun x hx => (h x hx).1⟩
theorem okT_nil : okT nilT := by
 unfold nilT
 rw [okT]
 refine ⟨by decide, by decide, fun x hx => by simp at hx, fun _ _ => rfl, fun a => by omega, fun _ => rfl, fun _ => rfl, fun a => by omega, fun a b => by omega, fun a => by omega, fun a => by omega, trivial⟩
theorem okT_kid {t : T} (h : okT t) (hk : t.kind = 1) (i : Int) : okT (kidT t i) ∧ (kidT t i).kind ≠ 10 := by
 obtain ⟨k, ws, ks⟩ := t
 rw [okT, okTL_iff] at h
 unfold kidT
 split
 ·show okT ((ks[i.toNat]?).getD nilT) ∧ ((ks[i.toNat]?).getD nilT).kind ≠ 10
  cases e : ks[i.toNat]? with
  | none => exact ⟨okT_nil, by decide⟩
  | some x => exact ⟨h.2.2.2.2.2.2.2.2.2.2.2 x (List.mem_of_getElem? e), h.2.2.2.2.2.2.2.1 hk x (List.mem_of_getElem? e)⟩
 ·exact ⟨okT_nil, by decide⟩
theorem okT_word {t : T} (h : okT t) (i : Int) : inW (wordT t i) := by
 obtain ⟨k, ws, ks⟩ := t
 rw [okT] at h
 unfold wordT
 split
 ·show inW (ws.getD i.toNat 0)
  rw [List.getD_eq_getElem?_getD]
  cases e : ws[i.toNat]? with
  | none => exact zero_in
  | some x => exact h.2.2.1 x (List.mem_of_getElem? e)
 ·exact zero_in
theorem wordsS_some {t : T} (ht : okT t) : ∀ (l : List WE) (a : Int) (out w' : List Int) (f : Int → Int), okWs a l → -1 ≤ a → (∀ w ∈ l, w.ok) → (∀ i : Nat, a < i → f i = wordT t i) → (∀ i : Nat, a < i → out[i]?.getD 0 = wordT t i) → wordsS t l out = some w' →
  SemW l f (fun i => if a < i then w'[i.toNat]?.getD 0 else f i) ∧ ∀ i : Nat, (i : Int) ≤ a → w'[i]?.getD 0 = out[i]?.getD 0
 | [], a, out, w', f, _, _, _, hf, hout, h => by
  rw [wordsS] at h
  injection h with h
  subst h
  refine ⟨fun i => ?_, fun i hi => rfl⟩
  simp only
  split
  ·rename_i hi
   rw [hf i hi, Int.toNat_natCast, hout i hi]
  ·rfl
 | w :: r, a, out, w', f, ho, ha, hok, hf, hout, h => by
  rw [wordsS] at h
  split at h
  ·rename_i hc
   obtain ⟨n, hn⟩ := Int.eq_ofNat_of_zero_le (show 0 ≤ w.at_ by have := ho.1; omega)
   have han : a < (n : Int) := by have := ho.1; omega
   have hset := fun i => setPad_get (0 : Int) out w.at_.toNat (mixT (wordT t w.at_) w.new w.mask) i
   rw [hn, Int.toNat_natCast] at hset
   rw [hn, Int.toNat_natCast] at h
   obtain ⟨h1, h2⟩ := wordsS_some ht r w.at_ _ w' (upd f w.at_ 0) ho.2 (by omega) (fun v hv => hok v (List.mem_cons_of_mem _ hv)) (fun i hi => by
    unfold upd; rw [if_neg (by omega)]; exact hf i (by omega)) (fun i hi => by rw [hset, if_neg (by omega)]; exact hout i (by omega)) h
   have hgn : w'[n]?.getD 0 = mixT (wordT t w.at_) w.new w.mask := by rw [h2 n (by omega), hset, if_pos rfl, hn]
   refine ⟨⟨?_, SemW_congr (a := w.at_) ho.2 (by omega) (fun i => rfl) (fun i => ?_) h1⟩, fun i hi => by rw [h2 i (by omega), hset, if_neg (by omega)]⟩
   ·simp only [hn]
    rw [if_pos han, Int.toNat_natCast, hgn, hf n han]
    rw [hn] at hc ⊢
    exact ⟨okT_word ht _, mixT_in _ _ _, hc, rfl⟩
   ·simp only [upd]
    by_cases e1 : (i : Int) = w.at_
    ·rw [if_pos e1, if_neg (by omega), if_pos e1]
    ·rw [if_neg e1, if_neg e1]
     by_cases e2 : w.at_ < (i : Int)
     ·rw [if_pos e2, if_pos (by omega)]
     ·rw [if_neg e2]
      by_cases e3 : a < (i : Int)
      ·rw [if_pos e3, Int.toNat_natCast, h2 i (by omega), hset, if_neg (by omega), hout i e3, hf i e3]
      ·rw [if_neg e3]
  ·cases h
theorem wordsS_none {t : T} : ∀ (l : List WE) (a : Int) (out : List Int) (f g : Int → Int), okWs a l → -1 ≤ a → (∀ i : Nat, a < i → f i = wordT t i) → wordsS t l out = none → ¬ SemW l f g
 | [], a, out, f, g, _, _, _, h => by rw [wordsS] at h; cases h
 | w :: r, a, out, f, g, ho, ha, hf, h => by
  rw [wordsS] at h
  obtain ⟨n, hn⟩ := Int.eq_ofNat_of_zero_le (show 0 ≤ w.at_ by have := ho.1; omega)
  have han : a < (n : Int) := by have := ho.1; omega
  rintro ⟨h1, h2⟩
  split at h
  ·exact wordsS_none r w.at_ _ (upd f w.at_ 0) (upd g w.at_ 0) ho.2 (by omega) (fun i hi => by
    unfold upd; rw [if_neg (by omega)]; exact hf i (by omega)) h h2
  ·rename_i hc
   refine hc ?_
   have := h1.2.2.1
   rw [hn, hf n han] at this
   rw [hn]
   exact this
theorem wordsS_in {t : T} : ∀ (l : List WE) (out w' : List Int), (∀ x ∈ out, inW x) → wordsS t l out = some w' → ∀ x ∈ w', inW x
 | [], out, w', ho, h => by rw [wordsS] at h; injection h with h; subst h; exact ho
 | w :: r, out, w', ho, h => by
  rw [wordsS] at h
  split at h
  ·refine wordsS_in r _ w' (fun x hx => ?_) h
   rcases setPad_mem _ _ _ _ _ hx with h | h | h
   ·rw [h]; exact mixT_in _ _ _
   ·rw [h]; exact zero_in
   ·exact ho x h
  ·cases h
theorem allA {α : Type} {P : α → Prop} {l m : List α} (h1 : ∀ x ∈ l, P x) (h2 : ∀ x ∈ m, P x) : ∀ x ∈ l ++ m, P x := fun x hx => by
 rcases List.mem_append.1 hx with h | h
 ·exact h1 x h
 ·exact h2 x h
theorem allC {α : Type} {P : α → Prop} {y : α} {m : List α} (h1 : P y) (h2 : ∀ x ∈ m, P x) : ∀ x ∈ y :: m, P x := fun x hx => by
 rcases List.mem_cons.1 hx with h | h
 ·rw [h]; exact h1
 ·exact h2 x h
def KindR (e : Ed) (u : T) : Prop := (e.kind = 2 → u.kind = 1) ∧ (e.kind = 3 → u.kind ≠ 10) ∧ ∀ old new ws ks k o, e = .mk 1 old new ws ks k o → u = new
theorem kindR_no10 {e : Ed} {u : T} (ho : okE e) (h0 : e.kind ≠ 0) (h : KindR e u) : u.kind ≠ 10 := by
 obtain ⟨kind, old, new, ws, ks, lk, ops⟩ := e
 rw [okE] at ho
 have h0 : kind ≠ 0 := h0
 by_cases h1 : kind = 1
 ·subst h1
  rw [h.2.2 _ _ _ _ _ _ rfl]
  exact (ho.2.2.1 rfl).2.2.2
 ·by_cases h2 : kind = 2
  ·rw [h.1 h2]; decide
  ·exact h.2.1 (by show kind = 3; omega)
theorem okT_parts {k : Int} {ws : List Int} {ks : List T} (h : okT (.node k ws ks)) : (∀ x ∈ ws, inW x) ∧ (k ≠ 1 → k ≠ 10 → ws = []) := by
 rw [okT] at h
 exact ⟨h.2.2.1, h.2.2.2.1⟩
theorem okT_struct {ws : List Int} {ks : List T} (h1 : ∀ x ∈ ws, inW x) (h2 : ∀ x ∈ ks, okT x ∧ x.kind ≠ 10) : okT (.node 1 ws ks) := by
 rw [okT, okTL_iff]
 exact ⟨by decide, by decide, h1, fun h => absurd rfl h, fun h => by omega, fun h => by omega, fun h => by omega, fun _ x hx => (h2 x hx).2, fun h => by omega, fun h => by omega, fun h => by omega, fun x hx => (h2 x hx).1⟩
theorem okT_kids1 {ws : List Int} {ks : List T} (h : okT (.node 1 ws ks)) : ∀ x ∈ ks, okT x ∧ x.kind ≠ 10 := by
 rw [okT, okTL_iff] at h
 exact fun x hx => ⟨h.2.2.2.2.2.2.2.2.2.2.2 x hx, h.2.2.2.2.2.2.2.1 rfl x hx⟩
mutual
theorem oneS_some : ∀ (e : Ed) (t u : T), okE e → okT t → oneS e t = some u → Sem e t u ∧ okT u ∧ KindR e u
 | .mk kind old new ws ks lk ops, t, u, ho, ht, h => by
  rw [okE] at ho
  rw [oneS] at h
  rw [Sem]
  by_cases k0 : kind = 0
  ·rw [if_pos k0] at h
   injection h with h
   subst h
   exact ⟨.inl ⟨k0, rfl⟩, ht, fun h => by have h : kind = 2 := h; omega, fun h => by have h : kind = 3 := h; omega, fun _ _ _ _ _ _ h => by injection h with h; omega⟩
  ·rw [if_neg k0] at h
   by_cases k1 : kind = 1
   ·rw [if_pos k1] at h
    split at h
    ·rename_i he
     injection h with h
     subst h
     exact ⟨.inr (.inl ⟨k1, (eqT_iff.1 he).symm, rfl⟩), (ho.2.2.1 k1).2.1, fun h => by have h : kind = 2 := h; omega, fun h => by have h : kind = 3 := h; omega, fun _ _ _ _ _ _ h => by injection h⟩
    ·cases h
   ·rw [if_neg k1] at h
    by_cases k2 : kind = 2
    ·rw [if_pos k2] at h
     split at h
     ·rename_i ht1
      have o2 := ho.2.2.2.1 k2
      cases hw : wordsS t ws t.ws with
      | none => rw [hw] at h; cases h
      | some w' =>
       rw [hw] at h
       cases hk : kidsS t ks t.ks with
       | none => rw [hk] at h; cases h
       | some k' =>
        rw [hk] at h
        injection h with h
        subst h
        have hws := wordsS_some ht ws (-1) t.ws w' (wordT t) o2.2.1 (by decide) o2.1 (fun i _ => rfl) (fun i _ => (word_get t i).symm) hw
        have hks := kidsS_some ht ht1 ks (-1) t.ks k' (kidT t) o2.2.2 (by decide) (fun i _ => rfl) (fun i _ => by unfold kidT; rw [if_pos (by omega), Int.toNat_natCast]) (by
         obtain ⟨kk, w0, k0⟩ := t
         have ht1 : kk = 1 := ht1
         subst ht1
         exact okT_kids1 ht) hk
        refine ⟨.inr (.inr (.inl ⟨k2, ht1, rfl, SemW_congr (a := -1) o2.2.1 (by decide) (fun i => rfl) (fun i => ?_) hws.1, SemK_congr (a := -1) o2.2.2 (by decide) (fun i => rfl) (fun i => ?_) hks.1⟩)), okT_struct (wordsS_in ws t.ws w' (by obtain ⟨kk, w0, k0⟩ := t; exact (okT_parts ht).1) hw) hks.2.2, fun _ => rfl, fun h => by have h : kind = 3 := h; omega, fun _ _ _ _ _ _ h => by injection h with h; omega⟩
        ·(try simp only)
         rw [if_pos (by omega), Int.toNat_natCast, word_get]
         rfl
        ·(try simp only)
         rw [if_pos (by omega), Int.toNat_natCast]
         unfold kidT
         rw [if_pos (by omega), Int.toNat_natCast]
         rfl
     ·cases h
    ·rw [if_neg k2] at h
     by_cases k3 : kind = 3
     ·rw [if_pos k3] at h
      split at h
      ·rename_i htk
       have o3 := ho.2.2.2.2 k3
       cases hop : opsS ops t.ks [] with
       | none => rw [hop] at h; cases h
       | some out =>
        rw [hop] at h
        injection h with h
        subst h
        obtain ⟨kk, w0, k0⟩ := t
        have htk : kk = lk := htk
        subst htk
        have hw0 : w0 = [] := (okT_parts ht).2 (by omega) (by omega)
        subst hw0
        have hkk := (okT_list o3.1 o3.2.1).1 ht
        obtain ⟨b, hb, hs, hok⟩ := opsS_some ops kk k0 [] out o3.2.2 o3.1 o3.2.1 hkk (fun x hx => by simp at hx) hop
        rw [List.nil_append] at hb
        subst hb
        exact ⟨.inr (.inr (.inr ⟨k3, rfl, rfl, rfl, rfl, fun h9 => ⟨fun x hx => (hkk x hx).2.2.2 h9, fun x hx => (hok x hx).2.2.2 h9⟩, hs⟩)), (okT_list o3.1 o3.2.1).2 hok, fun h => by have h : kind = 2 := h; omega, fun _ => by show kk ≠ 10; omega, fun _ _ _ _ _ _ h => by injection h with h; omega⟩
      ·cases h
     ·rw [if_neg k3] at h; cases h
theorem kidsS_some {t : T} (ht : okT t) (ht1 : t.kind = 1) : ∀ (l : List KEd) (a : Int) (out k' : List T) (f : Int → T), okKs a l → -1 ≤ a → (∀ i : Nat, a < i → f i = kidT t i) → (∀ i : Nat, a < i → out[i]?.getD nilT = kidT t i) → (∀ x ∈ out, okT x ∧ x.kind ≠ 10) → kidsS t l out = some k' →
  SemK l f (fun i => if a < i then k'[i.toNat]?.getD nilT else f i) ∧ (∀ i : Nat, (i : Int) ≤ a → k'[i]?.getD nilT = out[i]?.getD nilT) ∧ ∀ x ∈ k', okT x ∧ x.kind ≠ 10
 | [], a, out, k', f, _, _, hf, hout, hok, h => by
  rw [kidsS] at h
  injection h with h
  subst h
  refine ⟨?_, fun i hi => rfl, hok⟩
  rw [SemK]
  intro i
  (try simp only)
  split
  ·rename_i hi
   rw [hf i hi, Int.toNat_natCast, hout i hi]
  ·rfl
 | .mk b e :: r, a, out, k', f, ho, ha, hf, hout, hok, h => by
  rw [kidsS] at h
  rw [okKs] at ho
  obtain ⟨n, hn⟩ := Int.eq_ofNat_of_zero_le (show 0 ≤ b by have := ho.1; omega)
  subst hn
  have han : a < (n : Int) := ho.1
  cases hk : oneS e (kidT t n) with
  | none => rw [hk] at h; cases h
  | some k =>
   rw [hk] at h
   have h : kidsS t r (setPad nilT out n k) = some k' := h
   have h1 := oneS_some e (kidT t n) k ho.2.2.1 (okT_kid ht ht1 n).1 hk
   have hset := fun i => setPad_get nilT out n k i
   obtain ⟨h2, h3, h4⟩ := kidsS_some ht ht1 r n _ k' (upd f n nilT) ho.2.2.2 (by omega) (fun i hi => by
    unfold upd; rw [if_neg (by omega)]; exact hf i (by omega)) (fun i hi => by rw [hset, if_neg (by omega)]; exact hout i (by omega)) (fun x hx => by
    rcases setPad_mem _ _ _ _ _ hx with h | h | h
    ·rw [h]; exact ⟨h1.2.1, kindR_no10 ho.2.2.1 ho.2.1 h1.2.2⟩
    ·rw [h]; exact ⟨okT_nil, by decide⟩
    ·exact hok x h) h
   have hgn : k'[n]?.getD nilT = k := by rw [h3 n (by omega), hset, if_pos rfl]
   refine ⟨?_, fun i hi => by rw [h3 i (by omega), hset, if_neg (by omega)], h4⟩
   rw [SemK]
   refine ⟨?_, SemK_congr (a := n) ho.2.2.2 (by omega) (fun i => rfl) (fun i => ?_) h2⟩
   ·(try simp only)
    rw [if_pos han, Int.toNat_natCast, hgn, hf n han]
    exact h1.1
   ·simp only [upd]
    by_cases e1 : (i : Int) = n
    ·rw [if_pos e1, if_neg (by omega), if_pos e1]
    ·rw [if_neg e1, if_neg e1]
     by_cases e2 : (n : Int) < (i : Int)
     ·rw [if_pos e2, if_pos (by omega)]
     ·rw [if_neg e2]
      by_cases e3 : a < (i : Int)
      ·rw [if_pos e3, Int.toNat_natCast, h3 i (by omega), hset, if_neg (by omega), hout i e3, hf i e3]
      ·rw [if_neg e3]
theorem opsS_some : ∀ (l : List Opn) (lk : Int) (rest out out' : List T), okOs lk l → 2 ≤ lk → lk ≤ 9 → (∀ x ∈ rest, okKid lk x) → (∀ x ∈ out, okKid lk x) → opsS l rest out = some out' → ∃ b, out' = out ++ b ∧ SemO l rest b ∧ ∀ x ∈ b, okKid lk x
 | [], lk, rest, out, out', _, _, _, _, _, h => by
  rw [opsS] at h
  split at h
  ·rename_i hr
   injection h with h
   subst h
   refine ⟨[], by simp, ?_, fun x hx => by simp at hx⟩
   rw [SemO]
   exact ⟨List.eq_nil_of_length_eq_zero hr, rfl⟩
  ·cases h
 | .mk kind n l e :: r, lk, rest, out, out', ho, h2, h9, hrest, hout, h => by
  rw [opsS] at h
  rw [okOs] at ho
  by_cases k2 : kind = 2
  ·rw [if_pos k2] at h
   have hl := (okT_list h2 h9).1 (ho.2.2.2.1 (.inr k2))
   obtain ⟨b, rfl, hs, hb⟩ := opsS_some r lk rest (out ++ l) out' ho.2.2.2.2.2 h2 h9 hrest (allA hout hl) h
   refine ⟨l ++ b, by rw [List.append_assoc], ?_, allA hl hb⟩
   rw [SemO]
   exact ⟨[], rest, l, b, rfl, rfl, .inr (.inr (.inl ⟨k2, rfl, rfl⟩)), hs⟩
  ·rw [if_neg k2] at h
   by_cases k1 : kind = 1
   ·rw [if_pos k1] at h
    split at h
    ·cases h
    ·split at h
     ·rename_i hl he
      obtain ⟨b, rfl, hs, hb⟩ := opsS_some r lk (rest.drop l.length) out out' ho.2.2.2.2.2 h2 h9 (fun x hx => hrest x (List.mem_of_mem_drop hx)) hout h
      refine ⟨b, rfl, ?_, hb⟩
      rw [SemO]
      exact ⟨rest.take l.length, rest.drop l.length, [], b, (List.take_append_drop _ _).symm, rfl, .inr (.inl ⟨k1, (eqL_iff.1 he).symm, rfl⟩), hs⟩
     ·cases h
   ·rw [if_neg k1] at h
    by_cases k3 : kind = 3
    ·rw [if_pos k3] at h
     have oe := ho.2.2.2.2.1 k3
     cases rest with
     | nil => cases h
     | cons x rest' =>
      have h : ((oneS e x).bind fun k => opsS r rest' (out ++ [k])) = some out' := h
      cases hk : oneS e x with
      | none => rw [hk] at h; cases h
      | some k =>
       rw [hk] at h
       have h : opsS r rest' (out ++ [k]) = some out' := h
       have hx := hrest x (List.mem_cons_self ..)
       have h1 := oneS_some e x k oe.2.2.1 hx.1 hk
       have hkk : okKid lk k := by
        refine ⟨h1.2.1, fun _ h7 => by omega, fun _ => kindR_no10 oe.2.2.1 oe.1 h1.2.2, fun h9' => ?_⟩
        rcases oe.2.2.2 h9' with e2 | ⟨e1, e2⟩
        ·exact h1.2.2.1 e2
        ·obtain ⟨kd, old, new, ws, ks, lk', ops⟩ := e
         have e1 : kd = 1 := e1
         subst e1
         rw [h1.2.2.2.2 _ _ _ _ _ _ rfl]
         exact (e2 _ _ _ _ _ _ rfl).2
       obtain ⟨b, rfl, hs, hb⟩ := opsS_some r lk rest' (out ++ [k]) out' ho.2.2.2.2.2 h2 h9 (fun y hy => hrest y (List.mem_cons_of_mem _ hy)) (allA hout (allC hkk (fun x hx => by simp at hx))) h
       refine ⟨k :: b, by rw [List.append_assoc]; rfl, ?_, allC hkk hb⟩
       rw [SemO]
       exact ⟨[x], rest', [k], b, rfl, rfl, .inr (.inr (.inr ⟨k3, x, k, rfl, rfl, h1.1⟩)), hs⟩
    ·rw [if_neg k3] at h
     have k0 : kind = 0 := by omega
     split at h
     ·cases h
     ·rename_i hl
      obtain ⟨b, rfl, hs, hb⟩ := opsS_some r lk (rest.drop n.toNat) (out ++ rest.take n.toNat) out' ho.2.2.2.2.2 h2 h9 (fun x hx => hrest x (List.mem_of_mem_drop hx)) (allA hout (fun x h => hrest x (List.mem_of_mem_take h))) h
      refine ⟨rest.take n.toNat ++ b, by rw [List.append_assoc], ?_, allA (fun x h => hrest x (List.mem_of_mem_take h)) hb⟩
      rw [SemO]
      exact ⟨rest.take n.toNat, rest.drop n.toNat, rest.take n.toNat, b, (List.take_append_drop _ _).symm, rfl, .inl ⟨k0, by rw [List.length_take]; omega, rfl⟩, hs⟩
end
mutual
theorem oneS_none : ∀ (e : Ed) (t u : T), okE e → okT t → oneS e t = none → ¬ Sem e t u
 | .mk kind old new ws ks lk ops, t, u, ho, ht, h => by
  rw [okE] at ho
  rw [oneS] at h
  rw [Sem]
  by_cases k0 : kind = 0
  ·rw [if_pos k0] at h; cases h
  ·rw [if_neg k0] at h
   by_cases k1 : kind = 1
   ·rw [if_pos k1] at h
    split at h
    ·cases h
    ·rename_i he
     rintro (⟨h0, h1⟩ | ⟨h0, h1, h2⟩ | ⟨h0, h1, h2, h3, h4⟩ | ⟨h0, h1, h2, h3, h4, h5, h6⟩) <;> (first | (exfalso; omega) | skip)
     exact he (eqT_iff.2 h1.symm)
   ·rw [if_neg k1] at h
    by_cases k2 : kind = 2
    ·rw [if_pos k2] at h
     rintro (⟨h0, h1⟩ | ⟨h0, h1, h2⟩ | ⟨h0, h1, h2, h3, h4⟩ | ⟨h0, h1, h2, h3, h4, h5, h6⟩) <;> (first | (exfalso; omega) | skip)
     rw [if_pos h1] at h
     have o2 := ho.2.2.2.1 k2
     cases hw : wordsS t ws t.ws with
     | none => exact wordsS_none ws (-1) t.ws (wordT t) (wordT u) o2.2.1 (by decide) (fun i _ => rfl) hw h3
     | some w' =>
      rw [hw] at h
      cases hk : kidsS t ks t.ks with
      | none => exact kidsS_none ht h1 ks (-1) t.ks (kidT t) (kidT u) o2.2.2 (by decide) (fun i _ => rfl) hk h4
      | some k' => rw [hk] at h; cases h
    ·rw [if_neg k2] at h
     by_cases k3 : kind = 3
     ·rw [if_pos k3] at h
      rintro (⟨h0, h1⟩ | ⟨h0, h1, h2⟩ | ⟨h0, h1, h2, h3, h4⟩ | ⟨h0, h1, h2, h3, h4, h5, h6⟩) <;> (first | (exfalso; omega) | skip)
      rw [if_pos h1] at h
      have o3 := ho.2.2.2.2 k3
      cases hop : opsS ops t.ks [] with
      | some out => rw [hop] at h; cases h
      | none =>
       refine opsS_none ops lk t.ks [] u.ks o3.2.2 (fun x hx => ?_) hop h6
       obtain ⟨kk, w0, k0⟩ := t
       rw [okT, okTL_iff] at ht
       exact ht.2.2.2.2.2.2.2.2.2.2.2 x hx
     ·omega
theorem kidsS_none {t : T} (ht : okT t) (ht1 : t.kind = 1) : ∀ (l : List KEd) (a : Int) (out : List T) (f g : Int → T), okKs a l → -1 ≤ a → (∀ i : Nat, a < i → f i = kidT t i) → kidsS t l out = none → ¬ SemK l f g
 | [], a, out, f, g, _, _, _, h => by rw [kidsS] at h; cases h
 | .mk b e :: r, a, out, f, g, ho, ha, hf, h => by
  rw [kidsS] at h
  rw [okKs] at ho
  obtain ⟨n, hn⟩ := Int.eq_ofNat_of_zero_le (show 0 ≤ b by have := ho.1; omega)
  subst hn
  have han : a < (n : Int) := ho.1
  rw [SemK]
  rintro ⟨h1, h2⟩
  cases hk : oneS e (kidT t n) with
  | none =>
   rw [hf n han] at h1
   exact oneS_none e _ _ ho.2.2.1 (okT_kid ht ht1 n).1 hk h1
  | some k =>
   rw [hk] at h
   exact kidsS_none ht ht1 r n _ (upd f n nilT) (upd g n nilT) ho.2.2.2 (by omega) (fun i hi => by
    unfold upd; rw [if_neg (by omega)]; exact hf i (by omega)) h h2
theorem opsS_none : ∀ (l : List Opn) (lk : Int) (rest out b : List T), okOs lk l → (∀ x ∈ rest, okT x) → opsS l rest out = none → ¬ SemO l rest b
 | [], lk, rest, out, b, _, _, h => by
  rw [opsS] at h
  split at h
  ·cases h
  ·rename_i hr
   rw [SemO]
   rintro ⟨rfl, _⟩
   exact hr rfl
 | .mk kind n l e :: r, lk, rest, out, b, ho, hrest, h => by
  rw [opsS] at h
  rw [okOs] at ho
  rw [SemO]
  rintro ⟨a1, a2, b1, b2, rfl, rfl, hs, hr⟩
  have hr2 : ∀ x ∈ a2, okT x := fun x hx => hrest x (List.mem_append_right _ hx)
  rcases hs with ⟨h0, h1, h2⟩ | ⟨h0, h1, h2⟩ | ⟨h0, h1, h2⟩ | ⟨h0, x, y, h1, h2, h3⟩
  ·rw [if_neg (by omega), if_neg (by omega), if_neg (by omega), if_neg (by rw [List.length_append]; omega), ← h1, List.drop_left] at h
   exact opsS_none r lk a2 _ b2 ho.2.2.2.2.2 hr2 h hr
  ·have hl := alike_len h1
   rw [if_neg (by omega), if_pos h0, if_neg (by rw [List.length_append]; omega), ← hl, List.take_left, List.drop_left, if_pos (eqL_iff.2 h1.symm)] at h
   exact opsS_none r lk a2 _ b2 ho.2.2.2.2.2 hr2 h hr
  ·subst h1
   rw [if_pos h0] at h
   exact opsS_none r lk a2 _ b2 ho.2.2.2.2.2 hr2 h hr
  ·subst h1
   rw [if_neg (by omega), if_neg (by omega), if_pos h0] at h
   have h : ((oneS e x).bind fun k => opsS r a2 (out ++ [k])) = none := h
   have oe := ho.2.2.2.2.1 h0
   cases hk : oneS e x with
   | none => exact oneS_none e x y oe.2.2.1 (hrest x (by simp)) hk h3
   | some k =>
    rw [hk] at h
    exact opsS_none r lk a2 _ b2 ho.2.2.2.2.2 hr2 h hr
end
theorem norm_norm_kids (l : List T) : (∀ x ∈ l, norm (norm x) = norm x) → (l.map norm).map norm = l.map norm := fun h => by
 rw [List.map_map]
 exact List.map_congr_left h
theorem applyS_some {e : Ed} {t u : T} (ho : okE e) (ht : okT t) (hn : ∀ x, norm (norm x) = norm x) (h : applyS e t = some u) : ∀ z, Sem e t z ↔ norm u = norm z := by
 unfold applyS at h
 cases h1 : oneS e t with
 | none => rw [h1] at h; cases h
 | some v =>
  rw [h1] at h
  injection h with h
  subst h
  have h2 := oneS_some e t v ho ht h1
  intro z
  rw [hn]
  exact ⟨fun h3 => Sem_det ho h2.1 h3, fun h3 => Sem_congr ho rfl h3 h2.1⟩
theorem applyS_none {e : Ed} {t : T} (ho : okE e) (ht : okT t) (h : applyS e t = none) : ∀ z, ¬ Sem e t z := by
 unfold applyS at h
 cases h1 : oneS e t with
 | none => exact fun z => oneS_none e t z ho ht h1
 | some v => rw [h1] at h; cases h
section rows
variable {α : Type}
def lookR (at_ : α → Int) (l : List α) (i : Int) : Option α := l.find? (fun x => at_ x == i)
def Rise (at_ : α → Int) : Int → List α → Prop
 | _, [] => True
 | a, x :: r => a < at_ x ∧ Rise at_ (at_ x) r
theorem Rise.mono {at_ : α → Int} {l : List α} {a b : Int} (h : Rise at_ b l) (hab : a ≤ b) : Rise at_ a l := by
 cases l with
 | nil => trivial
 | cons x r => exact ⟨by have := h.1; omega, h.2⟩
theorem look_low {at_ : α → Int} : ∀ {l : List α} {a i : Int}, Rise at_ a l → i ≤ a → lookR at_ l i = none
 | [], _, _, _, _ => rfl
 | x :: r, a, i, h, hi => by
  unfold lookR
  rw [List.find?_cons]
  have h1 := h.1
  have : (at_ x == i) = false := beq_eq_false_iff_ne.2 (by omega)
  rw [this]
  exact look_low (l := r) h.2 (by omega)
def mergeR (at_ : α → Int) (one : α → α → Option α) : Nat → List α → List α → Option (List α)
 | 0, _, _ => none
 | _ + 1, [], q => some q
 | _ + 1, x :: p, [] => some (x :: p)
 | n + 1, x :: p, y :: q =>
  if at_ x < at_ y then (mergeR at_ one n p (y :: q)).map (x :: ·)
  else if at_ y < at_ x then (mergeR at_ one n (x :: p) q).map (y :: ·)
  else (one x y).bind fun z => (mergeR at_ one n p q).map (z :: ·)
def combR (one : α → α → Option α) : Option α → Option α → Option (Option α)
 | none, y => some y
 | some x, none => some (some x)
 | some x, some y => (one x y).map some
theorem look_cons {at_ : α → Int} {x : α} {l : List α} {i : Int} : lookR at_ (x :: l) i = if at_ x = i then some x else lookR at_ l i := by
 unfold lookR
 rw [List.find?_cons]
 by_cases h : at_ x = i
 ·rw [if_pos h]; simp [h]
 ·rw [if_neg h, beq_eq_false_iff_ne.2 h]
theorem merge_look {at_ : α → Int} {one : α → α → Option α} (hat : ∀ {x y z}, one x y = some z → at_ z = at_ x) : ∀ (n : Nat) (p q l : List α) (a : Int), p.length + q.length < n → Rise at_ a p → Rise at_ a q → mergeR at_ one n p q = some l → Rise at_ a l ∧ ∀ i, combR one (lookR at_ p i) (lookR at_ q i) = some (lookR at_ l i)
 | 0, p, q, l, a, hn, _, _, h => by omega
 | n + 1, [], q, l, a, hn, hp, hq, h => by
  rw [mergeR] at h
  injection h with h
  subst h
  exact ⟨hq, fun i => rfl⟩
 | n + 1, x :: p, [], l, a, hn, hp, hq, h => by
  rw [mergeR] at h
  injection h with h
  subst h
  refine ⟨hp, fun i => ?_⟩
  rw [show lookR at_ [] i = none from rfl]
  cases lookR at_ (x :: p) i <;> rfl
 | n + 1, x :: p, y :: q, l, a, hn, hp, hq, h => by
  rw [mergeR] at h
  simp only [List.length_cons] at hn
  by_cases h1 : at_ x < at_ y
  ·rw [if_pos h1] at h
   cases hm : mergeR at_ one n p (y :: q) with
   | none => rw [hm] at h; cases h
   | some l' =>
    rw [hm] at h
    injection h with h
    subst h
    obtain ⟨r1, r2⟩ := merge_look hat n p (y :: q) l' (at_ x) (by simp only [List.length_cons]; omega) hp.2 ⟨h1, hq.2⟩ hm
    refine ⟨⟨hp.1, r1⟩, fun i => ?_⟩
    rw [look_cons (x := x) (l := l'), look_cons (x := x) (l := p)]
    by_cases hi : at_ x = i
    ·rw [if_pos hi, if_pos hi, look_low (a := at_ x) (l := y :: q) ⟨h1, hq.2⟩ (by omega)]
     rfl
    ·rw [if_neg hi, if_neg hi]
     exact r2 i
  ·rw [if_neg h1] at h
   by_cases h2 : at_ y < at_ x
   ·rw [if_pos h2] at h
    cases hm : mergeR at_ one n (x :: p) q with
    | none => rw [hm] at h; cases h
    | some l' =>
     rw [hm] at h
     injection h with h
     subst h
     obtain ⟨r1, r2⟩ := merge_look hat n (x :: p) q l' (at_ y) (by simp only [List.length_cons]; omega) ⟨h2, hp.2⟩ hq.2 hm
     refine ⟨⟨hq.1, r1⟩, fun i => ?_⟩
     rw [look_cons (x := y) (l := l'), look_cons (x := y) (l := q)]
     by_cases hi : at_ y = i
     ·rw [if_pos hi, if_pos hi, look_low (a := at_ y) (l := x :: p) ⟨h2, hp.2⟩ (by omega)]
      rfl
     ·rw [if_neg hi, if_neg hi]
      exact r2 i
   ·rw [if_neg h2] at h
    have he : at_ x = at_ y := by omega
    cases ho : one x y with
    | none => rw [ho] at h; cases h
    | some z =>
     rw [ho] at h
     have h : (mergeR at_ one n p q).map (z :: ·) = some l := h
     cases hm : mergeR at_ one n p q with
     | none => rw [hm] at h; cases h
     | some l' =>
      rw [hm] at h
      injection h with h
      subst h
      have hz := hat ho
      obtain ⟨r1, r2⟩ := merge_look hat n p q l' (at_ x) (by omega) hp.2 (by rw [he]; exact hq.2) hm
      refine ⟨⟨by rw [hz]; exact hp.1, by rw [hz]; exact r1⟩, fun i => ?_⟩
      rw [look_cons (x := x), look_cons (x := y), look_cons (x := z), hz, ← he]
      by_cases hi : at_ x = i
      ·rw [if_pos hi, if_pos hi, if_pos hi]
       show (one x y).map some = _
       rw [ho]
       rfl
      ·rw [if_neg hi, if_neg hi, if_neg hi]
       exact r2 i
theorem merge_none {at_ : α → Int} {one : α → α → Option α} : ∀ (n : Nat) (p q : List α) (a : Int), p.length + q.length < n → Rise at_ a p → Rise at_ a q → mergeR at_ one n p q = none → ∃ i, combR one (lookR at_ p i) (lookR at_ q i) = none ∧ a < i
 | 0, p, q, a, hn, _, _, h => by omega
 | n + 1, [], q, a, hn, hp, hq, h => by rw [mergeR] at h; cases h
 | n + 1, x :: p, [], a, hn, hp, hq, h => by rw [mergeR] at h; cases h
 | n + 1, x :: p, y :: q, a, hn, hp, hq, h => by
  rw [mergeR] at h
  simp only [List.length_cons] at hn
  by_cases h1 : at_ x < at_ y
  ·rw [if_pos h1] at h
   cases hm : mergeR at_ one n p (y :: q) with
   | some l => rw [hm] at h; cases h
   | none =>
    obtain ⟨i, hi, ha⟩ := merge_none n p (y :: q) (at_ x) (by simp only [List.length_cons]; omega) hp.2 ⟨h1, hq.2⟩ hm
    exact ⟨i, by rw [look_cons (x := x), if_neg (by omega)]; exact hi, by have := hp.1; omega⟩
  ·rw [if_neg h1] at h
   by_cases h2 : at_ y < at_ x
   ·rw [if_pos h2] at h
    cases hm : mergeR at_ one n (x :: p) q with
    | some l => rw [hm] at h; cases h
    | none =>
     obtain ⟨i, hi, ha⟩ := merge_none n (x :: p) q (at_ y) (by simp only [List.length_cons]; omega) ⟨h2, hp.2⟩ hq.2 hm
     exact ⟨i, by rw [look_cons (x := y) (l := q), if_neg (by omega)]; exact hi, by have := hq.1; omega⟩
   ·rw [if_neg h2] at h
    have he : at_ x = at_ y := by omega
    cases ho : one x y with
    | none =>
     refine ⟨at_ x, ?_, hp.1⟩
     rw [look_cons, look_cons, if_pos rfl, if_pos he.symm]
     show (one x y).map some = none
     rw [ho]
     rfl
    | some z =>
     rw [ho] at h
     have h : (mergeR at_ one n p q).map (z :: ·) = none := h
     cases hm : mergeR at_ one n p q with
     | some l => rw [hm] at h; cases h
     | none =>
      obtain ⟨i, hi, ha⟩ := merge_none n p q (at_ x) (by omega) hp.2 (by rw [he]; exact hq.2) hm
      exact ⟨i, by rw [look_cons, look_cons, if_neg (by omega), if_neg (by omega)]; exact hi, by have := hp.1; omega⟩
end rows
theorem okWs_rise : ∀ {l : List WE} {a : Int}, okWs a l ↔ Rise WE.at_ a l
 | [], _ => Iff.rfl
 | w :: r, a => by rw [okWs, Rise, okWs_rise]
theorem okKs_rise : ∀ {l : List KEd} {a : Int}, okKs a l → Rise KEd.at_ a l
 | [], _, _ => trivial
 | .mk b e :: r, a, h => by
  rw [okKs] at h
  exact ⟨h.1, okKs_rise h.2.2.2⟩
theorem okKs_mem : ∀ {l : List KEd} {a : Int}, okKs a l → ∀ x ∈ l, x.e.kind ≠ 0 ∧ okE x.e
 | [], _, _, x, hx => by simp at hx
 | .mk b e :: r, a, h, x, hx => by
  rw [okKs] at h
  rcases List.mem_cons.1 hx with h1 | h1
  ·rw [h1]; exact ⟨h.2.1, h.2.2.1⟩
  ·exact okKs_mem h.2.2.2 x h1
def atW (w : Option WE) (x y : Int) : Prop := match w with | none => x = y | some w => w.Sem x y
def atK (k : Option KEd) (x y : T) : Prop := match k with | none => norm x = norm y | some k => Sem k.e x y
theorem SemW_look : ∀ {l : List WE} {a : Int} {f g : Int → Int}, Rise WE.at_ a l → -1 ≤ a → (SemW l f g ↔ ∀ i : Nat, atW (lookR WE.at_ l i) (f i) (g i))
 | [], a, f, g, _, _ => Iff.rfl
 | w :: r, a, f, g, h, ha => by
  obtain ⟨n, hn⟩ := Int.eq_ofNat_of_zero_le (show 0 ≤ w.at_ by have := h.1; omega)
  rw [SemW, SemW_look (l := r) h.2 (by have := h.1; omega)]
  constructor
  ·rintro ⟨h1, h2⟩ i
   rw [look_cons]
   by_cases hi : w.at_ = (i : Int)
   ·rw [if_pos hi, ← hi]; exact h1
   ·rw [if_neg hi]
    have := h2 i
    unfold upd at this
    rwa [if_neg (Ne.symm hi), if_neg (Ne.symm hi)] at this
  ·intro h1
   refine ⟨?_, fun i => ?_⟩
   ·have := h1 n
    rw [look_cons, if_pos hn] at this
    rw [hn]; exact this
   ·unfold upd
    by_cases hi : (i : Int) = w.at_
    ·rw [if_pos hi, if_pos hi, hi, look_low h.2 (Int.le_refl _)]; rfl
    ·rw [if_neg hi, if_neg hi]
     have := h1 i
     rwa [look_cons, if_neg (Ne.symm hi)] at this
theorem SemK_look : ∀ {l : List KEd} {a : Int} {f g : Int → T}, Rise KEd.at_ a l → -1 ≤ a → (SemK l f g ↔ ∀ i : Nat, atK (lookR KEd.at_ l i) (f i) (g i))
 | [], a, f, g, _, _ => by rw [SemK]; exact Iff.rfl
 | .mk b e :: r, a, f, g, h, ha => by
  have hb : (KEd.mk b e).at_ = b := rfl
  obtain ⟨n, hn⟩ := Int.eq_ofNat_of_zero_le (show 0 ≤ b by have := h.1; rw [hb] at this; omega)
  have h2 : Rise KEd.at_ b r := h.2
  rw [SemK, SemK_look (l := r) h2 (by omega)]
  constructor
  ·rintro ⟨h1, h2⟩ i
   rw [look_cons, hb]
   by_cases hi : b = (i : Int)
   ·rw [if_pos hi, ← hi]; exact h1
   ·rw [if_neg hi]
    have := h2 i
    unfold upd at this
    rwa [if_neg (Ne.symm hi), if_neg (Ne.symm hi)] at this
  ·intro h1
   refine ⟨?_, fun i => ?_⟩
   ·have := h1 n
    rw [look_cons, hb, if_pos hn] at this
    rw [hn]; exact this
   ·unfold upd
    by_cases hi : (i : Int) = b
    ·rw [if_pos hi, if_pos hi, hi, look_low h2 (Int.le_refl _)]; rfl
    ·rw [if_neg hi, if_neg hi]
     have := h1 i
     rwa [look_cons, hb, if_neg (Ne.symm hi)] at this
def mkS (N : Nat) (g : Nat → Int) (k : Nat → T) : T := .node 1 ((List.range N).map g) ((List.range N).map k)
theorem mkS_word (N : Nat) (g : Nat → Int) (k : Nat → T) (hg : ∀ i, N ≤ i → g i = 0) (i : Nat) : wordT (mkS N g k) i = g i := by
 rw [word_get]
 show (((List.range N).map g)[i]?).getD 0 = g i
 rw [List.getElem?_map]
 by_cases hi : i < N
 ·rw [List.getElem?_range hi]; rfl
 ·rw [List.getElem?_eq_none (by simp; omega)]; exact (hg i (by omega)).symm
theorem mkS_kid (N : Nat) (g : Nat → Int) (k : Nat → T) (hk : ∀ i, N ≤ i → norm (k i) = nilT) (i : Nat) : norm (kidT (mkS N g k) i) = norm (k i) := by
 rw [kid_get]
 show (((((List.range N).map k).map norm))[i]?).getD nilT = norm (k i)
 rw [List.getElem?_map, List.getElem?_map]
 by_cases hi : i < N
 ·rw [List.getElem?_range hi]; rfl
 ·rw [List.getElem?_eq_none (by simp; omega)]; exact (hk i (by omega)).symm
theorem look_high {α : Type} {at_ : α → Int} : ∀ (l : List α), ∃ N : Nat, ∀ i : Nat, N ≤ i → lookR at_ l i = none
 | [] => ⟨0, fun i _ => rfl⟩
 | x :: r => by
  obtain ⟨N, h⟩ := look_high (at_ := at_) r
  refine ⟨max N ((at_ x).toNat + 1), fun i hi => ?_⟩
  rw [look_cons, if_neg (by omega)]
  exact h i (by omega)
theorem word_high (t : T) (i : Nat) (h : t.ws.length ≤ i) : wordT t i = 0 := by
 rw [word_get, List.getElem?_eq_none h]; rfl
theorem kid_high (t : T) (i : Nat) (h : t.ks.length ≤ i) : norm (kidT t i) = nilT := by
 rw [kid_get, List.getElem?_eq_none (by simpa using h)]; rfl
theorem struct_some {pw qw hw : List WE} {pk qk hk : List KEd} {onek : KEd → KEd → Option KEd}
  (rp : Rise WE.at_ (-1) pw) (rq : Rise WE.at_ (-1) qw) (op : ∀ w ∈ pw, w.ok) (oq : ∀ w ∈ qw, w.ok) (kp : Rise KEd.at_ (-1) pk) (kq : Rise KEd.at_ (-1) qk)
  (hat : ∀ {x y z}, onek x y = some z → z.at_ = x.at_)
  (cong : ∀ x ∈ pk, ∀ {t u u' : T}, norm u = norm u' → Sem x.e t u → Sem x.e t u') (congq : ∀ x ∈ qk, ∀ {t t' u : T}, norm t = norm t' → Sem x.e t u → Sem x.e t' u)
  (hone : ∀ x ∈ pk, ∀ y ∈ qk, ∀ z, onek x y = some z → ∀ t v, Sem z.e t v ↔ ∃ u, Sem x.e t u ∧ Sem y.e u v)
  (mw : mergeR WE.at_ WE.comp (pw.length + qw.length + 1) pw qw = some hw) (mk : mergeR KEd.at_ onek (pk.length + qk.length + 1) pk qk = some hk) (t v : T) :
  (t.kind = 1 ∧ v.kind = 1 ∧ SemW hw (wordT t) (wordT v) ∧ SemK hk (kidT t) (kidT v)) ↔
   ∃ u : T, (t.kind = 1 ∧ u.kind = 1 ∧ SemW pw (wordT t) (wordT u) ∧ SemK pk (kidT t) (kidT u)) ∧ (u.kind = 1 ∧ v.kind = 1 ∧ SemW qw (wordT u) (wordT v) ∧ SemK qk (kidT u) (kidT v)) := by
 obtain ⟨r1, l1⟩ := merge_look (at_ := WE.at_) (one := WE.comp) (fun {x y z} h => by
  unfold WE.comp at h
  split at h
  ·injection h with h; rw [← h]
  ·cases h) _ pw qw hw (-1) (Nat.lt_succ_self _) rp rq mw
 obtain ⟨r2, l2⟩ := merge_look (at_ := KEd.at_) (one := onek) hat _ pk qk hk (-1) (Nat.lt_succ_self _) kp kq mk
 have memW : ∀ {l : List WE} {i : Int} {w : WE}, lookR WE.at_ l i = some w → w ∈ l := fun h => List.mem_of_find?_eq_some h
 have memK : ∀ {l : List KEd} {i : Int} {w : KEd}, lookR KEd.at_ l i = some w → w ∈ l := fun h => List.mem_of_find?_eq_some h
 have hword : ∀ (i : Nat) (x z : Int), atW (lookR WE.at_ hw i) x z ↔ ∃ y, atW (lookR WE.at_ pw i) x y ∧ atW (lookR WE.at_ qw i) y z := by
  intro i x z
  have hl := l1 i
  cases e1 : lookR WE.at_ pw i with
  | none =>
   rw [e1] at hl
   injection hl with hl
   rw [← hl]
   exact ⟨fun h => ⟨x, rfl, h⟩, fun ⟨y, h1, h2⟩ => by have h1 : x = y := h1; rw [h1]; exact h2⟩
  | some a =>
   cases e2 : lookR WE.at_ qw i with
   | none =>
    rw [e1, e2] at hl
    injection hl with hl
    rw [← hl]
    exact ⟨fun h => ⟨z, h, rfl⟩, fun ⟨y, h1, h2⟩ => by have h2 : y = z := h2; rw [← h2]; exact h1⟩
   | some b =>
    rw [e1, e2] at hl
    have hl : (WE.comp a b).map some = some (lookR WE.at_ hw i) := hl
    cases e3 : WE.comp a b with
    | none => rw [e3] at hl; cases hl
    | some c =>
     rw [e3] at hl
     injection hl with hl
     rw [← hl]
     exact WE.comp_some (op a (memW e1)) (oq b (memW e2)) e3 x z
 have hkid : ∀ (i : Nat) (x z : T), atK (lookR KEd.at_ hk i) x z ↔ ∃ y, atK (lookR KEd.at_ pk i) x y ∧ atK (lookR KEd.at_ qk i) y z := by
  intro i x z
  have hl := l2 i
  cases e1 : lookR KEd.at_ pk i with
  | none =>
   rw [e1] at hl
   injection hl with hl
   rw [← hl]
   refine ⟨fun h => ⟨x, rfl, h⟩, fun ⟨y, h1, h2⟩ => ?_⟩
   have h1 : norm x = norm y := h1
   cases e2 : lookR KEd.at_ qk i with
   | none => rw [e2] at h2; exact h1.trans h2
   | some b => rw [e2] at h2; exact congq b (memK e2) h1.symm h2
  | some a =>
   cases e2 : lookR KEd.at_ qk i with
   | none =>
    rw [e1, e2] at hl
    injection hl with hl
    rw [← hl]
    exact ⟨fun h => ⟨z, h, rfl⟩, fun ⟨y, h1, h2⟩ => cong a (memK e1) h2 h1⟩
   | some b =>
    rw [e1, e2] at hl
    have hl : (onek a b).map some = some (lookR KEd.at_ hk i) := hl
    cases e3 : onek a b with
    | none => rw [e3] at hl; cases hl
    | some c =>
     rw [e3] at hl
     injection hl with hl
     rw [← hl]
     exact hone a (memK e1) b (memK e2) c e3 x z
 rw [SemW_look r1 (by decide), SemK_look r2 (by decide)]
 constructor
 ·rintro ⟨ht, hv, h1, h2⟩
  obtain ⟨g, hg⟩ := Classical.axiomOfChoice (fun i : Nat => (hword i _ _).1 (h1 i))
  obtain ⟨k, hk'⟩ := Classical.axiomOfChoice (fun i : Nat => (hkid i _ _).1 (h2 i))
  obtain ⟨N1, n1⟩ := look_high (at_ := WE.at_) pw
  obtain ⟨N2, n2⟩ := look_high (at_ := KEd.at_) pk
  have hg0 : ∀ i, max (max N1 N2) (max t.ws.length t.ks.length) ≤ i → g i = 0 := fun i hi => by
   have := (hg i).1
   rw [n1 i (by omega)] at this
   have this : wordT t i = g i := this
   rw [← this, word_high t i (by omega)]
  have hk0 : ∀ i, max (max N1 N2) (max t.ws.length t.ks.length) ≤ i → norm (k i) = nilT := fun i hi => by
   have := (hk' i).1
   rw [n2 i (by omega)] at this
   have this : norm (kidT t i) = norm (k i) := this
   rw [← this, kid_high t i (by omega)]
  refine ⟨mkS (max (max N1 N2) (max t.ws.length t.ks.length)) g k, ⟨ht, rfl, (SemW_look rp (by decide)).2 fun i => ?_, (SemK_look kp (by decide)).2 fun i => ?_⟩, rfl, hv, (SemW_look rq (by decide)).2 fun i => ?_, (SemK_look kq (by decide)).2 fun i => ?_⟩
  ·rw [mkS_word _ _ _ hg0]; exact (hg i).1
  ·have h3 := (hk' i).1
   cases e1 : lookR KEd.at_ pk i with
   | none => rw [e1] at h3; exact h3.trans (mkS_kid _ _ _ hk0 i).symm
   | some a => rw [e1] at h3; exact cong a (memK e1) (mkS_kid _ _ _ hk0 i).symm h3
  ·rw [mkS_word _ _ _ hg0]; exact (hg i).2
  ·have h3 := (hk' i).2
   cases e1 : lookR KEd.at_ qk i with
   | none => rw [e1] at h3; exact (mkS_kid _ _ _ hk0 i).trans h3
   | some a => rw [e1] at h3; exact congq a (memK e1) (mkS_kid _ _ _ hk0 i).symm h3
 ·rintro ⟨u, ⟨ht, _, h1, h2⟩, _, hv, h3, h4⟩
  rw [SemW_look rp (by decide)] at h1
  rw [SemW_look rq (by decide)] at h3
  rw [SemK_look kp (by decide)] at h2
  rw [SemK_look kq (by decide)] at h4
  exact ⟨ht, hv, fun i => (hword i _ _).2 ⟨_, h1 i, h3 i⟩, fun i => (hkid i _ _).2 ⟨_, h2 i, h4 i⟩⟩
theorem comb_none {α : Type} {one : α → α → Option α} {a b : Option α} (h : combR one a b = none) : ∃ x y, a = some x ∧ b = some y ∧ one x y = none := by
 cases a with
 | none => cases h
 | some x =>
  cases b with
  | none => cases h
  | some y =>
   have h : (one x y).map some = none := h
   refine ⟨x, y, rfl, rfl, ?_⟩
   cases e : one x y with
   | none => rfl
   | some z => rw [e] at h; cases h
theorem words_none {pw qw : List WE} (rp : Rise WE.at_ (-1) pw) (rq : Rise WE.at_ (-1) qw) (op : ∀ w ∈ pw, w.ok) (oq : ∀ w ∈ qw, w.ok) (mw : mergeR WE.at_ WE.comp (pw.length + qw.length + 1) pw qw = none) (f g h : Int → Int) : SemW pw f g → SemW qw g h → False := by
 obtain ⟨i, hi, ha⟩ := merge_none _ pw qw (-1) (Nat.lt_succ_self _) rp rq mw
 obtain ⟨x, y, e1, e2, e3⟩ := comb_none hi
 obtain ⟨n, rfl⟩ := Int.eq_ofNat_of_zero_le (show 0 ≤ i by omega)
 intro h1 h2
 have h1 := (SemW_look rp (by decide)).1 h1 n
 have h2 := (SemW_look rq (by decide)).1 h2 n
 rw [e1] at h1
 rw [e2] at h2
 exact WE.comp_none (op x (List.mem_of_find?_eq_some e1)) (oq y (List.mem_of_find?_eq_some e2)) e3 _ _ _ h1 h2
theorem kids_none {pk qk : List KEd} {onek : KEd → KEd → Option KEd} (kp : Rise KEd.at_ (-1) pk) (kq : Rise KEd.at_ (-1) qk)
  (hone : ∀ x ∈ pk, ∀ y ∈ qk, onek x y = none → ∀ t u v, Sem x.e t u → Sem y.e u v → False)
  (mk : mergeR KEd.at_ onek (pk.length + qk.length + 1) pk qk = none) (f g h : Int → T) : SemK pk f g → SemK qk g h → False := by
 obtain ⟨i, hi, ha⟩ := merge_none _ pk qk (-1) (Nat.lt_succ_self _) kp kq mk
 obtain ⟨x, y, e1, e2, e3⟩ := comb_none hi
 obtain ⟨n, rfl⟩ := Int.eq_ofNat_of_zero_le (show 0 ≤ i by omega)
 intro h1 h2
 have h1 := (SemK_look kp (by decide)).1 h1 n
 have h2 := (SemK_look kq (by decide)).1 h2 n
 rw [e1] at h1
 rw [e2] at h2
 exact hone x (List.mem_of_find?_eq_some e1) y (List.mem_of_find?_eq_some e2) e3 _ _ _ h1 h2
structure Wr where
 out : List Opn
 gone : List T
 brought : List T
def nilE : Ed := .mk 0 nilT nilT [] [] 0 []
def Wr.flushed (w : Wr) : List Opn := w.out ++ (if w.gone = [] then [] else [.mk 1 0 w.gone nilE]) ++ (if w.brought = [] then [] else [.mk 2 0 w.brought nilE])
def addKeep (n : Int) : List Opn → List Opn
 | [] => [.mk 0 n [] nilE]
 | [.mk kind m l e] => if kind = 0 then [.mk kind (m + n) l e] else [.mk kind m l e, .mk 0 n [] nilE]
 | o :: o' :: r => o :: addKeep n (o' :: r)
def isIdle (lk : Int) : Ed → Bool
 | .mk kind _ _ ws ks _ _ => kind == 0 || (lk == 9 && kind == 2 && ws.isEmpty && ks.isEmpty)
mutual
def normalE : Ed → Ed
 | .mk kind old new ws ks lk ops =>
  if kind = 1 then .mk kind (norm old) (norm new) [] [] lk []
  else if kind = 2 then .mk kind nilT nilT ws (normalK ks) lk []
  else if kind = 3 then .mk kind nilT nilT [] [] lk (normalO lk ops ⟨[], [], []⟩).flushed
  else .mk kind nilT nilT [] [] lk []
def normalK : List KEd → List KEd
 | [] => []
 | .mk a e :: r => .mk a (normalE e) :: normalK r
def normalO (lk : Int) : List Opn → Wr → Wr
 | [], w => w
 | .mk kind n l e :: r, w =>
  if kind = 0 then normalO lk r ⟨addKeep n w.flushed, [], []⟩
  else if kind = 1 then normalO lk r ⟨w.out, w.gone ++ l.map norm, w.brought⟩
  else if kind = 2 then normalO lk r ⟨w.out, w.gone, w.brought ++ l.map norm⟩
  else if isIdle lk (normalE e) then normalO lk r ⟨addKeep 1 w.flushed, [], []⟩
  else normalO lk r ⟨w.flushed ++ [.mk 3 0 [] (normalE e)], [], []⟩
end
theorem units_flushed (w : Wr) : units w.flushed = units w.out ++ (w.gone.map .D ++ w.brought.map .I) := by
 unfold Wr.flushed
 rw [units_app, units_app, List.append_assoc]
 congr 1
 congr 1
 ·split
  ·rename_i h; rw [h]; rfl
  ·simp [units, unitsOf]
 ·split
  ·rename_i h; rw [h]; rfl
  ·simp [units, unitsOf]
theorem units_addKeep (n : Int) (hn : 0 ≤ n) : ∀ (l : List Opn), (∀ kind m x e, Opn.mk kind m x e ∈ l → 0 ≤ m) → units (addKeep n l) = units l ++ List.replicate n.toNat .K
 | [], _ => by simp [addKeep, units, unitsOf]
 | [.mk kind m l e], h => by
  rw [addKeep]
  split
  ·rename_i h0
   have hm := h kind m l e (List.mem_cons_self ..)
   rw [units, units, units, unitsOf, unitsOf, if_pos h0, if_pos h0, show (m + n).toNat = m.toNat + n.toNat from by omega]
   rw [show units [] = [] from rfl, List.append_nil, List.append_nil, List.replicate_append_replicate]
  ·simp [units, unitsOf]
 | o :: o' :: r, h => by
  rw [addKeep, units, units_addKeep n hn (o' :: r) (fun kind m x e hm => h kind m x e (List.mem_cons_of_mem _ hm))]
  simp only [units, List.append_assoc]
theorem trimP_fix {α : Type} {p : α → Bool} : ∀ {l : List α}, Trimmed p l → trimP p l = l
 | [], _ => rfl
 | [x], h => by
  have h : p x = false := h
  simp [trimP, h]
 | x :: y :: q, h => by
  have ih := trimP_fix (p := p) (l := y :: q) h
  rw [trimP, ih]
theorem trimP_mem {α : Type} {p : α → Bool} : ∀ {l : List α} {x : α}, x ∈ trimP p l → x ∈ l
 | [], x, h => h
 | y :: r, x, h => by
  rw [trimP] at h
  cases e : trimP p r with
  | nil =>
   rw [e] at h
   by_cases hy : p y = true
   ·simp [hy] at h
   ·simp [hy] at h; rw [h]; exact List.mem_cons_self ..
  | cons z q =>
   rw [e] at h
   rcases List.mem_cons.1 h with h | h
   ·rw [h]; exact List.mem_cons_self ..
   ·exact List.mem_cons_of_mem _ (trimP_mem (p := p) (by rw [e]; exact h))
theorem trimP_idem {α : Type} {p : α → Bool} (l : List α) : trimP p (trimP p l) = trimP p l := trimP_fix (trimP_trimmed l)
mutual
theorem norm_norm : ∀ t : T, norm (norm t) = norm t
 | .node k ws ks => by
  have hk := norm_normL ks
  by_cases h0 : k = 0
  ·rw [norm_zero (.node k ws ks) h0]; rfl
  ·by_cases h1 : k = 1
   ·subst h1
    rw [norm_struct, norm_struct]
    have e1 : trimW (trimW ws) = trimW ws := by rw [trimW_P, trimW_P, trimP_idem]
    have e2 : (trimK (ks.map norm)).map norm = trimK (ks.map norm) := by
     rw [trimK_P]
     conv => rhs; rw [← List.map_id (trimP (fun t => t.kind == 0) (ks.map norm))]
     refine List.map_congr_left fun x hx => ?_
     obtain ⟨y, hy, rfl⟩ := List.mem_map.1 (trimP_mem hx)
     exact hk y hy
    rw [e1, e2, trimK_P, trimK_P, trimP_idem]
   ·rw [norm_list k ws ks h0 h1, norm_list k ws _ h0 h1, norm_norm_kids ks hk]
theorem norm_normL : ∀ l : List T, ∀ x ∈ l, norm (norm x) = norm x
 | [], x, h => by simp at h
 | t :: r, x, h => by
  rcases List.mem_cons.1 h with h | h
  ·rw [h]; exact norm_norm t
  ·exact norm_normL r x h
end
theorem alike_norm (l : List T) : alike (l.map norm) l := by
 unfold alike
 exact norm_norm_kids l (fun x _ => norm_norm x)
def EqU (C : T → Prop) (us vs : List (U T Ed)) : Prop := ∀ a b : List T, (∀ x ∈ a, C x) → (Run req Sem us a b ↔ Run req Sem vs a b)
theorem EqU.refl {C : T → Prop} (us : List (U T Ed)) : EqU C us us := fun _ _ _ => Iff.rfl
theorem EqU.trans {C : T → Prop} {us vs ws : List (U T Ed)} (h : EqU C us vs) (k : EqU C vs ws) : EqU C us ws := fun a b ha => (h a b ha).trans (k a b ha)
theorem EqU.app {C : T → Prop} {us us' vs vs' : List (U T Ed)} (h : EqU C us us') (k : EqU C vs vs') : EqU C (us ++ vs) (us' ++ vs') := by
 intro a b ha
 rw [run_app, run_app]
 constructor
 ·rintro ⟨a1, a2, b1, b2, rfl, rfl, h1, h2⟩
  exact ⟨a1, a2, b1, b2, rfl, rfl, (h _ _ fun x hx => ha x (List.mem_append_left _ hx)).1 h1, (k _ _ fun x hx => ha x (List.mem_append_right _ hx)).1 h2⟩
 ·rintro ⟨a1, a2, b1, b2, rfl, rfl, h1, h2⟩
  exact ⟨a1, a2, b1, b2, rfl, rfl, (h _ _ fun x hx => ha x (List.mem_append_left _ hx)).2 h1, (k _ _ fun x hx => ha x (List.mem_append_right _ hx)).2 h2⟩
theorem EqU.swap {C : T → Prop} (l m : List T) : EqU C (m.map .D ++ l.map .I) (l.map .I ++ m.map .D) := by
 intro a b _
 rw [run_app, run_app]
 constructor
 ·rintro ⟨a1, a2, b1, b2, rfl, rfl, h1, h2⟩
  obtain ⟨h3, rfl⟩ := run_dels.1 h1
  obtain ⟨rfl, h4⟩ := run_inss.1 h2
  exact ⟨[], a1, b2, [], by simp, by simp, run_inss.2 ⟨rfl, h4⟩, run_dels.2 ⟨h3, rfl⟩⟩
 ·rintro ⟨a1, a2, b1, b2, rfl, rfl, h1, h2⟩
  obtain ⟨rfl, h4⟩ := run_inss.1 h1
  obtain ⟨h3, rfl⟩ := run_dels.1 h2
  exact ⟨a2, [], [], b1, by simp, by simp, run_dels.2 ⟨h3, rfl⟩, run_inss.2 ⟨rfl, h4⟩⟩
theorem EqU.dels {C : T → Prop} (l : List T) : EqU C ((l.map norm).map .D) (l.map .D) := by
 intro a b _
 rw [run_dels, run_dels]
 have h : alike (l.map norm) l := alike_norm l
 exact ⟨fun ⟨h1, h2⟩ => ⟨h1.trans h, h2⟩, fun ⟨h1, h2⟩ => ⟨h1.trans h.symm, h2⟩⟩
theorem EqU.inss {C : T → Prop} (l : List T) : EqU C ((l.map norm).map .I) (l.map .I) := by
 intro a b _
 rw [run_inss, run_inss]
 have h : alike (l.map norm) l := alike_norm l
 exact ⟨fun ⟨h1, h2⟩ => ⟨h1, h.symm.trans h2⟩, fun ⟨h1, h2⟩ => ⟨h1, h.trans h2⟩⟩
theorem EqU.sub {C : T → Prop} {e f : Ed} (h : ∀ x y, C x → (Sem e x y ↔ Sem f x y)) : EqU C [.S e] [.S f] := by
 intro a b ha
 rw [run_one, run_one]
 constructor
 ·rintro ⟨x, y, rfl, rfl, h1⟩; exact ⟨x, y, rfl, rfl, (h x y (ha x (List.mem_singleton.2 rfl))).1 h1⟩
 ·rintro ⟨x, y, rfl, rfl, h1⟩; exact ⟨x, y, rfl, rfl, (h x y (ha x (List.mem_singleton.2 rfl))).2 h1⟩
theorem EqU.idle {C : T → Prop} {e : Ed} (h : ∀ x y, C x → (Sem e x y ↔ norm x = norm y)) : EqU C (List.replicate (1 : Int).toNat .K) [.S e] := by
 intro a b ha
 rw [run_keeps, run_one]
 constructor
 ·rintro ⟨h1, h2⟩
  match a, h1 with
  | [x], _ =>
   obtain ⟨y, rfl, h3⟩ := alike_one h2
   exact ⟨x, y, rfl, rfl, (h x y (ha x (List.mem_singleton.2 rfl))).2 h3⟩
 ·rintro ⟨x, y, rfl, rfl, h1⟩
  exact ⟨rfl, by unfold alike; rw [List.map_cons, List.map_cons, (h x y (ha x (List.mem_singleton.2 rfl))).1 h1]⟩
def goodS : Opn → Prop
 | .mk kind m _ _ => 0 ≤ kind ∧ kind ≤ 3 ∧ 0 ≤ m
theorem SemO_unitsG : ∀ {l : List Opn} {a b : List T}, (∀ o ∈ l, goodS o) → (SemO l a b ↔ Run req Sem (units l) a b)
 | [], a, b, _ => by rw [SemO, units, run_nil]
 | .mk kind n l e :: r, a, b, ho => by
  have hg := ho _ (List.mem_cons_self ..)
  rw [goodS] at hg
  rw [SemO, units, run_app]
  have ih := fun a b => SemO_unitsG (l := r) (a := a) (b := b) (fun o h => ho o (List.mem_cons_of_mem _ h))
  have hstep : ∀ a1 b1, ((kind = 0 ∧ a1.length = n.toNat ∧ alike a1 b1) ∨ (kind = 1 ∧ alike a1 l ∧ b1 = []) ∨ (kind = 2 ∧ a1 = [] ∧ alike l b1) ∨ (kind = 3 ∧ ∃ x y, a1 = [x] ∧ b1 = [y] ∧ Sem e x y)) ↔ Run req Sem (unitsOf (.mk kind n l e)) a1 b1 := by
   intro a1 b1
   rw [unitsOf]
   by_cases k0 : kind = 0
   ·subst k0; rw [if_pos rfl, run_keeps]; simp
   ·rw [if_neg k0]
    by_cases k1 : kind = 1
    ·subst k1; rw [if_pos rfl, run_dels]; simp
    ·rw [if_neg k1]
     by_cases k2 : kind = 2
     ·subst k2; rw [if_pos rfl, run_inss]; simp
     ·rw [if_neg k2, run_one]
      have k3 : kind = 3 := by omega
      subst k3
      simp
  constructor
  ·rintro ⟨a1, a2, b1, b2, h1, h2, h3, h4⟩
   exact ⟨a1, a2, b1, b2, h1, h2, (hstep _ _).1 h3, (ih _ _).1 h4⟩
  ·rintro ⟨a1, a2, b1, b2, h1, h2, h3, h4⟩
   exact ⟨a1, a2, b1, b2, h1, h2, (hstep _ _).2 h3, (ih _ _).2 h4⟩
theorem good_flushed {w : Wr} (h : ∀ o ∈ w.out, goodS o) : ∀ o ∈ w.flushed, goodS o := by
 unfold Wr.flushed
 refine allA (allA h ?_) ?_
 ·split
  ·intro o ho; simp at ho
  ·exact allC (by rw [goodS]; omega) (fun o ho => by simp at ho)
 ·split
  ·intro o ho; simp at ho
  ·exact allC (by rw [goodS]; omega) (fun o ho => by simp at ho)
theorem good_addKeep {n : Int} (hn : 0 ≤ n) : ∀ {l : List Opn}, (∀ o ∈ l, goodS o) → ∀ o ∈ addKeep n l, goodS o
 | [], _ => by rw [addKeep]; exact allC (by rw [goodS]; omega) (fun o ho => by simp at ho)
 | [.mk kind m l e], h => by
  have hg := h _ (List.mem_cons_self ..)
  rw [goodS] at hg
  rw [addKeep]
  split
  ·exact allC (by rw [goodS]; omega) (fun o ho => by simp at ho)
  ·exact allC (by rw [goodS]; omega) (allC (by rw [goodS]; omega) (fun o ho => by simp at ho))
 | o :: o' :: r, h => by
  rw [addKeep]
  exact allC (h o (List.mem_cons_self ..)) (good_addKeep hn (l := o' :: r) (fun x hx => h x (List.mem_cons_of_mem _ hx)))
theorem units_addKeepG {n : Int} (hn : 0 ≤ n) {l : List Opn} (h : ∀ o ∈ l, goodS o) : units (addKeep n l) = units l ++ List.replicate n.toNat .K :=
 units_addKeep n hn l (fun kind m x e hm => by have := h _ hm; rw [goodS] at this; exact this.2.2)
mutual
def fitE : Ed → Prop
 | .mk kind _ _ _ ks _ ops => 0 ≤ kind ∧ kind ≤ 3 ∧ fitK ks ∧ fitO ops
def fitK : List KEd → Prop
 | [] => True
 | .mk _ e :: r => fitE e ∧ fitK r
def fitO : List Opn → Prop
 | [] => True
 | .mk kind n _ e :: r => 0 ≤ kind ∧ kind ≤ 3 ∧ 0 ≤ n ∧ (kind = 3 → fitE e) ∧ fitO r
end
theorem fitO_good : ∀ {l : List Opn}, fitO l → ∀ o ∈ l, goodS o
 | [], _, o, h => by simp at h
 | .mk kind n l e :: r, hf, o, h => by
  rw [fitO] at hf
  rcases List.mem_cons.1 h with h | h
  ·rw [h, goodS]; exact ⟨hf.1, hf.2.1, hf.2.2.1⟩
  ·exact fitO_good hf.2.2.2.2 o h
theorem idle_sem {lk : Int} {e : Ed} (h : isIdle lk e = true) (x y : T) (hx : lk = 9 → x.kind = 1) : Sem e x y ↔ norm x = norm y := by
 obtain ⟨kind, old, new, ws, ks, l, ops⟩ := e
 unfold isIdle at h
 rw [Bool.or_eq_true, Bool.and_eq_true, Bool.and_eq_true, Bool.and_eq_true, beq_iff_eq, beq_iff_eq, beq_iff_eq, List.isEmpty_iff, List.isEmpty_iff] at h
 rw [Sem]
 rcases h with h | ⟨⟨⟨h1, h2⟩, h3⟩, h4⟩
 ·constructor
  ·rintro (⟨h0, h1⟩ | ⟨h0, _⟩ | ⟨h0, _⟩ | ⟨h0, _⟩) <;> (first | exact h1 | (exfalso; omega))
  ·intro h1; exact .inl ⟨h, h1⟩
 ·subst h3 h4
  have hx := hx h1
  constructor
  ·rintro (⟨h0, _⟩ | ⟨h0, _⟩ | ⟨h0, k1, k2, k3, k4⟩ | ⟨h0, _⟩) <;> (first | (exfalso; omega) | skip)
   rw [SemK] at k4
   exact (norm_struct_iff k1 k2).2 ⟨k3, k4⟩
  ·intro h
   have hy : y.kind = 1 := by rw [← norm_kind_eq h]; exact hx
   have := (norm_struct_iff hx hy).1 h
   refine .inr (.inr (.inl ⟨h2, hx, hy, this.1, ?_⟩))
   rw [SemK]
   exact this.2
theorem run_gap {C : T → Prop} (o : List (U T Ed)) (g b l : List T) (r : List (U T Ed)) :
  EqU C (o ++ ((g ++ l.map norm).map .D ++ b.map .I) ++ r) (o ++ (g.map .D ++ b.map .I) ++ (l.map .D ++ r)) := by
 have h1 : EqU C ((l.map norm).map .D ++ b.map .I) (b.map .I ++ l.map .D) := (EqU.swap b (l.map norm)).trans (EqU.app (EqU.refl _) (EqU.dels l))
 have h2 := EqU.app (EqU.app (EqU.refl (C := C) (o ++ g.map .D)) h1) (EqU.refl (C := C) r)
 simpa only [List.map_append, List.append_assoc] using h2
mutual
theorem Sem_normal : ∀ (e : Ed) (t u : T), fitE e → (Sem (normalE e) t u ↔ Sem e t u)
 | .mk kind old new ws ks lk ops, t, u, hf => by
  rw [fitE] at hf
  rw [normalE]
  by_cases k1 : kind = 1
  ·subst k1
   rw [if_pos rfl, Sem, Sem]
   simp [norm_norm]
  ·rw [if_neg k1]
   by_cases k2 : kind = 2
   ·subst k2
    rw [if_pos rfl, Sem, Sem, SemK_normal ks _ _ hf.2.2.1]
    simp
   ·rw [if_neg k2]
    by_cases k3 : kind = 3
    ·subst k3
     rw [if_pos rfl, Sem, Sem]
     have hn := normalO_run ops lk ⟨[], [], []⟩ hf.2.2.2 (fun o ho => by simp at ho)
     have hg := normalO_good ops lk ⟨[], [], []⟩ hf.2.2.2 (fun o ho => by simp at ho)
     simp only [show ¬ ((3 : Int) = 0) from by decide, show ¬ ((3 : Int) = 1) from by decide, show ¬ ((3 : Int) = 2) from by decide, false_and, false_or, true_and]
     have key : (lk = 9 → (∀ x ∈ t.ks, x.kind = 1) ∧ ∀ x ∈ u.ks, x.kind = 1) → (SemO (normalO lk ops ⟨[], [], []⟩).flushed t.ks u.ks ↔ SemO ops t.ks u.ks) := fun h9 => by
      rw [SemO_unitsG (good_flushed hg), SemO_unitsG (fitO_good hf.2.2.2)]
      exact hn t.ks u.ks (fun x hx h => (h9 h).1 x hx)
     constructor
     ·rintro ⟨a, b, c, d, e, f⟩; exact ⟨a, b, c, d, e, (key e).1 f⟩
     ·rintro ⟨a, b, c, d, e, f⟩; exact ⟨a, b, c, d, e, (key e).2 f⟩
    ·rw [if_neg k3, Sem, Sem]
     have k0 : kind = 0 := by omega
     subst k0
     simp
theorem SemK_normal : ∀ (l : List KEd) (f g : Int → T), fitK l → (SemK (normalK l) f g ↔ SemK l f g)
 | [], f, g, _ => by rw [normalK]
 | .mk a e :: r, f, g, hf => by
  rw [fitK] at hf
  rw [normalK, SemK, SemK, Sem_normal e _ _ hf.1, SemK_normal r _ _ hf.2]
theorem normalO_run : ∀ (l : List Opn) (lk : Int) (w : Wr), fitO l → (∀ o ∈ w.out, goodS o) → EqU (fun x => lk = 9 → x.kind = 1) (units (normalO lk l w).flushed) (units w.flushed ++ units l)
 | [], lk, w, _, _ => by rw [normalO, units, List.append_nil]; exact EqU.refl _
 | .mk kind n l e :: r, lk, w, hf, hw => by
  rw [fitO] at hf
  rw [normalO, units, unitsOf]
  by_cases k0 : kind = 0
  ·rw [if_pos k0, if_pos k0]
   have ih := normalO_run r lk ⟨addKeep n w.flushed, [], []⟩ hf.2.2.2.2 (good_addKeep hf.2.2.1 (good_flushed hw))
   rw [units_flushed ⟨addKeep n w.flushed, [], []⟩] at ih
   simp only [List.map_nil, List.append_nil] at ih
   rw [units_addKeepG hf.2.2.1 (good_flushed hw), List.append_assoc] at ih
   exact ih
  ·rw [if_neg k0, if_neg k0]
   by_cases k1 : kind = 1
   ·rw [if_pos k1, if_pos k1]
    have ih := normalO_run r lk ⟨w.out, w.gone ++ l.map norm, w.brought⟩ hf.2.2.2.2 hw
    rw [units_flushed ⟨w.out, w.gone ++ l.map norm, w.brought⟩] at ih
    rw [units_flushed w]
    exact ih.trans (run_gap _ _ _ _ _)
   ·rw [if_neg k1, if_neg k1]
    by_cases k2 : kind = 2
    ·rw [if_pos k2, if_pos k2]
     have ih := normalO_run r lk ⟨w.out, w.gone, w.brought ++ l.map norm⟩ hf.2.2.2.2 hw
     rw [units_flushed ⟨w.out, w.gone, w.brought ++ l.map norm⟩] at ih
     rw [units_flushed w]
     refine ih.trans ?_
     have h2 := EqU.app (EqU.app (EqU.refl (C := fun x : T => lk = 9 → x.kind = 1) (units w.out ++ (w.gone.map .D ++ w.brought.map .I))) (EqU.inss l)) (EqU.refl (C := fun x : T => lk = 9 → x.kind = 1) (units r))
     simpa only [List.map_append, List.append_assoc] using h2
    ·rw [if_neg k2, if_neg k2]
     have k3 : kind = 3 := by omega
     have hse := fun x y => Sem_normal e x y (hf.2.2.2.1 k3)
     by_cases hi : isIdle lk (normalE e) = true
     ·rw [if_pos hi]
      have ih := normalO_run r lk ⟨addKeep 1 w.flushed, [], []⟩ hf.2.2.2.2 (good_addKeep (by decide) (good_flushed hw))
      rw [units_flushed ⟨addKeep 1 w.flushed, [], []⟩] at ih
      simp only [List.map_nil, List.append_nil] at ih
      rw [units_addKeepG (by decide) (good_flushed hw)] at ih
      refine ih.trans ?_
      rw [← List.append_assoc]
      exact EqU.app (EqU.app (EqU.refl _) (EqU.idle fun x y hx => (hse x y).symm.trans (idle_sem hi x y hx))) (EqU.refl _)
     ·rw [if_neg hi]
      have ih := normalO_run r lk ⟨w.flushed ++ [Opn.mk 3 0 [] (normalE e)], [], []⟩ hf.2.2.2.2 (allA (good_flushed hw) (allC (by rw [goodS]; omega) (fun o ho => by simp at ho)))
      rw [units_flushed ⟨w.flushed ++ [Opn.mk 3 0 [] (normalE e)], [], []⟩] at ih
      simp only [List.map_nil, List.append_nil] at ih
      rw [units_app] at ih
      refine ih.trans ?_
      rw [← List.append_assoc]
      exact EqU.app (EqU.app (EqU.refl _) (EqU.sub fun x y _ => hse x y)) (EqU.refl _)
theorem normalO_good : ∀ (l : List Opn) (lk : Int) (w : Wr), fitO l → (∀ o ∈ w.out, goodS o) → ∀ o ∈ (normalO lk l w).out, goodS o
 | [], lk, w, _, hw => by rw [normalO]; exact hw
 | .mk kind n l e :: r, lk, w, hf, hw => by
  rw [fitO] at hf
  rw [normalO]
  split
  ·exact normalO_good r lk _ hf.2.2.2.2 (good_addKeep hf.2.2.1 (good_flushed hw))
  ·split
   ·exact normalO_good r lk _ hf.2.2.2.2 hw
   ·split
    ·exact normalO_good r lk _ hf.2.2.2.2 hw
    ·split
     ·exact normalO_good r lk _ hf.2.2.2.2 (good_addKeep (by decide) (good_flushed hw))
     ·exact normalO_good r lk _ hf.2.2.2.2 (allA (good_flushed hw) (allC (by rw [goodS]; omega) (fun o ho => by simp at ho)))
end
theorem turned_oks {e : Ed} (h : e.kind = 2 ∨ (e.kind = 1 ∧ ∀ old new ws ks k o, e = .mk 1 old new ws ks k o → old.kind = 1 ∧ new.kind = 1)) :
  (turned e).kind = 2 ∨ ((turned e).kind = 1 ∧ ∀ old new ws ks k o, turned e = .mk 1 old new ws ks k o → old.kind = 1 ∧ new.kind = 1) := by
 rw [turned_kind]
 rcases h with h | ⟨h1, h2⟩
 ·exact .inl h
 ·refine .inr ⟨h1, fun old new ws ks k o he => ?_⟩
  obtain ⟨kind, old', new', ws', ks', k', o'⟩ := e
  have h1 : kind = 1 := h1
  subst h1
  have := h2 _ _ _ _ _ _ rfl
  rw [turned] at he
  injection he with _ e1 e2
  rw [← e1, ← e2]
  exact ⟨this.2, this.1⟩
theorem okWs_turned : ∀ {l : List WE} {a : Int}, okWs a l → okWs a (l.map WE.turned)
 | [], _, _ => trivial
 | _ :: _, _, h => ⟨h.1, okWs_turned h.2⟩
mutual
theorem turned_okE : ∀ {e : Ed}, okE e → okE (turned e)
 | .mk kind old new ws ks lk ops, h => by
  rw [okE] at h
  rw [turned, okE]
  refine ⟨h.1, h.2.1, fun k1 => ?_, fun k2 => ?_, fun k3 => ?_⟩
  ·have := h.2.2.1 k1
   exact ⟨this.2.1, this.1, this.2.2.2, this.2.2.1⟩
  ·have := h.2.2.2.1 k2
   exact ⟨fun w hw => by obtain ⟨v, hv, rfl⟩ := List.mem_map.1 hw; exact WE.turned_ok (this.1 v hv), okWs_turned this.2.1, turned_okKs this.2.2⟩
  ·have := h.2.2.2.2 k3
   exact ⟨this.1, this.2.1, turned_okOs this.2.2⟩
theorem turned_okKs : ∀ {l : List KEd} {a : Int}, okKs a l → okKs a (turnedK l)
 | [], _, _ => by rw [turnedK, okKs]; trivial
 | .mk b e :: r, a, h => by
  rw [okKs] at h
  rw [turnedK, okKs, turned_kind]
  exact ⟨h.1, h.2.1, turned_okE h.2.2.1, turned_okKs h.2.2.2⟩
theorem turned_okOs : ∀ {l : List Opn} {lk : Int}, okOs lk l → okOs lk (turnedO l)
 | [], _, _ => by rw [turnedO, okOs]; trivial
 | .mk kind n l e :: r, lk, h => by
  rw [okOs] at h
  rw [turnedO]
  have ih := turned_okOs (l := r) h.2.2.2.2.2
  by_cases k1 : kind = 1
  ·rw [if_pos k1, okOs]
   exact ⟨by decide, by decide, fun h => by omega, fun _ => h.2.2.2.1 (.inl k1), fun h => by omega, ih⟩
  ·rw [if_neg k1]
   by_cases k2 : kind = 2
   ·rw [if_pos k2, okOs]
    exact ⟨by decide, by decide, fun h => by omega, fun _ => h.2.2.2.1 (.inr k2), fun h => by omega, ih⟩
   ·rw [if_neg k2]
    by_cases k3 : kind = 3
    ·rw [if_pos k3, okOs]
     have he := h.2.2.2.2.1 k3
     exact ⟨h.1, h.2.1, h.2.2.1, h.2.2.2.1, fun _ => ⟨by rw [turned_kind]; exact he.1, he.2.1, turned_okE he.2.2.1, fun h9 => turned_oks (he.2.2.2 h9)⟩, ih⟩
    ·rw [if_neg k3, okOs]
     exact ⟨h.1, h.2.1, h.2.2.1, h.2.2.2.1, fun h => absurd h k3, ih⟩
end
mutual
theorem okT_norm : ∀ (t : T), okT t → okT (norm t)
 | .node k ws ks, h => by
  have hk := okT_normL ks
  rw [okT, okTL_iff] at h
  obtain ⟨h0, h1, h2, h3, h4, h5, h6, h7, h8, h9, h10, h11⟩ := h
  have hkk : ∀ x ∈ ks.map norm, okT x := fun x hx => by obtain ⟨y, hy, rfl⟩ := List.mem_map.1 hx; exact hk y hy (h11 y hy)
  by_cases k0 : k = 0
  ·rw [norm_zero (.node k ws ks) k0]; exact okT_nil
  ·by_cases k1 : k = 1
   ·subst k1
    rw [norm_struct, trimW_P, trimK_P]
    refine okT_struct (fun x hx => h2 x (trimP_mem hx)) (fun x hx => ?_)
    have hx := trimP_mem hx
    refine ⟨hkk x hx, ?_⟩
    obtain ⟨y, hy, rfl⟩ := List.mem_map.1 hx
    rw [norm_kind]
    exact h7 rfl y hy
   ·rw [norm_list k ws ks k0 k1, okT, okTL_iff]
    refine ⟨h0, h1, h2, h3, h4, fun a => by rw [h5 a]; rfl, fun a => by rw [h6 a]; rfl, fun a => absurd a k1, fun a b x hx => ?_, fun a x hx => ?_, fun a x hx => ?_, hkk⟩
    ·obtain ⟨y, hy, rfl⟩ := List.mem_map.1 hx; rw [norm_kind]; exact h8 a b y hy
    ·obtain ⟨y, hy, rfl⟩ := List.mem_map.1 hx; rw [norm_kind]; exact h9 a y hy
    ·obtain ⟨y, hy, rfl⟩ := List.mem_map.1 hx; rw [norm_kind]; exact h10 a y hy
theorem okT_normL : ∀ (l : List T), ∀ x ∈ l, okT x → okT (norm x)
 | [], x, h, _ => by simp at h
 | t :: r, x, h, ho => by
  rcases List.mem_cons.1 h with h | h
  ·rw [h] at ho ⊢; exact okT_norm t ho
  ·exact okT_normL r x h ho
end
theorem okKid_norm {lk : Int} {x : T} (h : okKid lk x) : okKid lk (norm x) :=
 ⟨okT_norm x h.1, fun a b => by rw [norm_kind]; exact h.2.1 a b, fun a => by rw [norm_kind]; exact h.2.2.1 a, fun a => by rw [norm_kind]; exact h.2.2.2 a⟩
theorem okKid_norms {lk : Int} {l : List T} (h : ∀ x ∈ l, okKid lk x) : ∀ x ∈ l.map norm, okKid lk x := fun x hx => by
 obtain ⟨y, hy, rfl⟩ := List.mem_map.1 hx
 exact okKid_norm (h y hy)
theorem normal_kind (e : Ed) : (normalE e).kind = e.kind := by
 obtain ⟨kind, old, new, ws, ks, lk, ops⟩ := e
 rw [normalE]
 split
 ·rfl
 ·split
  ·rfl
  ·split
   ·rename_i h; rfl
   ·rfl
theorem okOs_app {lk : Int} : ∀ {l m : List Opn}, okOs lk l → okOs lk m → okOs lk (l ++ m)
 | [], _, _, h => h
 | .mk kind n x e :: r, m, h, k => by
  rw [List.cons_append]
  rw [okOs] at h ⊢
  exact ⟨h.1, h.2.1, h.2.2.1, h.2.2.2.1, h.2.2.2.2.1, okOs_app h.2.2.2.2.2 k⟩
theorem okOs_flushed {lk : Int} (h2 : 2 ≤ lk) (h9 : lk ≤ 9) {w : Wr} (h : okOs lk w.out) (hg : ∀ x ∈ w.gone, okKid lk x) (hb : ∀ x ∈ w.brought, okKid lk x) : okOs lk w.flushed := by
 unfold Wr.flushed
 refine okOs_app (okOs_app h ?_) ?_
 ·split
  ·rw [okOs]; trivial
  ·rw [okOs, okOs]
   exact ⟨by decide, by decide, fun h => by omega, fun _ => (okT_list h2 h9).2 hg, fun h => by omega, trivial⟩
 ·split
  ·rw [okOs]; trivial
  ·rw [okOs, okOs]
   exact ⟨by decide, by decide, fun h => by omega, fun _ => (okT_list h2 h9).2 hb, fun h => by omega, trivial⟩
theorem okOs_addKeep {lk n : Int} (hn : 1 ≤ n) : ∀ {l : List Opn}, okOs lk l → okOs lk (addKeep n l)
 | [], _ => by
  rw [addKeep, okOs, okOs]
  exact ⟨by decide, by decide, fun _ => hn, fun h => by omega, fun h => by omega, trivial⟩
 | [.mk kind m l e], h => by
  rw [okOs] at h
  rw [addKeep]
  split
  ·rename_i h0
   rw [okOs]
   exact ⟨h.1, h.2.1, fun _ => by have := h.2.2.1 h0; omega, h.2.2.2.1, h.2.2.2.2.1, h.2.2.2.2.2⟩
  ·rw [okOs, okOs, okOs]
   exact ⟨h.1, h.2.1, h.2.2.1, h.2.2.2.1, h.2.2.2.2.1, by decide, by decide, fun _ => hn, fun h => by omega, fun h => by omega, trivial⟩
 | .mk kind m l e :: o' :: r, h => by
  rw [okOs] at h
  rw [addKeep, okOs]
  exact ⟨h.1, h.2.1, h.2.2.1, h.2.2.2.1, h.2.2.2.2.1, okOs_addKeep hn (l := o' :: r) h.2.2.2.2.2⟩
theorem normal_oks {e : Ed} (h : e.kind = 2 ∨ (e.kind = 1 ∧ ∀ old new ws ks k o, e = .mk 1 old new ws ks k o → old.kind = 1 ∧ new.kind = 1)) :
  (normalE e).kind = 2 ∨ ((normalE e).kind = 1 ∧ ∀ old new ws ks k o, normalE e = .mk 1 old new ws ks k o → old.kind = 1 ∧ new.kind = 1) := by
 rw [normal_kind]
 rcases h with h | ⟨h1, h2⟩
 ·exact .inl h
 ·refine .inr ⟨h1, fun old new ws ks k o he => ?_⟩
  obtain ⟨kind, old', new', ws', ks', k', o'⟩ := e
  have h1 : kind = 1 := h1
  subst h1
  have := h2 _ _ _ _ _ _ rfl
  rw [normalE, if_pos rfl] at he
  injection he with _ e1 e2
  rw [← e1, ← e2, norm_kind, norm_kind]
  exact this
mutual
theorem normal_okE : ∀ {e : Ed}, okE e → okE (normalE e)
 | .mk kind old new ws ks lk ops, h => by
  rw [okE] at h
  rw [normalE]
  by_cases k1 : kind = 1
  ·rw [if_pos k1, okE]
   have := h.2.2.1 k1
   exact ⟨h.1, h.2.1, fun _ => ⟨okT_norm _ this.1, okT_norm _ this.2.1, by rw [norm_kind]; exact this.2.2.1, by rw [norm_kind]; exact this.2.2.2⟩, fun h => by omega, fun h => by omega⟩
  ·rw [if_neg k1]
   by_cases k2 : kind = 2
   ·rw [if_pos k2, okE]
    have := h.2.2.2.1 k2
    exact ⟨h.1, h.2.1, fun h => absurd h k1, fun _ => ⟨this.1, this.2.1, normal_okKs this.2.2⟩, fun h => by omega⟩
   ·rw [if_neg k2]
    by_cases k3 : kind = 3
    ·rw [if_pos k3, okE]
     have := h.2.2.2.2 k3
     have hn := normal_okOs ops lk ⟨[], [], []⟩ this.1 this.2.1 this.2.2 (by rw [okOs]; trivial) (fun x hx => by simp at hx) (fun x hx => by simp at hx)
     exact ⟨h.1, h.2.1, fun h => absurd h k1, fun h => absurd h k2, fun _ => ⟨this.1, this.2.1, okOs_flushed this.1 this.2.1 hn.1 hn.2.1 hn.2.2⟩⟩
    ·rw [if_neg k3, okE]
     exact ⟨h.1, h.2.1, fun h => absurd h k1, fun h => absurd h k2, fun h => absurd h k3⟩
theorem normal_okKs : ∀ {l : List KEd} {a : Int}, okKs a l → okKs a (normalK l)
 | [], _, _ => by rw [normalK, okKs]; trivial
 | .mk b e :: r, a, h => by
  rw [okKs] at h
  rw [normalK, okKs, normal_kind]
  exact ⟨h.1, h.2.1, normal_okE h.2.2.1, normal_okKs h.2.2.2⟩
theorem normal_okOs : ∀ (l : List Opn) (lk : Int) (w : Wr), 2 ≤ lk → lk ≤ 9 → okOs lk l → okOs lk w.out → (∀ x ∈ w.gone, okKid lk x) → (∀ x ∈ w.brought, okKid lk x) →
  okOs lk (normalO lk l w).out ∧ (∀ x ∈ (normalO lk l w).gone, okKid lk x) ∧ ∀ x ∈ (normalO lk l w).brought, okKid lk x
 | [], lk, w, _, _, _, h1, h2, h3 => by rw [normalO]; exact ⟨h1, h2, h3⟩
 | .mk kind n l e :: r, lk, w, hl2, hl9, h, h1, h2, h3 => by
  rw [okOs] at h
  rw [normalO]
  have hr := h.2.2.2.2.2
  have hf := okOs_flushed hl2 hl9 h1 h2 h3
  have hnil : ∀ x ∈ ([] : List T), okKid lk x := fun x hx => by simp at hx
  by_cases k0 : kind = 0
  ·rw [if_pos k0]
   exact normal_okOs r lk _ hl2 hl9 hr (okOs_addKeep (h.2.2.1 k0) hf) hnil hnil
  ·rw [if_neg k0]
   by_cases k1 : kind = 1
   ·rw [if_pos k1]
    exact normal_okOs r lk _ hl2 hl9 hr h1 (allA h2 (okKid_norms ((okT_list hl2 hl9).1 (h.2.2.2.1 (.inl k1))))) h3
   ·rw [if_neg k1]
    by_cases k2 : kind = 2
    ·rw [if_pos k2]
     exact normal_okOs r lk _ hl2 hl9 hr h1 h2 (allA h3 (okKid_norms ((okT_list hl2 hl9).1 (h.2.2.2.1 (.inr k2)))))
    ·rw [if_neg k2]
     have k3 : kind = 3 := by omega
     have he := h.2.2.2.2.1 k3
     by_cases hi : isIdle lk (normalE e) = true
     ·rw [if_pos hi]
      exact normal_okOs r lk _ hl2 hl9 hr (okOs_addKeep (by decide) hf) hnil hnil
     ·rw [if_neg hi]
      refine normal_okOs r lk _ hl2 hl9 hr (okOs_app hf ?_) hnil hnil
      rw [okOs, okOs]
      exact ⟨by decide, by decide, fun h => by omega, fun h => by omega, fun _ => ⟨by rw [normal_kind]; exact he.1, he.2.1, normal_okE he.2.2.1, fun h9 => normal_oks (he.2.2.2 h9)⟩, trivial⟩
end
def struK (e : Ed) : Prop := e.kind = 2 ∨ (e.kind = 1 ∧ ∀ old new ws ks k o, e = .mk 1 old new ws ks k o → old.kind = 1 ∧ new.kind = 1)
def SomeP (e : Ed) : Prop := ∃ t u, Sem e t u ∧ okT t ∧ okT u ∧ (e.kind ≠ 0 → t.kind ≠ 10 ∧ u.kind ≠ 10) ∧ (struK e → t.kind = 1 ∧ u.kind = 1)
def anyKid (lk : Int) : T := if lk = 9 then .node 1 [] [] else if lk = 8 then nilT else .node 10 [0] []
theorem anyKid_ok {lk : Int} (_ : 2 ≤ lk) (_ : lk ≤ 9) : okKid lk (anyKid lk) := by
 unfold anyKid
 split
 ·exact ⟨okT_struct (fun x hx => by simp at hx) (fun x hx => by simp at hx), fun a b => by omega, fun a => by omega, fun _ => rfl⟩
 ·split
  ·exact ⟨okT_nil, fun a b => by omega, fun _ => by decide, fun a => by omega⟩
  ·refine ⟨?_, fun _ _ => rfl, fun a => by omega, fun a => by omega⟩
   rw [okT]
   exact ⟨by decide, by decide, fun x hx => by rw [List.mem_singleton.1 hx]; exact zero_in, fun _ h => absurd rfl h, fun _ => rfl, fun _ => rfl, fun _ => rfl, fun h => by omega, fun _ h => by omega, fun h => by omega, fun h => by omega, trivial⟩
mutual
theorem some_sem : ∀ (e : Ed), okE e → SomeP e
 | .mk kind old new ws ks lk ops, h => by
  rw [okE] at h
  by_cases k0 : kind = 0
  ·refine ⟨nilT, nilT, ?_, okT_nil, okT_nil, fun _ => ⟨by decide, by decide⟩, fun hs => ?_⟩
   ·rw [Sem]; exact .inl ⟨k0, rfl⟩
   ·rcases hs with h | ⟨h, _⟩
    ·have h : kind = 2 := h; omega
    ·have h : kind = 1 := h; omega
  ·by_cases k1 : kind = 1
   ·have := h.2.2.1 k1
    refine ⟨old, new, ?_, this.1, this.2.1, fun _ => this.2.2, fun hs => ?_⟩
    ·rw [Sem]; exact .inr (.inl ⟨k1, rfl, rfl⟩)
    ·rcases hs with h | ⟨_, h⟩
     ·have h : kind = 2 := h; omega
     ·subst k1; exact h _ _ _ _ _ _ rfl
   ·by_cases k2 : kind = 2
    ·have o2 := h.2.2.2.1 k2
     have rw_ := okWs_rise.1 o2.2.1
     have rk_ := okKs_rise o2.2.2
     have hk := some_kids ks (-1) o2.2.2
     have hex : ∀ i : Nat, ∃ p : T × T, atK (lookR KEd.at_ ks i) p.1 p.2 ∧ okT p.1 ∧ okT p.2 ∧ p.1.kind ≠ 10 ∧ p.2.kind ≠ 10 ∧ (lookR KEd.at_ ks i = none → p = (nilT, nilT)) := by
      intro i
      cases e : lookR KEd.at_ ks i with
      | none => exact ⟨(nilT, nilT), rfl, okT_nil, okT_nil, by decide, by decide, fun _ => rfl⟩
      | some k =>
       have hm : k ∈ ks := List.mem_of_find?_eq_some e
       obtain ⟨t, u, h1, h2, h3, h4, _⟩ := hk k hm
       have := h4 (okKs_mem o2.2.2 k hm).1
       exact ⟨(t, u), h1, h2, h3, this.1, this.2, fun h => by cases h⟩
     obtain ⟨kf, hkf⟩ := Classical.axiomOfChoice hex
     have hew : ∀ i : Nat, ∃ p : Int × Int, atW (lookR WE.at_ ws i) p.1 p.2 ∧ inW p.1 ∧ inW p.2 ∧ (lookR WE.at_ ws i = none → p = (0, 0)) := by
      intro i
      cases e : lookR WE.at_ ws i with
      | none => exact ⟨(0, 0), rfl, zero_in, zero_in, fun _ => rfl⟩
      | some w =>
       obtain ⟨x, y, h1⟩ := WE.some_sem (o2.1 w (List.mem_of_find?_eq_some e))
       exact ⟨(x, y), h1, h1.1, h1.2.1, fun h => by cases h⟩
     obtain ⟨wf, hwf⟩ := Classical.axiomOfChoice hew
     obtain ⟨N1, n1⟩ := look_high (at_ := WE.at_) ws
     obtain ⟨N2, n2⟩ := look_high (at_ := KEd.at_) ks
     have z1 : ∀ i, max N1 N2 ≤ i → wf i = (0, 0) := fun i hi => (hwf i).2.2.2 (n1 i (by omega))
     have z2 : ∀ i, max N1 N2 ≤ i → kf i = (nilT, nilT) := fun i hi => (hkf i).2.2.2.2.2 (n2 i (by omega))
     have okS : ∀ (g : Nat → Int) (k : Nat → T), (∀ i, inW (g i)) → (∀ i, okT (k i) ∧ (k i).kind ≠ 10) → okT (mkS (max N1 N2) g k) := fun g k hg hk => okT_struct (fun x hx => by obtain ⟨i, _, rfl⟩ := List.mem_map.1 hx; exact hg i) (fun x hx => by obtain ⟨i, _, rfl⟩ := List.mem_map.1 hx; exact hk i)
     refine ⟨mkS (max N1 N2) (fun i => (wf i).1) (fun i => (kf i).1), mkS (max N1 N2) (fun i => (wf i).2) (fun i => (kf i).2), ?_, okS _ _ (fun i => (hwf i).2.1) (fun i => ⟨(hkf i).2.1, (hkf i).2.2.2.1⟩), okS _ _ (fun i => (hwf i).2.2.1) (fun i => ⟨(hkf i).2.2.1, (hkf i).2.2.2.2.1⟩), fun _ => ⟨by show (1 : Int) ≠ 10; decide, by show (1 : Int) ≠ 10; decide⟩, fun _ => ⟨rfl, rfl⟩⟩
     rw [Sem]
     refine .inr (.inr (.inl ⟨k2, rfl, rfl, (SemW_look rw_ (by decide)).2 fun i => ?_, (SemK_look rk_ (by decide)).2 fun i => ?_⟩))
     ·rw [mkS_word _ _ _ (fun i hi => by rw [z1 i hi]), mkS_word _ _ _ (fun i hi => by rw [z1 i hi])]
      exact (hwf i).1
     ·have e1 := mkS_kid (max N1 N2) (fun i => (wf i).1) (fun i => (kf i).1) (fun i hi => by rw [z2 i hi]; rfl) i
      have e2 := mkS_kid (max N1 N2) (fun i => (wf i).2) (fun i => (kf i).2) (fun i hi => by rw [z2 i hi]; rfl) i
      have h3 := (hkf i).1
      cases e : lookR KEd.at_ ks i with
      | none => rw [e] at h3; exact e1.trans (Eq.trans h3 e2.symm)
      | some k => rw [e] at h3; exact Sem_congr (okKs_mem o2.2.2 k (List.mem_of_find?_eq_some e)).2 e1.symm e2.symm h3
    ·have k3 : kind = 3 := by omega
     have o3 := h.2.2.2.2 k3
     obtain ⟨a, b, hs, ha, hb⟩ := some_ops ops lk o3.1 o3.2.1 o3.2.2
     refine ⟨.node lk [] a, .node lk [] b, ?_, (okT_list o3.1 o3.2.1).2 ha, (okT_list o3.1 o3.2.1).2 hb, fun _ => ⟨by show lk ≠ 10; omega, by show lk ≠ 10; omega⟩, fun hs => ?_⟩
     ·rw [Sem]
      exact .inr (.inr (.inr ⟨k3, rfl, rfl, rfl, rfl, fun h9 => ⟨fun x hx => (ha x hx).2.2.2 h9, fun x hx => (hb x hx).2.2.2 h9⟩, hs⟩))
     ·rcases hs with h | ⟨h, _⟩
      ·have h : kind = 2 := h; omega
      ·have h : kind = 1 := h; omega
theorem some_kids : ∀ (l : List KEd) (a : Int), okKs a l → ∀ k ∈ l, SomeP k.e
 | [], _, _, k, hk => by simp at hk
 | .mk b e :: r, a, h, k, hk => by
  rw [okKs] at h
  rcases List.mem_cons.1 hk with h1 | h1
  ·rw [h1]; exact some_sem e h.2.2.1
  ·exact some_kids r b h.2.2.2 k h1
theorem some_ops : ∀ (l : List Opn) (lk : Int), 2 ≤ lk → lk ≤ 9 → okOs lk l → ∃ a b, SemO l a b ∧ (∀ x ∈ a, okKid lk x) ∧ ∀ x ∈ b, okKid lk x
 | [], lk, _, _, _ => ⟨[], [], by rw [SemO]; exact ⟨rfl, rfl⟩, fun x hx => by simp at hx, fun x hx => by simp at hx⟩
 | .mk kind n l e :: r, lk, h2, h9, h => by
  rw [okOs] at h
  obtain ⟨a, b, hs, ha, hb⟩ := some_ops r lk h2 h9 h.2.2.2.2.2
  by_cases k0 : kind = 0
  ·refine ⟨List.replicate n.toNat (anyKid lk) ++ a, List.replicate n.toNat (anyKid lk) ++ b, ?_, allA (fun x hx => by rw [List.eq_of_mem_replicate hx]; exact anyKid_ok h2 h9) ha, allA (fun x hx => by rw [List.eq_of_mem_replicate hx]; exact anyKid_ok h2 h9) hb⟩
   rw [SemO]
   exact ⟨_, a, _, b, rfl, rfl, .inl ⟨k0, List.length_replicate .., rfl⟩, hs⟩
  ·by_cases k1 : kind = 1
   ·refine ⟨l ++ a, b, ?_, allA ((okT_list h2 h9).1 (h.2.2.2.1 (.inl k1))) ha, hb⟩
    rw [SemO]
    exact ⟨l, a, [], b, rfl, rfl, .inr (.inl ⟨k1, rfl, rfl⟩), hs⟩
   ·by_cases k2 : kind = 2
    ·refine ⟨a, l ++ b, ?_, ha, allA ((okT_list h2 h9).1 (h.2.2.2.1 (.inr k2))) hb⟩
     rw [SemO]
     exact ⟨[], a, l, b, rfl, rfl, .inr (.inr (.inl ⟨k2, rfl, rfl⟩)), hs⟩
    ·have k3 : kind = 3 := by omega
     have he := h.2.2.2.2.1 k3
     obtain ⟨t, u, q1, q2, q3, q4, q5⟩ := some_sem e he.2.2.1
     have q4 := q4 he.1
     refine ⟨t :: a, u :: b, ?_, allC ⟨q2, fun _ h7 => by omega, fun _ => q4.1, fun h => (q5 (he.2.2.2 h)).1⟩ ha, allC ⟨q3, fun _ h7 => by omega, fun _ => q4.2, fun h => (q5 (he.2.2.2 h)).2⟩ hb⟩
     rw [SemO]
     exact ⟨[t], a, [u], b, rfl, rfl, .inr (.inr (.inr ⟨k3, t, u, rfl, rfl, q1⟩)), hs⟩
end
end Go.Proofs.Ytbmjiokjigkdnaa.Top
