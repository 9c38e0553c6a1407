/-
  Part C of the proofs of TopAssociates and TopConverse.
-/
import Derived.Deep.RegionHeldLaw
import Derived.Deep.RegionLaw
import Derived.Deep.CutBlock
import Derived.Deep.DeepCutAuto
import Derived.Laws.OwnMore
import Derived.Test.YtbmjiokjigkdnaaZB
set_option linter.unusedVariables false
set_option linter.unusedSimpArgs false
namespace Go.Proofs.Ytbmjiokjigkdnaa
open Go.RowKit Go.Proofs.Ytbmjiokjigkdnaa.Top
def Gs (S : Nat → Prop) (w0 W : World) (X : Nat → Prop) : Nat → Prop := fun b => (S b ∨ (w0.heap.size ≤ b ∧ b < W.heap.size)) ∧ ¬ X b
structure Stable (F : World → (Nat → Prop) → Prop) : Prop where
 keep : ∀ {W W' : World} {S : Nat → Prop}, F W S → (∀ p : Addr, S p.block → W'.cell? p = W.cell? p) → F W' S
 mono : ∀ {W : World} {S S' : Nat → Prop}, F W S → (∀ b, S b → S' b) → F W S'
theorem stable_tree (t : T) (v : Tv) : Stable fun W S => TreeAt W S t v := ⟨fun h hk => h.keep hk, fun h hS => h.mono hS⟩
theorem stable_ed (e : Ed) (v : Ev) : Stable fun W S => EdAt W S e v := ⟨fun h hk => h.keep hk, fun h hS => h.mono hS⟩
theorem stable_op (o : Opn) (v : Ov) : Stable fun W S => OpAt W S o v := ⟨fun h hk => h.keep hk, fun h hS => h.mono hS⟩
theorem stable_kids (K : Option Addr) (m d : Nat) (ks : List T) (kv : List Tv) : Stable fun W S => KidsAt W S K m d ks kv := ⟨fun h hk => h.keep hk, fun h hS => h.mono hS⟩
theorem stable_words (A : Option Addr) (n c : Nat) (ws : List Int) : Stable fun W S => WordsAt W S A n c ws := ⟨fun h hk => h.keep hk, fun h hS => h.mono hS⟩
def TreesAt (W : World) (S : Nat → Prop) (ks : List T) (kv : List Tv) : Prop := kv.length = ks.length ∧ ∀ i (h : i < ks.length) (h' : i < kv.length), TreeAt W S ks[i] kv[i]
def KedsAt (W : World) (S : Nat → Prop) (ks : List KEd) (kv : List Kv) : Prop := kv.length = ks.length ∧ ∀ i (h : i < ks.length) (h' : i < kv.length), kv[i].at_ = ks[i].at_ ∧ EdAt W S ks[i].e kv[i].e
def OpsAt (W : World) (S : Nat → Prop) (l : List Opn) (ov : List Ov) : Prop := ov.length = l.length ∧ ∀ i (h : i < l.length) (h' : i < ov.length), OpAt W S l[i] ov[i]
theorem stable_trees (ks : List T) (kv : List Tv) : Stable fun W S => TreesAt W S ks kv := ⟨fun h hk => ⟨h.1, fun i a b => (h.2 i a b).keep hk⟩, fun h hS => ⟨h.1, fun i a b => (h.2 i a b).mono hS⟩⟩
theorem stable_keds (ks : List KEd) (kv : List Kv) : Stable fun W S => KedsAt W S ks kv := ⟨fun h hk => ⟨h.1, fun i a b => ⟨(h.2 i a b).1, (h.2 i a b).2.keep hk⟩⟩, fun h hS => ⟨h.1, fun i a b => ⟨(h.2 i a b).1, (h.2 i a b).2.mono hS⟩⟩⟩
theorem stable_ops (l : List Opn) (ov : List Ov) : Stable fun W S => OpsAt W S l ov := ⟨fun h hk => ⟨h.1, fun i a b => (h.2 i a b).keep hk⟩, fun h hS => ⟨h.1, fun i a b => (h.2 i a b).mono hS⟩⟩
section
variable {W : World} {S : Nat → Prop}
theorem TreesAt.nil : TreesAt W S [] [] := ⟨rfl, fun i h => by simp at h⟩
theorem KedsAt.nil : KedsAt W S [] [] := ⟨rfl, fun i h => by simp at h⟩
theorem OpsAt.nil : OpsAt W S [] [] := ⟨rfl, fun i h => by simp at h⟩
theorem TreesAt.app {a b : List T} {va vb : List Tv} (h : TreesAt W S a va) (k : TreesAt W S b vb) : TreesAt W S (a ++ b) (va ++ vb) := by
 refine ⟨by rw [List.length_append, List.length_append, h.1, k.1], fun i x y => ?_⟩
 by_cases hi : i < a.length
 ·rw [List.getElem_append_left (show i < a.length from hi), List.getElem_append_left (show i < va.length by rw [h.1]; exact hi)]
  exact h.2 i hi _
 ·rw [List.getElem_append_right (show a.length ≤ i by omega), List.getElem_append_right (show va.length ≤ i by rw [h.1]; omega)]
  have e : i - va.length = i - a.length := by rw [h.1]
  simp only [e]
  exact k.2 _ _ _
theorem KedsAt.app {a b : List KEd} {va vb : List Kv} (h : KedsAt W S a va) (k : KedsAt W S b vb) : KedsAt W S (a ++ b) (va ++ vb) := by
 refine ⟨by rw [List.length_append, List.length_append, h.1, k.1], fun i x y => ?_⟩
 by_cases hi : i < a.length
 ·rw [List.getElem_append_left (show i < a.length from hi), List.getElem_append_left (show i < va.length by rw [h.1]; exact hi)]
  exact h.2 i hi _
 ·rw [List.getElem_append_right (show a.length ≤ i by omega), List.getElem_append_right (show va.length ≤ i by rw [h.1]; omega)]
  have e : i - va.length = i - a.length := by rw [h.1]
  simp only [e]
  exact k.2 _ _ _
theorem OpsAt.app {a b : List Opn} {va vb : List Ov} (h : OpsAt W S a va) (k : OpsAt W S b vb) : OpsAt W S (a ++ b) (va ++ vb) := by
 refine ⟨by rw [List.length_append, List.length_append, h.1, k.1], fun i x y => ?_⟩
 by_cases hi : i < a.length
 ·rw [List.getElem_append_left (show i < a.length from hi), List.getElem_append_left (show i < va.length by rw [h.1]; exact hi)]
  exact h.2 i hi _
 ·rw [List.getElem_append_right (show a.length ≤ i by omega), List.getElem_append_right (show va.length ≤ i by rw [h.1]; omega)]
  have e : i - va.length = i - a.length := by rw [h.1]
  simp only [e]
  exact k.2 _ _ _
theorem TreesAt.one {t : T} {v : Tv} (h : TreeAt W S t v) : TreesAt W S [t] [v] := ⟨rfl, fun i a b => by
 have : i = 0 := by simp at a; exact a
 subst this
 exact h⟩
theorem KedsAt.one {k : KEd} {v : Kv} (ha : v.at_ = k.at_) (h : EdAt W S k.e v.e) : KedsAt W S [k] [v] := ⟨rfl, fun i a b => by
 have : i = 0 := by simp at a; exact a
 subst this
 exact ⟨ha, h⟩⟩
theorem OpsAt.one {o : Opn} {v : Ov} (h : OpAt W S o v) : OpsAt W S [o] [v] := ⟨rfl, fun i a b => by
 have : i = 0 := by simp at a; exact a
 subst this
 exact h⟩
theorem TreesAt.set {ks : List T} {kv : List Tv} {t : T} {v : Tv} (h : TreesAt W S ks kv) (ht : TreeAt W S t v) (j : Nat) : TreesAt W S (ks.set j t) (kv.set j v) := by
 refine ⟨by rw [List.length_set, List.length_set, h.1], fun i a b => ?_⟩
 rw [List.getElem_set, List.getElem_set]
 split
 ·exact ht
 ·exact h.2 i _ _
theorem TreesAt.take {ks : List T} {kv : List Tv} (h : TreesAt W S ks kv) (j : Nat) : TreesAt W S (ks.take j) (kv.take j) := by
 refine ⟨by rw [List.length_take, List.length_take, h.1], fun i a b => ?_⟩
 rw [List.getElem_take, List.getElem_take]
 exact h.2 i _ _
theorem TreesAt.drop {ks : List T} {kv : List Tv} (h : TreesAt W S ks kv) (j : Nat) : TreesAt W S (ks.drop j) (kv.drop j) := by
 refine ⟨by rw [List.length_drop, List.length_drop, h.1], fun i a b => ?_⟩
 rw [List.getElem_drop, List.getElem_drop]
 exact h.2 (j + i) _ _
theorem KidsAt.trees {K : Option Addr} {m d : Nat} {ks : List T} {kv : List Tv} (h : KidsAt W S K m d ks kv) : TreesAt W S ks kv := ⟨h.kvl, h.kid⟩
theorem OsAt.ops {K : Option Addr} {m d : Nat} {l : List Opn} {ov : List Ov} (h : OsAt W S K m d l ov) : OpsAt W S l ov := ⟨h.ovl, h.op⟩
end
section
variable {S X X' : Nat → Prop} {w0 W W' : World} {F : World → (Nat → Prop) → Prop}
theorem Stable.next (st : Stable F) (h : F W (Gs S w0 W X)) (hS : ∀ b, S b → b < w0.heap.size) (h0 : w0.heap.size ≤ W.heap.size) (hsz : W.heap.size ≤ W'.heap.size)
  (hk : ∀ b, b < W.heap.size → ¬ X b → W'.heap[b]? = W.heap[b]?) (hX : ∀ b, b < W.heap.size → X' b → X b) : F W' (Gs S w0 W' X') := by
 have hlt : ∀ b, Gs S w0 W X b → b < W.heap.size := fun b hb => by
  rcases hb.1 with h1 | h1
  ·have := hS b h1; omega
  ·exact h1.2
 refine st.mono (st.keep h fun p hp => World.cell?_of_block (hk _ (hlt _ hp) hp.2)) fun b hb => ⟨?_, fun hx => hb.2 (hX b (hlt b hb) hx)⟩
 rcases hb.1 with h1 | h1
 ·exact .inl h1
 ·exact .inr ⟨h1.1, by omega⟩
theorem Stable.below (st : Stable F) (h : F W (Gs S w0 W X)) (hS : ∀ b, S b → b < w0.heap.size) (h0 : w0.heap.size ≤ W.heap.size) (hb : Below W.heap.size W W') : F W' (Gs S w0 W' X) :=
 st.next h hS h0 hb.size (fun b h1 _ => hb.block b h1) fun _ _ hx => hx
theorem Stable.only (st : Stable F) {bs : List Nat} (h : F W (Gs S w0 W X)) (hS : ∀ b, S b → b < w0.heap.size) (h0 : w0.heap.size ≤ W.heap.size) (hb : Only bs W W') (hx : ∀ b ∈ bs, X b) : F W' (Gs S w0 W' X) :=
 st.next h hS h0 hb.size (fun b h1 h2 => hb.block b h1 fun hm => h2 (hx b hm)) fun _ _ hx => hx
theorem Stable.setCell (st : Stable F) (h : F W (Gs S w0 W X)) (hS : ∀ b, S b → b < w0.heap.size) (h0 : w0.heap.size ≤ W.heap.size) {p : Addr} (hx : X p.block) (u : Value) : F (W.setCell p u) (Gs S w0 (W.setCell p u) X) :=
 st.next h hS h0 (by simp) (fun b _ h2 => Below.heap_setCell _ _ _ _ fun e => h2 (by rw [e]; exact hx)) fun _ _ hx => hx
theorem Stable.less (st : Stable F) (h : F W (Gs S w0 W X)) (hX : ∀ b, X' b → X b) : F W (Gs S w0 W X') := st.mono h fun _ hb => ⟨hb.1, fun hx => hb.2 (hX _ hx)⟩
theorem Stable.grow (st : Stable F) (h : F W' (Grow (Gs S w0 W X) W W')) (h0 : w0.heap.size ≤ W.heap.size) (hsz : W.heap.size ≤ W'.heap.size) (hX : ∀ b, X b → b < W.heap.size) : F W' (Gs S w0 W' X) :=
 st.mono h fun b hb => by
  rcases hb with h1 | h1
  ·refine ⟨?_, h1.2⟩
   rcases h1.1 with h2 | h2
   ·exact .inl h2
   ·exact .inr ⟨h2.1, by omega⟩
  ·exact ⟨.inr ⟨by omega, h1.2⟩, fun hx => by have := hX b hx; omega⟩
theorem Stable.start (st : Stable F) (h : F w0 S) (hS : ∀ b, S b → b < w0.heap.size) (hb : Below w0.heap.size w0 W) (hX : ∀ b, X b → w0.heap.size ≤ b) : F W (Gs S w0 W X) :=
 st.mono (st.keep h fun p hp => hb.cell (hS _ hp)) fun b hb => ⟨.inl hb, fun hx => by have := hX b hx; have := hS b hb; omega⟩
end
theorem Stable.grow_gs {F : World → (Nat → Prop) → Prop} (st : Stable F) {S X : Nat → Prop} {w0 W W' W'' : World} {bs : List Nat} (h : F W' (Grow S W W')) (hS : ∀ b, S b → b < w0.heap.size) (h0 : w0.heap.size ≤ W.heap.size) (hsz : W.heap.size ≤ W'.heap.size)
  (hX : ∀ b, X b → w0.heap.size ≤ b ∧ b < W.heap.size) (ho : Only bs W' W'') (hbs : ∀ b ∈ bs, w0.heap.size ≤ b ∧ b < W.heap.size) : F W'' (Gs S w0 W'' X) := by
 have hin : ∀ b, Grow S W W' b → b < W'.heap.size ∧ b ∉ bs ∧ (S b ∨ W.heap.size ≤ b) := fun b hb => by
  rcases hb with h1 | h1
  ·have := hS b h1
   exact ⟨by omega, fun hm => by have := hbs b hm; omega, .inl h1⟩
  ·exact ⟨h1.2, fun hm => by have := hbs b hm; omega, .inr h1.1⟩
 refine st.mono (st.keep h fun p hp => World.cell?_of_block (ho.block _ (hin _ hp).1 (hin _ hp).2.1)) fun b hb => ?_
 obtain ⟨h1, _, h2⟩ := hin b hb
 have h3 := ho.size
 rcases h2 with h2 | h2
 ·exact ⟨.inl h2, fun hx => by have := hX b hx; have := hS b h2; omega⟩
 ·exact ⟨.inr ⟨by omega, by omega⟩, fun hx => by have := hX b hx; omega⟩
def ownX (A : Option Addr) : Nat → Prop := fun b => ∃ a, A = some a ∧ a.block = b
theorem ownX_none {b : Nat} : ¬ ownX none b := fun ⟨_, h, _⟩ => by cases h
theorem ownX_own {A : Option Addr} {n c b : Nat} (h : (Value.slice A n c).ownBlock = some b) : ownX A b := by
 cases A with
 | none => cases h
 | some a =>
  have h : some a.block = some b := h
  injection h with h
  exact ⟨a, rfl, h⟩
theorem ownX_iff {A : Option Addr} {n c b : Nat} : (Value.slice A n c).ownBlock = some b ↔ ownX A b := ⟨ownX_own, fun ⟨a, h, e⟩ => by subst h; rw [← e]; rfl⟩
structure Own (S X : Nat → Prop) (w0 W : World) (ty : TypeId) (size : Nat) (A : Option Addr) (n c : Nat) (xs : List Value) (F : World → (Nat → Prop) → Prop) : Prop where
 own : W.ownsRow w0.heap.size ty size (.slice A n c) n xs
 far : ∀ b, ownX A b → ¬ X b
 fact : F W (Gs S w0 W (fun b => X b ∨ ownX A b))
section
variable {S X : Nat → Prop} {w0 W W' : World} {ty : TypeId} {size : Nat} {A : Option Addr} {n c : Nat} {xs : List Value} {F : World → (Nat → Prop) → Prop}
theorem Own.lt (h : Own S X w0 W ty size A n c xs F) {b : Nat} (hb : ownX A b) : w0.heap.size ≤ b ∧ b < W.heap.size := h.own.lt b (ownX_iff.2 hb)
theorem Own.below (h : Own S X w0 W ty size A n c xs F) (st : Stable F) (hS : ∀ b, S b → b < w0.heap.size) (h0 : w0.heap.size ≤ W.heap.size) (hb : Below W.heap.size W W') : Own S X w0 W' ty size A n c xs F :=
 ⟨ownsRow_below h.own hb, h.far, st.below h.fact hS h0 hb⟩
theorem Own.setX (h : Own S X w0 W ty size A n c xs F) (st : Stable F) (hS : ∀ b, S b → b < w0.heap.size) (h0 : w0.heap.size ≤ W.heap.size) {p : Addr} (hp : X p.block) (u : Value) : Own S X w0 (W.setCell p u) ty size A n c xs F :=
 ⟨ownsRow_far h.own (fun e => h.far _ (ownX_iff.1 e) hp) u, h.far, st.setCell h.fact hS h0 (.inl hp) u⟩
theorem Own.only (h : Own S X w0 W ty size A n c xs F) (st : Stable F) (hS : ∀ b, S b → b < w0.heap.size) (h0 : w0.heap.size ≤ W.heap.size) {bs : List Nat} (hb : Only bs W W') (hx : ∀ b ∈ bs, X b) : Own S X w0 W' ty size A n c xs F :=
 ⟨ownsRow_keep h.own (fun b hb' => hb.block b (h.lt (ownX_iff.1 hb')).2 (fun hm => h.far _ (ownX_iff.1 hb') (hx b hm))), h.far, st.only h.fact hS h0 hb (fun b hm => .inl (hx b hm))⟩
theorem Own.appended {A' : Option Addr} {m c' : Nat} {news : List Value} {F' G : World → (Nat → Prop) → Prop} (h : Own S X w0 W ty size A n c xs F) (st : Stable F') (hS : ∀ b, S b → b < w0.heap.size) (h0 : w0.heap.size ≤ W.heap.size)
  (hown : W'.ownsRow w0.heap.size ty size (.slice A' (n + m) c') (n + m) (xs ++ news)) (hg : W.grownBy W' (Value.slice A n c).ownBlock) (hat : (Value.slice A' (n + m) c').ownBlock = (Value.slice A n c).ownBlock ∨ (Value.slice A' (n + m) c').ownBlock = some W.heap.size)
  (hX : ∀ b, X b → b < W.heap.size) (hG : G W (Gs S w0 W (fun b => X b ∨ ownX A b))) (hF : ∀ {W S}, F W S → G W S → F' W S) : Own S X w0 W' ty size A' (n + m) c' (xs ++ news) F' := by
 have hb : ∀ b, ownX A' b → ownX A b ∨ b = W.heap.size := fun b hb => by
  have e := (ownX_iff (n := n + m) (c := c')).2 hb
  rcases hat with h1 | h1
  ·rw [h1] at e; exact .inl (ownX_iff.1 e)
  ·rw [h1] at e; injection e with e; exact .inr e.symm
 refine ⟨hown, fun b hb' hx => ?_, st.next (hF h.fact hG) hS h0 hg.size (fun b h1 h2 => hg.block b h1 fun e => h2 (.inr (ownX_iff.1 e.symm))) fun b h1 h2 => ?_⟩
 ·rcases hb b hb' with h1 | h1
  ·exact h.far b h1 hx
  ·have := hX b hx; omega
 ·rcases h2 with h2 | h2
  ·exact .inl h2
  ·rcases hb b h2 with h3 | h3
   ·exact .inr h3
   ·omega
theorem Own.nil (hF : F W (Gs S w0 W X)) (st : Stable F) : Own S X w0 W ty size none 0 0 [] F := ⟨World.ownsRow_nil _ _ _ _, fun b h => (ownX_none h).elim, st.mono hF fun b hb => ⟨hb.1, fun hx => hx.elim hb.2 fun h => (ownX_none h).elim⟩⟩
theorem RdS.of_own4 {w : World} {base size : Nat} {e : TypeId} {n c : Nat} {A : Option Addr} {xs : List Value} (h : w.ownsRow base e size (.slice A n c) n xs) : RdS w (fun b => (Value.slice A n c).ownBlock = some b) A xs := fun j u hu => by
 have hl : j < xs.length := (List.getElem?_eq_some_iff.1 hu).1
 have h1 := h.1
 rcases h.2 with ⟨hv', hn⟩ | ⟨g, cap, cur, hv', hb, hg, _⟩
 ·subst hn
  omega
 ·injection hv' with hA
  subst hA
  have := h.cells (g := g) rfl j u hu
  rw [add_lit] at this
  exact ⟨g, 0, rfl, rfl, this⟩
theorem Own.cap (h : Own S X w0 W ty size A n c xs F) : n ≤ c ∧ c ≤ maxLen ∧ (A = none → c = 0) := by
 obtain ⟨_, _, e, h1, h2⟩ := ownsRow_slice h.own
 injection e with e1 e2 e3
 subst e1 e3
 exact ⟨h1, ownsRow_cap h.own, h2⟩
theorem Own.row (h : Own S X w0 W ty size A n c xs F) {few : Nat} (hf : n ≤ few) : RowAt W (Grow S w0 W) A n c size few xs :=
 ⟨h.own.1, h.cap.1, h.cap.2.1, hf, h.cap.2.2, (RdS.of_own3 h.own).mono fun b hb => .inr ⟨hb.1, hb.2⟩⟩
theorem Own.kids {ks : List T} {kv : List Tv} (h : Own S X w0 W ty 3 A n c (kidCells kv) (fun W S => TreesAt W S ks kv)) (hf : n ≤ 2513169434843) : KidsAt W (Grow S w0 W) A n c ks kv := by
 have hl := h.own.1
 rw [kidCells_len] at hl
 have hl2 := h.fact.1
 exact ⟨by omega, h.cap.1, h.cap.2.1, by omega, hl2, (h.row hf).read, fun i a b => (h.fact.2 i a b).mono fun _ hb => hb.1⟩
theorem Own.words {ws : List Int} (h : Own S X w0 W ty 1 A n c (ws.map (Value.int .u64)) F) (hf : n ≤ 17592186043904) (hu : u64L ws) : WordsAt W (Grow S w0 W) A n c ws := by
 have hl := h.own.1
 rw [List.length_map] at hl
 exact ⟨by omega, h.cap.1, h.cap.2.1, by omega, h.cap.2.2, (h.row hf).read, hu⟩
theorem Own.ws {ws : List WE} (h : Own S X w0 W ty 4 A n c (wCellsL ws) F) (hf : n ≤ 4398046511104) (hu : ∀ x ∈ ws, wIn x) : WsAt W (Grow S w0 W) A n c ws := ⟨h.row hf, hu⟩
theorem Own.ks {ks : List KEd} {kv : List Kv} (h : Own S X w0 W ty 12 A n c (kCellsL kv) (fun W S => KedsAt W S ks kv)) (hf : n ≤ 676622540169) : KsAt W (Grow S w0 W) A n c ks kv :=
 ⟨h.fact.1, h.row hf, fun i a b => (h.fact.2 i a b).1, fun i a b => (h.fact.2 i a b).2.mono fun _ hb => hb.1⟩
theorem Own.os {l : List Opn} {ov : List Ov} (h : Own S X w0 W ty 14 A n c (oCellsL ov) (fun W S => OpsAt W S l ov)) (hf : n ≤ 586406201480) : OsAt W (Grow S w0 W) A n c l ov :=
 ⟨h.fact.1, h.row hf, fun i a b => (h.fact.2 i a b).mono fun _ hb => hb.1⟩
end
theorem grow_keep {S : Nat → Prop} {w W W' : World} (hS : ∀ b, S b → b < w.heap.size) (hW : w.heap.size ≤ W.heap.size) : ∀ b, Grow S w W b → b < W.heap.size := fun b hb => by
 rcases hb with h | h
 ·have := hS b h; omega
 ·exact h.2
theorem grow_mono {S : Nat → Prop} {w W W' : World} (h : W.heap.size ≤ W'.heap.size) : ∀ b, Grow S w W b → Grow S w W' b := fun b hb => by
 rcases hb with h1 | h1
 ·exact .inl h1
 ·exact .inr ⟨h1.1, by omega⟩
theorem Stable.grown {F : World → (Nat → Prop) → Prop} (st : Stable F) {S : Nat → Prop} {w W W' : World} (h : F W (Grow S w W)) (hS : ∀ b, S b → b < w.heap.size) (hW : w.heap.size ≤ W.heap.size) (hb : Below W.heap.size W W') : F W' (Grow S w W') :=
 st.mono (st.keep h fun p hp => hb.cell (grow_keep (W' := W') hS hW _ hp)) fun b hb' => grow_mono hb.size b hb'
end Go.Proofs.Ytbmjiokjigkdnaa
namespace Go.Proofs.Ytbmjiokjigkdnaa
open Go.RowKit Go.Proofs.Ytbmjiokjigkdnaa.Top
def CloneW (ws : List Int) (w : World) (e : Ending) (w' : World) : Prop := Below w.heap.size w w' ∧ ∃ A' c', e = .returned (.slice A' ws.length c') ∧ w'.ownsRow w.heap.size 45 1 (.slice A' ws.length c') ws.length (ws.map (Value.int .u64))
set_option maxHeartbeats 1000000 in
theorem cloneW_any (A : Option Addr) (n c : Nat) (S : Nat → Prop) (ws : List Int) (w : World) (h : WordsAt w S A n c ws) (hS : ∀ b, S b → b < w.heap.size) :
  Calls Try.prog 38 #[.slice A n c] w (CloneW ws w) := by
 have hn := h.len
 have hf := h.few
 have hx := h.read.reads hS
 rcases A with _ | a
 ·have h0 : n = 0 := by have := h.nil rfl; have := h.cap; omega
  subst h0
  have hxs : ws = [] := List.eq_nil_of_length_eq_zero hn.symm
  subst hxs
  have hq : ∀ W, (binOp .eql 22 (.slice none 0 c) (.slice none 0 0)).run Try.prog W = .ok (.bool true) W := fun W => Lib.run_eql_slice_nil W _ _ none 0 c 0 0 Try.underlying22
  clear hx hn h
  go_enter Try.func38, Try.ntmps38
  go_wp2
  go_ret
  exact ⟨Below.refl _ _, none, 0, rfl, World.ownsRow_nil _ _ _ _⟩
 ·clear h
  subst hn
  obtain ⟨i0, hi, hz0, hz1, hz2⟩ := info_parts infoWord
  have hq : ∀ W, (binOp .eql 22 (.slice (some a) ws.length c) (.slice none 0 0)).run Try.prog W = .ok (.bool false) W := fun W => Lib.run_eql_slice_nil W _ _ (some a) ws.length c 0 0 Try.underlying22
  go_enter Try.func38, Try.ntmps38
  have hown : (w.alloc (.cells #[] 45)).ownsRow w.heap.size 45 1 (.slice (some ⟨w.heap.size, 0, none⟩) 0 0) 0 [] := World.ownsRow_made w #[] 0 (Nat.le_refl _) (by decide) rfl
  have hxa := hx.alloc (Nat.le_refl _) (.cells #[] 45)
  go_wp2_with (at_builtin; refine wpList_append_any _ rfl (.tmp 5) (.tmp 6) _ rfl w.heap.size 45 i0 _ 1 8 Try.underlying22 hi hz0 hz1 hz2 rfl (by decide) _ 0 [] rfl hown (some a) ws.length c (ws.map (Value.int .u64)) rfl (by simp) (fun j u hu => by obtain ⟨b, o, e, _, hc⟩ := hxa j u hu; exact ⟨⟨b, o, none⟩, e, by rw [add_lit]; exact hc⟩) (oneCells _ _) (by unfold maxLen; omega) (by omega) (by simp) ?_; intro v1 w1 hown1 hg1 hat1)
  go_ret
  obtain ⟨A', c', rfl, hle, hA'⟩ := ownsRow_slice hown1
  rw [Nat.zero_add] at hown1 hle
  refine ⟨((Below.refl _ _).alloc (Nat.le_refl _) _).grown hg1 (by simp) (fun k hk => by
   have hk' : some w.heap.size = some k := hk
   injection hk' with h
   omega), A', _, by rw [Nat.zero_add]; rfl, hown1⟩
def CloneK (kv : List Tv) (m : Nat) (w : World) (e : Ending) (w' : World) : Prop := Below w.heap.size w w' ∧ ∃ A' c', e = .returned (.slice A' m c') ∧ w'.ownsRow w.heap.size 25 3 (.slice A' m c') m (kidCells kv)
set_option maxHeartbeats 1000000 in
theorem cloneK_any (K : Option Addr) (m d : Nat) (S : Nat → Prop) (ks : List T) (kv : List Tv) (w : World) (h : KidsAt w S K m d ks kv) (hS : ∀ b, S b → b < w.heap.size) :
  Calls Try.prog 58 #[.slice K m d] w (CloneK kv m w) := by
 have hn := h.len
 have hf := h.few
 have hv := h.kvl
 have hx := h.read.reads hS
 have hm1 : m ≤ maxLen := Nat.le_trans h.cap h.capM
 rcases K with _ | a
 ·have h0 : m = 0 := by
   rcases Nat.eq_zero_or_pos m with h0 | h0
   ·exact h0
   ·obtain ⟨_, _, _, e, _⟩ := h.at (i := 0) (by omega)
    cases e
  subst h0
  have hxs : kv = [] := List.eq_nil_of_length_eq_zero (by omega)
  subst hxs
  have hq : ∀ W, (binOp .eql 23 (.slice none 0 d) (.slice none 0 0)).run Try.prog W = .ok (.bool true) W := fun W => Lib.run_eql_slice_nil W _ _ none 0 d 0 0 Try.underlying23
  clear hx hn h hv hf
  go_enter Try.func58, Try.ntmps58
  go_wp2
  go_ret
  exact ⟨Below.refl _ _, none, 0, rfl, World.ownsRow_nil _ _ _ _⟩
 ·clear h
  have hl : (kidCells kv).length = m * 3 := by rw [kidCells_len, hv, ← hn]
  have HF : m ≤ 2513169434843 := by omega
  clear hn hv hf
  obtain ⟨i0, hi, hz0, hz1, hz2⟩ := info_parts infoTree
  have hq : ∀ W, (binOp .eql 23 (.slice (some a) m d) (.slice none 0 0)).run Try.prog W = .ok (.bool false) W := fun W => Lib.run_eql_slice_nil W _ _ (some a) m d 0 0 Try.underlying23
  have HL := hide hl
  clear hl
  go_enter Try.func58, Try.ntmps58
  have hown : (w.alloc (.cells #[] 25)).ownsRow w.heap.size 25 3 (.slice (some ⟨w.heap.size, 0, none⟩) 0 0) 0 [] := World.ownsRow_made w #[] 0 (Nat.le_refl _) (by decide) rfl
  have hxa := hx.alloc (Nat.le_refl _) (.cells #[] 25)
  go_wp2_with (at_builtin; refine wpList_append_any _ rfl (.tmp 5) (.tmp 6) _ rfl w.heap.size 25 i0 _ 3 56 Try.underlying23 hi hz0 hz1 hz2 rfl (by decide) _ 0 [] rfl hown (some a) m d (kidCells kv) rfl HL.out (fun j u hu => by obtain ⟨b, o, e, _, hc⟩ := hxa j u hu; exact ⟨⟨b, o, none⟩, e, by rw [add_lit]; exact hc⟩) (kidCells_one1 _) (by unfold maxLen; omega) (by omega) (by simp) ?_; intro v1 w1 hown1 hg1 hat1)
  go_ret
  obtain ⟨A', c', rfl, hle, hA'⟩ := ownsRow_slice hown1
  rw [Nat.zero_add] at hown1 hle
  refine ⟨((Below.refl _ _).alloc (Nat.le_refl _) _).grown hg1 (by simp) (fun k hk => by
   have hk' : some w.heap.size = some k := hk
   injection hk' with h
   omega), A', _, by rw [Nat.zero_add]; rfl, hown1⟩
theorem eqL_get {a b : List T} (h : a.length = b.length) : eqL a b = true ↔ ∀ i (x : i < a.length) (y : i < b.length), eqT a[i] b[i] = true := by
 rw [eqL_iff]
 unfold alike
 constructor
 ·intro h1 i x y
  rw [eqT_iff]
  have e : (a.map norm)[i]? = (b.map norm)[i]? := by rw [h1]
  rw [List.getElem?_map, List.getElem?_map, List.getElem?_eq_getElem x, List.getElem?_eq_getElem y] at e
  injection e
 ·intro h1
  refine List.ext_getElem (by rw [List.length_map, List.length_map, h]) fun i x y => ?_
  rw [List.getElem_map, List.getElem_map]
  exact eqT_iff.1 (h1 i _ _)
theorem eqL_len {a b : List T} (h : a.length ≠ b.length) : eqL a b = false := by
 cases e : eqL a b with
 | false => rfl
 | true => exact absurd (alike_len (eqL_iff.1 e)) h
def EqLPost (a b : List T) (w : World) (e : Ending) (w' : World) : Prop := e = .returned (.bool (eqL a b)) ∧ Below w.heap.size w w'
theorem EqLPost.of {a b : List T} {w w' : World} {x : Bool} (h : eqL a b = x) (hb : Below w.heap.size w w') : EqLPost a b w (.returned (.bool x)) w' := ⟨by rw [h], hb⟩
set_option maxRecDepth 100000 in
set_option maxHeartbeats 4000000 in
theorem equalF_any (K K' : Option Addr) (m d m' d' : Nat) (a b : List T) (kv kv' : List Tv) (S : Nat → Prop) (w : World) (h : KidsAt w S K m d a kv) (h' : KidsAt w S K' m' d' b kv') (hS : ∀ b, S b → b < w.heap.size) :
  Calls Try.prog 60 #[.slice K m d, .slice K' m' d', .func (.func 35) #[] #[]] w (EqLPost a b w) := by
 have HM : Hid (m = a.length) := h.len
 have HM' : Hid (m' = b.length) := h'.len
 have hm : m ≤ 2513169434843 := by rw [h.len]; exact h.few
 have hm' : m' ≤ 2513169434843 := by rw [h'.len]; exact h'.few
 have HK := hide h
 have HK' := hide h'
 have HS := hide hS
 clear h h' hS
 by_cases hl : m = m'
 ·have hl' : ((m : Int) != (m' : Int)) = false := by rw [hl]; simp
  have HL : Hid (a.length = b.length) := by show _ = _; rw [← HM.out, ← HM'.out, hl]
  have hl3 : m' ≤ m := by omega
  clear hl
  go_enter Try.func60, Try.ntmps60
  go_wp2_with fail
  go_loopw [17] (fun i wr => ∃ q : Nat, q ≤ m ∧ i = .int .i64 (q : Int) ∧ Hid (∀ j (x : j < a.length) (y : j < b.length), j < q → eqT a[j] b[j] = true) ∧ Below w.heap.size w wr) (fun i _ => m - (intOf i).toNat)
  case atStart => exact ⟨0, by omega, rfl, fun j x y h => by omega, Below.refl _ _⟩
  case round =>
   obtain ⟨q, hq, rfl, HJ, hbe⟩ := hrel
   by_cases hlt : q < m
   ·have hl1 : q < a.length := by rw [← HM.out]; exact hlt
    have hl2 : q < b.length := by rw [← HL.out]; exact hl1
    have hlt2 : q < m' := by rw [HM'.out]; exact hl2
    obtain ⟨bx, ox, v, rfl, hbx, x0, x1, x2, hx⟩ := HK.out.at hl1
    obtain ⟨bY, oy, u, rfl, hby, y0, y1, y2, hy⟩ := HK'.out.at hl2
    have hbs := hbe.size
    have hbx' := HS.out _ hbx
    have hby' := HS.out _ hby
    have c0 := (hbe.cell (p := ⟨bx, ox + q * 3, none⟩) hbx').trans x0
    have c1 := (hbe.cell (p := ⟨bx, ox + q * 3 + 1, none⟩) hbx').trans x1
    have c2 := (hbe.cell (p := ⟨bx, ox + q * 3 + 2, none⟩) hbx').trans x2
    have d0 := (hbe.cell (p := ⟨bY, oy + q * 3, none⟩) hby').trans y0
    have d1 := (hbe.cell (p := ⟨bY, oy + q * 3 + 1, none⟩) hby').trans y1
    have d2 := (hbe.cell (p := ⟨bY, oy + q * 3 + 2, none⟩) hby').trans y2
    have HX := hide hx
    have HY := hide hy
    have hbw : bx < wr.heap.size := by omega
    have hbw' : bY < wr.heap.size := by omega
    clear x0 x1 x2 y0 y1 y2 hx hy
    have HEX : Hid (eqT a[q] b[q] = false → eqL a b = false) := fun hq => by
     cases e : eqL a b with
     | false => rfl
     | true =>
      have := (eqL_get HL.out).1 e q hl1 hl2
      rw [this] at hq
      cases hq
    have HEQ : Hid (∀ W, Below w.heap.size w W → Calls Try.prog 35 #[v.val, u.val] W (EqPost a[q] b[q] W)) := fun W hW =>
     equal_any _ _ _ v u S W (Nat.le_max_left _ (SizeOf.sizeOf b[q])) (Nat.le_max_right _ _) (HX.out.keep (fun p hp => hW.cell (HS.out _ hp))) (HY.out.keep (fun p hp => hW.cell (HS.out _ hp))) (fun b hb => Nat.lt_of_lt_of_le (HS.out b hb) hW.size)
    have HEQ2 : Hid (∀ W, Below w.heap.size w W → Calls Try.prog 35 #[.agg #[.int .i64 v.k, .slice v.A v.n v.c, .slice v.K v.m v.d], .agg #[.int .i64 u.k, .slice u.A u.n u.c, .slice u.K u.m u.d]] W (EqPost a[q] b[q] W)) := HEQ.out
    clear HEQ
    generalize hA : a[q] = ta at *
    generalize hB : b[q] = tb at *
    replace hA := hide hA
    replace hB := hide hB
    obtain ⟨k1, A1, n1, cc1, K1, m1, dd1⟩ := v
    obtain ⟨k2, A2, n2, cc2, K2, m2, dd2⟩ := u
    simp only at c0 c1 c2 d0 d1 d2 HEQ2
    go_wp2_with fail
    refine (HEQ2.out _ (((hbe.alloc (by omega) _).alloc (by simp; omega) _))).mono ?_
    rintro e w3 ⟨rfl, hb3⟩
    have hbt : Below w.heap.size w w3 := (((hbe.alloc (by omega) _).alloc (by simp; omega) _)).trans (hb3.mono (by simp; omega))
    clear c0 c1 c2 d0 d1 d2
    go_wp2_with fail
    ·have hx : (!eqT ta tb) = true := by assumption
     go_ret
     exact EqLPost.of (HEX.out (by simpa using hx)) hbt
    ·go_roundw
     case rel =>
      have hx : (!eqT ta tb) = false := by assumption
      have hx : eqT ta tb = true := by simpa using hx
      refine ⟨q + 1, by omega, by go_num, fun j x y h => ?_, hbt⟩
      by_cases e : j = q
      ·subst e
       rw [hA.out, hB.out]
       exact hx
      ·exact HJ.out j x y (by omega)
     case measure => simp [intOf]; omega
   ·go_wp2_with fail
    go_ret
    exact EqLPost.of ((eqL_get HL.out).2 fun i x y => HJ.out i x y (by have := HM.out; omega)) hbe
 ·have hl' : ((m : Int) != (m' : Int)) = true := by simp; omega
  have HL : Hid (a.length ≠ b.length) := by show _ ≠ _; rw [← HM.out, ← HM'.out]; exact hl
  clear hl
  go_enter Try.func60, Try.ntmps60
  go_wp2_with fail
  go_ret
  exact EqLPost.of (eqL_len HL.out) (Below.refl _ _)
theorem RdS.none_' {w : World} {S : Nat → Prop} {A : Option Addr} : RdS w S A [] := fun j u h => by simp at h
section
variable {P : Program} {t e : TypeId} {i : TypeInfo} {size : Nat}
theorem run_from (ht : P.underlying t = some (.slice e)) (hi : P.info? e = some i) (hs : i.size = size) (K : Option Addr) (m d n : Nat) (h : n ≤ m) (W : World) :
  (Instr.sliceAt t (.slice K m d) (some (.int .i64 (n : Int))) none none).run P W = .ok (.slice (if d = n then K else K.map (·.add (n * size))) (m - n) (d - n)) W := by
 simp [Instr.sliceAt, Instr.slice, Instr.sliceBounds, Instr.sliceBound, asIntOf, run_underlying ht, sizeOf, typeInfo, hi, hs, go_sem, h]
theorem run_upto (ht : P.underlying t = some (.slice e)) (hi : P.info? e = some i) (hs : i.size = size) (K : Option Addr) (m d n : Nat) (h : n ≤ d) (W : World) :
  (Instr.sliceAt t (.slice K m d) none (some (.int .i64 (n : Int))) none).run P W = .ok (.slice K n d) W := by
 simp [Instr.sliceAt, Instr.slice, Instr.sliceBounds, Instr.sliceBound, asIntOf, run_underlying ht, sizeOf, typeInfo, hi, hs, go_sem, h]
end
theorem RdS.drop {w : World} {S : Nat → Prop} {A : Option Addr} {xs : List Value} (h : RdS w S A xs) (k : Nat) : RdS w S (A.map (·.add k)) (xs.drop k) := fun j u hu => by
 rw [List.getElem?_drop] at hu
 obtain ⟨b, o, rfl, hb, hc⟩ := h (k + j) u hu
 exact ⟨b, o + k, by rw [Option.map_some, add_lit], hb, by rw [Nat.add_assoc]; exact hc⟩
def fromA (K : Option Addr) (d n size : Nat) : Option Addr := if d = n then K else K.map (·.add (n * size))
theorem kidCells_drop (l : List Tv) (q : Nat) : kidCells (l.drop q) = (kidCells l).drop (q * 3) := flat_drop Tv.cells 3 (fun _ => rfl) l q
theorem KidsAt.from {w : World} {S : Nat → Prop} {K : Option Addr} {m d : Nat} {ks : List T} {kv : List Tv} (h : KidsAt w S K m d ks kv) (n : Nat) (hn : n ≤ m) : KidsAt w S (fromA K d n 3) (m - n) (d - n) (ks.drop n) (kv.drop n) := by
 have hl := h.len
 have hc := h.cap
 have hf := h.few
 have hm := h.capM
 refine ⟨by rw [List.length_drop]; omega, by omega, by omega, by rw [List.length_drop]; omega, by rw [List.length_drop, List.length_drop, h.kvl], ?_, fun i h1 h2 => ?_⟩
 ·unfold fromA
  split
  ·have e : kv.drop n = [] := List.drop_eq_nil_of_le (by rw [h.kvl]; omega)
   rw [e]
   exact RdS.none_'
  ·rw [kidCells_drop]
   exact h.read.drop _
 ·rw [List.length_drop] at h1 h2
  rw [List.getElem_drop, List.getElem_drop]
  exact h.kid _ (by omega) (by omega)
end Go.Proofs.Ytbmjiokjigkdnaa
namespace Go.Proofs.Ytbmjiokjigkdnaa
open Go.RowKit Go.Proofs.Ytbmjiokjigkdnaa.Top
structure Box where
 g : Nat
 t : TypeId
 cs : Array Value
structure Bx (w0 W : World) (l : List Box) : Prop where
 bel : Below w0.heap.size w0 W
 blk : ∀ (i : Nat) (x : Box), l[i]? = some x → Blk W x.g x.t x.cs ∧ w0.heap.size ≤ x.g
section
variable {w0 W W' : World} {l : List Box}
theorem Bx.nil (w : World) : Bx w w [] := ⟨Below.refl _ _, fun i x h => by simp at h⟩
theorem Bx.step (h : Bx w0 W l) (hb : Below W.heap.size W W') : Bx w0 W' l := ⟨h.bel.trans (hb.mono h.bel.size), fun i x e => ⟨(h.blk i x e).1.below hb (h.blk i x e).1.lt, (h.blk i x e).2⟩⟩
theorem Bx.drew (h : Bx w0 W l) : Bx w0 W.drew l := ⟨h.bel.drew, fun i x e => ⟨(h.blk i x e).1.drew, (h.blk i x e).2⟩⟩
theorem Bx.drewN (h : Bx w0 W l) (n : Nat) : Bx w0 (W.drewN n) l := ⟨below_drewN h.bel n, fun i x e => ⟨(h.blk i x e).1.drewN n, (h.blk i x e).2⟩⟩
theorem Bx.box (h : Bx w0 W l) (t : TypeId) (cs : Array Value) {g : Nat} (hg : W.heap.size = g) : Bx w0 (W.alloc (.cells cs t)) (⟨g, t, cs⟩ :: l) := by
 subst hg
 refine ⟨h.bel.alloc h.bel.size _, fun i x e => ?_⟩
 cases i with
 | zero =>
  have e : some (Box.mk W.heap.size t cs) = some x := e
  injection e with e
  subst e
  exact ⟨Blk.new W t cs, h.bel.size⟩
 | succ i => exact ⟨(h.blk i x e).1.alloc _, (h.blk i x e).2⟩
theorem Bx.other (h : Bx w0 W l) (o : Obj) : Bx w0 (W.alloc o) l := h.step ((Below.refl _ _).alloc (Nat.le_refl _) o)
theorem Bx.tail {x : Box} (h : Bx w0 W (x :: l)) : Bx w0 W l := ⟨h.bel, fun i y e => h.blk (i + 1) y e⟩
theorem Bx.b (h : Bx w0 W l) (i : Nat) {x : Box} (e : l[i]? = some x) : Blk W x.g x.t x.cs := (h.blk i x e).1
theorem Bx.ge (h : Bx w0 W l) (i : Nat) {x : Box} (e : l[i]? = some x) : w0.heap.size ≤ x.g ∧ x.g < W.heap.size := ⟨(h.blk i x e).2, (h.blk i x e).1.lt⟩
theorem Bx.size (h : Bx w0 W l) : w0.heap.size ≤ W.heap.size := h.bel.size
theorem Bx.set (h : Bx w0 W l) (i : Nat) {x : Box} (e : l[i]? = some x) (hne : ∀ (k : Nat) (y : Box), k ≠ i → l[k]? = some y → y.g ≠ x.g) (j : Nat) (u : Value) : Bx w0 (W.setCell ⟨x.g, j, none⟩ u) (l.set i ⟨x.g, x.t, x.cs.setIfInBounds j u⟩) := by
 refine ⟨h.bel.setCell (h.blk i x e).2 _, fun k y hk => ?_⟩
 rw [List.getElem?_set] at hk
 split at hk
 ·split at hk
  ·injection hk with hk
   subst hk
   exact ⟨(h.blk i x e).1.set_ j u, (h.blk i x e).2⟩
  ·cases hk
 ·rename_i hki
  exact ⟨(h.blk k y hk).1.far (hne k y (fun e => hki e.symm) hk) u, (h.blk k y hk).2⟩
theorem Bx.only (h : Bx w0 W l) {bs : List Nat} (ho : Only bs W W') (hbs : ∀ b ∈ bs, w0.heap.size ≤ b) (hx : ∀ (i : Nat) (x : Box), l[i]? = some x → x.g ∉ bs) : Bx w0 W' l :=
 ⟨h.bel.trans (ho.to_below hbs h.bel.size), fun i x e => ⟨ho.blk (h.blk i x e).1 (hx i x e), (h.blk i x e).2⟩⟩
theorem Bx.grown (h : Bx w0 W l) {row : Option Nat} (hg : W.grownBy W' row) (hr : ∀ k, row = some k → w0.heap.size ≤ k) (hx : ∀ (i : Nat) (x : Box), l[i]? = some x → some x.g ≠ row) : Bx w0 W' l :=
 ⟨h.bel.grown hg h.bel.size hr, fun i x e => ⟨(h.blk i x e).1.grown hg (hx i x e), (h.blk i x e).2⟩⟩
end
def BoolP (P : Prop) (w : World) (e : Ending) (w' : World) : Prop := ∃ b : Bool, e = .returned (.bool b) ∧ (b = true → P) ∧ Below w.heap.size w w'
theorem BoolP.no {P : Prop} {w w' : World} (hb : Below w.heap.size w w') : BoolP P w (.returned (.bool false)) w' := ⟨false, rfl, fun h => (by cases h), hb⟩
theorem BoolP.yes {P : Prop} {w w' : World} (h : P) (hb : Below w.heap.size w w') : BoolP P w (.returned (.bool true)) w' := ⟨true, rfl, fun _ => h, hb⟩
theorem BoolP.of {P : Prop} {w w' : World} {b : Bool} (h : b = true → P) (hb : Below w.heap.size w w') : BoolP P w (.returned (.bool b)) w' := ⟨b, rfl, h, hb⟩
theorem tree_nil {t : T} (hk : t.kind = 0) (hw : t.ws.length = 0) (hks : t.ks.length = 0) : t = nilT := by
 obtain ⟨k, ws, ks⟩ := t
 have h1 : k = 0 := hk
 have h2 : ws = [] := List.eq_nil_of_length_eq_zero hw
 have h3 : ks = [] := List.eq_nil_of_length_eq_zero hks
 subst h1 h2 h3
 rfl
theorem TreeAt.lens {w : World} {S : Nat → Prop} {t : T} {v : Tv} (h : TreeAt w S t v) : v.k = t.kind ∧ v.n = t.ws.length ∧ v.m = t.ks.length ∧ v.n ≤ 17592186043904 ∧ v.m ≤ 2513169434843 := by
 obtain ⟨kv, hK⟩ : ∃ kv, KidsAt w S v.K v.m v.d t.ks kv := by cases t; exact h.kids
 have hW : WordsAt w S v.A v.n v.c t.ws := by cases t; exact h.words
 exact ⟨h.kind.symm, hW.len, hK.len, by rw [hW.len]; exact hW.few, by rw [hK.len]; exact hK.few⟩
theorem none_any (t : T) (v : Tv) (S : Nat → Prop) (w : World) (h : TreeAt w S t v) :
  Calls Try.prog 25 #[.agg #[.int .i64 v.k, .slice v.A v.n v.c, .slice v.K v.m v.d]] w (BoolP (t = nilT) w) := by
 obtain ⟨h1, h2, h3, h4, h5⟩ := h.lens
 have HN : Hid (v.k = 0 → v.n + v.m = 0 → t = nilT) := fun e1 e2 => tree_nil (by rw [← h1]; exact e1) (by omega) (by omega)
 clear h h1 h2 h3
 have R := (Bx.nil w).box 25 #[.int .i64 v.k, .slice v.A v.n v.c, .slice v.K v.m v.d] rfl
 by_cases hk : v.k = 0
 ·have fk : (v.k == 0) = true := by simpa using hk
  have HK := hide hk
  clear hk
  by_cases hz : v.n + v.m = 0
  ·have fz : ((v.n : Int) + (v.m : Int) == 0) = true := by simp; omega
   go_enter Try.func25, Try.ntmps25
   go_wp2_with fail
   go_ret
   exact BoolP.of (fun _ => HN.out HK.out hz) R.bel
  ·have fz : ((v.n : Int) + (v.m : Int) == 0) = false := by simp; omega
   go_enter Try.func25, Try.ntmps25
   go_wp2_with fail
   go_ret
   exact BoolP.no R.bel
 ·have fk : (v.k == 0) = false := by simpa using hk
  clear hk
  go_enter Try.func25, Try.ntmps25
  go_wp2_with fail
  go_ret
  exact BoolP.no R.bel
end Go.Proofs.Ytbmjiokjigkdnaa
namespace Go.Proofs.Ytbmjiokjigkdnaa
open Go.RowKit Go.Proofs.Ytbmjiokjigkdnaa.Top
theorem gs_grow {S X : Nat → Prop} {w W : World} : ∀ b, Gs S w W X b → Grow S w W b := fun _ h => h.1
theorem Stable.and {F G : World → (Nat → Prop) → Prop} (hF : Stable F) (hG : Stable G) : Stable fun W S => F W S ∧ G W S := ⟨fun h hk => ⟨hF.keep h.1 hk, hG.keep h.2 hk⟩, fun h hS => ⟨hF.mono h.1 hS, hG.mono h.2 hS⟩⟩
theorem stable_true : Stable fun _ _ => True := ⟨fun h _ => h, fun h _ => h⟩
theorem stable_ws (A : Option Addr) (n c : Nat) (ws : List WE) : Stable fun W S => WsAt W S A n c ws := ⟨fun h hk => h.keep hk, fun h hS => h.mono hS⟩
theorem stable_ks (A : Option Addr) (n c : Nat) (ks : List KEd) (kv : List Kv) : Stable fun W S => KsAt W S A n c ks kv := ⟨fun h hk => h.keep hk, fun h hS => h.mono hS⟩
theorem stable_os (A : Option Addr) (n c : Nat) (l : List Opn) (ov : List Ov) : Stable fun W S => OsAt W S A n c l ov := ⟨fun h hk => h.keep hk, fun h hS => h.mono hS⟩
def inGs (gs : List Nat) : Nat → Prop := fun b => b ∈ gs
theorem Bx.own {w0 W : World} {l : List Box} {gs : List Nat} (h : Bx w0 W l) (hl : l.map Box.g = gs) : ∀ b, inGs gs b → w0.heap.size ≤ b ∧ b < W.heap.size := fun b hb => by
 subst hl
 obtain ⟨x, hx, rfl⟩ := List.mem_map.1 hb
 obtain ⟨i, hi, rfl⟩ := List.mem_iff_getElem.1 hx
 exact ⟨(h.blk i _ (List.getElem?_eq_getElem hi)).2, (h.blk i _ (List.getElem?_eq_getElem hi)).1.lt⟩
theorem box_in {l : List Box} {gs : List Nat} (hl : l.map Box.g = gs) {i : Nat} {x : Box} (e : l[i]? = some x) : inGs gs x.g := by
 subst hl
 exact List.mem_map.2 ⟨x, List.mem_of_getElem? e, rfl⟩
theorem Bx.rowed {S : Nat → Prop} {w W w9 : World} {l : List Box} {gs : List Nat} {ty : TypeId} {size : Nat} {A : Option Addr} {n c : Nat} {xs : List Value} {F : World → (Nat → Prop) → Prop}
  (R : Bx w W l) (hl : l.map Box.g = gs) (HO : Own S (inGs gs) w W ty size A n c xs F) (hg : W.grownBy w9 (Value.slice A n c).ownBlock) : Bx w w9 l :=
 R.grown hg (fun k hk => (HO.lt (ownX_own hk)).1) fun i x e h => HO.far x.g (ownX_own h.symm) (box_in hl e)
structure Ends (w W : World) (g : Nat) (W' : World) : Prop where
 size : W'.heap.size = W.heap.size
 bel : Below w.heap.size w W → Below w.heap.size w W'
 only : Only [g] W W'
theorem Ends.refl (w W : World) (g : Nat) : Ends w W g W := ⟨rfl, fun h => h, Only.refl _ _⟩
theorem Ends.set {w W W' : World} {g : Nat} (h : Ends w W g W') (hg : w.heap.size ≤ g) (j : Nat) (u : Value) : Ends w W g (W'.setCell ⟨g, j, none⟩ u) := ⟨by rw [World.size_setCell]; exact h.1, fun hb => (h.2 hb).setCell hg _, h.3.setCell (List.mem_singleton.2 rfl) u⟩
theorem Ends.keep {w W W' : World} {g : Nat} {S X : Nat → Prop} {F : World → (Nat → Prop) → Prop} (h : Ends w W g W') (st : Stable F) (hS : ∀ b, S b → b < w.heap.size) (h0 : w.heap.size ≤ W.heap.size) (hx : X g) (hf : F W (Gs S w W X)) : F W' (Grow S w W') :=
 st.mono (st.only hf hS h0 h.only (fun b hb => by rw [List.mem_singleton.1 hb]; exact hx)) gs_grow
def EdP (r : Ed) (S : Nat → Prop) (w : World) (e : Ending) (w' : World) : Prop := ∃ v : Ev, e = .returned (.agg #[.int .i64 v.k, .int .i64 v.old.k, .slice v.old.A v.old.n v.old.c, .slice v.old.K v.old.m v.old.d, .int .i64 v.new.k, .slice v.new.A v.new.n v.new.c, .slice v.new.K v.new.m v.new.d, .slice v.W v.wn v.wc, .slice v.K v.kn v.kc, .int .i64 v.lk, .slice v.O v.on v.oc]) ∧ Below w.heap.size w w' ∧ EdAt w' (Grow S w w') r v
def EdO (r : Option Ed) (S : Nat → Prop) (w : World) (e : Ending) (w' : World) : Prop := ∃ v : Ev, e = .returned (.tuple #[.agg #[.int .i64 v.k, .int .i64 v.old.k, .slice v.old.A v.old.n v.old.c, .slice v.old.K v.old.m v.old.d, .int .i64 v.new.k, .slice v.new.A v.new.n v.new.c, .slice v.new.K v.new.m v.new.d, .slice v.W v.wn v.wc, .slice v.K v.kn v.kc, .int .i64 v.lk, .slice v.O v.on v.oc], .bool r.isSome]) ∧ Below w.heap.size w w' ∧ ∀ h, r = some h → EdAt w' (Grow S w w') h v
theorem Stable.back {F : World → (Nat → Prop) → Prop} (st : Stable F) {S X : Nat → Prop} {w W W' : World} (h : F W' (Grow S W W')) (hS : ∀ b, S b → b < w.heap.size) (h0 : w.heap.size ≤ W.heap.size) (hX : ∀ b, X b → w.heap.size ≤ b ∧ b < W.heap.size) : F W' (Gs S w W' X) :=
 st.mono h fun b hb => by
  rcases hb with h1 | h1
  ·have := hS b h1
   exact ⟨.inl h1, fun hx => by have := hX b hx; omega⟩
  ·exact ⟨.inr ⟨by omega, h1.2⟩, fun hx => by have := hX b hx; omega⟩
theorem EdP.done {r : Ed} {S X : Nat → Prop} {w W W' : World} {g : Nat} {v : Ev} (hE : Ends w W g W') (hb : Below w.heap.size w W) (hS : ∀ b, S b → b < w.heap.size) (hx : X g) (h : EdAt W (Gs S w W X) r v) : EdP r S w (.returned (.agg #[.int .i64 v.k, .int .i64 v.old.k, .slice v.old.A v.old.n v.old.c, .slice v.old.K v.old.m v.old.d, .int .i64 v.new.k, .slice v.new.A v.new.n v.new.c, .slice v.new.K v.new.m v.new.d, .slice v.W v.wn v.wc, .slice v.K v.kn v.kc, .int .i64 v.lk, .slice v.O v.on v.oc])) W' :=
 ⟨v, rfl, hE.bel hb, hE.keep (stable_ed r v) hS hb.size hx h⟩
theorem EdO.no {r : Option Ed} {S : Nat → Prop} {w W' : World} (hr : r = none) (v : Ev) (hb : Below w.heap.size w W') : EdO r S w (.returned (.tuple #[.agg #[.int .i64 v.k, .int .i64 v.old.k, .slice v.old.A v.old.n v.old.c, .slice v.old.K v.old.m v.old.d, .int .i64 v.new.k, .slice v.new.A v.new.n v.new.c, .slice v.new.K v.new.m v.new.d, .slice v.W v.wn v.wc, .slice v.K v.kn v.kc, .int .i64 v.lk, .slice v.O v.on v.oc], .bool false])) W' := by
 subst hr
 exact ⟨v, rfl, hb, fun u h => by cases h⟩
theorem EdO.done {r : Option Ed} {u : Ed} {S X : Nat → Prop} {w W W' : World} {g : Nat} {v : Ev} (hr : r = some u) (hE : Ends w W g W') (hb : Below w.heap.size w W) (hS : ∀ b, S b → b < w.heap.size) (hx : X g) (h : EdAt W (Gs S w W X) u v) : EdO r S w (.returned (.tuple #[.agg #[.int .i64 v.k, .int .i64 v.old.k, .slice v.old.A v.old.n v.old.c, .slice v.old.K v.old.m v.old.d, .int .i64 v.new.k, .slice v.new.A v.new.n v.new.c, .slice v.new.K v.new.m v.new.d, .slice v.W v.wn v.wc, .slice v.K v.kn v.kc, .int .i64 v.lk, .slice v.O v.on v.oc], .bool true])) W' := by
 subst hr
 exact ⟨v, rfl, hE.bel hb, fun u' h' => by injection h' with h'; subst h'; exact hE.keep (stable_ed u v) hS hb.size hx h⟩
def OpP (r : Opn) (S : Nat → Prop) (w : World) (e : Ending) (w' : World) : Prop := ∃ v : Ov, e = .returned (.agg #[.int .i64 v.k, .int .i64 v.n, .slice v.L v.ln v.lc, .int .i64 v.e.k, .int .i64 v.e.old.k, .slice v.e.old.A v.e.old.n v.e.old.c, .slice v.e.old.K v.e.old.m v.e.old.d, .int .i64 v.e.new.k, .slice v.e.new.A v.e.new.n v.e.new.c, .slice v.e.new.K v.e.new.m v.e.new.d, .slice v.e.W v.e.wn v.e.wc, .slice v.e.K v.e.kn v.e.kc, .int .i64 v.e.lk, .slice v.e.O v.e.on v.e.oc]) ∧ Below w.heap.size w w' ∧ OpAt w' (Grow S w w') r v
theorem OpP.done {r : Opn} {S X : Nat → Prop} {w W W' : World} {g : Nat} {v : Ov} (hE : Ends w W g W') (hb : Below w.heap.size w W) (hS : ∀ b, S b → b < w.heap.size) (hx : X g) (h : OpAt W (Gs S w W X) r v) : OpP r S w (.returned (.agg #[.int .i64 v.k, .int .i64 v.n, .slice v.L v.ln v.lc, .int .i64 v.e.k, .int .i64 v.e.old.k, .slice v.e.old.A v.e.old.n v.e.old.c, .slice v.e.old.K v.e.old.m v.e.old.d, .int .i64 v.e.new.k, .slice v.e.new.A v.e.new.n v.e.new.c, .slice v.e.new.K v.e.new.m v.e.new.d, .slice v.e.W v.e.wn v.e.wc, .slice v.e.K v.e.kn v.e.kc, .int .i64 v.e.lk, .slice v.e.O v.e.on v.e.oc])) W' :=
 ⟨v, rfl, hE.bel hb, hE.keep (stable_op r v) hS hb.size hx h⟩
end Go.Proofs.Ytbmjiokjigkdnaa
