/-
  Part D of the proofs of TopAssociates and TopConverse.
-/
import Derived.Deep.RegionHeldLaw
import Derived.Deep.RegionLaw
import Derived.Deep.CutBlock
import Derived.Deep.DeepCutAuto
import Derived.Test.YtbmjiokjigkdnaaZC
set_option linter.unusedVariables false
set_option linter.unusedSimpArgs false
namespace Go.Proofs.Ytbmjiokjigkdnaa
open Go.RowKit Go.Proofs.Ytbmjiokjigkdnaa.Top
def OneP (r : Option T) (S : Nat → Prop) (w : World) (e : Ending) (w' : World) : Prop := ∃ v : Tv, e = .returned (.tuple #[v.val, .bool r.isSome]) ∧ Below w.heap.size w w' ∧ ∀ u, r = some u → TreeAt w' (Grow S w w') u v
def OneL (r : Option T) (S : Nat → Prop) (w : World) (e : Ending) (w' : World) : Prop := ∃ k A n c K m d, e = .returned (.tuple #[.agg #[.int .i64 k, .slice A n c, .slice K m d], .bool r.isSome]) ∧ Below w.heap.size w w' ∧ ∀ u, r = some u → TreeAt w' (Grow S w w') u ⟨k, A, n, c, K, m, d⟩
theorem OneP.lit {r : Option T} {S : Nat → Prop} {w : World} {e : Ending} {w' : World} (h : OneP r S w e w') : OneL r S w e w' := by
 obtain ⟨⟨k, A, n, c, K, m, d⟩, h1, h2, h3⟩ := h
 exact ⟨k, A, n, c, K, m, d, h1, h2, h3⟩
def OneH (B C N : Nat) : Prop := ∀ (e : Ed) (t : T) (ev : Ev) (tv : Tv) (S : Nat → Prop) (w : World), dE e ≤ N → okE e → neatE e → bdE B e → bdT C t → EdAt w S e ev → TreeAt w S t tv → (∀ b, S b → b < w.heap.size) →
  Calls Try.prog 20 #[ev.val, tv.val] w (OneP (oneS e t) S w)
structure Boxes (w W : World) (ev : Ev) (tv : Tv) (cs : Array Value) : Prop where
 bel : Below w.heap.size w W
 b1 : Blk W w.heap.size 30 #[.int .i64 ev.k, .int .i64 ev.old.k, .slice ev.old.A ev.old.n ev.old.c, .slice ev.old.K ev.old.m ev.old.d, .int .i64 ev.new.k, .slice ev.new.A ev.new.n ev.new.c, .slice ev.new.K ev.new.m ev.new.d, .slice ev.W ev.wn ev.wc, .slice ev.K ev.kn ev.kc, .int .i64 ev.lk, .slice ev.O ev.on ev.oc]
 b2 : Blk W (w.heap.size + 1) 25 #[.int .i64 tv.k, .slice tv.A tv.n tv.c, .slice tv.K tv.m tv.d]
 b3 : Blk W (w.heap.size + 1 + 1) 25 cs
theorem Boxes.step {w W W' : World} {ev : Ev} {tv : Tv} {cs : Array Value} (h : Boxes w W ev tv cs) (hb : Below W.heap.size W W') : Boxes w W' ev tv cs := ⟨h.bel.trans (hb.mono h.bel.size), h.b1.below hb h.b1.lt, h.b2.below hb h.b2.lt, h.b3.below hb h.b3.lt⟩
theorem Boxes.drew {w W : World} {ev : Ev} {tv : Tv} {cs : Array Value} (h : Boxes w W ev tv cs) : Boxes w W.drew ev tv cs := ⟨h.bel.drew, h.b1.drew, h.b2.drew, h.b3.drew⟩
theorem Boxes.only {w W W' : World} {ev : Ev} {tv : Tv} {cs : Array Value} (h : Boxes w W ev tv cs) {bs : List Nat} (hb : Only bs W W') (hx : ∀ b ∈ bs, w.heap.size + 2 < b) : Boxes w W' ev tv cs :=
 ⟨h.bel.trans (hb.to_below (fun b hm => by have := hx b hm; omega) (by have := h.bel.size; omega)), hb.blk h.b1 (fun hm => by have := hx _ hm; omega), hb.blk h.b2 (fun hm => by have := hx _ hm; omega), hb.blk h.b3 (fun hm => by have := hx _ hm; omega)⟩
theorem Boxes.new (w : World) (ev : Ev) (tv : Tv) : Boxes w (((w.alloc (.cells #[.int .i64 ev.k, .int .i64 ev.old.k, .slice ev.old.A ev.old.n ev.old.c, .slice ev.old.K ev.old.m ev.old.d, .int .i64 ev.new.k, .slice ev.new.A ev.new.n ev.new.c, .slice ev.new.K ev.new.m ev.new.d, .slice ev.W ev.wn ev.wc, .slice ev.K ev.kn ev.kc, .int .i64 ev.lk, .slice ev.O ev.on ev.oc] 30)).alloc (.cells #[.int .i64 tv.k, .slice tv.A tv.n tv.c, .slice tv.K tv.m tv.d] 25)).alloc (.cells #[.int .i64 0, .slice none 0 0, .slice none 0 0] 25)) ev tv #[.int .i64 0, .slice none 0 0, .slice none 0 0] := by
 refine ⟨(((Below.refl _ _).alloc (Nat.le_refl _) _).alloc (by simp) _).alloc (by simp; omega) _, ((Blk.new w _ _).alloc _).alloc _, ?_, ?_⟩
 ·have := Blk.new (w.alloc (.cells #[.int .i64 ev.k, .int .i64 ev.old.k, .slice ev.old.A ev.old.n ev.old.c, .slice ev.old.K ev.old.m ev.old.d, .int .i64 ev.new.k, .slice ev.new.A ev.new.n ev.new.c, .slice ev.new.K ev.new.m ev.new.d, .slice ev.W ev.wn ev.wc, .slice ev.K ev.kn ev.kc, .int .i64 ev.lk, .slice ev.O ev.on ev.oc] 30)) 25 #[.int .i64 tv.k, .slice tv.A tv.n tv.c, .slice tv.K tv.m tv.d]
  rw [World.size_alloc] at this
  exact this.alloc _
 ·have := Blk.new ((w.alloc (.cells #[.int .i64 ev.k, .int .i64 ev.old.k, .slice ev.old.A ev.old.n ev.old.c, .slice ev.old.K ev.old.m ev.old.d, .int .i64 ev.new.k, .slice ev.new.A ev.new.n ev.new.c, .slice ev.new.K ev.new.m ev.new.d, .slice ev.W ev.wn ev.wc, .slice ev.K ev.kn ev.kc, .int .i64 ev.lk, .slice ev.O ev.on ev.oc] 30)).alloc (.cells #[.int .i64 tv.k, .slice tv.A tv.n tv.c, .slice tv.K tv.m tv.d] 25)) 25 #[.int .i64 0, .slice none 0 0, .slice none 0 0]
  rw [World.size_alloc, World.size_alloc] at this
  exact this
theorem opsS_step (o : Opn) (r : List Opn) (rest out : List T) : opsS (o :: r) rest out =
  if o.kindO = 2 then opsS r rest (out ++ o.lO)
  else if o.kindO = 1 then (if rest.length < o.lO.length then none else if eqL o.lO (rest.take o.lO.length) then opsS r (rest.drop o.lO.length) out else none)
  else if o.kindO = 3 then (rest.head?.bind fun x => (oneS o.eO x).bind fun k => opsS r rest.tail (out ++ [k]))
  else (if rest.length < o.nO.toNat then none else opsS r (rest.drop o.nO.toNat) (out ++ rest.take o.nO.toNat)) := by
 obtain ⟨kind, n, l, e⟩ := o
 rw [opsS]
 rfl
theorem Boxes.grown {w W W' : World} {ev : Ev} {tv : Tv} {cs : Array Value} (h : Boxes w W ev tv cs) {row : Option Nat} (hg : W.grownBy W' row) (hr : ∀ k, row = some k → w.heap.size + 2 < k) : Boxes w W' ev tv cs :=
 ⟨h.bel.grown hg h.bel.size (fun k hk => by have := hr k hk; omega), h.b1.grown hg (fun e => by have := hr _ e.symm; omega), h.b2.grown hg (fun e => by have := hr _ e.symm; omega), h.b3.grown hg (fun e => by have := hr _ e.symm; omega)⟩
def bxX (w : World) (g : Nat) : Nat → Prop := fun b => (w.heap.size ≤ b ∧ b ≤ w.heap.size + 2) ∨ b = g
theorem push_done {S : Nat → Prop} {w W w9 : World} {ev : Ev} {tv : Tv} {cs : Array Value} {g6 : Nat} {k : Int} {wv : Value} {A A9 : Option Addr} {n m c c9 : Nat} {uv lv : List Tv} {out lo : List T}
  (R : Boxes w W ev tv cs) (hB : Blk W g6 25 #[.int .i64 k, wv, .slice A n c]) (HO : Own S (bxX w g6) w W 25 3 A n c (kidCells uv) (fun W S => TreesAt W S out uv))
  (hg6 : w.heap.size + 2 < g6) (hS : ∀ b, S b → b < w.heap.size) (hown : w9.ownsRow w.heap.size 25 3 (.slice A9 (n + m) c9) (n + m) (kidCells uv ++ kidCells lv)) (hg : W.grownBy w9 (Value.slice A n c).ownBlock)
  (hat : (Value.slice A9 (n + m) c9).ownBlock = (Value.slice A n c).ownBlock ∨ (Value.slice A9 (n + m) c9).ownBlock = some W.heap.size) (hL : TreesAt W (Gs S w W (fun b => bxX w g6 b ∨ ownX A b)) lo lv) :
  Boxes w (w9.setCell ⟨g6, 2, none⟩ (.slice A9 (n + m) c9)) ev tv cs ∧ Blk (w9.setCell ⟨g6, 2, none⟩ (.slice A9 (n + m) c9)) g6 25 #[.int .i64 k, wv, .slice A9 (n + m) c9] ∧
   Own S (bxX w g6) w (w9.setCell ⟨g6, 2, none⟩ (.slice A9 (n + m) c9)) 25 3 A9 (n + m) c9 (kidCells (uv ++ lv)) (fun W S => TreesAt W S (out ++ lo) (uv ++ lv)) := by
 have hsz := R.bel.size
 have hb3 := R.b3.lt
 have hfar : ∀ b, (Value.slice A n c).ownBlock = some b → w.heap.size + 2 < b ∧ b ≠ g6 := fun b hb => by
  have h1 := HO.lt (ownX_iff.1 hb)
  have h2 := HO.far b (ownX_iff.1 hb)
  refine ⟨?_, fun e => h2 (.inr e)⟩
  rcases Nat.lt_or_ge (w.heap.size + 2) b with h | h
  ·exact h
  ·exact absurd (.inl ⟨h1.1, h⟩) h2
 have hX : ∀ b, bxX w g6 b → b < W.heap.size := fun b hb => by
  rcases hb with h | h
  ·omega
  ·rw [h]; exact hB.lt
 have HO9 := HO.appended (G := fun W S => TreesAt W S lo lv) (F' := fun W S => TreesAt W S (out ++ lo) (uv ++ lv)) (stable_trees _ _) hS hsz hown hg hat hX hL (fun h k => h.app k)
 have R9 := R.grown hg (fun k hk => (hfar k hk).1)
 have hB9 := hB.grown hg (fun e => (hfar g6 e.symm).2 rfl)
 refine ⟨R9.only ((Only.refl [g6] w9).setCell (by simp) _) (fun b hb => by rw [List.mem_singleton.1 hb]; exact hg6), hB9.set_ 2 _, ?_⟩
 rw [kidCells_app]
 exact HO9.setX (stable_trees _ _) hS R9.bel.size (.inr rfl) _
theorem res3 {W : World} {g : Nat} {t : TypeId} {x y z : Value} (h : Blk W g t #[x, y, z]) (a b c : Value) :
  (W.setCell ⟨g, 0, none⟩ a).cell? ⟨g, 0, none⟩ = some a ∧ ((W.setCell ⟨g, 0, none⟩ a).setCell ⟨g, 1, none⟩ b).cell? ⟨g, 1, none⟩ = some b ∧ (((W.setCell ⟨g, 0, none⟩ a).setCell ⟨g, 1, none⟩ b).setCell ⟨g, 2, none⟩ c).cell? ⟨g, 2, none⟩ = some c :=
 ⟨by rw [(h.set_ 0 _).cell]; rfl, by rw [((h.set_ 0 _).set_ 1 _).cell]; rfl, by rw [(((h.set_ 0 _).set_ 1 _).set_ 2 _).cell]; rfl⟩
theorem blk3 {W : World} {g : Nat} {t : TypeId} {x y z : Value} (h : Blk W g t #[x, y, z]) : W.cell? ⟨g, 0, none⟩ = some x ∧ W.cell? ⟨g, 1, none⟩ = some y ∧ W.cell? ⟨g, 2, none⟩ = some z ∧ W.frozen? ⟨g, 0, none⟩ = false ∧ W.frozen? ⟨g, 1, none⟩ = false ∧ W.frozen? ⟨g, 2, none⟩ = false :=
 ⟨h.cell 0, h.cell 1, h.cell 2, h.frozen 0, h.frozen 1, h.frozen 2⟩
theorem below3 {w W : World} {g : Nat} (hb : Below w.heap.size w W) (hg : w.heap.size ≤ g) (a b c : Value) : Below w.heap.size w (((W.setCell ⟨g, 0, none⟩ a).setCell ⟨g, 1, none⟩ b).setCell ⟨g, 2, none⟩ c) := ((hb.setCell hg _).setCell hg _).setCell hg _
theorem OneP.no {S : Nat → Prop} {w W' : World} {r : Option T} (hr : r = none) (v : Tv) (hb : Below w.heap.size w W') : OneP r S w (.returned (.tuple #[v.val, .bool false])) W' := by
 subst hr
 exact ⟨v, rfl, hb, fun u h => by cases h⟩
theorem OneP.yes {S : Nat → Prop} {w W' : World} {r : Option T} {u : T} (hr : r = some u) (v : Tv) (hb : Below w.heap.size w W') (h : TreeAt W' (Grow S w W') u v) : OneP r S w (.returned (.tuple #[v.val, .bool true])) W' := by
 subst hr
 exact ⟨v, rfl, hb, fun u' h' => by injection h' with h'; subst h'; exact h⟩
theorem tree_set3 {S : Nat → Prop} {w W : World} {t : T} {v : Tv} {g : Nat} {X : Nat → Prop} (h : TreeAt W (Gs S w W X) t v) (hS : ∀ b, S b → b < w.heap.size) (h0 : w.heap.size ≤ W.heap.size) (hX : X g) (a b c : Value) :
  TreeAt (((W.setCell ⟨g, 0, none⟩ a).setCell ⟨g, 1, none⟩ b).setCell ⟨g, 2, none⟩ c) (Gs S w (((W.setCell ⟨g, 0, none⟩ a).setCell ⟨g, 1, none⟩ b).setCell ⟨g, 2, none⟩ c) X) t v := by
 have h1 := (stable_tree t v).setCell h hS h0 (p := ⟨g, 0, none⟩) hX a
 have h2 := (stable_tree t v).setCell h1 hS (by simpa using h0) (p := ⟨g, 1, none⟩) hX b
 exact (stable_tree t v).setCell h2 hS (by simpa using h0) (p := ⟨g, 2, none⟩) hX c
def listS (lk : Int) (ops : List Opn) (t : T) : Option T := if t.kind = lk then (opsS ops t.ks []).map fun out => T.node t.kind [] out else none
set_option maxRecDepth 100000 in
set_option maxHeartbeats 16000000 in
theorem list_any (B C N : Nat) (hBC : B + C ≤ 1000000000) (hOne : OneH B C N) (k : Int) (old new : T) (ws : List WE) (ks : List KEd) (lk : Int) (ops : List Opn) (t : T) (ev : Ev) (tv : Tv) (S : Nat → Prop) (w : World)
  (hd : dO ops ≤ N) (hok : okOs lk ops) (hn : neatO ops) (hb : bdO B ops) (hu : (units ops).length ≤ B) (ht : bdT C t) (he : EdAt w S (.mk k old new ws ks lk ops) ev) (hT : TreeAt w S t tv) (hS : ∀ b, S b → b < w.heap.size) :
  Calls Try.prog 37 #[ev.val, tv.val] w (OneP (listS lk ops t) S w) := by
 obtain ⟨hk, hlk, ekv, eov, P⟩ := he.parts
 have HT := hide hT
 have hkt : Hid (t.kind = tv.k) := hT.kind
 have hOs := P.ops
 have HON : Hid (ev.on = ops.length) := hOs.len
 have hon : ev.on ≤ 586406201480 := hOs.row.few
 have HOS := hide hOs
 have HKS : Hid (∃ kv, KidsAt w S tv.K tv.m tv.d t.ks kv) := by cases t; exact hT.kids
 have HS := hide hS
 have HOne := hide hOne
 have HD := hide hd
 have HOK := hide hok
 have HNE := hide hn
 have HB := hide hb
 have HU := hide hu
 have HBT : Hid (t.ks.length ≤ C ∧ ∀ x ∈ t.ks, bdT C x) := by cases t; rw [bdT_iff] at ht; exact ht.2
 subst hk hlk
 clear he hT hOs P hOne hd hok hn hb hu ht hS
 obtain ⟨ek, eo, en, eW, ewn, ewc, eK, ekn, ekc, elk, eO, eon, eoc⟩ := ev
 obtain ⟨tk, tA, tn, tc, tK, tm, td⟩ := tv
 simp only at HON hon HOS HKS hkt HOK
 have R := Boxes.new w ⟨ek, eo, en, eW, ewn, ewc, eK, ekn, ekc, elk, eO, eon, eoc⟩ ⟨tk, tA, tn, tc, tK, tm, td⟩
 show Calls _ _ #[.agg #[.int .i64 ek, .int .i64 eo.k, .slice eo.A eo.n eo.c, .slice eo.K eo.m eo.d, .int .i64 en.k, .slice en.A en.n en.c, .slice en.K en.m en.d, .slice eW ewn ewc, .slice eK ekn ekc, .int .i64 elk, .slice eO eon eoc], .agg #[.int .i64 tk, .slice tA tn tc, .slice tK tm td]] _ _
 go_enter Try.func37, Try.ntmps37
 go_upto_region 1 with fail
 generalize (((w.alloc (.cells #[.int .i64 ek, .int .i64 eo.k, .slice eo.A eo.n eo.c, .slice eo.K eo.m eo.d, .int .i64 en.k, .slice en.A en.n en.c, .slice en.K en.m en.d, .slice eW ewn ewc, .slice eK ekn ekc, .int .i64 elk, .slice eO eon eoc] 30)).alloc (.cells #[.int .i64 tk, .slice tA tn tc, .slice tK tm td] 25)).alloc (.cells #[.int .i64 0, .slice none 0 0, .slice none 0 0] 25)) = w3 at *
 have c0 : w3.cell? ⟨w.heap.size + 1, 0, none⟩ = some (.int .i64 tk) := R.b2.cell 0
 have c2 : w3.cell? ⟨w.heap.size + 1, 2, none⟩ = some (.slice tK tm td) := R.b2.cell 2
 have c9 : w3.cell? ⟨w.heap.size, 9, none⟩ = some (.int .i64 elk) := R.b1.cell 9
 have c10 : w3.cell? ⟨w.heap.size, 10, none⟩ = some (.slice eO eon eoc) := R.b1.cell 10
 by_cases hkk : tk = elk
 ·have f1 : (tk != elk) = false := by simpa using hkk
  have HR : Hid (listS elk ops t = (opsS ops t.ks []).map fun out => T.node tk [] out) := by show _ = _; unfold listS; rw [hkt.out, if_pos hkk]
  clear hkk
  go_upto_region 4 with fail
  have R4 := R.step ((Below.refl _ _).alloc (Nat.le_refl _) (.cells #[.int .i64 tk, .slice none 0 0, .slice none 0 0] 25))
  have hB6 := Blk.new w3 25 #[.int .i64 tk, .slice none 0 0, .slice none 0 0]
  have hg6 := R.b3.lt
  clear c0 c2 c9 c10
  generalize w3.alloc (.cells #[.int .i64 tk, .slice none 0 0, .slice none 0 0] 25) = w4 at *
  generalize w3.heap.size = g6 at *
  clear R f1
  have c2 : w4.cell? ⟨w.heap.size + 1, 2, none⟩ = some (.slice tK tm td) := R4.b2.cell 2
  have c10 : w4.cell? ⟨w.heap.size, 10, none⟩ = some (.slice eO eon eoc) := R4.b1.cell 10
  go_wp2_with fail
  clear c2 c10
  go_loopw [7, 28] (fun s7 ix wr => ∃ (q m1 d1 n5 c5 : Nat) (K1 A5 : Option Addr) (rest out : List T) (rv uv : List Tv), q ≤ eon ∧ s7 = .slice K1 m1 d1 ∧ ix = .int .i64 q ∧ Boxes w wr ⟨ek, eo, en, eW, ewn, ewc, eK, ekn, ekc, elk, eO, eon, eoc⟩ ⟨tk, tA, tn, tc, tK, tm, td⟩ #[.int .i64 0, .slice none 0 0, .slice none 0 0] ∧ Blk wr g6 25 #[.int .i64 tk, .slice none 0 0, .slice A5 n5 c5] ∧
    Hid (KidsAt w S K1 m1 d1 rest rv) ∧ Hid (Own S (bxX w g6) w wr 25 3 A5 n5 c5 (kidCells uv) (fun W S => TreesAt W S out uv)) ∧ Hid (opsS (ops.drop q) rest out = opsS ops t.ks []) ∧ Hid (n5 + m1 + (units (ops.drop q)).length ≤ B + C ∧ ∀ x ∈ rest, bdT C x)) (fun _ ix _ => eon - (intOf ix).toNat)
  case atStart =>
   obtain ⟨kv, hkv⟩ := HKS.out
   exact ⟨0, tm, td, 0, 0, tK, none, t.ks, [], kv, [], by omega, rfl, rfl, R4, hB6, hkv, Own.nil (F := fun W S => TreesAt W S [] []) TreesAt.nil (stable_trees _ _), by show _ = _; rw [List.drop_zero], ⟨by rw [List.drop_zero]; have h1 := hkv.len; have h2 := HBT.out.1; have h3 := HU.out; omega, HBT.out.2⟩⟩
  case round =>
   clear R4 hB6
   obtain ⟨q, m1, d1, n5, c5, K1, A5, rest, out, rv, uv, hq, rfl, rfl, R, hB6, HK, HO, HE, HBD⟩ := hrel
   have hg6r := hB6.lt
   by_cases hlt : q < eon
   ·have hl1 : q < ops.length := by rw [← HON.out]; exact hlt
    obtain ⟨bo, oo, v, rfl, hbo, oc, op⟩ := HOS.out.at hl1
    have hbo' := HS.out _ hbo
    have oc := oc.keep (w' := wr) (fun p hp => R.bel.cell (by rw [hp]; exact hbo'))
    have hbr : bo < wr.heap.size := by have := R.bel.size; omega
    have HOP := hide op
    have HST : Hid (opsS (ops[q] :: ops.drop (q + 1)) rest out = opsS ops t.ks []) := by show _ = _; rw [← HE.out, List.drop_eq_getElem_cons hl1]
    have HUN : Hid (n5 + m1 + (unitsOf ops[q]).length + (units (ops.drop (q + 1))).length ≤ B + C) := by
     have h1 := HBD.out.1
     rw [List.drop_eq_getElem_cons hl1, units, List.length_append] at h1
     show _ ≤ _
     omega
    have HOQ : Hid (okO elk ops[q] ∧ neatS ops[q] ∧ 0 ≤ ops[q].nO ∧ neatE ops[q].eO ∧ bdo B ops[q] ∧ dE ops[q].eO ≤ N) := by
     have hm := List.getElem_mem hl1
     have h1 := neatO_iff.1 HNE.out _ hm
     have h2 := dO_mem _ hm
     have h3 := HD.out
     exact ⟨okOs_iff.1 HOK.out _ hm, h1.1, h1.2.1, h1.2.2, bdO_iff.1 HB.out _ hm, by omega⟩
    clear op HE
    generalize hoq : ops[q] = oq at *
    clear hoq
    obtain ⟨k1, n1, L1, l1, lc1, e1⟩ := v
    obtain ⟨x0, x1, x2, x3, x4, x5, x6, x7, x8, x9, x10, x11, x12, x13⟩ := oc
    simp only at x0 x1 x2 x3 x4 x5 x6 x7 x8 x9 x10 x11 x12 x13
    go_upto_region 10 with fail
    have hA5 : Below wr.heap.size wr (wr.alloc (.cells #[.int .i64 k1, .int .i64 n1, .slice L1 l1 lc1, .int .i64 e1.k, .int .i64 e1.old.k, .slice e1.old.A e1.old.n e1.old.c, .slice e1.old.K e1.old.m e1.old.d, .int .i64 e1.new.k, .slice e1.new.A e1.new.n e1.new.c, .slice e1.new.K e1.new.m e1.new.d, .slice e1.W e1.wn e1.wc, .slice e1.K e1.kn e1.kc, .int .i64 e1.lk, .slice e1.O e1.on e1.oc] 47)) := (Below.refl _ _).alloc (Nat.le_refl _) _
    have R5 := R.step hA5
    have hB65 := hB6.below hA5 hB6.lt
    have HO5 := hide (HO.out.below (stable_trees _ _) HS.out R.bel.size hA5)
    have hB9 := Blk.new wr 47 #[.int .i64 k1, .int .i64 n1, .slice L1 l1 lc1, .int .i64 e1.k, .int .i64 e1.old.k, .slice e1.old.A e1.old.n e1.old.c, .slice e1.old.K e1.old.m e1.old.d, .int .i64 e1.new.k, .slice e1.new.A e1.new.n e1.new.c, .slice e1.new.K e1.new.m e1.new.d, .slice e1.W e1.wn e1.wc, .slice e1.K e1.kn e1.kc, .int .i64 e1.lk, .slice e1.O e1.on e1.oc]
    generalize wr.alloc (.cells #[.int .i64 k1, .int .i64 n1, .slice L1 l1 lc1, .int .i64 e1.k, .int .i64 e1.old.k, .slice e1.old.A e1.old.n e1.old.c, .slice e1.old.K e1.old.m e1.old.d, .int .i64 e1.new.k, .slice e1.new.A e1.new.n e1.new.c, .slice e1.new.K e1.new.m e1.new.d, .slice e1.W e1.wn e1.wc, .slice e1.K e1.kn e1.kc, .int .i64 e1.lk, .slice e1.O e1.on e1.oc] 47) = w5 at *
    have hg9 : g6 < wr.heap.size := hB6.lt
    have hsz9 := hA5.size
    generalize wr.heap.size = g9 at *
    clear R hB6 HO x0 x1 x2 x3 x4 x5 x6 x7 x8 x9 x10 x11 x12 x13 hA5
    have d0 : w5.cell? ⟨g9, 0, none⟩ = some (.int .i64 k1) := hB9.cell 0
    have d2 : w5.cell? ⟨g9, 2, none⟩ = some (.slice L1 l1 lc1) := hB9.cell 2
    have c2 : w5.cell? ⟨g6, 2, none⟩ = some (.slice A5 n5 c5) := hB65.cell 2
    have hf2 := hB65.frozen 2
    have HKO : Hid (oq.kindO = k1) := HOP.out.k.symm
    have HNO : Hid (oq.nO = n1) := HOP.out.n.symm
    have HLL : Hid (l1 = oq.lO.length) := by obtain ⟨lv, hL⟩ := HOP.out.l; exact hL.len
    have hl1b : l1 ≤ 2513169434843 := by obtain ⟨lv, hL⟩ := HOP.out.l; rw [HLL.out]; exact hL.few
    obtain ⟨i0, hi, hz0, hz1, hz2⟩ := info_parts infoTree
    have hcap5 := HO5.out.cap
    by_cases k2 : k1 = 2
    ·have f2 : (k1 == 2) = true := by simpa using k2
     have HI : Hid (oq.kindO = 2) := HKO.out.trans k2
     have hle : n5 + l1 ≤ 2513169434843 := by
      have h1 := HUN.out
      rw [units_kind2 HI.out, List.length_map, ← HLL.out] at h1
      omega
     clear k2
     obtain ⟨lv, hL⟩ := HOP.out.l
     have HL := hide hL
     have hL5 := hL.bel R5.bel HS.out
     have HSRC : Hid (∀ j u, (kidCells lv)[j]? = some u → ∃ ad, L1 = some ad ∧ w5.cell? (ad.add j) = some u) := fun j u hu => by
      obtain ⟨b, o, e, _, hc⟩ := hL5.read j u hu
      exact ⟨⟨b, o, none⟩, e, by rw [add_lit]; exact hc⟩
     have HLN : Hid ((kidCells lv).length = l1 * 3) := by have hh : l1 = _ := hL.len; show _ = _; rw [kidCells_len, hL.kvl, ← hh]
     clear hL hL5
     go_wp2_with (at_builtin; refine wpList_append_any _ rfl (.tmp 39) (.tmp 41) _ rfl w.heap.size 25 i0 _ 3 56 Try.underlying23 hi hz0 hz1 hz2 rfl (by decide) _ n5 (kidCells uv) rfl HO5.out.own L1 l1 lc1 (kidCells lv) rfl HLN.out HSRC.out (kidCells_one1 _) (by unfold maxLen; omega) (by omega) R5.bel.size ?_; intro v9 w9 hown9 hgr9 hat9; obtain ⟨A9, c9, rfl, hle9, hA9⟩ := ownsRow_slice hown9; have hB10 := hB65.grown hgr9 (fun e => HO5.out.far g6 (ownX_iff.1 e.symm) (.inr rfl)); have f3 := hB10.cell 2; have f4 := hB10.frozen 2)
     go_roundw
     case rel =>
      obtain ⟨h1, h2, h3⟩ := push_done R5 hB65 HO5.out hg6 HS.out hown9 hgr9 hat9 ((stable_trees _ _).start HL.out.trees HS.out R5.bel (fun b hb => by
       rcases hb with (h | h) | h
       ·exact h.1
       ·omega
       ·exact (HO5.out.lt h).1))
      exact ⟨q + 1, m1, d1, n5 + l1, c9, K1, A9, rest, out ++ oq.lO, rv, uv ++ lv, by omega, rfl, by go_num, h1, h2, HK.out, h3, by have := HST.out; rw [opsS_step, if_pos HI.out] at this; exact this, ⟨by
       have h1 := HUN.out
       rw [units_kind2 HI.out, List.length_map, ← HLL.out] at h1
       omega, HBD.out.2⟩⟩
     case measure => simp [intOf]; omega
    ·have f2 : (k1 == 2) = false := by simpa using k2
     have HN2 : Hid (oq.kindO ≠ 2) := by show _ ≠ _; rw [HKO.out]; exact k2
     have HML : Hid (m1 = rest.length) := HK.out.len
     have hcapm := HK.out.cap
     have hcapM := HK.out.capM
     unfold maxLen at hcapM
     have hm1b : m1 ≤ 2513169434843 := by rw [HML.out]; exact HK.out.few
     have hs1 : ∀ (n : Nat), n ≤ m1 → ∀ W, (Instr.sliceAt 23 (.slice K1 m1 d1) none (some (.int .i64 (n : Int))) none).run Try.prog W = .ok (.slice K1 n d1) W := fun n hn W => run_upto Try.underlying23 hi hz1 K1 m1 d1 n (by omega) W
     have hs2 : ∀ (n : Nat), n ≤ m1 → ∀ W, (Instr.sliceAt 23 (.slice K1 m1 d1) (some (.int .i64 (n : Int))) none none).run Try.prog W = .ok (.slice (fromA K1 d1 n 3) (m1 - n) (d1 - n)) W := fun n hn W => run_from Try.underlying23 hi hz1 K1 m1 d1 n hn W
     have HS1 := hide hs1
     have HS2 := hide hs2
     clear hs1 hs2 k2
     obtain ⟨s0, s1, s2, v0, v1, v2⟩ := blk3 R5.b3
     obtain ⟨q0, q1, q2⟩ := res3 R5.b3 (.int .i64 0) (.slice none 0 0) (.slice none 0 0)
     have HNONE : Hid (opsS (oq :: ops.drop (q + 1)) rest out = none → listS elk ops t = none) := fun h => by
      rw [HR.out, ← HST.out, h]; rfl
     by_cases k1' : k1 = 1
     ·have f1 : (k1 == 1) = true := by simpa using k1'
      have f0 : (k1 == 0) = false := by simp; omega
      have HI : Hid (oq.kindO = 1) := HKO.out.trans k1'
      clear k1'
      by_cases hlm : m1 < l1
      ·have HNN : Hid (opsS (oq :: ops.drop (q + 1)) rest out = none) := by
        show _ = _
        rw [opsS_step, if_neg HN2.out, if_pos HI.out, if_pos (by rw [← HML.out, ← HLL.out]; exact hlm)]
       go_wp2_with fail
       (try simp only [Exit.inBlock, Exit.then])
       refine bodyPost_ret (v := .tuple #[.agg #[.int .i64 0, .slice none 0 0, .slice none 0 0], .bool false]) (by simp [results, Try.results37, go_sem, q0, q1, q2]; try rfl) rfl ?_
       exact OneP.no (HNONE.out HNN.out) Tv.nil (below3 R5.bel (show w.heap.size ≤ w.heap.size + 1 + 1 by omega) _ _ _)
      ·have h1 := HS1.out l1 (by omega)
       have h2 := HS2.out l1 (by omega)
       go_wp2_with fail
       go_quiet (fail)
       go_wp2_with fail
       obtain ⟨lv, hL⟩ := HOP.out.l
       have R6 : Boxes w (w5.drewN nq) ⟨ek, eo, en, eW, ewn, ewc, eK, ekn, ekc, elk, some ⟨bo, oo, none⟩, eon, eoc⟩ ⟨tk, tA, tn, tc, tK, tm, td⟩ #[.int .i64 0, .slice none 0 0, .slice none 0 0] := R5.step (below_of_drewN _ _ _)
       refine (equalF_any L1 K1 l1 lc1 l1 d1 oq.lO (rest.take l1) lv (rv.take l1) S _ (hL.bel R6.bel HS.out) ((HK.out.take l1 (by omega)).bel R6.bel HS.out) (fun b hb => Nat.lt_of_lt_of_le (HS.out b hb) R6.bel.size)).mono ?_
       rintro e w8 ⟨rfl, hb8⟩
       have HSE : Hid (opsS (oq :: ops.drop (q + 1)) rest out = if eqL oq.lO (rest.take l1) then opsS (ops.drop (q + 1)) (rest.drop l1) out else none) := by
        show _ = _
        rw [opsS_step, if_neg HN2.out, if_pos HI.out, if_neg (by rw [← HML.out, ← HLL.out]; exact hlm), ← HLL.out]
       have R8 := R6.step hb8
       have hb58 : Below w5.heap.size w5 w8 := (below_of_drewN _ _ nq).trans hb8
       have hB8 := hB65.below hb58 hB65.lt
       have HO8 := hide (HO5.out.below (stable_trees _ _) HS.out R5.bel.size hb58)
       clear hL c2 d0 d2 hf2 s0 s1 s2 v0 v1 v2 q0 q1 q2
       obtain ⟨s0, s1, s2, v0, v1, v2⟩ := blk3 R8.b3
       obtain ⟨q0, q1, q2⟩ := res3 R8.b3 (.int .i64 0) (.slice none 0 0) (.slice none 0 0)
       cases hx : eqL oq.lO (rest.take l1)
       ·have HNN : Hid (opsS (oq :: ops.drop (q + 1)) rest out = none) := by show _ = _; rw [HSE.out, hx]; rfl
        go_wp2_with fail
        (try simp only [Exit.inBlock, Exit.then])
        refine bodyPost_ret (v := .tuple #[.agg #[.int .i64 0, .slice none 0 0, .slice none 0 0], .bool false]) (by simp [results, Try.results37, go_sem, q0, q1, q2]; try rfl) rfl ?_
        exact OneP.no (HNONE.out HNN.out) Tv.nil (below3 R8.bel (show w.heap.size ≤ w.heap.size + 1 + 1 by omega) _ _ _)
       ·have HEN : Hid (opsS (ops.drop (q + 1)) (rest.drop l1) out = opsS ops t.ks []) := by show _ = _; rw [← HST.out, HSE.out, hx]; rfl
        clear hx
        go_wp2_with fail
        go_roundw
        case rel =>
         exact ⟨q + 1, m1 - l1, d1 - l1, n5, c5, fromA K1 d1 l1 3, A5, rest.drop l1, out, rv.drop l1, uv, by omega, rfl, by go_num, R8, hB8, HK.out.from l1 (by omega), HO8.out, HEN.out, ⟨by
          have h1 := HUN.out
          omega, fun x hx => HBD.out.2 x (List.mem_of_mem_drop hx)⟩⟩
        case measure => simp [intOf]; omega
     ·have f1 : (k1 == 1) = false := by simpa using k1'
      have HN1 : Hid (oq.kindO ≠ 1) := by show _ ≠ _; rw [HKO.out]; exact k1'
      by_cases k3' : k1 = 3
      ·have f3 : (k1 == 3) = true := by simpa using k3'
       have f0 : (k1 == 0) = false := by simp; omega
       have HI : Hid (oq.kindO = 3) := HKO.out.trans k3'
       clear k3' k1'
       by_cases hlm : m1 < 1
       ·have HNN : Hid (opsS (oq :: ops.drop (q + 1)) rest out = none) := by
         have hr : rest = [] := List.eq_nil_of_length_eq_zero (by rw [← HML.out]; omega)
         show _ = _
         rw [opsS_step, if_neg HN2.out, if_neg HN1.out, if_pos HI.out, hr]
         rfl
        go_wp2_with fail
        (try simp only [Exit.inBlock, Exit.then])
        refine bodyPost_ret (v := .tuple #[.agg #[.int .i64 0, .slice none 0 0, .slice none 0 0], .bool false]) (by simp [results, Try.results37, go_sem, q0, q1, q2]; try rfl) rfl ?_
        exact OneP.no (HNONE.out HNN.out) Tv.nil (below3 R5.bel (show w.heap.size ≤ w.heap.size + 1 + 1 by omega) _ _ _)
       ·have hr0 : 0 < rest.length := by rw [← HML.out]; omega
        obtain ⟨bk, ok, xv, rfl, hbk, y0, y1, y2, hx⟩ := HK.out.at hr0
        have h1 : ∀ W, (Instr.sliceAt 23 (.slice (some ⟨bk, ok, none⟩) m1 d1) none (some (.int .i64 1)) none).run Try.prog W = .ok (.slice (some ⟨bk, ok, none⟩) 1 d1) W := HS1.out 1 (by omega)
        have h2 : ∀ W, (Instr.sliceAt 23 (.slice (some ⟨bk, ok, none⟩) m1 d1) (some (.int .i64 1)) none none).run Try.prog W = .ok (.slice (fromA (some ⟨bk, ok, none⟩) d1 1 3) (m1 - 1) (d1 - 1)) W := HS2.out 1 (by omega)
        have HSE : Hid (opsS (oq :: ops.drop (q + 1)) rest out = (oneS oq.eO rest[0]).bind fun k => opsS (ops.drop (q + 1)) (rest.drop 1) (out ++ [k])) := by
         show _ = _
         rw [opsS_step, if_neg HN2.out, if_neg HN1.out, if_pos HI.out]
         cases rest with
         | nil => simp at hr0
         | cons x r => rfl
        have HBX : Hid (bdT C rest[0]) := HBD.out.2 _ (List.getElem_mem hr0)
        have HX := hide hx
        generalize hxx : rest[0] = x0 at *
        clear hxx hx
        rw [Nat.zero_mul, Nat.add_zero] at y0 y1 y2
        have hbk' := HS.out _ hbk
        obtain ⟨xk, xA, xn, xc, xK, xm, xd⟩ := xv
        simp only at y0 y1 y2
        have HCALL : Hid (∀ W, Below w.heap.size w W → Calls Try.prog 20 #[.agg #[.int .i64 e1.k, .int .i64 e1.old.k, .slice e1.old.A e1.old.n e1.old.c, .slice e1.old.K e1.old.m e1.old.d, .int .i64 e1.new.k, .slice e1.new.A e1.new.n e1.new.c, .slice e1.new.K e1.new.m e1.new.d, .slice e1.W e1.wn e1.wc, .slice e1.K e1.kn e1.kc, .int .i64 e1.lk, .slice e1.O e1.on e1.oc], .agg #[.int .i64 xk, .slice xA xn xc, .slice xK xm xd]] W (OneL (oneS oq.eO x0) S W)) := fun W hW =>
         (HOne.out oq.eO x0 e1 ⟨xk, xA, xn, xc, xK, xm, xd⟩ S W HOQ.out.2.2.2.2.2 (okO_kind3 HOQ.out.1 HI.out).2.2.1 HOQ.out.2.2.2.1 HOQ.out.2.2.2.2.1.2.2 HBX.out (HOP.out.e.bel hW HS.out) (HX.out.bel hW HS.out) (fun b hb => Nat.lt_of_lt_of_le (HS.out b hb) hW.size)).mono fun _ _ h => h.lit
        have HCELL : Hid (∀ W, Below w5.heap.size w5 W → W.cell? ⟨g9, 3, none⟩ = some (.int .i64 e1.k) ∧ W.cell? ⟨g9, 4, none⟩ = some (.int .i64 e1.old.k) ∧ W.cell? ⟨g9, 5, none⟩ = some (.slice e1.old.A e1.old.n e1.old.c) ∧ W.cell? ⟨g9, 6, none⟩ = some (.slice e1.old.K e1.old.m e1.old.d) ∧ W.cell? ⟨g9, 7, none⟩ = some (.int .i64 e1.new.k) ∧ W.cell? ⟨g9, 8, none⟩ = some (.slice e1.new.A e1.new.n e1.new.c) ∧ W.cell? ⟨g9, 9, none⟩ = some (.slice e1.new.K e1.new.m e1.new.d) ∧
          W.cell? ⟨g9, 10, none⟩ = some (.slice e1.W e1.wn e1.wc) ∧ W.cell? ⟨g9, 11, none⟩ = some (.slice e1.K e1.kn e1.kc) ∧ W.cell? ⟨g9, 12, none⟩ = some (.int .i64 e1.lk) ∧ W.cell? ⟨g9, 13, none⟩ = some (.slice e1.O e1.on e1.oc) ∧ W.cell? ⟨bk, ok, none⟩ = some (.int .i64 xk) ∧ W.cell? ⟨bk, ok + 1, none⟩ = some (.slice xA xn xc) ∧ W.cell? ⟨bk, ok + 2, none⟩ = some (.slice xK xm xd)) := fun W hW => by
         have hB := hB9.below hW hB9.lt
         have hW0 := R5.bel.trans (hW.mono R5.bel.size)
         exact ⟨hB.cell 3, hB.cell 4, hB.cell 5, hB.cell 6, hB.cell 7, hB.cell 8, hB.cell 9, hB.cell 10, hB.cell 11, hB.cell 12, hB.cell 13, (hW0.cell (p := ⟨bk, ok, none⟩) hbk').trans y0, (hW0.cell (p := ⟨bk, ok + 1, none⟩) hbk').trans y1, (hW0.cell (p := ⟨bk, ok + 2, none⟩) hbk').trans y2⟩
        go_upto_region 19 with fail
        go_quiet (fail)
        have hb56 : Below w5.heap.size w5 (w5.drewN nq) := below_of_drewN _ _ nq
        have hsz6 : (w5.drewN nq).heap.size = w5.heap.size := rfl
        have d06 : (w5.drewN nq).cell? ⟨g9, 0, none⟩ = some (.int .i64 k1) := d0
        generalize w5.drewN nq = w6 at *
        go_upto_region 20 with fail
        clear d06 c2 d0 d2 hf2 s0 s1 s2 v0 v1 v2 q0 q1 q2 y0 y1 y2
        have hb6 := R5.bel.trans (hb56.mono R5.bel.size)
        have hW : Below w5.heap.size w5 w6.drew := hb56.drew
        have hA6 : Below w5.heap.size w5 (w6.alloc (.cells #[.int .i64 0, .slice none 0 0, .slice none 0 0] 25)).drew := (hb56.alloc (by omega) _).drew
        have hB12 : Blk (w6.alloc (.cells #[.int .i64 0, .slice none 0 0, .slice none 0 0] 25)).drew w6.heap.size 25 #[.int .i64 0, .slice none 0 0, .slice none 0 0] := Blk.new w6 _ _
        have hszA : (w6.alloc (.cells #[.int .i64 0, .slice none 0 0, .slice none 0 0] 25)).drew.heap.size = w6.heap.size + 1 := by show (w6.alloc _).heap.size = _; simp
        have hszA' : w6.heap.size + 1 ≤ (w6.alloc (.cells #[.int .i64 0, .slice none 0 0, .slice none 0 0] 25)).drew.heap.size := by omega
        have HSZ := hide hszA
        clear hszA
        have hle6 : w5.heap.size ≤ w6.heap.size := by omega
        have HSZ6 := hide hsz6
        have HXB : Hid (∀ b, (fun b => bxX w g6 b ∨ ownX A5 b) b → w.heap.size ≤ b ∧ b < w6.drew.heap.size) := fun b hb => by
         show w.heap.size ≤ b ∧ b < w6.heap.size
         have h0 := R5.b3.lt
         have h1 := hB65.lt
         rcases hb with (h | h) | h
         ·omega
         ·omega
         ·have := HO5.out.lt h; omega
        clear hsz6
        go_cut [12, 13] (fun s12 s13 wx => ∃ g12 k8 A8 n8 c8 K8 m8 d8, s12 = .pointer (some ⟨g12, 0, none⟩) ∧ s13 = .bool (oneS oq.eO x0).isSome ∧ Blk wx g12 25 #[.int .i64 k8, .slice A8 n8 c8, .slice K8 m8 d8] ∧ Below w5.heap.size w5 wx ∧ w5.heap.size ≤ g12 ∧ Hid (∀ u, oneS oq.eO x0 = some u → TreeAt wx (Gs S w wx (fun b => bxX w g6 b ∨ ownX A5 b)) u ⟨k8, A8, n8, c8, K8, m8, d8⟩))
        case first =>
         go_region_held_law (fun W => W.cell? ⟨g9, 3, none⟩ = some (.int .i64 e1.k) ∧ W.cell? ⟨g9, 4, none⟩ = some (.int .i64 e1.old.k) ∧ W.cell? ⟨g9, 5, none⟩ = some (.slice e1.old.A e1.old.n e1.old.c) ∧ W.cell? ⟨g9, 6, none⟩ = some (.slice e1.old.K e1.old.m e1.old.d) ∧ W.cell? ⟨g9, 7, none⟩ = some (.int .i64 e1.new.k) ∧ W.cell? ⟨g9, 8, none⟩ = some (.slice e1.new.A e1.new.n e1.new.c) ∧ W.cell? ⟨g9, 9, none⟩ = some (.slice e1.new.K e1.new.m e1.new.d) ∧
          W.cell? ⟨g9, 10, none⟩ = some (.slice e1.W e1.wn e1.wc) ∧ W.cell? ⟨g9, 11, none⟩ = some (.slice e1.K e1.kn e1.kc) ∧ W.cell? ⟨g9, 12, none⟩ = some (.int .i64 e1.lk) ∧ W.cell? ⟨g9, 13, none⟩ = some (.slice e1.O e1.on e1.oc) ∧ W.cell? ⟨bk, ok, none⟩ = some (.int .i64 xk) ∧ W.cell? ⟨bk, ok + 1, none⟩ = some (.slice xA xn xc) ∧ W.cell? ⟨bk, ok + 2, none⟩ = some (.slice xK xm xd))
          (first | exact HCELL.out _ hW | exact HCELL.out _ hA6 | exact HCELL.out _ (hW.alloc hW.size _) | exact HCELL.out _ (((hA6.setCell hle6 _).setCell hle6 _).setCell hle6 _))
          (first
           | (go_at_call 20; ((with_reducible refine (HCALL.out _ (R5.bel.trans (hW.mono R5.bel.size))).mono ?_); rintro e w8 ⟨k8, A8, n8, c8, K8, m8, d8, rfl, hb8, ht8⟩; have hW := hW.trans (hb8.mono hW.size); have HT8 := hide ht8; clear ht8))
           | (go_at_call 20; ((with_reducible refine (HCALL.out _ (R5.bel.trans (hA6.mono R5.bel.size))).mono ?_); rintro e w8 ⟨k8, A8, n8, c8, K8, m8, d8, rfl, hb8, ht8⟩; have hA6 := hA6.trans (hb8.mono hA6.size); have HT8 := hide ht8; clear ht8; have hB12 := hB12.below hb8 hB12.lt; obtain ⟨z0, z1, z2, zf0, zf1, zf2⟩ := blk3 hB12)))
         all_goals (go_wp2_with fail)
         all_goals go_meet
         case rel =>
          refine ⟨w8.heap.size, k8, A8, n8, c8, K8, m8, d8, rfl, rfl, Blk.new w8 _ _, hW.alloc hW.size _, hW.size, fun u hu => ?_⟩
          exact (stable_tree u _).grow_gs (bs := []) (HT8.out u hu) HS.out hb6.size hb8.size HXB.out (Only.of_below ((Below.refl _ _).alloc (Nat.le_refl _) _)) (fun b hb => by cases hb)
         case rel =>
          refine ⟨w6.heap.size, k8, A8, n8, c8, K8, m8, d8, rfl, rfl, ((hB12.set_ 0 _).set_ 1 _).set_ 2 _, ((hA6.setCell hle6 _).setCell hle6 _).setCell hle6 _, hle6, fun u hu => ?_⟩
          exact (stable_tree u _).grow_gs (bs := [w6.heap.size]) (HT8.out u hu) HS.out (by have := HSZ.out; have := hb6.size; omega) hb8.size (fun b hb => by have h1 : w.heap.size ≤ b ∧ b < w6.heap.size := HXB.out b hb; have := HSZ.out; omega)
           ((((Only.refl [w6.heap.size] w8).setCell (p := ⟨w6.heap.size, 0, none⟩) (List.mem_singleton.2 rfl) _).setCell (p := ⟨w6.heap.size, 1, none⟩) (List.mem_singleton.2 rfl) _).setCell (p := ⟨w6.heap.size, 2, none⟩) (List.mem_singleton.2 rfl) _) (fun b hb => by
            rw [List.mem_singleton.1 hb]
            have := HSZ.out
            have := hb6.size
            omega)
        case rest =>
         obtain ⟨g12, k8, A8, n8, c8, K8, m8, d8, rfl, rfl, hB12, hbe, hg12, HT8⟩ := hcut
         have R7 := R5.step hbe
         have hB7 := hB65.below hbe hB65.lt
         have HO7 := hide (HO5.out.below (stable_trees _ _) HS.out R5.bel.size hbe)
         clear hW hA6 hszA' hle6 hb6 hB65
         obtain ⟨s0, s1, s2, v0, v1, v2⟩ := blk3 R7.b3
         obtain ⟨q0, q1, q2⟩ := res3 R7.b3 (.int .i64 0) (.slice none 0 0) (.slice none 0 0)
         obtain ⟨t0, t1, t2, _, _, _⟩ := blk3 hB12
         cases hx : oneS oq.eO x0 with
         | none =>
          have HNN : Hid (opsS (oq :: ops.drop (q + 1)) rest out = none) := by show _ = _; rw [HSE.out, hx]; rfl
          clear hx
          rw [Option.isSome_none]
          go_wp2_with fail
          (try simp only [Exit.inBlock, Exit.then])
          refine bodyPost_ret (v := .tuple #[.agg #[.int .i64 0, .slice none 0 0, .slice none 0 0], .bool false]) (by simp [results, Try.results37, go_sem, q0, q1, q2]; try rfl) rfl ?_
          exact OneP.no (HNONE.out HNN.out) Tv.nil (below3 R7.bel (show w.heap.size ≤ w.heap.size + 1 + 1 by omega) _ _ _)
         | some u =>
          have HEN : Hid (opsS (ops.drop (q + 1)) (rest.drop 1) (out ++ [u]) = opsS ops t.ks []) := by show _ = _; rw [← HST.out, HSE.out, hx]; rfl
          have HTU := hide (HT8.out u hx)
          clear HT8 hx
          rw [Option.isSome_some]
          have c2 : wc.cell? ⟨g6, 2, none⟩ = some (.slice A5 n5 c5) := hB7.cell 2
          have hf2 := hB7.frozen 2
          have hBL := Blk.new wc 25 #[.int .i64 k8, .slice A8 n8 c8, .slice K8 m8 d8]
          have hAL : Below wc.heap.size wc (wc.alloc (.cells #[.int .i64 k8, .slice A8 n8 c8, .slice K8 m8 d8] 25)) := (Below.refl _ _).alloc (Nat.le_refl _) _
          have R9 := R7.step hAL
          have hB9' := hB7.below hAL hB7.lt
          have HO9 := hide (HO7.out.below (stable_trees _ _) HS.out R7.bel.size hAL)
          have HTL := hide ((stable_tree u ⟨k8, A8, n8, c8, K8, m8, d8⟩).below HTU.out HS.out R7.bel.size hAL)
          have hle : n5 + 1 ≤ 2513169434843 := by have h1 := HBD.out.1; omega
          have hg6c := hB7.lt
          have hun : 1 ≤ (unitsOf oq).length := by rw [units_kind3 HI.out]; exact Nat.le_refl _
          have HUN1 := hide hun
          clear hun
          go_wp2_with (at_builtin; refine wpList_append_any _ rfl (.tmp 75) (.tmp 77) _ rfl w.heap.size 25 i0 _ 3 56 Try.underlying23 hi hz0 hz1 hz2 rfl (by decide) _ n5 (kidCells uv) rfl HO9.out.own (some ⟨wc.heap.size, 0, none⟩) 1 1 [.int .i64 k8, .slice A8 n8 c8, .slice K8 m8 d8] rfl rfl (src_lit hBL) (by simp [Value.oneCell']) (by unfold maxLen; omega) (by omega) R9.bel.size ?_; intro v9 w9 hown9 hgr9 hat9; obtain ⟨A9, c9, rfl, hle9, hA9⟩ := ownsRow_slice hown9; have hB10 := hB9'.grown hgr9 (fun e => HO9.out.far g6 (ownX_iff.1 e.symm) (.inr rfl)); have f3 := hB10.cell 2; have f4 := hB10.frozen 2)
          go_roundw
          case rel =>
           obtain ⟨h1, h2, h3⟩ := push_done (lv := [⟨k8, A8, n8, c8, K8, m8, d8⟩]) R9 hB9' HO9.out hg6 HS.out (by rw [kidCells_one]; exact hown9) hgr9 hat9 (TreesAt.one HTL.out)
           exact ⟨q + 1, m1 - 1, d1 - 1, n5 + 1, c9, fromA (some ⟨bk, ok, none⟩) d1 1 3, A9, rest.drop 1, out ++ [u], rv.drop 1, uv ++ [Tv.mk k8 A8 n8 c8 K8 m8 d8], by omega, rfl, by go_num, h1, h2, HK.out.from 1 (by omega), h3, HEN.out, ⟨by
            have h1 := HUN.out
            have h2 := HUN1.out
            omega, fun x hx => HBD.out.2 x (List.mem_of_mem_drop hx)⟩⟩
          case measure => simp [intOf]; omega
      ·have f3 : (k1 == 3) = false := by simpa using k3'
       have hk0 : k1 = 0 := by
        have h1 := HOQ.out.2.1
        have h2 := kind_neat h1
        have h3 := HKO.out
        have h4 := HN2.out
        omega
       have f0 : (k1 == 0) = true := by simpa using hk0
       have HI : Hid (oq.kindO = 0) := HKO.out.trans hk0
       have hnn : 1 ≤ n1 := by
        have h1 := HOQ.out.2.1
        have h2 := HNO.out
        have h3 := HI.out
        obtain ⟨kk, nn, ll, ee⟩ := oq
        rw [neatS] at h1
        have h3 : kk = 0 := h3
        have h2 : nn = n1 := h2
        have := (h1.2.2.1 h3).1
        omega
       clear k3' k1' hk0
       obtain ⟨nn, rfl⟩ := Int.eq_ofNat_of_zero_le (show 0 ≤ n1 by omega)
       by_cases hlm : m1 < nn
       ·have HNN : Hid (opsS (oq :: ops.drop (q + 1)) rest out = none) := by
         show _ = _
         rw [opsS_step, if_neg HN2.out, if_neg HN1.out, if_neg (by rw [HI.out]; decide), if_pos (by rw [← HML.out, HNO.out]; exact hlm)]
        go_wp2_with fail
        (try simp only [Exit.inBlock, Exit.then])
        refine bodyPost_ret (v := .tuple #[.agg #[.int .i64 0, .slice none 0 0, .slice none 0 0], .bool false]) (by simp [results, Try.results37, go_sem, q0, q1, q2]; try rfl) rfl ?_
        exact OneP.no (HNONE.out HNN.out) Tv.nil (below3 R5.bel (show w.heap.size ≤ w.heap.size + 1 + 1 by omega) _ _ _)
       ·have h1 := HS1.out nn (by omega)
        have h2 := HS2.out nn (by omega)
        have HSE : Hid (opsS (ops.drop (q + 1)) (rest.drop nn) (out ++ rest.take nn) = opsS ops t.ks []) := by
         show _ = _
         rw [← HST.out, opsS_step, if_neg HN2.out, if_neg HN1.out, if_neg (by rw [HI.out]; decide), HNO.out, if_neg (by rw [← HML.out]; exact hlm)]
         rfl
        have hmore := HK.out.take nn (by omega)
        have HMORE := hide hmore
        have hmore5 := hmore.bel R5.bel HS.out
        have HSRC : Hid (∀ j u, (kidCells (rv.take nn))[j]? = some u → ∃ ad, K1 = some ad ∧ w5.cell? (ad.add j) = some u) := fun j u hu => by
         obtain ⟨b, o, e, _, hc⟩ := hmore5.read j u hu
         exact ⟨⟨b, o, none⟩, e, by rw [add_lit]; exact hc⟩
        have HLN : Hid ((kidCells (rv.take nn)).length = nn * 3) := by show _ = _; rw [kidCells_len, hmore.kvl, ← hmore.len]
        have hle : n5 + nn ≤ 2513169434843 := by have h1 := HBD.out.1; omega
        clear hmore hmore5
        go_wp2_with fail
        go_quiet (fail)
        have hown5 := HO5.out.own
        have R6 : Boxes w (w5.drewN nq) ⟨ek, eo, en, eW, ewn, ewc, eK, ekn, ekc, elk, some ⟨bo, oo, none⟩, eon, eoc⟩ ⟨tk, tA, tn, tc, tK, tm, td⟩ #[.int .i64 0, .slice none 0 0, .slice none 0 0] := R5.step (below_of_drewN _ _ _)
        have hb56 : Below w5.heap.size w5 (w5.drewN nq) := below_of_drewN _ _ nq
        have hB6 := hB65.below hb56 hB65.lt
        have HO6 := hide (HO5.out.below (stable_trees _ _) HS.out R5.bel.size hb56)
        clear hown5
        go_wp2_with (at_builtin; refine wpList_append_any _ rfl (.tmp 85) (.tmp 86) _ rfl w.heap.size 25 i0 _ 3 56 Try.underlying23 hi hz0 hz1 hz2 rfl (by decide) _ n5 (kidCells uv) rfl HO6.out.own K1 nn d1 (kidCells (rv.take nn)) rfl HLN.out HSRC.out (kidCells_one1 _) (by unfold maxLen; omega) (by omega) R6.bel.size ?_; intro v9 w9 hown9 hgr9 hat9; obtain ⟨A9, c9, rfl, hle9, hA9⟩ := ownsRow_slice hown9; have hB10 := hB6.grown hgr9 (fun e => HO6.out.far g6 (ownX_iff.1 e.symm) (.inr rfl)); have f3 := hB10.cell 2; have f4 := hB10.frozen 2)
        go_roundw
        case rel =>
         obtain ⟨h1, h2, h3⟩ := push_done R6 hB6 HO6.out hg6 HS.out hown9 hgr9 hat9 ((stable_trees _ _).start HMORE.out.trees HS.out R6.bel (fun b hb => by
          rcases hb with (h | h) | h
          ·exact h.1
          ·omega
          ·exact (HO6.out.lt h).1))
         exact ⟨q + 1, m1 - nn, d1 - nn, n5 + nn, c9, fromA K1 d1 nn 3, A9, rest.drop nn, out ++ rest.take nn, rv.drop nn, uv ++ rv.take nn, by omega, rfl, by go_num, h1, h2, HK.out.from nn (by omega), h3, HSE.out, ⟨by
          have h1 := HUN.out
          omega, fun x hx => HBD.out.2 x (List.mem_of_mem_drop hx)⟩⟩
        case measure => simp [intOf]; omega
   ·have hqe : q = eon := by omega
    subst hqe
    have HE2 : Hid (opsS [] rest out = opsS ops t.ks []) := by show _ = _; rw [← HE.out, List.drop_of_length_le (by rw [HON.out]; omega)]
    have HML : Hid (m1 = rest.length) := HK.out.len
    have hcap := HO.out.cap
    obtain ⟨s0, s1, s2, v0, v1, v2⟩ := blk3 R.b3
    obtain ⟨t0, t1, t2, _, _, _⟩ := blk3 hB6
    obtain ⟨q0, q1, q2⟩ := res3 R.b3 (.int .i64 tk) (.slice none 0 0) (.slice A5 n5 c5)
    by_cases hm : m1 = 0
    ·have fm : ((m1 : Int) == 0) = true := by simp; omega
     have HRES : Hid (listS elk ops t = some (T.node tk [] out)) := by
      show _ = _
      rw [HR.out, ← HE2.out, opsS, if_pos (by rw [← HML.out]; exact hm)]
      rfl
     clear hm
     have HTR : Hid (TreeAt wr (Gs S w wr (fun b => (w.heap.size ≤ b ∧ b ≤ w.heap.size + 2))) (T.node tk [] out) ⟨tk, none, 0, 0, A5, n5, c5⟩) := by
      have hk := HO.out
      refine TreeAt.of WordsAt.none_ (kv := uv) ?_
      have hn5 : n5 ≤ 2513169434843 := by have := HBD.out.1; omega
      have h1 := hk.kids hn5
      refine ⟨h1.1, h1.2, h1.3, h1.4, h1.5, ?_, fun i a b => (hk.fact.2 i a b).mono fun b hb => ⟨hb.1, fun h => hb.2 (.inl (.inl h))⟩⟩
      exact (RdS.of_own4 hk.own).mono fun b hb => ⟨.inr (hk.lt (ownX_iff.1 hb)), fun h => hk.far b (ownX_iff.1 hb) (.inl h)⟩
     go_wp2_with fail
     (try simp only [Exit.inBlock, Exit.then])
     refine bodyPost_ret (v := .tuple #[.agg #[.int .i64 tk, .slice none 0 0, .slice A5 n5 c5], .bool true]) (by simp [results, Try.results37, go_sem, q0, q1, q2]; try rfl) rfl ?_
     exact OneP.yes HRES.out ⟨tk, none, 0, 0, A5, n5, c5⟩ (below3 R.bel (show w.heap.size ≤ w.heap.size + 1 + 1 by omega) _ _ _) ((tree_set3 HTR.out HS.out R.bel.size (show w.heap.size ≤ w.heap.size + 1 + 1 ∧ w.heap.size + 1 + 1 ≤ w.heap.size + 2 by omega) _ _ _).mono fun b hb => hb.1)
    ·have fm : ((m1 : Int) == 0) = false := by simp; omega
     have HRES : Hid (listS elk ops t = none) := by
      show _ = _
      rw [HR.out, ← HE2.out, opsS, if_neg (by rw [← HML.out]; exact hm)]
      rfl
     clear hm
     go_wp2_with fail
     (try simp only [Exit.inBlock, Exit.then])
     refine bodyPost_ret (v := .tuple #[.agg #[.int .i64 tk, .slice none 0 0, .slice A5 n5 c5], .bool false]) (by simp [results, Try.results37, go_sem, q0, q1, q2]; try rfl) rfl ?_
     exact OneP.no HRES.out ⟨tk, none, 0, 0, A5, n5, c5⟩ (below3 R.bel (show w.heap.size ≤ w.heap.size + 1 + 1 by omega) _ _ _)
 ·have f1 : (tk != elk) = true := by simpa using hkk
  have HR : Hid (listS elk ops t = none) := by show _ = _; unfold listS; rw [hkt.out, if_neg hkk]
  clear hkk
  obtain ⟨s0, s1, s2, v0, v1, v2⟩ := blk3 R.b3
  obtain ⟨q0, q1, q2⟩ := res3 R.b3 (.int .i64 0) (.slice none 0 0) (.slice none 0 0)
  go_wp2_with fail
  (try simp only [Exit.inBlock, Exit.then])
  refine bodyPost_ret (v := .tuple #[.agg #[.int .i64 0, .slice none 0 0, .slice none 0 0], .bool false]) (by simp [results, Try.results37, go_sem, q0, q1, q2]; try rfl) rfl ?_
  exact OneP.no HR.out Tv.nil (below3 R.bel (show w.heap.size ≤ w.heap.size + 1 + 1 by omega) _ _ _)
end Go.Proofs.Ytbmjiokjigkdnaa
