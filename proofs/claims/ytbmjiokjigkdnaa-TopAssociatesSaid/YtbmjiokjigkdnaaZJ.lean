/-
  Part J of the proofs of TopAssociates and TopConverse.
-/
import Derived.Deep.RegionHeld3
import Derived.Test.YtbmjiokjigkdnaaZB
import Derived.Test.YtbmjiokjigkdnaaZE
import Derived.Test.YtbmjiokjigkdnaaZF
import Derived.Test.YtbmjiokjigkdnaaZI
set_option linter.unusedVariables false
set_option linter.unusedSimpArgs false
namespace Go.Proofs.Ytbmjiokjigkdnaa
open Go.RowKit Go.Proofs.Ytbmjiokjigkdnaa.Top
def EdG (r : Option Ed) (S : Nat → Prop) (w : World) (e : Ending) (w' : World) : Prop := ∃ v : Ev, e = .returned (.tuple #[.agg v.arr, .bool r.isSome]) ∧ Below w.heap.size w w' ∧ EdAt w' (Grow S w w') (r.getD nilE) v
def TrG (r : Option T) (S : Nat → Prop) (w : World) (e : Ending) (w' : World) : Prop := ∃ v : Tv, e = .returned (.tuple #[.agg v.arr, .bool r.isSome]) ∧ Below w.heap.size w w' ∧ TreeAt w' (Grow S w w') (r.getD nilT) v
section
variable {S : Nat → Prop} {w W : World} {l : List Box} {r : List Row} {F : World → (Nat → Prop) → Prop} {g : FuncId} {xs : Array Value}
theorem edG_mm {d : Option Ed} (M : Mm S w W l r F) (hc : Calls Try.prog g xs W (EdG d (mmS S w W l r) W)) :
  Calls Try.prog g xs W fun e W' => ∃ v : Ev, e = .returned (.tuple #[.agg v.arr, .bool d.isSome]) ∧ Mm S w W' l r (fun W S => F W S ∧ EdAt W S (d.getD nilE) v) ∧ Un [] W W' :=
 hc.mono fun _ _ ⟨v, he, hb, h⟩ => ⟨v, he, M.call hb (stable_ed _ _) h, .of_below hb⟩
theorem trG_mm {d : Option T} (M : Mm S w W l r F) (hc : Calls Try.prog g xs W (TrG d (mmS S w W l r) W)) :
  Calls Try.prog g xs W fun e W' => ∃ v : Tv, e = .returned (.tuple #[.agg v.arr, .bool d.isSome]) ∧ Mm S w W' l r (fun W S => F W S ∧ TreeAt W S (d.getD nilT) v) ∧ Un [] W W' :=
 hc.mono fun _ _ ⟨v, he, hb, h⟩ => ⟨v, he, M.call hb (stable_tree _ _) h, .of_below hb⟩
theorem boolP_mm {P : Prop} (M : Mm S w W l r F) (hc : Calls Try.prog g xs W (BoolP P W)) :
  Calls Try.prog g xs W fun e W' => ∃ b : Bool, (b = true → P) ∧ e = .returned (.bool b) ∧ Mm S w W' l r F ∧ Un [] W W' :=
 hc.mono fun _ _ ⟨b, he, hp, hb⟩ => ⟨b, hp, he, M.step hb, .of_below hb⟩
theorem anyB_mm (M : Mm S w W l r F) (hc : Calls Try.prog g xs W fun e W' => ∃ b : Bool, e = .returned (.bool b) ∧ Below W.heap.size W W') :
  Calls Try.prog g xs W fun e W' => ∃ b : Bool, e = .returned (.bool b) ∧ Mm S w W' l r F ∧ Un [] W W' :=
 hc.mono fun _ _ ⟨b, he, hb⟩ => ⟨b, he, M.step hb, .of_below hb⟩
theorem Mm.boxRowN {g0 ty size n : Nat} {cs : Array Value} (h : Mm S w W (⟨g0, ty, cs⟩ :: l) r F) (hs : cs.size = n * size) (hm : n ≤ maxLen) : Mm S w W l (⟨ty, size, some ⟨g0, 0, none⟩, n, n, cs.toList⟩ :: r) F := by
 have hb := h.box 0 _ rfl
 have hp : (blocks l (⟨ty, size, some ⟨g0, 0, none⟩, n, n, cs.toList⟩ :: r)).Perm (blocks (⟨g0, ty, cs⟩ :: l) r) := by
  show (l.map Box.g ++ (g0 :: r.flatMap rowB)).Perm (g0 :: (l.map Box.g ++ r.flatMap rowB))
  exact List.perm_middle
 refine ⟨h.st, h.old, h.bel, fun i x e => h.box (i + 1) x e, fun i x e => ?_, hp.nodup_iff.2 h.dis, h.st.less h.fact fun b hx => hp.mem_iff.1 hx⟩
 cases i with
 | zero =>
  have e : some (Row.mk ty size (some ⟨g0, 0, none⟩) n n cs.toList) = some x := e
  injection e with e
  subst e
  refine ⟨by simpa using hs, .inr ⟨g0, n, cs, rfl, hb.2, hb.1, Nat.le_refl _, hm, hs, ?_⟩⟩
  rw [List.take_of_length_le (by simpa using Nat.le_of_eq hs)]
 | succ i => exact h.row i x e
end
theorem rn_eqlB {P : Program} {ρ : Operand → Value} {o : Oper} {w : World} {ty : TypeId} {x y : Operand} {i j : Bool} {yt : TypeId} {b : Bool} (ho : o.op = .binOp .eql ty x y yt) (hx : ρ x = .bool i) (hy : ρ y = .bool j) (ht : P.underlying ty = some .bool) (hb : (i == j) = b) : (execOp ρ o).run P w = .ok (.value (.bool b)) w := by
 subst hb; unfold execOp
 simp only [ho, hx, hy, Sem.run_bind, eqGuard_at_bool, Sem.run_pure, Result.andThen_ok, run_eql_bool w ty i j ht]
theorem rn_bs2 {ρ : Operand → Value} {o : Oper} {w : World} {x y : Operand} {v u : Ov} {g : Nat} (ho : o.op = .buildSlice 28 2 #[(0, x), (1, y)]) (hx : ρ x = .agg v.arr) (hy : ρ y = .agg u.arr) (hg : w.heap.size = g) :
  (execOp ρ o).run Try.prog w = .ok (.value (.slice (some ⟨g, 0, none⟩) 2 2)) (w.alloc (.cells (v.arr ++ u.arr) 47)) := by
 obtain ⟨i, z, hu, hi, hz, hsz, hby, hzs, hpos⟩ := ti_lO
 refine rn_buildSlice ho hu hi hz (by rw [hsz]; omega) (by rw [hsz]; omega) ?_ hg
 have h2 : ((Array.range (2 * i.size)).map (z.cells[· % z.cells.size]!)).size = 28 := by rw [hsz]; simp
 generalize (Array.range (2 * i.size)).map (z.cells[· % z.cells.size]!) = zs at *
 rw [hsz]
 have e : List.map (fun p => (p.1, ρ p.2)) (#[(0, x), (1, y)] : Array (Nat × Operand)).toList = [(0, .agg v.arr), (1, .agg u.arr)] := by
  show [(0, ρ x), (1, ρ y)] = _
  rw [hx, hy]
 rw [e]
 obtain ⟨zl⟩ := zs
 match zl, h2 with
 | [z0, z1, z2, z3, z4, z5, z6, z7, z8, z9, z10, z11, z12, z13, z14, z15, z16, z17, z18, z19, z20, z21, z22, z23, z24, z25, z26, z27], _ => exact fill28 _ _ _ _ _ _ _ _ _ _ _ _ _ _ _ _ _ _ _ _ _ _ _ _ _ _ _ _ v u
theorem goodT_any (t : T) (v : Tv) (S : Nat → Prop) (w : World) (h : TreeAt w S t v) (hS : ∀ b, S b → b < w.heap.size) : Calls Try.prog 6 #[.agg v.arr] w (BoolP (goodT t) w) := by
 have M := Mm.begin hS (stable_tree _ _) h
 have hk : t.kind = v.k := h.kind
 clear h
 refine calls_fr (xs := [.agg v.arr]) Try.func6 rfl Try.ntmps6 rfl (fun a hF => ?_)
 refine wrgs rfl ?_
 obtain ⟨bk1, hbk1⟩ : ∃ g, w.heap.size = g := ⟨_, rfl⟩
 refine wlal hF M hbk1 rfl rfl rfl (rn_box (cs := (Tv.arr v)) rfl rfl hbk1) ?_; clear hF M a; intro W1 a M hF
 revert a; refine qm (.bool false) rfl ?_; intro a hF; refine wl0 ?_; refine wrgs rfl ?_; revert a; refine qV (.agg (Tv.arr v)) (rn_load rfl rfl (ld_T rfl (M.b 0 rfl).whole)) rfl ?_; intro a hF
 refine wlc hF (rn_call1 (u := .agg (Tv.arr v)) rfl rfl rfl Try.call16) (boolP_mm M (fewB_any t v _ _ M.fact M.lts)) rfl rfl rfl ?_; clear hF a
 rintro e9 W7 ⟨b1, hb1, rfl, M, _⟩; refine ⟨_, rfl, ?_⟩; intro a hF
 cases b1 with
 | false =>
  revert a; refine qm (.bool false) rfl ?_; refine qi rfl ?_; refine qi rfl ?_; refine qV (.bool false) (rn_pick rfl rfl rfl) rfl ?_; refine qm (.bool false) rfl ?_; refine qi rfl ?_; refine qi rfl ?_; refine qi rfl ?_; refine qV (.bool false) (rn_pick rfl rfl rfl) rfl ?_; refine qm (.bool false) rfl ?_; intro a hF; refine wl0 ?_
  exact wp_ret (res_slot Try.results6 rfl hF ⟨false, rfl, (fun h => by cases h), M.bel⟩)
 | true =>
  revert a; refine qm (.bool true) rfl ?_; refine qg (.agg (Tv.arr v)) (rn_load rfl rfl (ld_T rfl (M.b 0 rfl).whole)) rfl ?_; intro a hF
  refine lgc hF (rn_call2 (u := .agg (Tv.arr v)) (u' := .int .i64 64) rfl rfl rfl rfl Try.call17) (boolP_mm M (right2_any _ t v _ 64 _ (Nat.le_refl _) M.fact M.lts (by decide) (by decide))) rfl rfl rfl rfl rfl rfl ?_; clear hF a
  rintro e9 W8 ⟨b2, hb2, rfl, M, _⟩; refine ⟨_, rfl, ?_⟩; intro a hF
  cases b2 with
  | false =>
   revert a; refine qV (.bool false) (rn_pick rfl rfl rfl) rfl ?_; refine qm (.bool false) rfl ?_; refine qi rfl ?_; refine qi rfl ?_; refine qi rfl ?_; refine qV (.bool false) (rn_pick rfl rfl rfl) rfl ?_; refine qm (.bool false) rfl ?_; intro a hF; refine wl0 ?_
   exact wp_ret (res_slot Try.results6 rfl hF ⟨false, rfl, (fun h => by cases h), M.bel⟩)
  | true =>
   by_cases c1 : v.k = 10
   ·skip
    revert a; refine qV (.bool true) (rn_pick rfl rfl rfl) rfl ?_; refine qm (.bool true) rfl ?_; refine qg (.pointer (some ⟨bk1, 0, none⟩)) (rn_field (q := 0) rfl rfl fo_T0 rfl) rfl ?_; refine qg (.int .i64 v.k) (rn_load rfl rfl (ld_one one_int ((M.b 0 rfl).cell 0))) rfl ?_; refine qg (.bool false) (rn_neq rfl rfl rfl (by rw [c1]; rfl)) rfl ?_; refine qV (.bool false) (rn_pick rfl rfl rfl) rfl ?_; refine qm (.bool false) rfl ?_; intro a hF; refine wl0 ?_
    exact wp_ret (res_slot Try.results6 rfl hF ⟨false, rfl, (fun h => by cases h), M.bel⟩)
   ·skip
    revert a; refine qV (.bool true) (rn_pick rfl rfl rfl) rfl ?_; refine qm (.bool true) rfl ?_; refine qg (.pointer (some ⟨bk1, 0, none⟩)) (rn_field (q := 0) rfl rfl fo_T0 rfl) rfl ?_; refine qg (.int .i64 v.k) (rn_load rfl rfl (ld_one one_int ((M.b 0 rfl).cell 0))) rfl ?_; refine qg (.bool true) (rn_neq rfl rfl rfl (bne_iff_ne.2 c1)) rfl ?_; refine qV (.bool true) (rn_pick rfl rfl rfl) rfl ?_; refine qm (.bool true) rfl ?_; intro a hF; refine wl0 ?_
    exact wp_ret (res_slot Try.results6 rfl hF ⟨true, rfl, (fun _ => ⟨(hb2 rfl).ok, hb1 rfl, by rw [hk]; exact c1⟩), M.bel⟩)
theorem fine_any (e : Ed) (v : Ev) (ok : Bool) (S : Nat → Prop) (w : World) (h : EdAt w S e v) (hS : ∀ b, S b → b < w.heap.size) : Calls Try.prog 9 #[.agg v.arr, .bool ok] w (fun e w' => ∃ b : Bool, e = .returned (.bool b) ∧ Below w.heap.size w w') := by
 have M := Mm.begin hS (stable_ed _ _) h
 clear h
 refine calls_fr (xs := [.agg v.arr, .bool ok]) Try.func9 rfl Try.ntmps9 rfl (fun a hF => ?_)
 refine wrgs rfl ?_
 obtain ⟨bk1, hbk1⟩ : ∃ g, w.heap.size = g := ⟨_, rfl⟩
 refine wlal hF M hbk1 rfl rfl rfl (rn_box (cs := (Ev.arr v)) rfl rfl hbk1) ?_; clear hF M a; intro W1 a M hF
 revert a; refine qm (.bool false) rfl ?_; intro a hF; refine wl0 ?_
 cases ok with
 | false =>
  refine wrgs rfl ?_; revert a; refine qm (.bool false) rfl ?_; refine qV (.bool true) (rn_not rfl rfl rfl) rfl ?_; refine qm (.bool true) rfl ?_; refine qi rfl ?_; refine qi rfl ?_; refine qV (.bool true) (rn_pick rfl rfl rfl) rfl ?_; refine qm (.bool true) rfl ?_; intro a hF; refine wl0 ?_
  exact wp_ret (res_slot Try.results9 rfl hF ⟨_, rfl, M.bel⟩)
 | true =>
  refine wrgs rfl ?_; revert a; refine qm (.bool true) rfl ?_; refine qV (.bool false) (rn_not rfl rfl rfl) rfl ?_; refine qm (.bool false) rfl ?_; refine qg (.agg (Ev.arr v)) (rn_load rfl rfl (ld_E rfl (M.b 0 rfl).whole)) rfl ?_; intro a hF
  refine lgc hF (rn_call1 (u := .agg (Ev.arr v)) rfl rfl rfl Try.call5) (boolP_mm M (good_any e v _ _ M.fact M.lts)) rfl rfl rfl rfl rfl rfl ?_; clear hF a
  rintro e9 W7 ⟨b1, _, rfl, M, _⟩; refine ⟨_, rfl, ?_⟩; intro a hF
  revert a; refine qV (.bool b1) (rn_pick rfl rfl rfl) rfl ?_; refine qm (.bool b1) rfl ?_; intro a hF; refine wl0 ?_
  exact wp_ret (res_slot Try.results9 rfl hF ⟨_, rfl, M.bel⟩)
theorem compose_top (B : Nat) (hB : 2 * B ≤ 1000000000) (p q : Ed) (vp vq : Ev) (S : Nat → Prop) (w : World) (hp : rightE p) (hq : rightE q) (bp : bdE B p) (bq : bdE B q) (ep : EdAt w S p vp) (eq : EdAt w S q vq) (hS : ∀ b, S b → b < w.heap.size) :
  Calls Try.prog 8 #[.agg vp.arr, .agg vq.arr] w (EdG (composeT p q) S w) := by
 have M := Mm.begin (F := fun W S => EdAt W S p vp ∧ EdAt W S q vq) hS ((stable_ed _ _).and (stable_ed _ _)) ⟨ep, eq⟩
 clear ep eq
 refine calls_fr (xs := [.agg vp.arr, .agg vq.arr]) Try.func8 rfl Try.ntmps8 rfl (fun a hF => ?_)
 refine wrgs rfl ?_
 obtain ⟨bk1, hbk1⟩ : ∃ g, w.heap.size = g := ⟨_, rfl⟩
 refine wlal hF M hbk1 rfl rfl rfl (rn_box (cs := (Ev.arr vp)) rfl rfl hbk1) ?_; clear hF M a; intro W1 a M hF
 obtain ⟨bk2, hbk2⟩ : ∃ g, W1.heap.size = g := ⟨_, rfl⟩
 refine wlal hF M hbk2 rfl rfl rfl (rn_box (cs := (Ev.arr vq)) rfl rfl hbk2) ?_; clear hF M a; intro W2 a M hF
 obtain ⟨bk3, hbk3⟩ : ∃ g, W2.heap.size = g := ⟨_, rfl⟩
 refine wlal hF M hbk3 rfl rfl rfl (rn_alloc rfl zc_E hbk3) ?_; clear hF M a; intro W3 a M hF
 revert a; refine qm (.bool false) rfl ?_; intro a hF; refine wl0 ?_
 have hc := edO_mm M (both_all B hB (max (dE p) (dE q)) p q vp vq _ _ (by omega) (by omega) hp hq bp bq M.fact.1 M.fact.2 M.lts)
 refine wrgs rfl ?_; revert a; refine qV (.agg (Ev.arr vp)) (rn_load rfl rfl (ld_E rfl (M.b 2 rfl).whole)) rfl ?_; refine qV (.agg (Ev.arr vq)) (rn_load rfl rfl (ld_E rfl (M.b 1 rfl).whole)) rfl ?_; intro a hF
 refine wlc hF (rn_call2 (u := .agg (Ev.arr vp)) (u' := .agg (Ev.arr vq)) rfl rfl rfl rfl Try.call18) hc rfl rfl rfl ?_; clear hF a
 clear hc; rintro e9 W7 ⟨v7, rfl, M, _⟩; refine ⟨_, rfl, ?_⟩; intro a hF
 revert a; refine qm (.tuple #[.agg (Ev.arr v7), .bool ((bothT p q).isSome)]) rfl ?_; refine qV (.agg (Ev.arr v7)) (rn_extract rfl rfl rfl) rfl ?_; refine qV (.bool ((bothT p q).isSome)) (rn_extract rfl rfl rfl) rfl ?_; intro a hF
 obtain ⟨bk4, hbk4⟩ : ∃ g, W7.heap.size = g := ⟨_, rfl⟩
 refine wlal hF M hbk4 rfl rfl rfl (rn_alloc rfl zc_E hbk4) ?_; clear hF M a; intro W8 a M hF
 refine wlst hF M 0 rfl (vs := (Ev.arr v7)) rfl rfl rfl rfl rfl rfl rfl sz_E (Ev.arr_one _) (leb rfl) ?_; clear hF M a; intro W9 a M hF
 revert a; refine qm (.bool ((bothT p q).isSome)) rfl ?_; intro a hF; refine wl0 ?_
 cases hb : bothT p q with
 | none =>
  rw [hb] at hF
  refine wp_seq ?_
  refine wrgs rfl ?_; revert a; refine qm (.bool false) rfl ?_; refine qV (.bool true) (rn_not rfl rfl rfl) rfl ?_; intro a hF; refine wl0 ?_; refine cd_true hF rfl rfl ?_; refine wrgs rfl ?_; revert a; refine qV (.agg (Ev.arr Ev.nil)) (rn_build (cs := (Ev.arr Ev.nil)) rfl (by kernel_rfl)) rfl ?_; intro a hF
  refine wlst hF M 1 rfl (vs := (Ev.arr Ev.nil)) rfl rfl rfl rfl rfl rfl rfl sz_E (Ev.arr_one _) (leb rfl) ?_; clear hF M a; intro W10 a M hF
  revert a; refine qm (.bool false) rfl ?_; intro a hF; refine wl0 ?_
  refine wp_ret (?_ : bodyPost _ _ _ .ret _ _)
  refine res_cell1 Try.results8 rfl rfl hF rfl (ld_E rfl (M.b 1 rfl).whole) ?_
  rw [show composeT p q = none by unfold composeT; rw [hb]; rfl]
  exact ⟨_, rfl, M.bel, EdAt.nil⟩
 | some b =>
  rw [hb] at hF
  refine wp_seq ?_
  refine wrgs rfl ?_; revert a; refine qm (.bool true) rfl ?_; refine qV (.bool false) (rn_not rfl rfl rfl) rfl ?_; intro a hF; refine wl0 ?_; refine cd_false hF rfl rfl (wp_skip (nm_then ?_))
  have hcm := comp_all (max (dE p) (dE q)) p q hp.1 hp.2 hq.1 hq.2 (by omega) (by omega)
  have hcn := (hcm.1 b hb).2.2.1
  have hcb := both_bd _ p q b hp.1 hp.2 hq.1 hq.2 bp bq (Nat.le_max_left (dE p) (dE q)) (Nat.le_max_right _ _) hb
  have hc := edP_mm M (normal_all (2 * B + 65536) (by omega) _ b v7 _ _ (Nat.le_refl _) hcn hcb (M.fact.2 b hb) M.lts)
  refine wrgs rfl ?_; revert a; refine qV (.agg (Ev.arr v7)) (rn_load rfl rfl (ld_E rfl (M.b 0 rfl).whole)) rfl ?_; intro a hF
  refine wlc hF (rn_call1 (u := .agg (Ev.arr v7)) rfl rfl rfl Try.call19) hc rfl rfl rfl ?_; clear hF a
  clear hc; rintro e9 W8 ⟨v8, rfl, M, _⟩; refine ⟨_, rfl, ?_⟩; intro a hF
  refine wlst hF M 1 rfl (vs := (Ev.arr v8)) rfl rfl rfl rfl rfl rfl rfl sz_E (Ev.arr_one _) (leb rfl) ?_; clear hF M a; intro W9 a M hF
  revert a; refine qm (.bool true) rfl ?_; intro a hF; refine wl0 ?_
  refine wp_ret (?_ : bodyPost _ _ _ .ret _ _)
  refine res_cell1 Try.results8 rfl rfl hF rfl (ld_E rfl (M.b 1 rfl).whole) ?_
  rw [show composeT p q = some (normalE b) by unfold composeT; rw [hb]; rfl]
  exact ⟨_, rfl, M.bel, M.grown.2⟩
theorem apply_top (B C : Nat) (hBC : B + C ≤ 1000000000) (e : Ed) (t : T) (ev : Ev) (tv : Tv) (S : Nat → Prop) (w : World) (hr : rightE e) (hbd : bdE B e) (ht : bdT C t) (he : EdAt w S e ev) (hT : TreeAt w S t tv) (hS : ∀ b, S b → b < w.heap.size) :
  Calls Try.prog 10 #[.agg ev.arr, .agg tv.arr] w (TrG (applyS e t) S w) := by
 have M := Mm.begin (F := fun W S => EdAt W S e ev ∧ TreeAt W S t tv) hS ((stable_ed _ _).and (stable_tree _ _)) ⟨he, hT⟩
 clear he hT
 refine calls_fr (xs := [.agg ev.arr, .agg tv.arr]) Try.func10 rfl Try.ntmps10 rfl (fun a hF => ?_)
 refine wrgs rfl ?_
 obtain ⟨bk1, hbk1⟩ : ∃ g, w.heap.size = g := ⟨_, rfl⟩
 refine wlal hF M hbk1 rfl rfl rfl (rn_box (cs := (Ev.arr ev)) rfl rfl hbk1) ?_; clear hF M a; intro W1 a M hF
 obtain ⟨bk2, hbk2⟩ : ∃ g, W1.heap.size = g := ⟨_, rfl⟩
 refine wlal hF M hbk2 rfl rfl rfl (rn_box (cs := (Tv.arr tv)) rfl rfl hbk2) ?_; clear hF M a; intro W2 a M hF
 obtain ⟨bk3, hbk3⟩ : ∃ g, W2.heap.size = g := ⟨_, rfl⟩
 refine wlal hF M hbk3 rfl rfl rfl (rn_alloc rfl zc_T hbk3) ?_; clear hF M a; intro W3 a M hF
 revert a; refine qm (.bool false) rfl ?_; intro a hF; refine wl0 ?_
 have hc := oneP_mm M (one_all B C hBC _ e t ev tv _ _ (Nat.le_refl _) hr.1 hr.2 hbd ht M.fact.1 M.fact.2 M.lts)
 refine wrgs rfl ?_; revert a; refine qV (.agg (Ev.arr ev)) (rn_load rfl rfl (ld_E rfl (M.b 2 rfl).whole)) rfl ?_; refine qV (.agg (Tv.arr tv)) (rn_load rfl rfl (ld_T rfl (M.b 1 rfl).whole)) rfl ?_; intro a hF
 refine wlc hF (rn_call2 (u := .agg (Ev.arr ev)) (u' := .agg (Tv.arr tv)) rfl rfl rfl rfl Try.call20) hc rfl rfl rfl ?_; clear hF a
 clear hc; rintro e9 W7 ⟨v7, rfl, M, _⟩; refine ⟨_, rfl, ?_⟩; intro a hF
 revert a; refine qm (.tuple #[.agg (Tv.arr v7), .bool ((oneS e t).isSome)]) rfl ?_; refine qV (.agg (Tv.arr v7)) (rn_extract rfl rfl rfl) rfl ?_; refine qV (.bool ((oneS e t).isSome)) (rn_extract rfl rfl rfl) rfl ?_; intro a hF
 obtain ⟨bk4, hbk4⟩ : ∃ g, W7.heap.size = g := ⟨_, rfl⟩
 refine wlal hF M hbk4 rfl rfl rfl (rn_alloc rfl zc_T hbk4) ?_; clear hF M a; intro W8 a M hF
 refine wlst hF M 0 rfl (vs := (Tv.arr v7)) rfl rfl rfl rfl rfl rfl rfl sz_T (Tv.arr_one _) (leb rfl) ?_; clear hF M a; intro W9 a M hF
 revert a; refine qm (.bool ((oneS e t).isSome)) rfl ?_; intro a hF; refine wl0 ?_
 cases hone : oneS e t with
 | none =>
  rw [hone] at hF
  refine wp_seq ?_
  refine wrgs rfl ?_; revert a; refine qm (.bool false) rfl ?_; refine qV (.bool true) (rn_not rfl rfl rfl) rfl ?_; intro a hF; refine wl0 ?_; refine cd_true hF rfl rfl ?_; refine wrgs rfl ?_; revert a; refine qV (.agg (Tv.arr Tv.nil)) (rn_build (cs := (Tv.arr Tv.nil)) rfl (by kernel_rfl)) rfl ?_; intro a hF
  refine wlst hF M 1 rfl (vs := (Tv.arr Tv.nil)) rfl rfl rfl rfl rfl rfl rfl sz_T (Tv.arr_one _) (leb rfl) ?_; clear hF M a; intro W10 a M hF
  revert a; refine qm (.bool false) rfl ?_; intro a hF; refine wl0 ?_
  refine wp_ret (?_ : bodyPost _ _ _ .ret _ _)
  refine res_cell1 Try.results10 rfl rfl hF rfl (ld_T rfl (M.b 1 rfl).whole) ?_
  rw [show applyS e t = none by unfold applyS; rw [hone]; rfl]
  exact ⟨_, rfl, M.bel, TreeAt.nil⟩
 | some d =>
  rw [hone] at hF
  refine wp_seq ?_
  refine wrgs rfl ?_; revert a; refine qm (.bool true) rfl ?_; refine qV (.bool false) (rn_not rfl rfl rfl) rfl ?_; intro a hF; refine wl0 ?_; refine cd_false hF rfl rfl (wp_skip (nm_then ?_)); refine wrgs rfl ?_; revert a; refine qV (.agg (Tv.arr v7)) (rn_load rfl rfl (ld_T rfl (M.b 0 rfl).whole)) rfl ?_; intro a hF
  refine wlc hF (rn_call1 (u := .agg (Tv.arr v7)) rfl rfl rfl Try.call21) (norm_mm M (M.fact.2 d hone)) rfl rfl rfl ?_; clear hF a
  rintro e9 W8 ⟨v8, rfl, M, _⟩; refine ⟨_, rfl, ?_⟩; intro a hF
  refine wlst hF M 1 rfl (vs := (Tv.arr v8)) rfl rfl rfl rfl rfl rfl rfl sz_T (Tv.arr_one _) (leb rfl) ?_; clear hF M a; intro W9 a M hF
  revert a; refine qm (.bool true) rfl ?_; intro a hF; refine wl0 ?_
  refine wp_ret (?_ : bodyPost _ _ _ .ret _ _)
  refine res_cell1 Try.results10 rfl rfl hF rfl (ld_T rfl (M.b 1 rfl).whole) ?_
  rw [show applyS e t = some (norm d) by unfold applyS; rw [hone]; rfl]
  exact ⟨_, rfl, M.bel, M.grown.2⟩
set_option maxHeartbeats 4000000
theorem right_edA : rightE edA := by
 unfold rightE edA
 refine ⟨?_, ?_⟩
 ·simp [okE, okOs, atomA, okT, okTL, nilT, T.kind, inW]
 ·simp [neatE, neatO, neatK, neatS, nilE, atomA]
theorem right_edB : rightE edB := by
 unfold rightE edB
 refine ⟨?_, ?_⟩
 ·simp [okE, okOs, atomA, okT, okTL, nilT, T.kind, inW]
 ·simp [neatE, neatO, neatK, neatS, nilE, atomA]
theorem bd_edA : bdE 4000 edA := by
 unfold edA
 simp [bdE, bdT, bdTL, bdK, bdO, nilT, nilE, atomA, units, unitsOf]
theorem bd_atom : bdT 4000 (.node 4 [] [atomA]) := by
 simp [bdT, bdTL, atomA]
theorem awake_any (S : Nat → Prop) (w : World) (hS : ∀ b, S b → b < w.heap.size) : Calls Try.prog 7 #[] w (fun e w' => e = .returned (.bool true) ∧ Below w.heap.size w w') := by
 have M := Mm.begin (F := fun _ _ => True) hS stable_true trivial
 have bdi : bdE 4000 (invertE edA) := bdE_normal (neat_turned right_edA.2) (bdE_turned bd_edA)
 have hri := invert_right right_edA
 refine calls_fr (xs := []) Try.func7 rfl Try.ntmps7 rfl (fun a hF => ?_)
 refine wrgs rfl ?_; revert a; refine qm (.bool false) rfl ?_; intro a hF; refine wl0 ?_; refine wrgs rfl ?_
 obtain ⟨bk1, hbk1⟩ : ∃ g, w.heap.size = g := ⟨_, rfl⟩
 refine wlal hF M hbk1 rfl rfl rfl (rn_bs1 (cs := #[.int .u64 1]) ti_lU (by decide) rfl rfl rfl hbk1) ?_; clear hF M a; intro W1 a M hF
 replace M := ((M.boxRowN (size := 1) (n := 1) rfl (by decide)).done 0 (few := 17592186043904) rfl (by show (1 : Nat) ≤ _; omega)).unrow
 replace M := M.imp (F' := fun W S => WordsAt W S (some ⟨bk1, 0, none⟩) 1 1 [1]) (stable_words _ _ _ _) fun h => ⟨rfl, Nat.le_refl _, by decide, by decide, (fun h => by cases h), h.2.read, fun x hx => by rw [List.mem_singleton.1 hx]; decide⟩
 revert a; refine qV (.agg (Tv.arr ⟨10, (some ⟨bk1, 0, none⟩), 1, 1, none, 0, 0⟩)) (rn_build (cs := (Tv.arr ⟨10, (some ⟨bk1, 0, none⟩), 1, 1, none, 0, 0⟩)) rfl (by kernel_rfl)) rfl ?_; intro a hF
 obtain ⟨bk2, hbk2⟩ : ∃ g, W1.heap.size = g := ⟨_, rfl⟩
 refine wlal hF M hbk2 rfl rfl rfl (rn_bs1 (cs := (Tv.arr ⟨10, some ⟨bk1, 0, none⟩, 1, 1, none, 0, 0⟩)) ti_lT (by decide) rfl rfl rfl hbk2) ?_; clear hF M a; intro W2 a M hF
 replace M := M.oneTree
 replace M := M.imp (F' := fun W S => KidsAt W S (some ⟨bk2, 0, none⟩) 1 1 [atomA] [⟨10, some ⟨bk1, 0, none⟩, 1, 1, none, 0, 0⟩]) (stable_kids _ _ _ _ _) fun h => kids_of (TreesAt.one (TreeAt.of h.1 .none_)) h.2
 revert a; refine qm (.slice (some ⟨bk2, 0, none⟩) 1 1) rfl ?_; intro a hF; refine wl0 ?_; refine wrgs rfl ?_; revert a; refine qm (.slice (some ⟨bk2, 0, none⟩) 1 1) rfl ?_; refine qV (.agg (Ov.arr ⟨2, 0, (some ⟨bk2, 0, none⟩), 1, 1, Ev.nil⟩)) (rn_build (cs := (Ov.arr ⟨2, 0, (some ⟨bk2, 0, none⟩), 1, 1, Ev.nil⟩)) rfl (by kernel_rfl)) rfl ?_; refine qV (.agg (Ov.arr ⟨0, 1, none, 0, 0, Ev.nil⟩)) (rn_build (cs := (Ov.arr ⟨0, 1, none, 0, 0, Ev.nil⟩)) rfl (by kernel_rfl)) rfl ?_; intro a hF
 obtain ⟨bk3, hbk3⟩ : ∃ g, W2.heap.size = g := ⟨_, rfl⟩
 refine wlal hF M hbk3 rfl rfl rfl (rn_bs2 (v := ⟨2, 0, (some ⟨bk2, 0, none⟩), 1, 1, Ev.nil⟩) (u := ⟨0, 1, none, 0, 0, Ev.nil⟩) rfl rfl rfl hbk3) ?_; clear hF M a; intro W3 a M hF
 replace M := ((M.boxRowN (size := 14) (n := 2) rfl (by decide)).done 0 (few := 586406201480) rfl (by show (2 : Nat) ≤ _; omega)).unrow
 replace M := M.imp (F' := fun W S => KidsAt W S (some ⟨bk2, 0, none⟩) 1 1 [atomA] [⟨10, some ⟨bk1, 0, none⟩, 1, 1, none, 0, 0⟩] ∧ EdAt W S edA ⟨3, Tv.nil, Tv.nil, none, 0, 0, none, 0, 0, 4, some ⟨bk3, 0, none⟩, 2, 2⟩) ((stable_kids _ _ _ _ _).and (stable_ed _ _)) fun h => ⟨h.1, EdAt.of TreeAt.nil TreeAt.nil .none_ .none_ (ov := [⟨2, 0, (some ⟨bk2, 0, none⟩), 1, 1, Ev.nil⟩, ⟨0, 1, none, 0, 0, Ev.nil⟩]) ⟨rfl, h.2, fun i a b => ?_⟩⟩
 rotate_left
 ·match i, a with
  | 0, _ => exact OpAt.nilE h.1
  | 1, _ => exact ⟨rfl, rfl, ⟨[], KidsAt.none_⟩, EdAt.nil⟩
 revert a; refine qV (.agg (Ev.arr ⟨3, Tv.nil, Tv.nil, none, 0, 0, none, 0, 0, 4, (some ⟨bk3, 0, none⟩), 2, 2⟩)) (rn_build (cs := (Ev.arr ⟨3, Tv.nil, Tv.nil, none, 0, 0, none, 0, 0, 4, (some ⟨bk3, 0, none⟩), 2, 2⟩)) rfl (by kernel_rfl)) rfl ?_; intro a hF
 obtain ⟨bk4, hbk4⟩ : ∃ g, W3.heap.size = g := ⟨_, rfl⟩
 refine wlal hF M hbk4 rfl rfl rfl (rn_alloc rfl zc_E hbk4) ?_; clear hF M a; intro W4 a M hF
 refine wlst hF M 0 rfl (vs := (Ev.arr ⟨3, Tv.nil, Tv.nil, none, 0, 0, none, 0, 0, 4, (some ⟨bk3, 0, none⟩), 2, 2⟩)) rfl rfl rfl rfl rfl rfl rfl sz_E (Ev.arr_one _) (leb rfl) ?_; clear hF M a; intro W5 a M hF
 refine wl0 ?_
 generalize bk4 = go at *
 refine wp_seq (wp_cut (fun a W => ∃ (f : Nat → Value) (gc : Nat) (v3 : Ev), Fr a 53 f ∧ f 1 = .slice (some ⟨bk2, 0, none⟩) 1 1 ∧ f 3 = .pointer (some ⟨gc, 0, none⟩) ∧ f 4 = .bool true ∧ Mm S w W (⟨gc, 30, v3.arr⟩ :: ⟨go, 30, (Ev.arr ⟨3, Tv.nil, Tv.nil, none, 0, 0, none, 0, 0, 4, (some ⟨bk3, 0, none⟩), 2, 2⟩)⟩ :: []) [] (fun W S => KidsAt W S (some ⟨bk2, 0, none⟩) 1 1 [atomA] [⟨10, some ⟨bk1, 0, none⟩, 1, 1, none, 0, 0⟩] ∧ EdAt W S edB v3)) ?_ ?_)
 ·skip
  refine wdr (Un (rows ([])) W5.drew) (fun i => Nat.beq i 8) prog_mixed ?_
  have M0 := M.drew' _ rfl
  generalize W5.drew = W6 at *
  have M := M0; have hU := Un.refl (rows ([])) W6
  revert a; refine qt 0 (.agg (Ev.arr ⟨3, Tv.nil, Tv.nil, none, 0, 0, none, 0, 0, 4, (some ⟨bk3, 0, none⟩), 2, 2⟩)) rfl (fun W' hw => (rn_load rfl rfl (ld_E rfl (M0.ub hw 0 rfl).whole))) hU rfl (by kernel_rfl) ?_; refine qt 1 (.agg (Ev.arr ⟨3, Tv.nil, Tv.nil, none, 0, 0, none, 0, 0, 4, (some ⟨bk3, 0, none⟩), 2, 2⟩)) rfl (fun W' hw => (rn_load rfl rfl (ld_E rfl (M0.ub hw 0 rfl).whole))) hU rfl (by kernel_rfl) ?_; intro a hF
  refine g2 (i := 2) (j := 7) (by kernel_rfl) ?_ ?_
  ·skip
   have hc := edP_mm M (invert_any 4000 (by omega) edA _ _ _ right_edA.2 bd_edA M.fact.2 M.lts)
   refine gc1 hF (rn_call1 (u := .agg (Ev.arr ⟨3, Tv.nil, Tv.nil, none, 0, 0, none, 0, 0, 4, (some ⟨bk3, 0, none⟩), 2, 2⟩)) rfl rfl rfl Try.call12) hc rfl rfl rfl rfl ?_; clear hF a
   rintro e W7 ⟨v6, rfl, M, hb⟩; replace hU := hU.nil hb; clear hb; refine ⟨_, rfl, fun _ => hU, ?_⟩; intro a hF
   clear hc
   refine g2 (i := 3) (j := 7) (by kernel_rfl) ?_ ?_
   ·skip
    have hc := edG_mm M (compose_top 4000 (by omega) edA (invertE edA) _ v6 _ _ right_edA hri bd_edA bdi M.fact.1.2 M.fact.2 M.lts)
    rw [awake_comp] at hc
    refine gc1 hF (rn_call2 (u := .agg (Ev.arr ⟨3, Tv.nil, Tv.nil, none, 0, 0, none, 0, 0, 4, (some ⟨bk3, 0, none⟩), 2, 2⟩)) (u' := .agg (Ev.arr v6)) rfl rfl rfl rfl Try.call8) hc rfl rfl rfl rfl ?_; clear hF a
    rintro e W8 ⟨v7, rfl, M, hb⟩; replace hU := hU.nil hb; clear hb; refine ⟨_, rfl, fun _ => hU, ?_⟩; intro a hF
    clear hc
    revert a; refine qx 4 (.tuple #[.agg (Ev.arr v7), .bool true]) hU rfl (by kernel_rfl) ?_; refine qp 5 (.agg (Ev.arr v7)) rfl (rn_extract rfl rfl rfl) hU rfl (by kernel_rfl) ?_; refine qp 6 (.bool true) rfl (rn_extract rfl rfl rfl) hU rfl (by kernel_rfl) ?_; intro a hF; refine g1 (i := 7) (by kernel_rfl) ?_
    obtain ⟨bk5, hbk5⟩ : ∃ g, W8.heap.size = g := ⟨_, rfl⟩
    refine wgal hF M hU hbk5 rfl rfl rfl rfl (rn_alloc rfl zc_E hbk5) ?_; clear hF M hU a; intro W9 a M hU hgebk5 hF
    refine g1 (i := 8) (by kernel_rfl) ?_
    refine wgst hF M 0 rfl (vs := (Ev.arr v7)) (by kernel_rfl) rfl rfl rfl rfl rfl rfl rfl rfl sz_E (Ev.arr_one _) (leb rfl) ?_; clear hF M a; intro W10 a M hF
    refine wgp (i := 9) (v := .bool true) hF (fun W' => (rn_assign rfl rfl)) rfl (by kernel_rfl) rfl rfl rfl (fin_no (by kernel_rfl)) ?_; clear hF a; intro a hF
    refine wgd (by kernel_rfl) ?_ _
    exact ⟨_, bk5, v7, hF, rfl, rfl, rfl, M.imp ((stable_kids _ _ _ _ _).and (stable_ed _ _)) fun h => ⟨h.1.1.1, h.2⟩⟩
   ·skip
    obtain ⟨bk6, hbk6⟩ : ∃ g, W7.heap.size = g := ⟨_, rfl⟩
    refine wgal hF M hU hbk6 rfl rfl rfl rfl (rn_alloc rfl zc_E hbk6) ?_; clear hF M hU a; intro W11 a M hU hgebk6 hF
    refine g1 (i := 3) (by kernel_rfl) ?_
    have hc := edG_mm M (compose_top 4000 (by omega) edA (invertE edA) _ v6 _ _ right_edA hri bd_edA bdi M.fact.1.2 M.fact.2 M.lts)
    rw [awake_comp] at hc
    refine gc1 hF (rn_call2 (u := .agg (Ev.arr ⟨3, Tv.nil, Tv.nil, none, 0, 0, none, 0, 0, 4, (some ⟨bk3, 0, none⟩), 2, 2⟩)) (u' := .agg (Ev.arr v6)) rfl rfl rfl rfl Try.call8) hc rfl rfl rfl rfl ?_; clear hF a
    rintro e W12 ⟨v7, rfl, M, hb⟩; replace hU := hU.nil hb; clear hb; refine ⟨_, rfl, fun _ => hU, ?_⟩; intro a hF
    clear hc
    revert a; refine qx 4 (.tuple #[.agg (Ev.arr v7), .bool true]) hU rfl (by kernel_rfl) ?_; refine qp 5 (.agg (Ev.arr v7)) rfl (rn_extract rfl rfl rfl) hU rfl (by kernel_rfl) ?_; refine qp 6 (.bool true) rfl (rn_extract rfl rfl rfl) hU rfl (by kernel_rfl) ?_; intro a hF; refine g1 (i := 8) (by kernel_rfl) ?_
    refine wgst hF M 0 rfl (vs := (Ev.arr v7)) (by kernel_rfl) rfl rfl rfl rfl rfl rfl rfl rfl sz_E (Ev.arr_one _) (leb rfl) ?_; clear hF M a; intro W13 a M hF
    refine wgp (i := 9) (v := .bool true) hF (fun W' => (rn_assign rfl rfl)) rfl (by kernel_rfl) rfl rfl rfl (fin_no (by kernel_rfl)) ?_; clear hF a; intro a hF
    refine wgd (by kernel_rfl) ?_ _
    exact ⟨_, bk6, v7, hF, rfl, rfl, rfl, M.imp ((stable_kids _ _ _ _ _).and (stable_ed _ _)) fun h => ⟨h.1.1.1, h.2⟩⟩
  ·skip
   obtain ⟨bk7, hbk7⟩ : ∃ g, W6.heap.size = g := ⟨_, rfl⟩
   refine wgal hF M hU hbk7 rfl rfl rfl rfl (rn_alloc rfl zc_E hbk7) ?_; clear hF M hU a; intro W14 a M hU hgebk7 hF
   refine g1 (i := 2) (by kernel_rfl) ?_
   have hc := edP_mm M (invert_any 4000 (by omega) edA _ _ _ right_edA.2 bd_edA M.fact.2 M.lts)
   refine gc1 hF (rn_call1 (u := .agg (Ev.arr ⟨3, Tv.nil, Tv.nil, none, 0, 0, none, 0, 0, 4, (some ⟨bk3, 0, none⟩), 2, 2⟩)) rfl rfl rfl Try.call12) hc rfl rfl rfl rfl ?_; clear hF a
   rintro e W15 ⟨v6, rfl, M, hb⟩; replace hU := hU.nil hb; clear hb; refine ⟨_, rfl, fun _ => hU, ?_⟩; intro a hF
   clear hc
   refine g1 (i := 3) (by kernel_rfl) ?_
   have hc := edG_mm M (compose_top 4000 (by omega) edA (invertE edA) _ v6 _ _ right_edA hri bd_edA bdi M.fact.1.2 M.fact.2 M.lts)
   rw [awake_comp] at hc
   refine gc1 hF (rn_call2 (u := .agg (Ev.arr ⟨3, Tv.nil, Tv.nil, none, 0, 0, none, 0, 0, 4, (some ⟨bk3, 0, none⟩), 2, 2⟩)) (u' := .agg (Ev.arr v6)) rfl rfl rfl rfl Try.call8) hc rfl rfl rfl rfl ?_; clear hF a
   rintro e W16 ⟨v7, rfl, M, hb⟩; replace hU := hU.nil hb; clear hb; refine ⟨_, rfl, fun _ => hU, ?_⟩; intro a hF
   clear hc
   revert a; refine qx 4 (.tuple #[.agg (Ev.arr v7), .bool true]) hU rfl (by kernel_rfl) ?_; refine qp 5 (.agg (Ev.arr v7)) rfl (rn_extract rfl rfl rfl) hU rfl (by kernel_rfl) ?_; refine qp 6 (.bool true) rfl (rn_extract rfl rfl rfl) hU rfl (by kernel_rfl) ?_; intro a hF; refine g1 (i := 8) (by kernel_rfl) ?_
   refine wgst hF M 0 rfl (vs := (Ev.arr v7)) (by kernel_rfl) rfl rfl rfl rfl rfl rfl rfl rfl sz_E (Ev.arr_one _) (leb rfl) ?_; clear hF M a; intro W17 a M hF
   refine wgp (i := 9) (v := .bool true) hF (fun W' => (rn_assign rfl rfl)) rfl (by kernel_rfl) rfl rfl rfl (fin_no (by kernel_rfl)) ?_; clear hF a; intro a hF
   refine wgd (by kernel_rfl) ?_ _
   exact ⟨_, bk7, v7, hF, rfl, rfl, rfl, M.imp ((stable_kids _ _ _ _ _).and (stable_ed _ _)) fun h => ⟨h.1.1.1, h.2⟩⟩
 clear hF M a
 rintro a W ⟨f, gc, v3, hF, hf1, hf3, hf4, M⟩
 replace hF := (((hF.same (d := 1) hf1).same (d := 3) hf3).same (d := 4) hf4)
 refine nm_then ?_; refine wrgs rfl ?_; revert a; refine qV (.agg (Ev.arr v3)) (rn_load rfl rfl (ld_E rfl (M.b 0 rfl).whole)) rfl ?_; refine qm (.slice (some ⟨bk2, 0, none⟩) 1 1) rfl ?_; refine qV (.agg (Tv.arr ⟨4, none, 0, 0, (some ⟨bk2, 0, none⟩), 1, 1⟩)) (rn_build (cs := (Tv.arr ⟨4, none, 0, 0, (some ⟨bk2, 0, none⟩), 1, 1⟩)) rfl (by kernel_rfl)) rfl ?_; intro a hF
 have hc := trG_mm M (apply_top 4000 4000 (by omega) edB (.node 4 [] [atomA]) v3 ⟨4, none, 0, 0, some ⟨bk2, 0, none⟩, 1, 1⟩ _ _ right_edB (by unfold edB; simp [bdE, bdT, bdTL, bdK, bdO, nilT, nilE, units, unitsOf]) bd_atom M.fact.2 (TreeAt.of .none_ M.fact.1) M.lts)
 rw [awake_app] at hc
 refine wlc hF (rn_call2 (u := .agg (Ev.arr v3)) (u' := .agg (Tv.arr ⟨4, none, 0, 0, (some ⟨bk2, 0, none⟩), 1, 1⟩)) rfl rfl rfl rfl Try.call10) hc rfl rfl rfl ?_; clear hF a
 clear hc; rintro e9 W7 ⟨v5, rfl, M, _⟩; refine ⟨_, rfl, ?_⟩; intro a hF
 revert a; refine qm (.tuple #[.agg (Tv.arr v5), .bool true]) rfl ?_; refine qV (.agg (Tv.arr v5)) (rn_extract rfl rfl rfl) rfl ?_; refine qV (.bool true) (rn_extract rfl rfl rfl) rfl ?_; intro a hF
 obtain ⟨bk8, hbk8⟩ : ∃ g, W7.heap.size = g := ⟨_, rfl⟩
 refine wlal hF M hbk8 rfl rfl rfl (rn_alloc rfl zc_T hbk8) ?_; clear hF M a; intro W48 a M hF
 refine wlst hF M 0 rfl (vs := (Tv.arr v5)) rfl rfl rfl rfl rfl rfl rfl sz_T (Tv.arr_one _) (leb rfl) ?_; clear hF M a; intro W49 a M hF
 revert a; refine qm (.bool true) rfl ?_; intro a hF; refine wl0 ?_
 obtain ⟨_, _, kv9, ov9, hp9⟩ := M.fact.1.2.parts
 have hon : v3.on = 1 := hp9.ops.len
 have hvm : v5.m = 1 := M.fact.2.lens.2.2.1
 obtain ⟨bo, oo, vo, hO, hbo, hR, hT⟩ := hp9.ops.rng (i := 0) (by simp)
 have hn1 : vo.n = 1 := hT.n
 have hc1 : W49.cell? ⟨bo, oo + 1, none⟩ = some (.int .i64 vo.n) := by have := hR 1 _ rfl; rwa [Nat.zero_mul] at this
 refine wrgs rfl ?_; revert a; refine qm (.bool true) rfl ?_; refine qm (.bool true) rfl ?_; refine qn (.bool true) rfl ?_; refine qV (.bool true) (rn_pick rfl rfl rfl) rfl ?_; refine qm (.bool true) rfl ?_; refine qg (.pointer (some ⟨gc, 10, none⟩)) (rn_field (q := 10) rfl rfl fo_E6 rfl) rfl ?_; refine qg (.slice v3.O v3.on v3.oc) (rn_load rfl rfl (ld_one one_lO ((M.b 1 rfl).cell 10))) rfl ?_; refine qg (.int .i64 (↑v3.on)) (rn_len rfl rfl is_lO) rfl ?_; refine qg (.bool true) (rn_eql rfl rfl rfl (by rw [hon]; rfl)) rfl ?_; refine qV (.bool true) (rn_pick rfl rfl rfl) rfl ?_; refine qm (.bool true) rfl ?_; refine qg (.pointer (some ⟨gc, 10, none⟩)) (rn_field (q := 10) rfl rfl fo_E6 rfl) rfl ?_; refine qg (.slice v3.O v3.on v3.oc) (rn_load rfl rfl (ld_one one_lO ((M.b 1 rfl).cell 10))) rfl ?_; intro a hF
 rw [hO] at hF
 revert a; refine qg (.pointer (some ⟨bo, oo, none⟩)) (rn_index (b := bo) (of := oo) (q := oo) rfl rfl rfl (by omega) es_lO (by rfl)) rfl ?_; refine qg (.pointer (some ⟨bo, oo + 1, none⟩)) (rn_field (q := oo + 1) rfl rfl fo_O1 rfl) rfl ?_; refine qg (.int .i64 vo.n) (rn_load rfl rfl (ld_one one_int hc1)) rfl ?_; refine qg (.bool true) (rn_eql rfl rfl rfl (by rw [hn1]; rfl)) rfl ?_; refine qV (.bool true) (rn_pick rfl rfl rfl) rfl ?_; refine qm (.bool true) rfl ?_; refine qg (.pointer (some ⟨bk8, 2, none⟩)) (rn_field (q := 2) rfl rfl fo_T2 rfl) rfl ?_; refine qg (.slice v5.K v5.m v5.d) (rn_load rfl rfl (ld_one one_lT ((M.b 0 rfl).cell 2))) rfl ?_; refine qg (.int .i64 (↑v5.m)) (rn_len rfl rfl is_lT) rfl ?_; refine qg (.bool true) (rn_eql rfl rfl rfl (by rw [hvm]; rfl)) rfl ?_; refine qV (.bool true) (rn_pick rfl rfl rfl) rfl ?_; refine qm (.bool true) rfl ?_; intro a hF; refine wl0 ?_
 exact wp_ret (res_slot Try.results7 rfl hF ⟨rfl, M.bel⟩)
end Go.Proofs.Ytbmjiokjigkdnaa
namespace Go.Proofs.Ytbmjiokjigkdnaa
open Go.RowKit
set_option maxHeartbeats 400000 in
theorem same7_any (A B : Option Addr) (c d b0 n m : Nat) (xs ys : List Int) (w : World) (hn : n = xs.length) (hm : m = ys.length)
  (hx : Reads w b0 A (xs.map (Value.int .u64))) (hy : Reads w b0 B (ys.map (Value.int .u64)))
  (lx : n ≤ maxLen) (ly : m ≤ maxLen) :
  Calls Try.prog 22 #[.slice A n c, .slice B m d] w fun e w' => e = .returned (.bool (xs == ys)) ∧ ∃ k, w' = w.drewN k := by
 subst hn hm
 unfold maxLen at lx ly
 by_cases hl : xs.length = ys.length
 ·have hl' : ((xs.length : Int) != (ys.length : Int)) = false := by rw [hl]; simp
  have HL := Lib.hid hl
  clear hl
  go_enter Try.func22, Try.ntmps22
  go_wp2
  go_loopw [5] (fun i wr => ∃ k : Nat, k ≤ xs.length ∧ i = .int .i64 k ∧ Hid (xs.take k = ys.take k) ∧ ∃ m, wr = w.drewN m) (fun i _ => xs.length - (intOf i).toNat)
  case atStart => exact ⟨0, by omega, rfl, by exact rfl, 0, rfl⟩
  case round =>
   obtain ⟨k, hk, rfl, he, m, rfl⟩ := hrel
   by_cases hlt : k < xs.length
   ·have hlt2 : k < ys.length := by rw [← HL.out]; exact hlt
    obtain ⟨bx, ox, rfl, _, cx⟩ := hx.intAt hlt
    obtain ⟨bY, oy, rfl, _, cy⟩ := hy.intAt hlt2
    go_wp2
    go_quiet (fail)
    go_wp2
    ·have ht : (xs[k] != ys[k]) = true := by assumption
     go_ret
     refine ⟨ret_bool ?_, m + nq, by first | rfl | rw [World.drewN_drewN]⟩
     have hne : xs ≠ ys := fun e => by subst e; simp at ht
     simp [hne]
    ·go_roundw
     case rel =>
      have ht : (xs[k] != ys[k]) = false := by assumption
      have he2 : xs[k] = ys[k] := by simpa using ht
      refine ⟨k + 1, by omega, by go_num, ?_, _, rfl⟩
      have h1 := he.out
      show xs.take (k + 1) = ys.take (k + 1)
      rw [List.take_succ_eq_append_getElem hlt, List.take_succ_eq_append_getElem hlt2, h1, he2]
     case measure => simp [intOf]; omega
   ·go_wp2
    go_ret
    refine ⟨ret_bool ?_, _, rfl⟩
    have h1 := he.out
    rw [List.take_of_length_le (by omega), List.take_of_length_le (by have := HL.out; omega)] at h1
    simp [h1]
 ·have hl' : ((xs.length : Int) != (ys.length : Int)) = true := by rw [bne_iff_ne]; omega
  go_enter Try.func22, Try.ntmps22
  go_wp2
  go_ret
  exact ⟨ret_bool (by simp; intro h; exact absurd (by rw [h]) hl), 0, rfl⟩
set_option maxRecDepth 100000 in
set_option maxHeartbeats 8000000 in
theorem sameT_any (N : Nat) : ∀ (t : T) (v u : Tv) (S : Nat → Prop) (w : World), SizeOf.sizeOf t ≤ N → TreeAt w S t v → TreeAt w S t u → (∀ b, S b → b < w.heap.size) →
  Calls Try.prog 11 #[v.val, u.val] w fun e w' => e = .returned (.bool true) ∧ Below w.heap.size w w' := by
 induction N with
 | zero =>
  intro t v u S w hN
  obtain ⟨k, ws, ks⟩ := t
  rw [T.node.sizeOf_spec] at hN
  omega
 | succ N ih =>
  intro t v u S w hN h h' hS
  obtain ⟨k, ws, ks⟩ := t
  have hW := h.words
  have hW' := h'.words
  obtain ⟨kv, hK⟩ := h.kids
  obtain ⟨ku, hK'⟩ := h'.kids
  have hkk : k = v.k := h.kind
  have hkk' : k = u.k := h'.kind
  obtain ⟨k1, A, n, c, K, m, d⟩ := v
  obtain ⟨k2, A', n', c', K', m', d'⟩ := u
  simp only at hW hK hkk hW' hK' hkk'
  subst hkk
  subst hkk'
  have HIH : Hid (∀ i (hi : i < ks.length), SizeOf.sizeOf ks[i] ≤ N) := fun i hi => by have := T.size_kid (k := k) (ws := ws) hi; omega
  have HM := hide hK.len
  have hmm : m' = m := by rw [hK.len, hK'.len]
  have hnn : n' = n := by rw [hW.len, hW'.len]
  subst hmm hnn
  have HL := hide hW.len
  have HR := hide (hW.read.reads hS)
  have HR' := hide (hW'.read.reads hS)
  have hnm : n' ≤ maxLen := Nat.le_trans hW.cap hW.capM
  have hmm2 : m' ≤ 2513169434843 := by rw [hK.len]; exact hK.few
  unfold maxLen at hnm
  have HK := hide hK
  have HK' := hide hK'
  have HS := hide hS
  clear h h' hN hW hW' hK hK' hS
  show Calls _ _ #[.agg #[.int .i64 k, .slice A n' c, .slice K m' d], .agg #[.int .i64 k, .slice A' n' c', .slice K' m' d']] _ _
  have hB1 := (Blk.new w 25 #[.int .i64 k, .slice A n' c, .slice K m' d]).alloc (.cells #[.int .i64 k, .slice A' n' c', .slice K' m' d'] 25)
  have hB2 := Blk.new (w.alloc (.cells #[.int .i64 k, .slice A n' c, .slice K m' d] 25)) 25 #[.int .i64 k, .slice A' n' c', .slice K' m' d']
  have hbe2 := two_below w (.cells #[.int .i64 k, .slice A n' c, .slice K m' d] 25) (.cells #[.int .i64 k, .slice A' n' c', .slice K' m' d'] 25)
  rw [World.size_alloc] at hB2
  go_enter Try.func11, Try.ntmps11
  go_wp2_with fail
  refine (same7_any A A' c c' w.heap.size n' n' ws ws _ HL.out HL.out (HR.out.below hbe2 (Nat.le_refl _)) (HR'.out.below hbe2 (Nat.le_refl _)) hnm hnm).mono ?_
  rintro e w2 ⟨rfl, j2, rfl⟩
  rw [show (ws == ws) = true from by simp]
  have hB1d := hB1.drewN j2
  have hB2d := hB2.drewN j2
  have hbe2d := below_drewN hbe2 j2
  go_wp2_with fail
  go_loopw [5] (fun ix wr => ∃ i : Nat, i ≤ m' ∧ ix = .int .i64 i ∧ Blk wr w.heap.size 25 #[.int .i64 k, .slice A n' c, .slice K m' d] ∧ Blk wr (w.heap.size + 1) 25 #[.int .i64 k, .slice A' n' c', .slice K' m' d'] ∧ Below w.heap.size w wr) (fun ix _ => m' - (intOf ix).toNat)
  case atStart => exact ⟨0, by omega, rfl, hB1d, hB2d, hbe2d⟩
  case round =>
   obtain ⟨i, hi, rfl, hB1r, hB2r, hbr⟩ := hrel
   clear hB1 hB2 hbe2 hB1d hB2d hbe2d
   have s1 := hB1r.cell 2
   have s2 := hB2r.cell 2
   simp at s1 s2
   by_cases hlt : i < m'
   ·have hl1 : i < ks.length := by rw [← HM.out]; exact hlt
    obtain ⟨bK, oK, v, rfl, hbK, x0, x1, x2, hkt⟩ := HK.out.at hl1
    obtain ⟨bU, oU, u, rfl, hbU, y0, y1, y2, hku⟩ := HK'.out.at hl1
    obtain ⟨k3, A3, n3, c3, K3, m3, d3⟩ := v
    obtain ⟨k4, A4, n4, c4, K4, m4, d4⟩ := u
    simp only at x0 x1 x2 y0 y1 y2
    have HCALL : Hid (∀ W, Below w.heap.size w W → Calls Try.prog 11 #[.agg #[.int .i64 k3, .slice A3 n3 c3, .slice K3 m3 d3], .agg #[.int .i64 k4, .slice A4 n4 c4, .slice K4 m4 d4]] W fun e w' => e = .returned (.bool true) ∧ Below W.heap.size W w') := fun W hW =>
     ih _ ⟨k3, A3, n3, c3, K3, m3, d3⟩ ⟨k4, A4, n4, c4, K4, m4, d4⟩ S W (HIH.out i hl1) (hkt.keep (fun p hp => hW.cell (HS.out _ hp))) (hku.keep (fun p hp => hW.cell (HS.out _ hp))) (fun b hb => Nat.lt_of_lt_of_le (HS.out b hb) hW.size)
    have hbK' := HS.out bK hbK
    have hbU' := HS.out bU hbU
    have hB1W := hB1r.drew
    have hB2W := hB2r.drew
    have hbW := hbr.drew
    have g1 := hB1W.lt
    have g2 := hB2W.lt
    have a0 := (hbW.cell (p := ⟨bK, oK + i * 3, none⟩) hbK').trans x0
    have a1 := (hbW.cell (p := ⟨bK, oK + i * 3 + 1, none⟩) hbK').trans x1
    have a2 := (hbW.cell (p := ⟨bK, oK + i * 3 + 2, none⟩) hbK').trans x2
    have b0 := (hbW.cell (p := ⟨bU, oU + i * 3, none⟩) hbU').trans y0
    have b1 := (hbW.cell (p := ⟨bU, oU + i * 3 + 1, none⟩) hbU').trans y1
    have b2 := (hbW.cell (p := ⟨bU, oU + i * 3 + 2, none⟩) hbU').trans y2
    have e1 := hB1W.cell 2
    have e2 := hB2W.cell 2
    simp at e1 e2
    (try simp only at a0 a1 a2 b0 b1 b2)
    clear x0 x1 x2 y0 y1 y2
    go_wp2_with fail
    go_region_held3 (fun w' => w'.cell? ⟨w.heap.size, 2, none⟩ = some (.slice (some ⟨bK, oK, none⟩) m' d) ∧ w'.cell? ⟨w.heap.size + 1, 2, none⟩ = some (.slice (some ⟨bU, oU, none⟩) m' d') ∧ w'.cell? ⟨bK, oK + i * 3, none⟩ = some (.int .i64 k3) ∧ w'.cell? ⟨bK, oK + i * 3 + 1, none⟩ = some (.slice A3 n3 c3) ∧ w'.cell? ⟨bK, oK + i * 3 + 2, none⟩ = some (.slice K3 m3 d3) ∧ w'.cell? ⟨bU, oU + i * 3, none⟩ = some (.int .i64 k4) ∧ w'.cell? ⟨bU, oU + i * 3 + 1, none⟩ = some (.slice A4 n4 c4) ∧ w'.cell? ⟨bU, oU + i * 3 + 2, none⟩ = some (.slice K4 m4 d4))
     (first | exact ⟨e1, e2, a0, a1, a2, b0, b1, b2⟩ | exact ⟨(hb8.cell g1).trans e1, (hb8.cell g2).trans e2, (hb8.cell (Nat.lt_of_lt_of_le hbK' hbW.size)).trans a0, (hb8.cell (Nat.lt_of_lt_of_le hbK' hbW.size)).trans a1, (hb8.cell (Nat.lt_of_lt_of_le hbK' hbW.size)).trans a2, (hb8.cell (Nat.lt_of_lt_of_le hbU' hbW.size)).trans b0, (hb8.cell (Nat.lt_of_lt_of_le hbU' hbW.size)).trans b1, (hb8.cell (Nat.lt_of_lt_of_le hbU' hbW.size)).trans b2⟩)
     ((go_at_call 11; (refine (HCALL.out _ hbW).mono ?_; rintro e w8 ⟨rfl, hb8⟩)))
    clear e1 e2 a0 a1 a2 b0 b1 b2
    go_wp2_with fail
    go_roundw
    case rel => exact ⟨i + 1, by omega, by go_num, hB1W.below hb8 g1, hB2W.below hb8 g2, hbW.trans (hb8.mono hbW.size)⟩
    case measure => simp [intOf]; omega
   ·go_wp2_with fail
    go_ret
    exact ⟨rfl, hbr⟩
end Go.Proofs.Ytbmjiokjigkdnaa
namespace Go.Proofs.Ytbmjiokjigkdnaa
open Go.RowKit Go.Proofs.Ytbmjiokjigkdnaa.Top
set_option maxHeartbeats 4000000
theorem right_nil : rightE nilE := by
 refine ⟨?_, neat_nilE⟩
 simp [nilE, okE]
theorem compG {B : Nat} {p q : Ed} (hp : rightE p) (hq : rightE q) (bp : bdE B p) (bq : bdE B q) : rightE ((composeT p q).getD nilE) ∧ bdE (2 * B + 65536) ((composeT p q).getD nilE) := by
 cases h : composeT p q with
 | none => exact ⟨right_nil, bdE_nil⟩
 | some e => exact ⟨(compose_some hp hq h).1, compose_bd hp hq bp bq h⟩
theorem assoc_some {p q r : Ed} (hp : rightE p) (hq : rightE q) (hr : rightE r) : ((composeT ((composeT p q).getD nilE) r).isSome && (composeT p q).isSome) = ((composeT p ((composeT q r).getD nilE)).isSome && (composeT q r).isSome) := by
 have h := (law_assoc hp hq hr).1
 cases h1 : composeT p q <;> cases h2 : composeT q r <;> (rw [h1, h2] at h; revert h; simp)
theorem assoc_same {p q r : Ed} (hp : rightE p) (hq : rightE q) (hr : rightE r) (h1 : ((composeT ((composeT p q).getD nilE) r).isSome && (composeT p q).isSome) = true) (t : T) (ht : okT t) :
  applyS ((composeT ((composeT p q).getD nilE) r).getD nilE) t = applyS ((composeT p ((composeT q r).getD nilE)).getD nilE) t := by
 have h2 := h1
 rw [assoc_some hp hq hr] at h2
 rw [Bool.and_eq_true] at h1 h2
 obtain ⟨pq, e1⟩ := Option.isSome_iff_exists.1 h1.2
 obtain ⟨qr, e2⟩ := Option.isSome_iff_exists.1 h2.2
 have g1 : (composeT p q).getD nilE = pq := by rw [e1]; rfl
 have g2 : (composeT q r).getD nilE = qr := by rw [e2]; rfl
 rw [g1] at h1 ⊢
 rw [g2] at h2 ⊢
 obtain ⟨a, e3⟩ := Option.isSome_iff_exists.1 h1.1
 obtain ⟨b, e4⟩ := Option.isSome_iff_exists.1 h2.1
 rw [e3, e4]
 exact (law_assoc hp hq hr).2 pq qr a b e1 e2 e3 e4 t ht
theorem awake_mm {S : Nat → Prop} {w W : World} {l : List Box} {r : List Row} {F : World → (Nat → Prop) → Prop} (M : Mm S w W l r F) : Calls Try.prog 7 #[] W fun e W' => e = .returned (.bool true) ∧ Mm S w W' l r F ∧ Un [] W W' :=
 (awake_any _ W M.lts).mono fun _ _ ⟨he, hb⟩ => ⟨he, M.step hb, .of_below hb⟩
theorem same_mm {S : Nat → Prop} {w W : World} {l : List Box} {r : List Row} {F : World → (Nat → Prop) → Prop} {t : T} {v u : Tv} (M : Mm S w W l r F) (h : TreeAt W (mmS S w W l r) t v) (h' : TreeAt W (mmS S w W l r) t u) : Calls Try.prog 11 #[.agg v.arr, .agg u.arr] W fun e W' => e = .returned (.bool true) ∧ Mm S w W' l r F ∧ Un [] W W' :=
 (sameT_any _ t v u _ W (Nat.le_refl _) h h' M.lts).mono fun _ _ ⟨he, hb⟩ => ⟨he, M.step hb, .of_below hb⟩
theorem rn_call0 {P : Program} {ρ : Operand → Value} {o : Oper} {w : World} {y : Operand} {g : FuncId} {ts : Array TypeId} (ho : o.op = .call { callee := .value y, args := #[], argTypes := ts }) (hρ : ρ y = .func (.func g) #[] #[]) (hc : ∀ xs w, (callFunc g xs).run P w = .ok (.enter g xs) w) : (execOp ρ o).run P w = .ok (.enter g #[]) w := by
 unfold execOp; simp [ho, resolve, invoke, Deferred.ofValue, hρ, hc]
theorem associates_any (p q r : Ed) (t : T) (vp vq vr : Ev) (tv : Tv) (S : Nat → Prop) (w : World) (ep : EdAt w S p vp) (eq : EdAt w S q vq) (er : EdAt w S r vr) (eT : TreeAt w S t tv) (hS : ∀ b, S b → b < w.heap.size) :
  Calls Try.prog 3 #[.agg vp.arr, .agg vq.arr, .agg vr.arr, .agg tv.arr] w (fun e w' => e = .returned (.bool true) ∧ Below w.heap.size w w') := by
 have M := Mm.begin (F := fun W S => ((EdAt W S p vp ∧ EdAt W S q vq) ∧ EdAt W S r vr) ∧ TreeAt W S t tv) hS ((((stable_ed _ _).and (stable_ed _ _)).and (stable_ed _ _)).and (stable_tree _ _)) ⟨⟨⟨ep, eq⟩, er⟩, eT⟩
 clear ep eq er eT
 refine calls_fr (xs := [.agg vp.arr, .agg vq.arr, .agg vr.arr, .agg tv.arr]) Try.func3 rfl Try.ntmps3 rfl (fun a hF => ?_)
 refine wrgs rfl ?_
 obtain ⟨bk1, hbk1⟩ : ∃ g, w.heap.size = g := ⟨_, rfl⟩
 refine wlal hF M hbk1 rfl rfl rfl (rn_box (cs := (Ev.arr vp)) rfl rfl hbk1) ?_; clear hF M a; intro W1 a M hF
 obtain ⟨bk2, hbk2⟩ : ∃ g, W1.heap.size = g := ⟨_, rfl⟩
 refine wlal hF M hbk2 rfl rfl rfl (rn_box (cs := (Ev.arr vq)) rfl rfl hbk2) ?_; clear hF M a; intro W2 a M hF
 obtain ⟨bk3, hbk3⟩ : ∃ g, W2.heap.size = g := ⟨_, rfl⟩
 refine wlal hF M hbk3 rfl rfl rfl (rn_box (cs := (Ev.arr vr)) rfl rfl hbk3) ?_; clear hF M a; intro W3 a M hF
 obtain ⟨bk4, hbk4⟩ : ∃ g, W3.heap.size = g := ⟨_, rfl⟩
 refine wlal hF M hbk4 rfl rfl rfl (rn_box (cs := (Tv.arr tv)) rfl rfl hbk4) ?_; clear hF M a; intro W4 a M hF
 revert a; refine qm (.bool false) rfl ?_; intro a hF; refine wl0 ?_
 refine wp_seq ?_
 refine wrgs rfl ?_; revert a; refine qV (.agg (Ev.arr vp)) (rn_load rfl rfl (ld_E rfl (M.b 3 rfl).whole)) rfl ?_; intro a hF
 refine wlc hF (rn_call1 (u := .agg (Ev.arr vp)) rfl rfl rfl Try.call5) (boolP_mm M (good_any p vp _ _ M.fact.1.1.1 M.lts)) rfl rfl rfl ?_; clear hF a
 rintro e9 W11 ⟨b9, hp, rfl, M, _⟩; refine ⟨_, rfl, ?_⟩; intro a hF
 cases b9 with
 | false =>
  revert a; refine qV (.bool true) (rn_not rfl rfl rfl) rfl ?_; refine qm (.bool true) rfl ?_; refine qi rfl ?_; refine qi rfl ?_; refine qi rfl ?_; refine qV (.bool true) (rn_pick rfl rfl rfl) rfl ?_; refine qm (.bool true) rfl ?_; refine qi rfl ?_; refine qi rfl ?_; refine qi rfl ?_; refine qV (.bool true) (rn_pick rfl rfl rfl) rfl ?_; refine qm (.bool true) rfl ?_; refine qi rfl ?_; refine qi rfl ?_; refine qi rfl ?_; refine qV (.bool true) (rn_pick rfl rfl rfl) rfl ?_; intro a hF; refine wl0 ?_; refine cd_true hF rfl rfl ?_; refine wrgs rfl ?_
  refine wlc hF (rn_call0 rfl rfl Try.call7) (awake_mm M) rfl rfl rfl ?_; clear hF a
  rintro e9 W88 ⟨rfl, M, _⟩; refine ⟨_, rfl, ?_⟩; intro a hF
  revert a; refine qm (.bool true) rfl ?_; intro a hF; refine wl0 ?_
  refine wp_ret (rt_then ?_)
  exact res_slot Try.results3 rfl hF ⟨rfl, M.bel⟩
 | true =>
  replace hp := hp rfl
  revert a; refine qV (.bool false) (rn_not rfl rfl rfl) rfl ?_; refine qm (.bool false) rfl ?_; refine qg (.agg (Ev.arr vq)) (rn_load rfl rfl (ld_E rfl (M.b 2 rfl).whole)) rfl ?_; intro a hF
  refine lgc hF (rn_call1 (u := .agg (Ev.arr vq)) rfl rfl rfl Try.call5) (boolP_mm M (good_any q vq _ _ M.fact.1.1.2 M.lts)) rfl rfl rfl rfl rfl rfl ?_; clear hF a
  rintro e9 W12 ⟨b9, hq, rfl, M, _⟩; refine ⟨_, rfl, ?_⟩; intro a hF
  cases b9 with
  | false =>
   revert a; refine qg (.bool true) (rn_not rfl rfl rfl) rfl ?_; refine qV (.bool true) (rn_pick rfl rfl rfl) rfl ?_; refine qm (.bool true) rfl ?_; refine qi rfl ?_; refine qi rfl ?_; refine qi rfl ?_; refine qV (.bool true) (rn_pick rfl rfl rfl) rfl ?_; refine qm (.bool true) rfl ?_; refine qi rfl ?_; refine qi rfl ?_; refine qi rfl ?_; refine qV (.bool true) (rn_pick rfl rfl rfl) rfl ?_; intro a hF; refine wl0 ?_; refine cd_true hF rfl rfl ?_; refine wrgs rfl ?_
   refine wlc hF (rn_call0 rfl rfl Try.call7) (awake_mm M) rfl rfl rfl ?_; clear hF a
   rintro e9 W88 ⟨rfl, M, _⟩; refine ⟨_, rfl, ?_⟩; intro a hF
   revert a; refine qm (.bool true) rfl ?_; intro a hF; refine wl0 ?_
   refine wp_ret (rt_then ?_)
   exact res_slot Try.results3 rfl hF ⟨rfl, M.bel⟩
  | true =>
   replace hq := hq rfl
   revert a; refine qg (.bool false) (rn_not rfl rfl rfl) rfl ?_; refine qV (.bool false) (rn_pick rfl rfl rfl) rfl ?_; refine qm (.bool false) rfl ?_; refine qg (.agg (Ev.arr vr)) (rn_load rfl rfl (ld_E rfl (M.b 1 rfl).whole)) rfl ?_; intro a hF
   refine lgc hF (rn_call1 (u := .agg (Ev.arr vr)) rfl rfl rfl Try.call5) (boolP_mm M (good_any r vr _ _ M.fact.1.2 M.lts)) rfl rfl rfl rfl rfl rfl ?_; clear hF a
   rintro e9 W13 ⟨b9, hr, rfl, M, _⟩; refine ⟨_, rfl, ?_⟩; intro a hF
   cases b9 with
   | false =>
    revert a; refine qg (.bool true) (rn_not rfl rfl rfl) rfl ?_; refine qV (.bool true) (rn_pick rfl rfl rfl) rfl ?_; refine qm (.bool true) rfl ?_; refine qi rfl ?_; refine qi rfl ?_; refine qi rfl ?_; refine qV (.bool true) (rn_pick rfl rfl rfl) rfl ?_; intro a hF; refine wl0 ?_; refine cd_true hF rfl rfl ?_; refine wrgs rfl ?_
    refine wlc hF (rn_call0 rfl rfl Try.call7) (awake_mm M) rfl rfl rfl ?_; clear hF a
    rintro e9 W88 ⟨rfl, M, _⟩; refine ⟨_, rfl, ?_⟩; intro a hF
    revert a; refine qm (.bool true) rfl ?_; intro a hF; refine wl0 ?_
    refine wp_ret (rt_then ?_)
    exact res_slot Try.results3 rfl hF ⟨rfl, M.bel⟩
   | true =>
    replace hr := hr rfl
    revert a; refine qg (.bool false) (rn_not rfl rfl rfl) rfl ?_; refine qV (.bool false) (rn_pick rfl rfl rfl) rfl ?_; refine qm (.bool false) rfl ?_; refine qg (.agg (Tv.arr tv)) (rn_load rfl rfl (ld_T rfl (M.b 0 rfl).whole)) rfl ?_; intro a hF
    refine lgc hF (rn_call1 (u := .agg (Tv.arr tv)) rfl rfl rfl Try.call6) (boolP_mm M (goodT_any t tv _ _ M.fact.2 M.lts)) rfl rfl rfl rfl rfl rfl ?_; clear hF a
    rintro e9 W14 ⟨b9, ht, rfl, M, _⟩; refine ⟨_, rfl, ?_⟩; intro a hF
    cases b9 with
    | false =>
     revert a; refine qg (.bool true) (rn_not rfl rfl rfl) rfl ?_; refine qV (.bool true) (rn_pick rfl rfl rfl) rfl ?_; intro a hF; refine wl0 ?_; refine cd_true hF rfl rfl ?_; refine wrgs rfl ?_
     refine wlc hF (rn_call0 rfl rfl Try.call7) (awake_mm M) rfl rfl rfl ?_; clear hF a
     rintro e9 W88 ⟨rfl, M, _⟩; refine ⟨_, rfl, ?_⟩; intro a hF
     revert a; refine qm (.bool true) rfl ?_; intro a hF; refine wl0 ?_
     refine wp_ret (rt_then ?_)
     exact res_slot Try.results3 rfl hF ⟨rfl, M.bel⟩
    | true =>
     replace ht := ht rfl
     revert a; refine qg (.bool false) (rn_not rfl rfl rfl) rfl ?_; refine qV (.bool false) (rn_pick rfl rfl rfl) rfl ?_; intro a hF; refine wl0 ?_; refine cd_false hF rfl rfl (wp_skip (nm_then ?_))
     obtain ⟨rp, bp⟩ := hp; obtain ⟨rq, bq⟩ := hq; obtain ⟨rr, br⟩ := hr; obtain ⟨okt, bt, _⟩ := ht
     have hpq := compG rp rq bp bq; have hqr := compG rq rr bq br
     have hA := compG (B := 73536) hpq.1 rr hpq.2 (bdE_mono (by omega) br)
     have hB := compG (B := 73536) rp hqr.1 (bdE_mono (by omega) bp) hqr.2
     have hsm := assoc_some rp rq rr
     have hsa := fun h => assoc_same rp rq rr h t okt
     have hc := edG_mm M (compose_top 4000 (by omega) p q vp vq _ _ rp rq bp bq M.fact.1.1.1 M.fact.1.1.2 M.lts)
     refine wrgs rfl ?_; revert a; refine qV (.agg (Ev.arr vp)) (rn_load rfl rfl (ld_E rfl (M.b 3 rfl).whole)) rfl ?_; refine qV (.agg (Ev.arr vq)) (rn_load rfl rfl (ld_E rfl (M.b 2 rfl).whole)) rfl ?_; intro a hF
     refine wlc hF (rn_call2 (u := .agg (Ev.arr vp)) (u' := .agg (Ev.arr vq)) rfl rfl rfl rfl Try.call8) hc rfl rfl rfl ?_; clear hF a hc
     rintro e9 W15 ⟨v9, rfl, M, _⟩; refine ⟨_, rfl, ?_⟩; intro a hF
     revert a; refine qm (.tuple #[.agg (Ev.arr v9), .bool ((composeT p q).isSome)]) rfl ?_; refine qV (.agg (Ev.arr v9)) (rn_extract rfl rfl rfl) rfl ?_; refine qV (.bool ((composeT p q).isSome)) (rn_extract rfl rfl rfl) rfl ?_; intro a hF
     obtain ⟨bk5, hbk5⟩ : ∃ g, W15.heap.size = g := ⟨_, rfl⟩
     refine wlal hF M hbk5 rfl rfl rfl (rn_alloc rfl zc_E hbk5) ?_; clear hF M a; intro W251 a M hF
     refine wlst hF M 0 rfl (vs := (Ev.arr v9)) rfl rfl rfl rfl rfl rfl rfl sz_E (Ev.arr_one _) (leb rfl) ?_; clear hF M a; intro W252 a M hF
     revert a; refine qm (.bool ((composeT p q).isSome)) rfl ?_; intro a hF; refine wl0 ?_
     have hc := edG_mm M (compose_top 4000 (by omega) q r vq vr _ _ rq rr bq br M.fact.1.1.1.2 M.fact.1.1.2 M.lts)
     refine wrgs rfl ?_; revert a; refine qV (.agg (Ev.arr vq)) (rn_load rfl rfl (ld_E rfl (M.b 3 rfl).whole)) rfl ?_; refine qV (.agg (Ev.arr vr)) (rn_load rfl rfl (ld_E rfl (M.b 2 rfl).whole)) rfl ?_; intro a hF
     refine wlc hF (rn_call2 (u := .agg (Ev.arr vq)) (u' := .agg (Ev.arr vr)) rfl rfl rfl rfl Try.call8) hc rfl rfl rfl ?_; clear hF a hc
     rintro e9 W16 ⟨v11, rfl, M, _⟩; refine ⟨_, rfl, ?_⟩; intro a hF
     revert a; refine qm (.tuple #[.agg (Ev.arr v11), .bool ((composeT q r).isSome)]) rfl ?_; refine qV (.agg (Ev.arr v11)) (rn_extract rfl rfl rfl) rfl ?_; refine qV (.bool ((composeT q r).isSome)) (rn_extract rfl rfl rfl) rfl ?_; intro a hF
     obtain ⟨bk6, hbk6⟩ : ∃ g, W16.heap.size = g := ⟨_, rfl⟩
     refine wlal hF M hbk6 rfl rfl rfl (rn_alloc rfl zc_E hbk6) ?_; clear hF M a; intro W261 a M hF
     refine wlst hF M 0 rfl (vs := (Ev.arr v11)) rfl rfl rfl rfl rfl rfl rfl sz_E (Ev.arr_one _) (leb rfl) ?_; clear hF M a; intro W262 a M hF
     revert a; refine qm (.bool ((composeT q r).isSome)) rfl ?_; intro a hF; refine wl0 ?_
     generalize hopq : (composeT p q).isSome = opq at *; generalize hoqr : (composeT q r).isSome = oqr at *
     generalize hepq : (composeT p q).getD nilE = pq at *; generalize heqr : (composeT q r).getD nilE = qr at *
     refine wp_seq ?_
     refine wrgs rfl ?_; revert a; refine qV (.agg (Ev.arr v9)) (rn_load rfl rfl (ld_E rfl (M.b 1 rfl).whole)) rfl ?_; refine qm (.bool opq) rfl ?_; intro a hF
     refine wlc hF (rn_call2 (u := .agg (Ev.arr v9)) (u' := .bool opq) rfl rfl rfl rfl Try.call9) (anyB_mm M (fine_any pq v9 opq _ _ M.fact.1.2 M.lts)) rfl rfl rfl ?_; clear hF a
     rintro e9 W17 ⟨b9, rfl, M, _⟩; refine ⟨_, rfl, ?_⟩; intro a hF
     cases b9 with
     | false =>
      revert a; refine qV (.bool true) (rn_not rfl rfl rfl) rfl ?_; refine qm (.bool true) rfl ?_; refine qi rfl ?_; refine qi rfl ?_; refine qi rfl ?_; refine qi rfl ?_; refine qV (.bool true) (rn_pick rfl rfl rfl) rfl ?_; intro a hF; refine wl0 ?_; refine cd_true hF rfl rfl ?_; refine wrgs rfl ?_
      refine wlc hF (rn_call0 rfl rfl Try.call7) (awake_mm M) rfl rfl rfl ?_; clear hF a
      rintro e9 W88 ⟨rfl, M, _⟩; refine ⟨_, rfl, ?_⟩; intro a hF
      revert a; refine qm (.bool true) rfl ?_; intro a hF; refine wl0 ?_
      refine wp_ret (rt_then ?_)
      exact res_slot Try.results3 rfl hF ⟨rfl, M.bel⟩
     | true =>
      revert a; refine qV (.bool false) (rn_not rfl rfl rfl) rfl ?_; refine qm (.bool false) rfl ?_; refine qg (.agg (Ev.arr v11)) (rn_load rfl rfl (ld_E rfl (M.b 0 rfl).whole)) rfl ?_; refine qn (.bool oqr) rfl ?_; intro a hF
      refine lgc hF (rn_call2 (u := .agg (Ev.arr v11)) (u' := .bool oqr) rfl rfl rfl rfl Try.call9) (anyB_mm M (fine_any qr v11 oqr _ _ M.fact.2 M.lts)) rfl rfl rfl rfl rfl rfl ?_; clear hF a
      rintro e9 W18 ⟨b9, rfl, M, _⟩; refine ⟨_, rfl, ?_⟩; intro a hF
      cases b9 with
      | false =>
       revert a; refine qg (.bool true) (rn_not rfl rfl rfl) rfl ?_; refine qV (.bool true) (rn_pick rfl rfl rfl) rfl ?_; intro a hF; refine wl0 ?_; refine cd_true hF rfl rfl ?_; refine wrgs rfl ?_
       refine wlc hF (rn_call0 rfl rfl Try.call7) (awake_mm M) rfl rfl rfl ?_; clear hF a
       rintro e9 W88 ⟨rfl, M, _⟩; refine ⟨_, rfl, ?_⟩; intro a hF
       revert a; refine qm (.bool true) rfl ?_; intro a hF; refine wl0 ?_
       refine wp_ret (rt_then ?_)
       exact res_slot Try.results3 rfl hF ⟨rfl, M.bel⟩
      | true =>
       revert a; refine qg (.bool false) (rn_not rfl rfl rfl) rfl ?_; refine qV (.bool false) (rn_pick rfl rfl rfl) rfl ?_; intro a hF; refine wl0 ?_; refine cd_false hF rfl rfl (wp_skip (nm_then ?_))
       have hc := edG_mm M (compose_top 73536 (by omega) pq r v9 vr _ _ hpq.1 rr hpq.2 (bdE_mono (by omega) br) M.fact.1.2 M.fact.1.1.1.2 M.lts)
       refine wrgs rfl ?_; revert a; refine qV (.agg (Ev.arr v9)) (rn_load rfl rfl (ld_E rfl (M.b 1 rfl).whole)) rfl ?_; refine qV (.agg (Ev.arr vr)) (rn_load rfl rfl (ld_E rfl (M.b 3 rfl).whole)) rfl ?_; intro a hF
       refine wlc hF (rn_call2 (u := .agg (Ev.arr v9)) (u' := .agg (Ev.arr vr)) rfl rfl rfl rfl Try.call8) hc rfl rfl rfl ?_; clear hF a hc
       rintro e9 W19 ⟨v13, rfl, M, _⟩; refine ⟨_, rfl, ?_⟩; intro a hF
       revert a; refine qm (.tuple #[.agg (Ev.arr v13), .bool ((composeT pq r).isSome)]) rfl ?_; refine qV (.agg (Ev.arr v13)) (rn_extract rfl rfl rfl) rfl ?_; refine qV (.bool ((composeT pq r).isSome)) (rn_extract rfl rfl rfl) rfl ?_; intro a hF
       obtain ⟨bk7, hbk7⟩ : ∃ g, W19.heap.size = g := ⟨_, rfl⟩
       refine wlal hF M hbk7 rfl rfl rfl (rn_alloc rfl zc_E hbk7) ?_; clear hF M a; intro W291 a M hF
       refine wlst hF M 0 rfl (vs := (Ev.arr v13)) rfl rfl rfl rfl rfl rfl rfl sz_E (Ev.arr_one _) (leb rfl) ?_; clear hF M a; intro W292 a M hF
       revert a; refine qm (.bool ((composeT pq r).isSome)) rfl ?_; intro a hF; refine wl0 ?_
       have hc := edG_mm M (compose_top 73536 (by omega) p qr vp v11 _ _ rp hqr.1 (bdE_mono (by omega) bp) hqr.2 M.fact.1.1.1.1.1.1 M.fact.1.2 M.lts)
       refine wrgs rfl ?_; revert a; refine qV (.agg (Ev.arr vp)) (rn_load rfl rfl (ld_E rfl (M.b 6 rfl).whole)) rfl ?_; refine qV (.agg (Ev.arr v11)) (rn_load rfl rfl (ld_E rfl (M.b 1 rfl).whole)) rfl ?_; intro a hF
       refine wlc hF (rn_call2 (u := .agg (Ev.arr vp)) (u' := .agg (Ev.arr v11)) rfl rfl rfl rfl Try.call8) hc rfl rfl rfl ?_; clear hF a hc
       rintro e9 W20 ⟨v15, rfl, M, _⟩; refine ⟨_, rfl, ?_⟩; intro a hF
       revert a; refine qm (.tuple #[.agg (Ev.arr v15), .bool ((composeT p qr).isSome)]) rfl ?_; refine qV (.agg (Ev.arr v15)) (rn_extract rfl rfl rfl) rfl ?_; refine qV (.bool ((composeT p qr).isSome)) (rn_extract rfl rfl rfl) rfl ?_; intro a hF
       obtain ⟨bk8, hbk8⟩ : ∃ g, W20.heap.size = g := ⟨_, rfl⟩
       refine wlal hF M hbk8 rfl rfl rfl (rn_alloc rfl zc_E hbk8) ?_; clear hF M a; intro W301 a M hF
       refine wlst hF M 0 rfl (vs := (Ev.arr v15)) rfl rfl rfl rfl rfl rfl rfl sz_E (Ev.arr_one _) (leb rfl) ?_; clear hF M a; intro W302 a M hF
       revert a; refine qm (.bool ((composeT p qr).isSome)) rfl ?_; intro a hF; refine wl0 ?_
       generalize hoa : (composeT pq r).isSome = oa at *; generalize hob : (composeT p qr).isSome = ob at *
       generalize hea : (composeT pq r).getD nilE = ea at *; generalize heb : (composeT p qr).getD nilE = eb at *
       refine wp_seq (wp_cut (fun a W => ∃ f, Fr a 131 f ∧ f 7 = .pointer (some ⟨bk4, 0, none⟩) ∧ f 10 = .bool opq ∧ f 12 = .bool oqr ∧ f 13 = .pointer (some ⟨bk7, 0, none⟩) ∧ f 15 = .pointer (some ⟨bk8, 0, none⟩) ∧ f 14 = .bool (oa && opq) ∧ f 16 = .bool ob ∧ Mm S w W (⟨bk8, 30, (Ev.arr v15)⟩ :: ⟨bk7, 30, (Ev.arr v13)⟩ :: ⟨bk6, 30, (Ev.arr v11)⟩ :: ⟨bk5, 30, (Ev.arr v9)⟩ :: ⟨bk4, 25, (Tv.arr tv)⟩ :: ⟨bk3, 30, (Ev.arr vr)⟩ :: ⟨bk2, 30, (Ev.arr vq)⟩ :: ⟨bk1, 30, (Ev.arr vp)⟩ :: []) [] (fun W S => ((((((EdAt W S p vp ∧ EdAt W S q vq) ∧ EdAt W S r vr) ∧ TreeAt W S t tv) ∧ EdAt W S pq v9) ∧ EdAt W S qr v11) ∧ EdAt W S ea v13) ∧ EdAt W S eb v15)) ?_ ?_)
       ·skip
        cases oa with
        | false =>
         refine wrg rfl ?_; revert a; refine qm (.bool false) rfl ?_; refine qm (.bool false) rfl ?_; refine qi rfl ?_; refine qV (.bool false) (rn_pick rfl rfl rfl) rfl ?_; refine qm (.bool false) rfl ?_; intro a hF; refine wl0 ?_
         exact ⟨_, hF, rfl, rfl, rfl, rfl, rfl, rfl, rfl, M⟩
        | true =>
         refine wrg rfl ?_; revert a; refine qm (.bool true) rfl ?_; refine qm (.bool true) rfl ?_; refine qn (.bool opq) rfl ?_; refine qV (.bool opq) (rn_pick rfl rfl rfl) rfl ?_; refine qm (.bool opq) rfl ?_; intro a hF; refine wl0 ?_
         exact ⟨_, hF, rfl, rfl, rfl, rfl, rfl, rfl, rfl, M⟩
       clear hF M a
       rintro a W ⟨f, hF, hf7, hf10, hf12, hf13, hf15, hf14, hf16, M⟩
       refine nm_then ?_
       replace hF := (((((((hF.same (d := 7) hf7).same (d := 10) hf10).same (d := 12) hf12).same (d := 13) hf13).same (d := 15) hf15).same (d := 14) hf14).same (d := 16) hf16)
       refine wp_seq (wp_cut (fun a W => ∃ f, Fr a 131 f ∧ f 7 = .pointer (some ⟨bk4, 0, none⟩) ∧ f 10 = .bool opq ∧ f 12 = .bool oqr ∧ f 13 = .pointer (some ⟨bk7, 0, none⟩) ∧ f 15 = .pointer (some ⟨bk8, 0, none⟩) ∧ f 14 = .bool (oa && opq) ∧ f 16 = .bool (ob && oqr) ∧ Mm S w W (⟨bk8, 30, (Ev.arr v15)⟩ :: ⟨bk7, 30, (Ev.arr v13)⟩ :: ⟨bk6, 30, (Ev.arr v11)⟩ :: ⟨bk5, 30, (Ev.arr v9)⟩ :: ⟨bk4, 25, (Tv.arr tv)⟩ :: ⟨bk3, 30, (Ev.arr vr)⟩ :: ⟨bk2, 30, (Ev.arr vq)⟩ :: ⟨bk1, 30, (Ev.arr vp)⟩ :: []) [] (fun W S => ((((((EdAt W S p vp ∧ EdAt W S q vq) ∧ EdAt W S r vr) ∧ TreeAt W S t tv) ∧ EdAt W S pq v9) ∧ EdAt W S qr v11) ∧ EdAt W S ea v13) ∧ EdAt W S eb v15)) ?_ ?_)
       ·skip
        cases ob with
        | false =>
         refine wrg rfl ?_; revert a; refine qm (.bool false) rfl ?_; refine qm (.bool false) rfl ?_; refine qi rfl ?_; refine qV (.bool false) (rn_pick rfl rfl rfl) rfl ?_; refine qm (.bool false) rfl ?_; intro a hF; refine wl0 ?_
         exact ⟨_, hF, rfl, rfl, rfl, rfl, rfl, rfl, rfl, M⟩
        | true =>
         refine wrg rfl ?_; revert a; refine qm (.bool true) rfl ?_; refine qm (.bool true) rfl ?_; refine qn (.bool oqr) rfl ?_; refine qV (.bool oqr) (rn_pick rfl rfl rfl) rfl ?_; refine qm (.bool oqr) rfl ?_; intro a hF; refine wl0 ?_
         exact ⟨_, hF, rfl, rfl, rfl, rfl, rfl, rfl, rfl, M⟩
       clear hF M a
       rintro a W ⟨f, hF, hf7, hf10, hf12, hf13, hf15, hf14, hf16, M⟩
       refine nm_then ?_
       rw [← hsm] at hf16
       generalize hou : (oa && opq) = ou at *
       replace hF := (((((hF.same (d := 7) hf7).same (d := 13) hf13).same (d := 15) hf15).same (d := 14) hf14).same (d := 16) hf16)
       cases ou with
       | false =>
        refine wp_seq ?_
        refine wrgs rfl ?_; revert a; refine qm (.bool false) rfl ?_; refine qm (.bool false) rfl ?_; refine qV (.bool false) (rn_neqB rfl rfl rfl Try.underlying4 rfl) rfl ?_; refine qm (.bool false) rfl ?_; refine qn (.bool false) rfl ?_; refine qn (.bool false) rfl ?_; refine qi rfl ?_; refine qi rfl ?_; refine qi rfl ?_; refine qi rfl ?_; intro a hF; refine lgs hF rfl rfl rfl (.inr rfl) rfl ?_; clear hF a; intro a hF; refine lgs hF rfl rfl rfl (.inr rfl) rfl ?_; clear hF a; intro a hF; refine lgs hF rfl rfl rfl (.inr rfl) rfl ?_; clear hF a; intro a hF; revert a; refine qi rfl ?_; refine qg (.bool false) (rn_pick rfl rfl rfl) rfl ?_; refine qV (.bool false) (rn_pick rfl rfl rfl) rfl ?_; intro a hF; refine wl0 ?_; refine cd_false hF rfl rfl (wp_skip (nm_then ?_))
        refine wp_seq ?_
        refine wrgs rfl ?_; revert a; refine qm (.bool false) rfl ?_; refine qV (.bool true) (rn_not rfl rfl rfl) rfl ?_; intro a hF; refine wl0 ?_; refine cd_true hF rfl rfl ?_; refine wrgs rfl ?_
        refine wlc hF (rn_call0 rfl rfl Try.call7) (awake_mm M) rfl rfl rfl ?_; clear hF a
        rintro e9 W88 ⟨rfl, M, _⟩; refine ⟨_, rfl, ?_⟩; intro a hF
        revert a; refine qm (.bool true) rfl ?_; intro a hF; refine wl0 ?_
        refine wp_ret (rt_then ?_)
        exact res_slot Try.results3 rfl hF ⟨rfl, M.bel⟩
       | true =>
        refine wp_seq ?_
        refine wrgs rfl ?_; revert a; refine qm (.bool true) rfl ?_; refine qm (.bool true) rfl ?_; refine qV (.bool false) (rn_neqB rfl rfl rfl Try.underlying4 rfl) rfl ?_; refine qm (.bool false) rfl ?_; refine qn (.bool true) rfl ?_; refine qn (.bool true) rfl ?_; refine qg (.agg (Ev.arr v13)) (rn_load rfl rfl (ld_E rfl (M.b 1 rfl).whole)) rfl ?_; intro a hF
        refine lgc hF (rn_call2 (u := .agg (Ev.arr v13)) (u' := .bool true) rfl rfl rfl rfl Try.call9) (anyB_mm M (fine_any ea v13 true _ _ M.fact.1.2 M.lts)) rfl rfl rfl rfl rfl rfl ?_; clear hF a
        rintro e9 W21 ⟨b9, rfl, M, _⟩; refine ⟨_, rfl, ?_⟩; intro a hF
        cases b9 with
        | false =>
         revert a; refine qg (.bool true) (rn_not rfl rfl rfl) rfl ?_; refine qn (.bool true) rfl ?_; refine qi rfl ?_; refine qi rfl ?_; refine qi rfl ?_; refine qg (.bool true) (rn_pick rfl rfl rfl) rfl ?_; refine qg (.bool true) (rn_pick rfl rfl rfl) rfl ?_; refine qV (.bool true) (rn_pick rfl rfl rfl) rfl ?_; intro a hF; refine wl0 ?_; refine cd_true hF rfl rfl ?_; refine wrgs rfl ?_; revert a; refine qm (.bool true) rfl ?_; refine qm (.bool true) rfl ?_; refine qV (.bool true) (rn_eqlB rfl rfl rfl Try.underlying4 rfl) rfl ?_; refine qm (.bool true) rfl ?_; intro a hF
         refine lgc hF (rn_call0 rfl rfl Try.call7) (awake_mm M) rfl rfl rfl rfl rfl rfl ?_; clear hF a
         rintro e9 W88 ⟨rfl, M, _⟩; refine ⟨_, rfl, ?_⟩; intro a hF
         revert a; refine qV (.bool true) (rn_pick rfl rfl rfl) rfl ?_; refine qm (.bool true) rfl ?_; intro a hF; refine wl0 ?_
         refine wp_ret (rt_then ?_)
         exact res_slot Try.results3 rfl hF ⟨rfl, M.bel⟩
        | true =>
         revert a; refine qg (.bool false) (rn_not rfl rfl rfl) rfl ?_; refine qn (.bool false) rfl ?_; refine qg (.agg (Ev.arr v15)) (rn_load rfl rfl (ld_E rfl (M.b 0 rfl).whole)) rfl ?_; intro a hF
         refine lgc hF (rn_call2 (u := .agg (Ev.arr v15)) (u' := .bool true) rfl rfl rfl rfl Try.call9) (anyB_mm M (fine_any eb v15 true _ _ M.fact.2 M.lts)) rfl rfl rfl rfl rfl rfl ?_; clear hF a
         rintro e9 W22 ⟨b9, rfl, M, _⟩; refine ⟨_, rfl, ?_⟩; intro a hF
         cases b9 with
         | false =>
          revert a; refine qg (.bool true) (rn_not rfl rfl rfl) rfl ?_; refine qg (.bool true) (rn_pick rfl rfl rfl) rfl ?_; refine qg (.bool true) (rn_pick rfl rfl rfl) rfl ?_; refine qV (.bool true) (rn_pick rfl rfl rfl) rfl ?_; intro a hF; refine wl0 ?_; refine cd_true hF rfl rfl ?_; refine wrgs rfl ?_; revert a; refine qm (.bool true) rfl ?_; refine qm (.bool true) rfl ?_; refine qV (.bool true) (rn_eqlB rfl rfl rfl Try.underlying4 rfl) rfl ?_; refine qm (.bool true) rfl ?_; intro a hF
          refine lgc hF (rn_call0 rfl rfl Try.call7) (awake_mm M) rfl rfl rfl rfl rfl rfl ?_; clear hF a
          rintro e9 W88 ⟨rfl, M, _⟩; refine ⟨_, rfl, ?_⟩; intro a hF
          revert a; refine qV (.bool true) (rn_pick rfl rfl rfl) rfl ?_; refine qm (.bool true) rfl ?_; intro a hF; refine wl0 ?_
          refine wp_ret (rt_then ?_)
          exact res_slot Try.results3 rfl hF ⟨rfl, M.bel⟩
         | true =>
          revert a; refine qg (.bool false) (rn_not rfl rfl rfl) rfl ?_; refine qg (.bool false) (rn_pick rfl rfl rfl) rfl ?_; refine qg (.bool false) (rn_pick rfl rfl rfl) rfl ?_; refine qV (.bool false) (rn_pick rfl rfl rfl) rfl ?_; intro a hF; refine wl0 ?_; refine cd_false hF rfl rfl (wp_skip (nm_then ?_))
          refine wp_seq ?_
          refine wrgs rfl ?_; revert a; refine qm (.bool true) rfl ?_; refine qV (.bool false) (rn_not rfl rfl rfl) rfl ?_; intro a hF; refine wl0 ?_; refine cd_false hF rfl rfl (wp_skip (nm_then ?_))
          have hsame := hsa rfl
          have hc := trG_mm M (apply_top 212608 4000 (by omega) ea t v13 tv _ _ hA.1 hA.2 (bdT_mono (by omega) bt) M.fact.1.2 M.fact.1.1.1.1.2 M.lts)
          refine wrgs rfl ?_; revert a; refine qV (.agg (Ev.arr v13)) (rn_load rfl rfl (ld_E rfl (M.b 1 rfl).whole)) rfl ?_; refine qV (.agg (Tv.arr tv)) (rn_load rfl rfl (ld_T rfl (M.b 4 rfl).whole)) rfl ?_; intro a hF
          refine wlc hF (rn_call2 (u := .agg (Ev.arr v13)) (u' := .agg (Tv.arr tv)) rfl rfl rfl rfl Try.call10) hc rfl rfl rfl ?_; clear hF a hc
          rintro e9 W23 ⟨v17, rfl, M, _⟩; refine ⟨_, rfl, ?_⟩; intro a hF
          revert a; refine qm (.tuple #[.agg (Tv.arr v17), .bool ((applyS ea t).isSome)]) rfl ?_; refine qV (.agg (Tv.arr v17)) (rn_extract rfl rfl rfl) rfl ?_; refine qV (.bool ((applyS ea t).isSome)) (rn_extract rfl rfl rfl) rfl ?_; intro a hF
          obtain ⟨bk9, hbk9⟩ : ∃ g, W23.heap.size = g := ⟨_, rfl⟩
          refine wlal hF M hbk9 rfl rfl rfl (rn_alloc rfl zc_T hbk9) ?_; clear hF M a; intro W331 a M hF
          refine wlst hF M 0 rfl (vs := (Tv.arr v17)) rfl rfl rfl rfl rfl rfl rfl sz_T (Tv.arr_one _) (leb rfl) ?_; clear hF M a; intro W332 a M hF
          revert a; refine qm (.bool ((applyS ea t).isSome)) rfl ?_; intro a hF; refine wl0 ?_
          have hc := trG_mm M (apply_top 212608 4000 (by omega) eb t v15 tv _ _ hB.1 hB.2 (bdT_mono (by omega) bt) M.fact.1.2 M.fact.1.1.1.1.1.2 M.lts)
          refine wrgs rfl ?_; revert a; refine qV (.agg (Ev.arr v15)) (rn_load rfl rfl (ld_E rfl (M.b 1 rfl).whole)) rfl ?_; refine qV (.agg (Tv.arr tv)) (rn_load rfl rfl (ld_T rfl (M.b 5 rfl).whole)) rfl ?_; intro a hF
          refine wlc hF (rn_call2 (u := .agg (Ev.arr v15)) (u' := .agg (Tv.arr tv)) rfl rfl rfl rfl Try.call10) hc rfl rfl rfl ?_; clear hF a hc
          rintro e9 W24 ⟨v19, rfl, M, _⟩; refine ⟨_, rfl, ?_⟩; intro a hF
          revert a; refine qm (.tuple #[.agg (Tv.arr v19), .bool ((applyS eb t).isSome)]) rfl ?_; refine qV (.agg (Tv.arr v19)) (rn_extract rfl rfl rfl) rfl ?_; refine qV (.bool ((applyS eb t).isSome)) (rn_extract rfl rfl rfl) rfl ?_; intro a hF
          obtain ⟨bk10, hbk10⟩ : ∃ g, W24.heap.size = g := ⟨_, rfl⟩
          refine wlal hF M hbk10 rfl rfl rfl (rn_alloc rfl zc_T hbk10) ?_; clear hF M a; intro W341 a M hF
          refine wlst hF M 0 rfl (vs := (Tv.arr v19)) rfl rfl rfl rfl rfl rfl rfl sz_T (Tv.arr_one _) (leb rfl) ?_; clear hF M a; intro W342 a M hF
          revert a; refine qm (.bool ((applyS eb t).isSome)) rfl ?_; intro a hF; refine wl0 ?_
          rw [← hsame] at M hF
          generalize (applyS ea t).isSome = os at *
          refine wrgs rfl ?_; revert a; refine qm (.bool os) rfl ?_; refine qm (.bool os) rfl ?_; refine qV (.bool true) (rn_eqlB rfl rfl rfl Try.underlying4 (beq_self_eq_true _)) rfl ?_; refine qm (.bool true) rfl ?_; refine qg (.agg (Tv.arr v17)) (rn_load rfl rfl (ld_T rfl (M.b 1 rfl).whole)) rfl ?_; refine qg (.agg (Tv.arr v19)) (rn_load rfl rfl (ld_T rfl (M.b 0 rfl).whole)) rfl ?_; intro a hF
          refine lgc hF (rn_call2 (u := .agg (Tv.arr v17)) (u' := .agg (Tv.arr v19)) rfl rfl rfl rfl Try.call11) (same_mm M M.fact.1.2 M.fact.2) rfl rfl rfl rfl rfl rfl ?_; clear hF a
          rintro e9 W25 ⟨rfl, M, _⟩; refine ⟨_, rfl, ?_⟩; intro a hF
          revert a; refine qV (.bool true) (rn_pick rfl rfl rfl) rfl ?_; refine qm (.bool true) rfl ?_; intro a hF
          refine lgc hF (rn_call0 rfl rfl Try.call7) (awake_mm M) rfl rfl rfl rfl rfl rfl ?_; clear hF a
          rintro e9 W88 ⟨rfl, M, _⟩; refine ⟨_, rfl, ?_⟩; intro a hF
          revert a; refine qV (.bool true) (rn_pick rfl rfl rfl) rfl ?_; refine qm (.bool true) rfl ?_; intro a hF; refine wl0 ?_
          refine wp_ret ?_
          exact res_slot Try.results3 rfl hF ⟨rfl, M.bel⟩
theorem conv_some {p q : Ed} (hp : rightE p) (hq : rightE q) : (composeT p q).isSome = (composeT (invertE q) (invertE p)).isSome := (law_converse hp hq).1
theorem conv_same {p q : Ed} (hp : rightE p) (hq : rightE q) (h1 : (composeT p q).isSome = true) (t : T) (ht : okT t) : applyS (invertE ((composeT p q).getD nilE)) t = applyS ((composeT (invertE q) (invertE p)).getD nilE) t := by
 have h2 := h1
 rw [conv_some hp hq] at h2
 obtain ⟨a, e1⟩ := Option.isSome_iff_exists.1 h1
 obtain ⟨b, e2⟩ := Option.isSome_iff_exists.1 h2
 rw [e1, e2]
 exact (law_converse hp hq).2 a b e1 e2 t ht
theorem converse_any (p q : Ed) (t : T) (vp vq : Ev) (tv : Tv) (S : Nat → Prop) (w : World) (ep : EdAt w S p vp) (eq : EdAt w S q vq) (eT : TreeAt w S t tv) (hS : ∀ b, S b → b < w.heap.size) :
  Calls Try.prog 4 #[.agg vp.arr, .agg vq.arr, .agg tv.arr] w (fun e w' => e = .returned (.bool true) ∧ Below w.heap.size w w') := by
 have M := Mm.begin (F := fun W S => (EdAt W S p vp ∧ EdAt W S q vq) ∧ TreeAt W S t tv) hS (((stable_ed _ _).and (stable_ed _ _)).and (stable_tree _ _)) ⟨⟨ep, eq⟩, eT⟩
 clear ep eq eT
 refine calls_fr (xs := [.agg vp.arr, .agg vq.arr, .agg tv.arr]) Try.func4 rfl Try.ntmps4 rfl (fun a hF => ?_)
 refine wrgs rfl ?_
 obtain ⟨bk1, hbk1⟩ : ∃ g, w.heap.size = g := ⟨_, rfl⟩
 refine wlal hF M hbk1 rfl rfl rfl (rn_box (cs := (Ev.arr vp)) rfl rfl hbk1) ?_; clear hF M a; intro W1 a M hF
 obtain ⟨bk2, hbk2⟩ : ∃ g, W1.heap.size = g := ⟨_, rfl⟩
 refine wlal hF M hbk2 rfl rfl rfl (rn_box (cs := (Ev.arr vq)) rfl rfl hbk2) ?_; clear hF M a; intro W2 a M hF
 obtain ⟨bk3, hbk3⟩ : ∃ g, W2.heap.size = g := ⟨_, rfl⟩
 refine wlal hF M hbk3 rfl rfl rfl (rn_box (cs := (Tv.arr tv)) rfl rfl hbk3) ?_; clear hF M a; intro W3 a M hF
 revert a; refine qm (.bool false) rfl ?_; intro a hF; refine wl0 ?_
 refine wp_seq ?_
 refine wrgs rfl ?_; revert a; refine qV (.agg (Ev.arr vp)) (rn_load rfl rfl (ld_E rfl (M.b 2 rfl).whole)) rfl ?_; intro a hF
 refine wlc hF (rn_call1 (u := .agg (Ev.arr vp)) rfl rfl rfl Try.call5) (boolP_mm M (good_any p vp _ _ M.fact.1.1 M.lts)) rfl rfl rfl ?_; clear hF a
 rintro e9 W11 ⟨b9, hp, rfl, M, _⟩; refine ⟨_, rfl, ?_⟩; intro a hF
 cases b9 with
 | false =>
  revert a; refine qV (.bool true) (rn_not rfl rfl rfl) rfl ?_; refine qm (.bool true) rfl ?_; refine qi rfl ?_; refine qi rfl ?_; refine qi rfl ?_; refine qV (.bool true) (rn_pick rfl rfl rfl) rfl ?_; refine qm (.bool true) rfl ?_; refine qi rfl ?_; refine qi rfl ?_; refine qi rfl ?_; refine qV (.bool true) (rn_pick rfl rfl rfl) rfl ?_; intro a hF; refine wl0 ?_; refine cd_true hF rfl rfl ?_; refine wrgs rfl ?_
  refine wlc hF (rn_call0 rfl rfl Try.call7) (awake_mm M) rfl rfl rfl ?_; clear hF a
  rintro e9 W88 ⟨rfl, M, _⟩; refine ⟨_, rfl, ?_⟩; intro a hF
  revert a; refine qm (.bool true) rfl ?_; intro a hF; refine wl0 ?_
  refine wp_ret (rt_then ?_)
  exact res_slot Try.results4 rfl hF ⟨rfl, M.bel⟩
 | true =>
  replace hp := hp rfl
  revert a; refine qV (.bool false) (rn_not rfl rfl rfl) rfl ?_; refine qm (.bool false) rfl ?_; refine qg (.agg (Ev.arr vq)) (rn_load rfl rfl (ld_E rfl (M.b 1 rfl).whole)) rfl ?_; intro a hF
  refine lgc hF (rn_call1 (u := .agg (Ev.arr vq)) rfl rfl rfl Try.call5) (boolP_mm M (good_any q vq _ _ M.fact.1.2 M.lts)) rfl rfl rfl rfl rfl rfl ?_; clear hF a
  rintro e9 W12 ⟨b9, hq, rfl, M, _⟩; refine ⟨_, rfl, ?_⟩; intro a hF
  cases b9 with
  | false =>
   revert a; refine qg (.bool true) (rn_not rfl rfl rfl) rfl ?_; refine qV (.bool true) (rn_pick rfl rfl rfl) rfl ?_; refine qm (.bool true) rfl ?_; refine qi rfl ?_; refine qi rfl ?_; refine qi rfl ?_; refine qV (.bool true) (rn_pick rfl rfl rfl) rfl ?_; intro a hF; refine wl0 ?_; refine cd_true hF rfl rfl ?_; refine wrgs rfl ?_
   refine wlc hF (rn_call0 rfl rfl Try.call7) (awake_mm M) rfl rfl rfl ?_; clear hF a
   rintro e9 W88 ⟨rfl, M, _⟩; refine ⟨_, rfl, ?_⟩; intro a hF
   revert a; refine qm (.bool true) rfl ?_; intro a hF; refine wl0 ?_
   refine wp_ret (rt_then ?_)
   exact res_slot Try.results4 rfl hF ⟨rfl, M.bel⟩
  | true =>
   replace hq := hq rfl
   revert a; refine qg (.bool false) (rn_not rfl rfl rfl) rfl ?_; refine qV (.bool false) (rn_pick rfl rfl rfl) rfl ?_; refine qm (.bool false) rfl ?_; refine qg (.agg (Tv.arr tv)) (rn_load rfl rfl (ld_T rfl (M.b 0 rfl).whole)) rfl ?_; intro a hF
   refine lgc hF (rn_call1 (u := .agg (Tv.arr tv)) rfl rfl rfl Try.call6) (boolP_mm M (goodT_any t tv _ _ M.fact.2 M.lts)) rfl rfl rfl rfl rfl rfl ?_; clear hF a
   rintro e9 W13 ⟨b9, ht, rfl, M, _⟩; refine ⟨_, rfl, ?_⟩; intro a hF
   cases b9 with
   | false =>
    revert a; refine qg (.bool true) (rn_not rfl rfl rfl) rfl ?_; refine qV (.bool true) (rn_pick rfl rfl rfl) rfl ?_; intro a hF; refine wl0 ?_; refine cd_true hF rfl rfl ?_; refine wrgs rfl ?_
    refine wlc hF (rn_call0 rfl rfl Try.call7) (awake_mm M) rfl rfl rfl ?_; clear hF a
    rintro e9 W88 ⟨rfl, M, _⟩; refine ⟨_, rfl, ?_⟩; intro a hF
    revert a; refine qm (.bool true) rfl ?_; intro a hF; refine wl0 ?_
    refine wp_ret (rt_then ?_)
    exact res_slot Try.results4 rfl hF ⟨rfl, M.bel⟩
   | true =>
    replace ht := ht rfl
    revert a; refine qg (.bool false) (rn_not rfl rfl rfl) rfl ?_; refine qV (.bool false) (rn_pick rfl rfl rfl) rfl ?_; intro a hF; refine wl0 ?_; refine cd_false hF rfl rfl (wp_skip (nm_then ?_))
    obtain ⟨rp, bp⟩ := hp; obtain ⟨rq, bq⟩ := hq; obtain ⟨okt, bt, _⟩ := ht
    have rip := invert_right rp; have riq := invert_right rq
    have bip := bdE_normal (neat_turned rp.2) (bdE_turned bp); have biq := bdE_normal (neat_turned rq.2) (bdE_turned bq)
    have hC := compG rp rq bp bq; have hD := compG riq rip biq bip
    have hsm := conv_some rp rq
    have hsa := fun h => conv_same rp rq h t okt
    have hc := edG_mm M (compose_top 4000 (by omega) p q vp vq _ _ rp rq bp bq M.fact.1.1 M.fact.1.2 M.lts)
    refine wrgs rfl ?_; revert a; refine qV (.agg (Ev.arr vp)) (rn_load rfl rfl (ld_E rfl (M.b 2 rfl).whole)) rfl ?_; refine qV (.agg (Ev.arr vq)) (rn_load rfl rfl (ld_E rfl (M.b 1 rfl).whole)) rfl ?_; intro a hF
    refine wlc hF (rn_call2 (u := .agg (Ev.arr vp)) (u' := .agg (Ev.arr vq)) rfl rfl rfl rfl Try.call8) hc rfl rfl rfl ?_; clear hF a hc
    rintro e9 W14 ⟨v7, rfl, M, _⟩; refine ⟨_, rfl, ?_⟩; intro a hF
    revert a; refine qm (.tuple #[.agg (Ev.arr v7), .bool ((composeT p q).isSome)]) rfl ?_; refine qV (.agg (Ev.arr v7)) (rn_extract rfl rfl rfl) rfl ?_; refine qV (.bool ((composeT p q).isSome)) (rn_extract rfl rfl rfl) rfl ?_; intro a hF
    obtain ⟨bk4, hbk4⟩ : ∃ g, W14.heap.size = g := ⟨_, rfl⟩
    refine wlal hF M hbk4 rfl rfl rfl (rn_alloc rfl zc_E hbk4) ?_; clear hF M a; intro W241 a M hF
    refine wlst hF M 0 rfl (vs := (Ev.arr v7)) rfl rfl rfl rfl rfl rfl rfl sz_E (Ev.arr_one _) (leb rfl) ?_; clear hF M a; intro W242 a M hF
    revert a; refine qm (.bool ((composeT p q).isSome)) rfl ?_; intro a hF; refine wl0 ?_
    refine wp_seq (wp_cut (fun a W => ∃ (f : Nat → Value) (gd : Nat) (vd : Ev), Fr a 83 f ∧ f 5 = .pointer (some ⟨bk3, 0, none⟩) ∧ f 7 = .pointer (some ⟨bk4, 0, none⟩) ∧ f 8 = .bool ((composeT p q).isSome) ∧ f 9 = .pointer (some ⟨gd, 0, none⟩) ∧ f 10 = .bool (composeT (invertE q) (invertE p)).isSome ∧ Mm S w W (⟨gd, 30, vd.arr⟩ :: ⟨bk4, 30, (Ev.arr v7)⟩ :: ⟨bk3, 25, (Tv.arr tv)⟩ :: ⟨bk2, 30, (Ev.arr vq)⟩ :: ⟨bk1, 30, (Ev.arr vp)⟩ :: []) [] (fun W S => (((EdAt W S p vp ∧ EdAt W S q vq) ∧ TreeAt W S t tv) ∧ EdAt W S ((composeT p q).getD nilE) v7) ∧ EdAt W S ((composeT (invertE q) (invertE p)).getD nilE) vd)) ?_ ?_)
    ·skip
     refine wdr (Un (rows ([])) W242.drew) (fun i => Nat.beq i 9) prog_mixed ?_
     have M0 := M.drew' _ rfl
     generalize W242.drew = W243 at *
     have M := M0; have hU := Un.refl (rows ([])) W243
     revert a; refine qt 0 (.agg (Ev.arr vq)) rfl (fun W' hw => (rn_load rfl rfl (ld_E rfl (M0.ub hw 2 rfl).whole))) hU rfl (by kernel_rfl) ?_; refine qt 2 (.agg (Ev.arr vp)) rfl (fun W' hw => (rn_load rfl rfl (ld_E rfl (M0.ub hw 3 rfl).whole))) hU rfl (by kernel_rfl) ?_; intro a hF
     refine g2 (i := 1) (j := 8) (by kernel_rfl) ?_ ?_
     ·skip
      have hc := edP_mm M (invert_any 4000 (by omega) q vq _ _ rq.2 bq M.fact.1.1.2 M.lts)
      refine gc1 hF (rn_call1 (u := .agg (Ev.arr vq)) rfl rfl rfl Try.call12) hc rfl rfl rfl rfl ?_; clear hF a
      rintro e W244 ⟨v1, rfl, M, hb⟩; replace hU := hU.nil hb; clear hb; refine ⟨_, rfl, fun _ => hU, ?_⟩; intro a hF
      clear hc
      refine g2 (i := 3) (j := 8) (by kernel_rfl) ?_ ?_
      ·skip
       have hc := edP_mm M (invert_any 4000 (by omega) p vp _ _ rp.2 bp M.fact.1.1.1.1 M.lts)
       refine gc1 hF (rn_call1 (u := .agg (Ev.arr vp)) rfl rfl rfl Try.call12) hc rfl rfl rfl rfl ?_; clear hF a
       rintro e W245 ⟨v2, rfl, M, hb⟩; replace hU := hU.nil hb; clear hb; refine ⟨_, rfl, fun _ => hU, ?_⟩; intro a hF
       clear hc
       refine g2 (i := 4) (j := 8) (by kernel_rfl) ?_ ?_
       ·skip
        have hc := edG_mm M (compose_top 4000 (by omega) (invertE q) (invertE p) v1 v2 _ _ riq rip biq bip M.fact.1.2 M.fact.2 M.lts)
        refine gc1 hF (rn_call2 (u := .agg (Ev.arr v1)) (u' := .agg (Ev.arr v2)) rfl rfl rfl rfl Try.call8) hc rfl rfl rfl rfl ?_; clear hF a
        rintro e W246 ⟨v9, rfl, M, hb⟩; replace hU := hU.nil hb; clear hb; refine ⟨_, rfl, fun _ => hU, ?_⟩; intro a hF
        clear hc
        revert a; refine qx 5 (.tuple #[.agg (Ev.arr v9), .bool ((composeT (invertE q) (invertE p)).isSome)]) hU rfl (by kernel_rfl) ?_; refine qp 6 (.agg (Ev.arr v9)) rfl (rn_extract rfl rfl rfl) hU rfl (by kernel_rfl) ?_; refine qp 7 (.bool ((composeT (invertE q) (invertE p)).isSome)) rfl (rn_extract rfl rfl rfl) hU rfl (by kernel_rfl) ?_; intro a hF; refine g1 (i := 8) (by kernel_rfl) ?_
        obtain ⟨bk5, hbk5⟩ : ∃ g, W246.heap.size = g := ⟨_, rfl⟩
        refine wgal hF M hU hbk5 rfl rfl rfl rfl (rn_alloc rfl zc_E hbk5) ?_; clear hF M hU a; intro W247 a M hU hgebk5 hF
        refine g1 (i := 9) (by kernel_rfl) ?_
        refine wgst hF M 0 rfl (vs := (Ev.arr v9)) (by kernel_rfl) rfl rfl rfl rfl rfl rfl rfl rfl sz_E (Ev.arr_one _) (leb rfl) ?_; clear hF M a; intro W248 a M hF
        refine wgp (i := 10) (v := .bool ((composeT (invertE q) (invertE p)).isSome)) hF (fun W' => (rn_assign rfl rfl)) rfl (by kernel_rfl) rfl rfl rfl (fin_no (by kernel_rfl)) ?_; clear hF a; intro a hF
        refine wgd (by kernel_rfl) ?_ _
        exact ⟨_, bk5, v9, hF, rfl, rfl, rfl, rfl, rfl, M.imp (((((stable_ed _ _).and (stable_ed _ _)).and (stable_tree _ _)).and (stable_ed _ _)).and (stable_ed _ _)) fun h => ⟨h.1.1.1, h.2⟩⟩
       ·skip
        obtain ⟨bk6, hbk6⟩ : ∃ g, W245.heap.size = g := ⟨_, rfl⟩
        refine wgal hF M hU hbk6 rfl rfl rfl rfl (rn_alloc rfl zc_E hbk6) ?_; clear hF M hU a; intro W249 a M hU hgebk6 hF
        refine g1 (i := 4) (by kernel_rfl) ?_
        have hc := edG_mm M (compose_top 4000 (by omega) (invertE q) (invertE p) v1 v2 _ _ riq rip biq bip M.fact.1.2 M.fact.2 M.lts)
        refine gc1 hF (rn_call2 (u := .agg (Ev.arr v1)) (u' := .agg (Ev.arr v2)) rfl rfl rfl rfl Try.call8) hc rfl rfl rfl rfl ?_; clear hF a
        rintro e W250 ⟨v9, rfl, M, hb⟩; replace hU := hU.nil hb; clear hb; refine ⟨_, rfl, fun _ => hU, ?_⟩; intro a hF
        clear hc
        revert a; refine qx 5 (.tuple #[.agg (Ev.arr v9), .bool ((composeT (invertE q) (invertE p)).isSome)]) hU rfl (by kernel_rfl) ?_; refine qp 6 (.agg (Ev.arr v9)) rfl (rn_extract rfl rfl rfl) hU rfl (by kernel_rfl) ?_; refine qp 7 (.bool ((composeT (invertE q) (invertE p)).isSome)) rfl (rn_extract rfl rfl rfl) hU rfl (by kernel_rfl) ?_; intro a hF; refine g1 (i := 9) (by kernel_rfl) ?_
        refine wgst hF M 0 rfl (vs := (Ev.arr v9)) (by kernel_rfl) rfl rfl rfl rfl rfl rfl rfl rfl sz_E (Ev.arr_one _) (leb rfl) ?_; clear hF M a; intro W251 a M hF
        refine wgp (i := 10) (v := .bool ((composeT (invertE q) (invertE p)).isSome)) hF (fun W' => (rn_assign rfl rfl)) rfl (by kernel_rfl) rfl rfl rfl (fin_no (by kernel_rfl)) ?_; clear hF a; intro a hF
        refine wgd (by kernel_rfl) ?_ _
        exact ⟨_, bk6, v9, hF, rfl, rfl, rfl, rfl, rfl, M.imp (((((stable_ed _ _).and (stable_ed _ _)).and (stable_tree _ _)).and (stable_ed _ _)).and (stable_ed _ _)) fun h => ⟨h.1.1.1, h.2⟩⟩
      ·skip
       obtain ⟨bk7, hbk7⟩ : ∃ g, W244.heap.size = g := ⟨_, rfl⟩
       refine wgal hF M hU hbk7 rfl rfl rfl rfl (rn_alloc rfl zc_E hbk7) ?_; clear hF M hU a; intro W252 a M hU hgebk7 hF
       refine g1 (i := 3) (by kernel_rfl) ?_
       have hc := edP_mm M (invert_any 4000 (by omega) p vp _ _ rp.2 bp M.fact.1.1.1.1 M.lts)
       refine gc1 hF (rn_call1 (u := .agg (Ev.arr vp)) rfl rfl rfl Try.call12) hc rfl rfl rfl rfl ?_; clear hF a
       rintro e W253 ⟨v2, rfl, M, hb⟩; replace hU := hU.nil hb; clear hb; refine ⟨_, rfl, fun _ => hU, ?_⟩; intro a hF
       clear hc
       refine g1 (i := 4) (by kernel_rfl) ?_
       have hc := edG_mm M (compose_top 4000 (by omega) (invertE q) (invertE p) v1 v2 _ _ riq rip biq bip M.fact.1.2 M.fact.2 M.lts)
       refine gc1 hF (rn_call2 (u := .agg (Ev.arr v1)) (u' := .agg (Ev.arr v2)) rfl rfl rfl rfl Try.call8) hc rfl rfl rfl rfl ?_; clear hF a
       rintro e W254 ⟨v9, rfl, M, hb⟩; replace hU := hU.nil hb; clear hb; refine ⟨_, rfl, fun _ => hU, ?_⟩; intro a hF
       clear hc
       revert a; refine qx 5 (.tuple #[.agg (Ev.arr v9), .bool ((composeT (invertE q) (invertE p)).isSome)]) hU rfl (by kernel_rfl) ?_; refine qp 6 (.agg (Ev.arr v9)) rfl (rn_extract rfl rfl rfl) hU rfl (by kernel_rfl) ?_; refine qp 7 (.bool ((composeT (invertE q) (invertE p)).isSome)) rfl (rn_extract rfl rfl rfl) hU rfl (by kernel_rfl) ?_; intro a hF; refine g1 (i := 9) (by kernel_rfl) ?_
       refine wgst hF M 0 rfl (vs := (Ev.arr v9)) (by kernel_rfl) rfl rfl rfl rfl rfl rfl rfl rfl sz_E (Ev.arr_one _) (leb rfl) ?_; clear hF M a; intro W255 a M hF
       refine wgp (i := 10) (v := .bool ((composeT (invertE q) (invertE p)).isSome)) hF (fun W' => (rn_assign rfl rfl)) rfl (by kernel_rfl) rfl rfl rfl (fin_no (by kernel_rfl)) ?_; clear hF a; intro a hF
       refine wgd (by kernel_rfl) ?_ _
       exact ⟨_, bk7, v9, hF, rfl, rfl, rfl, rfl, rfl, M.imp (((((stable_ed _ _).and (stable_ed _ _)).and (stable_tree _ _)).and (stable_ed _ _)).and (stable_ed _ _)) fun h => ⟨h.1.1.1, h.2⟩⟩
     ·skip
      obtain ⟨bk8, hbk8⟩ : ∃ g, W243.heap.size = g := ⟨_, rfl⟩
      refine wgal hF M hU hbk8 rfl rfl rfl rfl (rn_alloc rfl zc_E hbk8) ?_; clear hF M hU a; intro W256 a M hU hgebk8 hF
      refine g1 (i := 1) (by kernel_rfl) ?_
      have hc := edP_mm M (invert_any 4000 (by omega) q vq _ _ rq.2 bq M.fact.1.1.2 M.lts)
      refine gc1 hF (rn_call1 (u := .agg (Ev.arr vq)) rfl rfl rfl Try.call12) hc rfl rfl rfl rfl ?_; clear hF a
      rintro e W257 ⟨v1, rfl, M, hb⟩; replace hU := hU.nil hb; clear hb; refine ⟨_, rfl, fun _ => hU, ?_⟩; intro a hF
      clear hc
      refine g1 (i := 3) (by kernel_rfl) ?_
      have hc := edP_mm M (invert_any 4000 (by omega) p vp _ _ rp.2 bp M.fact.1.1.1.1 M.lts)
      refine gc1 hF (rn_call1 (u := .agg (Ev.arr vp)) rfl rfl rfl Try.call12) hc rfl rfl rfl rfl ?_; clear hF a
      rintro e W258 ⟨v2, rfl, M, hb⟩; replace hU := hU.nil hb; clear hb; refine ⟨_, rfl, fun _ => hU, ?_⟩; intro a hF
      clear hc
      refine g1 (i := 4) (by kernel_rfl) ?_
      have hc := edG_mm M (compose_top 4000 (by omega) (invertE q) (invertE p) v1 v2 _ _ riq rip biq bip M.fact.1.2 M.fact.2 M.lts)
      refine gc1 hF (rn_call2 (u := .agg (Ev.arr v1)) (u' := .agg (Ev.arr v2)) rfl rfl rfl rfl Try.call8) hc rfl rfl rfl rfl ?_; clear hF a
      rintro e W259 ⟨v9, rfl, M, hb⟩; replace hU := hU.nil hb; clear hb; refine ⟨_, rfl, fun _ => hU, ?_⟩; intro a hF
      clear hc
      revert a; refine qx 5 (.tuple #[.agg (Ev.arr v9), .bool ((composeT (invertE q) (invertE p)).isSome)]) hU rfl (by kernel_rfl) ?_; refine qp 6 (.agg (Ev.arr v9)) rfl (rn_extract rfl rfl rfl) hU rfl (by kernel_rfl) ?_; refine qp 7 (.bool ((composeT (invertE q) (invertE p)).isSome)) rfl (rn_extract rfl rfl rfl) hU rfl (by kernel_rfl) ?_; intro a hF; refine g1 (i := 9) (by kernel_rfl) ?_
      refine wgst hF M 0 rfl (vs := (Ev.arr v9)) (by kernel_rfl) rfl rfl rfl rfl rfl rfl rfl rfl sz_E (Ev.arr_one _) (leb rfl) ?_; clear hF M a; intro W260 a M hF
      refine wgp (i := 10) (v := .bool ((composeT (invertE q) (invertE p)).isSome)) hF (fun W' => (rn_assign rfl rfl)) rfl (by kernel_rfl) rfl rfl rfl (fin_no (by kernel_rfl)) ?_; clear hF a; intro a hF
      refine wgd (by kernel_rfl) ?_ _
      exact ⟨_, bk8, v9, hF, rfl, rfl, rfl, rfl, rfl, M.imp (((((stable_ed _ _).and (stable_ed _ _)).and (stable_tree _ _)).and (stable_ed _ _)).and (stable_ed _ _)) fun h => ⟨h.1.1.1, h.2⟩⟩
    clear hF M a
    rintro a W ⟨f, gd, vd, hF, hf5, hf7, hf8, hf9, hf10, M⟩
    refine nm_then ?_
    rw [← hsm] at hf10
    generalize hoc : (composeT p q).isSome = oc at *
    generalize hec : (composeT p q).getD nilE = ec at *; generalize hed : (composeT (invertE q) (invertE p)).getD nilE = ed at *
    replace hF := (((((hF.same (d := 5) hf5).same (d := 7) hf7).same (d := 8) hf8).same (d := 9) hf9).same (d := 10) hf10)
    cases oc with
    | false =>
     refine wp_seq ?_
     refine wrgs rfl ?_; revert a; refine qm (.bool false) rfl ?_; refine qm (.bool false) rfl ?_; refine qV (.bool false) (rn_neqB rfl rfl rfl Try.underlying4 rfl) rfl ?_; intro a hF; refine wl0 ?_; refine cd_false hF rfl rfl (wp_skip (nm_then ?_))
     refine wp_seq ?_
     refine wrgs rfl ?_; revert a; refine qm (.bool false) rfl ?_; refine qV (.bool true) (rn_not rfl rfl rfl) rfl ?_; refine qm (.bool true) rfl ?_; refine qi rfl ?_; refine qi rfl ?_; refine qi rfl ?_; refine qV (.bool true) (rn_pick rfl rfl rfl) rfl ?_; refine qm (.bool true) rfl ?_; refine qi rfl ?_; refine qi rfl ?_; refine qi rfl ?_; refine qV (.bool true) (rn_pick rfl rfl rfl) rfl ?_; intro a hF; refine wl0 ?_; refine cd_true hF rfl rfl ?_; refine wrgs rfl ?_
     refine wlc hF (rn_call0 rfl rfl Try.call7) (awake_mm M) rfl rfl rfl ?_; clear hF a
     rintro e9 W88 ⟨rfl, M, _⟩; refine ⟨_, rfl, ?_⟩; intro a hF
     revert a; refine qm (.bool true) rfl ?_; intro a hF; refine wl0 ?_
     refine wp_ret (rt_then ?_)
     exact res_slot Try.results4 rfl hF ⟨rfl, M.bel⟩
    | true =>
     refine wp_seq ?_
     refine wrgs rfl ?_; revert a; refine qm (.bool true) rfl ?_; refine qm (.bool true) rfl ?_; refine qV (.bool false) (rn_neqB rfl rfl rfl Try.underlying4 rfl) rfl ?_; intro a hF; refine wl0 ?_; refine cd_false hF rfl rfl (wp_skip (nm_then ?_))
     refine wp_seq ?_
     refine wrgs rfl ?_; revert a; refine qm (.bool true) rfl ?_; refine qV (.bool false) (rn_not rfl rfl rfl) rfl ?_; refine qm (.bool false) rfl ?_; refine qg (.agg (Ev.arr v7)) (rn_load rfl rfl (ld_E rfl (M.b 1 rfl).whole)) rfl ?_; intro a hF
     refine lgc hF (rn_call2 (u := .agg (Ev.arr v7)) (u' := .bool true) rfl rfl rfl rfl Try.call9) (anyB_mm M (fine_any ec v7 true _ _ M.fact.1.2 M.lts)) rfl rfl rfl rfl rfl rfl ?_; clear hF a
     rintro e9 W15 ⟨b9, rfl, M, _⟩; refine ⟨_, rfl, ?_⟩; intro a hF
     cases b9 with
     | false =>
      revert a; refine qg (.bool true) (rn_not rfl rfl rfl) rfl ?_; refine qV (.bool true) (rn_pick rfl rfl rfl) rfl ?_; refine qm (.bool true) rfl ?_; refine qi rfl ?_; refine qi rfl ?_; refine qi rfl ?_; refine qV (.bool true) (rn_pick rfl rfl rfl) rfl ?_; intro a hF; refine wl0 ?_; refine cd_true hF rfl rfl ?_; refine wrgs rfl ?_
      refine wlc hF (rn_call0 rfl rfl Try.call7) (awake_mm M) rfl rfl rfl ?_; clear hF a
      rintro e9 W88 ⟨rfl, M, _⟩; refine ⟨_, rfl, ?_⟩; intro a hF
      revert a; refine qm (.bool true) rfl ?_; intro a hF; refine wl0 ?_
      refine wp_ret (rt_then ?_)
      exact res_slot Try.results4 rfl hF ⟨rfl, M.bel⟩
     | true =>
      revert a; refine qg (.bool false) (rn_not rfl rfl rfl) rfl ?_; refine qV (.bool false) (rn_pick rfl rfl rfl) rfl ?_; refine qm (.bool false) rfl ?_; refine qg (.agg (Ev.arr vd)) (rn_load rfl rfl (ld_E rfl (M.b 0 rfl).whole)) rfl ?_; intro a hF
      refine lgc hF (rn_call2 (u := .agg (Ev.arr vd)) (u' := .bool true) rfl rfl rfl rfl Try.call9) (anyB_mm M (fine_any ed vd true _ _ M.fact.2 M.lts)) rfl rfl rfl rfl rfl rfl ?_; clear hF a
      rintro e9 W16 ⟨b9, rfl, M, _⟩; refine ⟨_, rfl, ?_⟩; intro a hF
      cases b9 with
      | false =>
       revert a; refine qg (.bool true) (rn_not rfl rfl rfl) rfl ?_; refine qV (.bool true) (rn_pick rfl rfl rfl) rfl ?_; intro a hF; refine wl0 ?_; refine cd_true hF rfl rfl ?_; refine wrgs rfl ?_
       refine wlc hF (rn_call0 rfl rfl Try.call7) (awake_mm M) rfl rfl rfl ?_; clear hF a
       rintro e9 W88 ⟨rfl, M, _⟩; refine ⟨_, rfl, ?_⟩; intro a hF
       revert a; refine qm (.bool true) rfl ?_; intro a hF; refine wl0 ?_
       refine wp_ret (rt_then ?_)
       exact res_slot Try.results4 rfl hF ⟨rfl, M.bel⟩
      | true =>
       revert a; refine qg (.bool false) (rn_not rfl rfl rfl) rfl ?_; refine qV (.bool false) (rn_pick rfl rfl rfl) rfl ?_; intro a hF; refine wl0 ?_; refine cd_false hF rfl rfl (wp_skip (nm_then ?_))
       have hsame := hsa rfl
       refine wp_seq (wp_cut (fun a W => ∃ (f : Nat → Value) (gd9 : Nat) (vd9 : Tv), Fr a 83 f ∧ f 5 = .pointer (some ⟨bk3, 0, none⟩) ∧ f 9 = .pointer (some ⟨gd, 0, none⟩) ∧ f 11 = .pointer (some ⟨gd9, 0, none⟩) ∧ f 12 = .bool (applyS (invertE ec) t).isSome ∧ Mm S w W (⟨gd9, 25, vd9.arr⟩ :: ⟨gd, 30, (Ev.arr vd)⟩ :: ⟨bk4, 30, (Ev.arr v7)⟩ :: ⟨bk3, 25, (Tv.arr tv)⟩ :: ⟨bk2, 30, (Ev.arr vq)⟩ :: ⟨bk1, 30, (Ev.arr vp)⟩ :: []) [] (fun W S => ((((EdAt W S p vp ∧ EdAt W S q vq) ∧ TreeAt W S t tv) ∧ EdAt W S ec v7) ∧ EdAt W S ed vd) ∧ TreeAt W S ((applyS (invertE ec) t).getD nilT) vd9)) ?_ ?_)
       ·skip
        refine wdr (Un (rows ([])) W16.drew) (fun i => Nat.beq i 8) prog_mixed ?_
        have M0 := M.drew' _ rfl
        generalize W16.drew = W501 at *
        have M := M0; have hU := Un.refl (rows ([])) W501
        revert a; refine qt 0 (.agg (Ev.arr v7)) rfl (fun W' hw => (rn_load rfl rfl (ld_E rfl (M0.ub hw 1 rfl).whole))) hU rfl (by kernel_rfl) ?_; refine qt 2 (.agg (Tv.arr tv)) rfl (fun W' hw => (rn_load rfl rfl (ld_T rfl (M0.ub hw 2 rfl).whole))) hU rfl (by kernel_rfl) ?_; intro a hF
        refine g2 (i := 1) (j := 7) (by kernel_rfl) ?_ ?_
        ·skip
         have hc := edP_mm M (invert_any 73536 (by omega) ec v7 _ _ hC.1.2 hC.2 M.fact.1.2 M.lts)
         refine gc1 hF (rn_call1 (u := .agg (Ev.arr v7)) rfl rfl rfl Try.call12) hc rfl rfl rfl rfl ?_; clear hF a
         rintro e W502 ⟨v1, rfl, M, hb⟩; replace hU := hU.nil hb; clear hb; refine ⟨_, rfl, fun _ => hU, ?_⟩; intro a hF
         clear hc
         refine g2 (i := 3) (j := 7) (by kernel_rfl) ?_ ?_
         ·skip
          have hc := trG_mm M (apply_top 73536 4000 (by omega) (invertE ec) t v1 tv _ _ (invert_right hC.1) (bdE_normal (neat_turned hC.1.2) (bdE_turned hC.2)) (bdT_mono (by omega) bt) M.fact.2 M.fact.1.1.1.2 M.lts)
          refine gc1 hF (rn_call2 (u := .agg (Ev.arr v1)) (u' := .agg (Tv.arr tv)) rfl rfl rfl rfl Try.call10) hc rfl rfl rfl rfl ?_; clear hF a
          rintro e W503 ⟨v11, rfl, M, hb⟩; replace hU := hU.nil hb; clear hb; refine ⟨_, rfl, fun _ => hU, ?_⟩; intro a hF
          clear hc
          revert a; refine qx 4 (.tuple #[.agg (Tv.arr v11), .bool ((applyS (invertE ec) t).isSome)]) hU rfl (by kernel_rfl) ?_; refine qp 5 (.agg (Tv.arr v11)) rfl (rn_extract rfl rfl rfl) hU rfl (by kernel_rfl) ?_; refine qp 6 (.bool ((applyS (invertE ec) t).isSome)) rfl (rn_extract rfl rfl rfl) hU rfl (by kernel_rfl) ?_; intro a hF; refine g1 (i := 7) (by kernel_rfl) ?_
          obtain ⟨bk9, hbk9⟩ : ∃ g, W503.heap.size = g := ⟨_, rfl⟩
          refine wgal hF M hU hbk9 rfl rfl rfl rfl (rn_alloc rfl zc_T hbk9) ?_; clear hF M hU a; intro W504 a M hU hgebk9 hF
          refine g1 (i := 8) (by kernel_rfl) ?_
          refine wgst hF M 0 rfl (vs := (Tv.arr v11)) (by kernel_rfl) rfl rfl rfl rfl rfl rfl rfl rfl sz_T (Tv.arr_one _) (leb rfl) ?_; clear hF M a; intro W505 a M hF
          refine wgp (i := 9) (v := .bool ((applyS (invertE ec) t).isSome)) hF (fun W' => (rn_assign rfl rfl)) rfl (by kernel_rfl) rfl rfl rfl (fin_no (by kernel_rfl)) ?_; clear hF a; intro a hF
          refine wgd (by kernel_rfl) ?_ _
          exact ⟨_, bk9, v11, hF, rfl, rfl, rfl, rfl, M.imp ((((((stable_ed _ _).and (stable_ed _ _)).and (stable_tree _ _)).and (stable_ed _ _)).and (stable_ed _ _)).and (stable_tree _ _)) fun h => ⟨h.1.1, h.2⟩⟩
         ·skip
          obtain ⟨bk10, hbk10⟩ : ∃ g, W502.heap.size = g := ⟨_, rfl⟩
          refine wgal hF M hU hbk10 rfl rfl rfl rfl (rn_alloc rfl zc_T hbk10) ?_; clear hF M hU a; intro W506 a M hU hgebk10 hF
          refine g1 (i := 3) (by kernel_rfl) ?_
          have hc := trG_mm M (apply_top 73536 4000 (by omega) (invertE ec) t v1 tv _ _ (invert_right hC.1) (bdE_normal (neat_turned hC.1.2) (bdE_turned hC.2)) (bdT_mono (by omega) bt) M.fact.2 M.fact.1.1.1.2 M.lts)
          refine gc1 hF (rn_call2 (u := .agg (Ev.arr v1)) (u' := .agg (Tv.arr tv)) rfl rfl rfl rfl Try.call10) hc rfl rfl rfl rfl ?_; clear hF a
          rintro e W507 ⟨v11, rfl, M, hb⟩; replace hU := hU.nil hb; clear hb; refine ⟨_, rfl, fun _ => hU, ?_⟩; intro a hF
          clear hc
          revert a; refine qx 4 (.tuple #[.agg (Tv.arr v11), .bool ((applyS (invertE ec) t).isSome)]) hU rfl (by kernel_rfl) ?_; refine qp 5 (.agg (Tv.arr v11)) rfl (rn_extract rfl rfl rfl) hU rfl (by kernel_rfl) ?_; refine qp 6 (.bool ((applyS (invertE ec) t).isSome)) rfl (rn_extract rfl rfl rfl) hU rfl (by kernel_rfl) ?_; intro a hF; refine g1 (i := 8) (by kernel_rfl) ?_
          refine wgst hF M 0 rfl (vs := (Tv.arr v11)) (by kernel_rfl) rfl rfl rfl rfl rfl rfl rfl rfl sz_T (Tv.arr_one _) (leb rfl) ?_; clear hF M a; intro W508 a M hF
          refine wgp (i := 9) (v := .bool ((applyS (invertE ec) t).isSome)) hF (fun W' => (rn_assign rfl rfl)) rfl (by kernel_rfl) rfl rfl rfl (fin_no (by kernel_rfl)) ?_; clear hF a; intro a hF
          refine wgd (by kernel_rfl) ?_ _
          exact ⟨_, bk10, v11, hF, rfl, rfl, rfl, rfl, M.imp ((((((stable_ed _ _).and (stable_ed _ _)).and (stable_tree _ _)).and (stable_ed _ _)).and (stable_ed _ _)).and (stable_tree _ _)) fun h => ⟨h.1.1, h.2⟩⟩
        ·skip
         obtain ⟨bk11, hbk11⟩ : ∃ g, W501.heap.size = g := ⟨_, rfl⟩
         refine wgal hF M hU hbk11 rfl rfl rfl rfl (rn_alloc rfl zc_T hbk11) ?_; clear hF M hU a; intro W509 a M hU hgebk11 hF
         refine g1 (i := 1) (by kernel_rfl) ?_
         have hc := edP_mm M (invert_any 73536 (by omega) ec v7 _ _ hC.1.2 hC.2 M.fact.1.2 M.lts)
         refine gc1 hF (rn_call1 (u := .agg (Ev.arr v7)) rfl rfl rfl Try.call12) hc rfl rfl rfl rfl ?_; clear hF a
         rintro e W510 ⟨v1, rfl, M, hb⟩; replace hU := hU.nil hb; clear hb; refine ⟨_, rfl, fun _ => hU, ?_⟩; intro a hF
         clear hc
         refine g1 (i := 3) (by kernel_rfl) ?_
         have hc := trG_mm M (apply_top 73536 4000 (by omega) (invertE ec) t v1 tv _ _ (invert_right hC.1) (bdE_normal (neat_turned hC.1.2) (bdE_turned hC.2)) (bdT_mono (by omega) bt) M.fact.2 M.fact.1.1.1.2 M.lts)
         refine gc1 hF (rn_call2 (u := .agg (Ev.arr v1)) (u' := .agg (Tv.arr tv)) rfl rfl rfl rfl Try.call10) hc rfl rfl rfl rfl ?_; clear hF a
         rintro e W511 ⟨v11, rfl, M, hb⟩; replace hU := hU.nil hb; clear hb; refine ⟨_, rfl, fun _ => hU, ?_⟩; intro a hF
         clear hc
         revert a; refine qx 4 (.tuple #[.agg (Tv.arr v11), .bool ((applyS (invertE ec) t).isSome)]) hU rfl (by kernel_rfl) ?_; refine qp 5 (.agg (Tv.arr v11)) rfl (rn_extract rfl rfl rfl) hU rfl (by kernel_rfl) ?_; refine qp 6 (.bool ((applyS (invertE ec) t).isSome)) rfl (rn_extract rfl rfl rfl) hU rfl (by kernel_rfl) ?_; intro a hF; refine g1 (i := 8) (by kernel_rfl) ?_
         refine wgst hF M 0 rfl (vs := (Tv.arr v11)) (by kernel_rfl) rfl rfl rfl rfl rfl rfl rfl rfl sz_T (Tv.arr_one _) (leb rfl) ?_; clear hF M a; intro W512 a M hF
         refine wgp (i := 9) (v := .bool ((applyS (invertE ec) t).isSome)) hF (fun W' => (rn_assign rfl rfl)) rfl (by kernel_rfl) rfl rfl rfl (fin_no (by kernel_rfl)) ?_; clear hF a; intro a hF
         refine wgd (by kernel_rfl) ?_ _
         exact ⟨_, bk11, v11, hF, rfl, rfl, rfl, rfl, M.imp ((((((stable_ed _ _).and (stable_ed _ _)).and (stable_tree _ _)).and (stable_ed _ _)).and (stable_ed _ _)).and (stable_tree _ _)) fun h => ⟨h.1.1, h.2⟩⟩
       clear hF M a
       rintro a W ⟨f, g11, v11, hF, hf5, hf9, hf11, hf12, M⟩
       refine nm_then ?_
       replace hF := ((((hF.same (d := 5) hf5).same (d := 9) hf9).same (d := 11) hf11).same (d := 12) hf12)
       have hc := trG_mm M (apply_top 73536 4000 (by omega) ed t vd tv _ _ hD.1 hD.2 (bdT_mono (by omega) bt) M.fact.1.2 M.fact.1.1.1.2 M.lts)
       refine wrgs rfl ?_; revert a; refine qV (.agg (Ev.arr vd)) (rn_load rfl rfl (ld_E rfl (M.b 1 rfl).whole)) rfl ?_; refine qV (.agg (Tv.arr tv)) (rn_load rfl rfl (ld_T rfl (M.b 3 rfl).whole)) rfl ?_; intro a hF
       refine wlc hF (rn_call2 (u := .agg (Ev.arr vd)) (u' := .agg (Tv.arr tv)) rfl rfl rfl rfl Try.call10) hc rfl rfl rfl ?_; clear hF a hc
       rintro e9 W17 ⟨v13, rfl, M, _⟩; refine ⟨_, rfl, ?_⟩; intro a hF
       revert a; refine qm (.tuple #[.agg (Tv.arr v13), .bool ((applyS ed t).isSome)]) rfl ?_; refine qV (.agg (Tv.arr v13)) (rn_extract rfl rfl rfl) rfl ?_; refine qV (.bool ((applyS ed t).isSome)) (rn_extract rfl rfl rfl) rfl ?_; intro a hF
       obtain ⟨bk12, hbk12⟩ : ∃ g, W17.heap.size = g := ⟨_, rfl⟩
       refine wlal hF M hbk12 rfl rfl rfl (rn_alloc rfl zc_T hbk12) ?_; clear hF M a; intro W271 a M hF
       refine wlst hF M 0 rfl (vs := (Tv.arr v13)) rfl rfl rfl rfl rfl rfl rfl sz_T (Tv.arr_one _) (leb rfl) ?_; clear hF M a; intro W272 a M hF
       revert a; refine qm (.bool ((applyS ed t).isSome)) rfl ?_; intro a hF; refine wl0 ?_
       rw [← hsame] at M hF
       generalize (applyS (invertE ec) t).isSome = os at *
       refine wrgs rfl ?_; revert a; refine qm (.bool os) rfl ?_; refine qm (.bool os) rfl ?_; refine qV (.bool true) (rn_eqlB rfl rfl rfl Try.underlying4 (beq_self_eq_true _)) rfl ?_; refine qm (.bool true) rfl ?_; refine qg (.agg (Tv.arr v11)) (rn_load rfl rfl (ld_T rfl (M.b 1 rfl).whole)) rfl ?_; refine qg (.agg (Tv.arr v13)) (rn_load rfl rfl (ld_T rfl (M.b 0 rfl).whole)) rfl ?_; intro a hF
       refine lgc hF (rn_call2 (u := .agg (Tv.arr v11)) (u' := .agg (Tv.arr v13)) rfl rfl rfl rfl Try.call11) (same_mm M M.fact.1.2 M.fact.2) rfl rfl rfl rfl rfl rfl ?_; clear hF a
       rintro e9 W18 ⟨rfl, M, _⟩; refine ⟨_, rfl, ?_⟩; intro a hF
       revert a; refine qV (.bool true) (rn_pick rfl rfl rfl) rfl ?_; refine qm (.bool true) rfl ?_; intro a hF
       refine lgc hF (rn_call0 rfl rfl Try.call7) (awake_mm M) rfl rfl rfl rfl rfl rfl ?_; clear hF a
       rintro e9 W88 ⟨rfl, M, _⟩; refine ⟨_, rfl, ?_⟩; intro a hF
       revert a; refine qV (.bool true) (rn_pick rfl rfl rfl) rfl ?_; refine qm (.bool true) rfl ?_; intro a hF; refine wl0 ?_
       refine wp_ret ?_
       exact res_slot Try.results4 rfl hF ⟨rfl, M.bel⟩
theorem associates_walk (p : Ed) (vp : Ev) (q : Ed) (vq : Ev) (r : Ed) (vr : Ev) (t : T) (tv : Tv) (W : World) (ep : EdAt W (fun b => b < W.heap.size) p vp) (eq : EdAt W (fun b => b < W.heap.size) q vq) (er : EdAt W (fun b => b < W.heap.size) r vr) (eT : TreeAt W (fun b => b < W.heap.size) t tv) :
  Calls Try.prog 3 #[.agg vp.arr, .agg vq.arr, .agg vr.arr, .agg tv.arr] W (fun e w' => e = .returned (.bool true) ∧ Below W.heap.size W w') := associates_any p q r t vp vq vr tv _ W ep eq er eT fun _ h => h
theorem converse_walk (p : Ed) (vp : Ev) (q : Ed) (vq : Ev) (t : T) (tv : Tv) (W : World) (ep : EdAt W (fun b => b < W.heap.size) p vp) (eq : EdAt W (fun b => b < W.heap.size) q vq) (eT : TreeAt W (fun b => b < W.heap.size) t tv) :
  Calls Try.prog 4 #[.agg vp.arr, .agg vq.arr, .agg tv.arr] W (fun e w' => e = .returned (.bool true) ∧ Below W.heap.size W w') := converse_any p q t vp vq tv _ W ep eq eT fun _ h => h
end Go.Proofs.Ytbmjiokjigkdnaa
