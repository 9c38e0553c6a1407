/-
  Part I of the proofs of TopAssociates and TopConverse.
-/
import Derived.Test.YtbmjiokjigkdnaaZH
set_option linter.unusedVariables false
set_option linter.unusedSimpArgs false
namespace Go.Proofs.Ytbmjiokjigkdnaa
open Go.RowKit Go.Proofs.Ytbmjiokjigkdnaa.Top
def BothH (B N : Nat) : Prop := ∀ (p q : Ed) (vp vq : Ev) (S : Nat → Prop) (w : World), dE p ≤ N → dE q ≤ N → rightE p → rightE q → bdE B p → bdE B q → EdAt w S p vp → EdAt w S q vq → (∀ b, S b → b < w.heap.size) →
  Calls Try.prog 18 #[.agg vp.arr, .agg vq.arr] w (EdO (bothS N p q) S w)
def PcF (u : List Opn) (v : Ov) (put : Bool) (W : World) (S : Nat → Prop) : Prop := (put = false ∧ u = []) ∨ (put = true ∧ ∃ o, u = [o] ∧ OpAt W S o v)
theorem stable_pcf (u : List Opn) (v : Ov) (put : Bool) : Stable (PcF u v put) := ⟨fun h hk => h.imp id fun ⟨h1, o, h2, h3⟩ => ⟨h1, o, h2, h3.keep hk⟩, fun h hS => h.imp id fun ⟨h1, o, h2, h3⟩ => ⟨h1, o, h2, h3.mono hS⟩⟩
def PcO (r : Option (List Opn)) (S : Nat → Prop) (w : World) (e : Ending) (w' : World) : Prop := ∃ (v : Ov) (put : Bool), e = .returned (.tuple #[.agg v.arr, .bool put, .bool r.isSome]) ∧ Below w.heap.size w w' ∧ ∀ u, r = some u → PcF u v put w' (Grow S w w')
theorem PcO.one {r : Option (List Opn)} {o : Opn} {v : Ov} {S : Nat → Prop} {w W : World} {l : List Box} {rr : List Row} {F : World → (Nat → Prop) → Prop} (M : Mm S w W l rr F) (hr : r = some [o]) (h : OpAt W (Grow S w W) o v) : PcO r S w (.returned (.tuple #[.agg v.arr, .bool true, .bool true])) W := by
 subst hr
 exact ⟨v, true, rfl, M.bel, fun u hu => by injection hu with hu; subst hu; exact .inr ⟨rfl, o, rfl, h⟩⟩
theorem PcO.none_ {r : Option (List Opn)} {S : Nat → Prop} {w W : World} {l : List Box} {rr : List Row} {F : World → (Nat → Prop) → Prop} {v : Ov} (M : Mm S w W l rr F) (hr : r = none) : PcO r S w (.returned (.tuple #[.agg v.arr, .bool false, .bool false])) W := by
 subst hr
 exact ⟨v, false, rfl, M.bel, fun u hu => by cases hu⟩
theorem PcO.zero {r : Option (List Opn)} {S : Nat → Prop} {w W : World} {l : List Box} {rr : List Row} {F : World → (Nat → Prop) → Prop} {v : Ov} (M : Mm S w W l rr F) (hr : r = some []) : PcO r S w (.returned (.tuple #[.agg v.arr, .bool false, .bool true])) W := by
 subst hr
 exact ⟨v, false, rfl, M.bel, fun u hu => by injection hu with hu; subst hu; exact .inl ⟨rfl, rfl⟩⟩
theorem PcO.opt {α : Type} {d : Option α} {g : α → Opn} {r : Option (List Opn)} {v : Ov} {S : Nat → Prop} {w W : World} {l : List Box} {rr : List Row} {F : World → (Nat → Prop) → Prop} (M : Mm S w W l rr F) (hr : r = d.map fun t => [g t]) (h : ∀ t, d = some t → OpAt W (Grow S w W) (g t) v) : PcO r S w (.returned (.tuple #[.agg v.arr, .bool true, .bool d.isSome])) W := by
 subst hr
 refine ⟨v, true, by rw [Option.isSome_map], M.bel, fun u hu => ?_⟩
 obtain ⟨t, ht, rfl⟩ := Option.map_eq_some_iff.1 hu
 exact .inr ⟨rfl, _, rfl, h t ht⟩
theorem okO_e {lk : Int} {o : Opn} (h : okO lk o) (k : o.kindO = 3) : okE o.eO := by
 obtain ⟨kind, n, l, e⟩ := o
 exact (h.2.2.2.2 k).2.2.1
theorem size_l {o : Opn} (h : neatS o) (k : o.kindO = 1 ∨ o.kindO = 2) : sizeS o = o.lO.length := by
 obtain ⟨kind, n, l, e⟩ := o
 rw [neatS] at h
 have k : kind = 1 ∨ kind = 2 := k
 have := (h.2.2.2 k).1
 rw [sizeS, if_neg (by omega)]
 show n.toNat + l.length = l.length
 omega
theorem size_3 {o : Opn} (k : o.kindO = 3) : sizeS o = 1 := by
 obtain ⟨kind, n, l, e⟩ := o
 rw [sizeS, if_pos (show kind = 3 from k)]
theorem Mm.oneTree {S : Nat → Prop} {w W : World} {l : List Box} {r : List Row} {F : World → (Nat → Prop) → Prop} {g : Nat} {v : Tv} (M : Mm S w W (⟨g, 25, v.arr⟩ :: l) r F) : Mm S w W l r (fun W S => F W S ∧ RowAt W S (some ⟨g, 0, none⟩) 1 1 3 2513169434843 (kidCells [v])) := by
 have M2 := (M.boxRow (size := 3) rfl (by decide) (by decide)).done 0 (few := 2513169434843) rfl (by show (1 : Nat) ≤ _; omega)
 exact M2.unrow
theorem piece_any (B f : Nat) (hB : 2 * B ≤ 1000000000) (ih : BothH B f) (lk : Int) (x : Piece) (pv : Pv) (S : Nat → Prop) (w : World) (hx : allP (fun o => goodO f lk o ∧ bdo B o) x) (h : PcAt w S x pv) (hS : ∀ b, S b → b < w.heap.size) :
  Calls Try.prog 50 #[.agg pv.arr] w (PcO (pieceS (bothS f) x) S w) := by
 cases x with
 | first p =>
  have hof : pv.of = 1 := h.1
  have hp : OpAt w S p pv.p := h.2
  have M := Mm.begin hS (stable_op _ _) hp
  clear h hp
  refine calls_fr (xs := [.agg pv.arr]) Try.func50 rfl Try.ntmps50 rfl (fun a hF => ?_)
  refine wrgs rfl ?_
  obtain ⟨bk1, hbk1⟩ : ∃ g, w.heap.size = g := ⟨_, rfl⟩
  refine wlal hF M hbk1 rfl rfl rfl (rn_box (cs := (Pv.arr pv)) rfl rfl hbk1) ?_; clear hF M a; intro W1 a M hF
  obtain ⟨bk2, hbk2⟩ : ∃ g, W1.heap.size = g := ⟨_, rfl⟩
  refine wlal hF M hbk2 rfl rfl rfl (rn_alloc rfl zc_O hbk2) ?_; clear hF M a; intro W2 a M hF
  revert a; refine qm (.bool false) rfl ?_; refine qm (.bool false) rfl ?_; intro a hF; refine wl0 ?_
  generalize bk2 = gr at *; generalize bk1 = gp at *
  refine wp_seq (wp_block ?_)
  refine wrgs rfl ?_; revert a; refine qf gp 0 fo_P0 rfl rfl ?_; refine qV (.int .i64 pv.of) (rn_load rfl rfl (ld_one one_int ((M.b 1 rfl).cell 0))) rfl ?_; refine qV (.bool true) (rn_eql rfl rfl rfl (by rw [hof]; rfl)) rfl ?_; refine qm (.bool true) rfl ?_; refine qi rfl ?_; refine qi rfl ?_; refine qi rfl ?_; refine qi rfl ?_; intro a hF; refine lgs hF rfl rfl rfl (.inr rfl) rfl ?_; clear hF a; intro a hF; refine lgs hF rfl rfl rfl (.inr rfl) rfl ?_; clear hF a; intro a hF; refine lgs hF rfl rfl rfl (.inr rfl) rfl ?_; clear hF a; intro a hF; refine lgs hF rfl rfl rfl (.inr rfl) rfl ?_; clear hF a; intro a hF; revert a; refine qi rfl ?_; refine qV (.bool true) (rn_pick rfl rfl rfl) rfl ?_; refine qm (.bool true) rfl ?_; intro a hF; refine wl0 ?_; refine cd_true hF rfl rfl ?_; refine wrgs rfl ?_; revert a; refine qf gp 1 fo_P1 rfl rfl ?_; refine qV (.agg (Ov.arr pv.p)) (rn_load rfl rfl (ld_O (cs := (Ov.arr pv.p)) rfl ((M.b 1 rfl).range 1 _ (sub_of rfl)))) rfl ?_; intro a hF
  refine wlst hF M 0 rfl (vs := (Ov.arr pv.p)) rfl rfl rfl rfl rfl rfl rfl sz_O (Ov.arr_one _) (leb rfl) ?_; clear hF M a; intro W3 a M hF
  revert a; refine qm (.bool true) rfl ?_; refine qm (.bool true) rfl ?_; intro a hF; refine wl0 ?_
  refine wp_ret (?_ : bodyPost _ _ _ .ret _ _)
  exact res_cell2 Try.results50 rfl rfl rfl hF rfl (ld_O rfl (M.b 0 rfl).whole) (PcO.one M rfl M.grown)
 | second q =>
  have hof : pv.of = 2 := h.1
  have hq : OpAt w S q pv.q := h.2
  have M := Mm.begin hS (stable_op _ _) hq
  clear h hq
  refine calls_fr (xs := [.agg pv.arr]) Try.func50 rfl Try.ntmps50 rfl (fun a hF => ?_)
  refine wrgs rfl ?_
  obtain ⟨bk1, hbk1⟩ : ∃ g, w.heap.size = g := ⟨_, rfl⟩
  refine wlal hF M hbk1 rfl rfl rfl (rn_box (cs := (Pv.arr pv)) rfl rfl hbk1) ?_; clear hF M a; intro W1 a M hF
  obtain ⟨bk2, hbk2⟩ : ∃ g, W1.heap.size = g := ⟨_, rfl⟩
  refine wlal hF M hbk2 rfl rfl rfl (rn_alloc rfl zc_O hbk2) ?_; clear hF M a; intro W2 a M hF
  revert a; refine qm (.bool false) rfl ?_; refine qm (.bool false) rfl ?_; intro a hF; refine wl0 ?_
  generalize bk2 = gr at *; generalize bk1 = gp at *
  refine wp_seq (wp_block ?_)
  refine wrgs rfl ?_; revert a; refine qf gp 0 fo_P0 rfl rfl ?_; refine qV (.int .i64 pv.of) (rn_load rfl rfl (ld_one one_int ((M.b 1 rfl).cell 0))) rfl ?_; refine qV (.bool false) (rn_eql rfl rfl rfl (by rw [hof]; rfl)) rfl ?_; refine qm (.bool false) rfl ?_; refine qg (.pointer (some ⟨gp, 0, none⟩)) (rn_field (q := 0) rfl rfl fo_P0 rfl) rfl ?_; refine qg (.int .i64 pv.of) (rn_load rfl rfl (ld_one one_int ((M.b 1 rfl).cell 0))) rfl ?_; refine qg (.bool false) (rn_eql rfl rfl rfl (by rw [hof]; rfl)) rfl ?_; refine qn (.bool false) rfl ?_; refine qi rfl ?_; refine qi rfl ?_; refine qi rfl ?_; refine qi rfl ?_; refine qg (.bool false) (rn_pick rfl rfl rfl) rfl ?_; refine qV (.bool false) (rn_pick rfl rfl rfl) rfl ?_; refine qm (.bool false) rfl ?_; intro a hF; refine wl0 ?_; refine cd_false hF rfl rfl ?_; refine wrgs rfl ?_; revert a; refine qf gp 0 fo_P0 rfl rfl ?_; refine qV (.int .i64 pv.of) (rn_load rfl rfl (ld_one one_int ((M.b 1 rfl).cell 0))) rfl ?_; refine qV (.bool true) (rn_eql rfl rfl rfl (by rw [hof]; rfl)) rfl ?_; refine qm (.bool true) rfl ?_; refine qi rfl ?_; refine qi rfl ?_; refine qi rfl ?_; refine qi rfl ?_; refine qV (.bool true) (rn_pick rfl rfl rfl) rfl ?_; refine qm (.bool true) rfl ?_; intro a hF; refine wl0 ?_; refine cd_true hF rfl rfl ?_; refine wrgs rfl ?_; revert a; refine qf gp 15 fo_P2 rfl rfl ?_; refine qV (.agg (Ov.arr pv.q)) (rn_load rfl rfl (ld_O (cs := (Ov.arr pv.q)) rfl ((M.b 1 rfl).range 15 _ (sub_of rfl)))) rfl ?_; intro a hF
  refine wlst hF M 0 rfl (vs := (Ov.arr pv.q)) rfl rfl rfl rfl rfl rfl rfl sz_O (Ov.arr_one _) (leb rfl) ?_; clear hF M a; intro W3 a M hF
  revert a; refine qm (.bool true) rfl ?_; refine qm (.bool true) rfl ?_; intro a hF; refine wl0 ?_
  refine wp_ret (?_ : bodyPost _ _ _ .ret _ _)
  exact res_cell2 Try.results50 rfl rfl rfl hF rfl (ld_O rfl (M.b 0 rfl).whole) (PcO.one M rfl M.grown)
 | both p q =>
  have hof : pv.of = 0 := h.1
  have hp : OpAt w S p pv.p := h.2.1
  have hq : OpAt w S q pv.q := h.2.2
  have hkp : pv.p.k = p.kindO := hp.k
  have hkq : pv.q.k = q.kindO := hq.k
  obtain ⟨lp, hlp⟩ := hp.l
  obtain ⟨lq, hlq⟩ := hq.l
  obtain ⟨⟨gp1, bp1⟩, ⟨gq1, bq1⟩, sp, sq, hs, k1, k2⟩ := hx
  have kp := kind_neat sp; have kq := kind_neat sq
  have nlp := hlp.len; have nlq := hlq.len; have flp := hlp.few
  have M := Mm.begin (F := fun W S => ((OpAt W S p pv.p ∧ OpAt W S q pv.q) ∧ KidsAt W S pv.p.L pv.p.ln pv.p.lc p.lO lp) ∧ KidsAt W S pv.q.L pv.q.ln pv.q.lc q.lO lq) hS ((((stable_op _ _).and (stable_op _ _)).and (stable_kids _ _ _ _ _)).and (stable_kids _ _ _ _ _)) ⟨⟨⟨hp, hq⟩, hlp⟩, hlq⟩
  clear h hp hq hlp hlq
  refine calls_fr (xs := [.agg pv.arr]) Try.func50 rfl Try.ntmps50 rfl (fun a hF => ?_)
  refine wrgs rfl ?_
  obtain ⟨bk1, hbk1⟩ : ∃ g, w.heap.size = g := ⟨_, rfl⟩
  refine wlal hF M hbk1 rfl rfl rfl (rn_box (cs := (Pv.arr pv)) rfl rfl hbk1) ?_; clear hF M a; intro W1 a M hF
  obtain ⟨bk2, hbk2⟩ : ∃ g, W1.heap.size = g := ⟨_, rfl⟩
  refine wlal hF M hbk2 rfl rfl rfl (rn_alloc rfl zc_O hbk2) ?_; clear hF M a; intro W2 a M hF
  revert a; refine qm (.bool false) rfl ?_; refine qm (.bool false) rfl ?_; intro a hF; refine wl0 ?_
  generalize bk2 = gr at *; generalize bk1 = gp at *
  refine wp_seq (wp_block ?_)
  by_cases q0 : q.kindO = 0
  ·skip
   refine wrgs rfl ?_; revert a; refine qf gp 0 fo_P0 rfl rfl ?_; refine qV (.int .i64 pv.of) (rn_load rfl rfl (ld_one one_int ((M.b 1 rfl).cell 0))) rfl ?_; refine qV (.bool false) (rn_eql rfl rfl rfl (by rw [hof]; rfl)) rfl ?_; refine qm (.bool false) rfl ?_; refine qg (.pointer (some ⟨gp, 0, none⟩)) (rn_field (q := 0) rfl rfl fo_P0 rfl) rfl ?_; refine qg (.int .i64 pv.of) (rn_load rfl rfl (ld_one one_int ((M.b 1 rfl).cell 0))) rfl ?_; refine qg (.bool true) (rn_eql rfl rfl rfl (by rw [hof]; rfl)) rfl ?_; refine qn (.bool true) rfl ?_; refine qg (.pointer (some ⟨gp, 15, none⟩)) (rn_field (q := 15) rfl rfl fo_P2 rfl) rfl ?_; refine qg (.pointer (some ⟨gp, 15, none⟩)) (rn_field (q := 15) rfl rfl fo_O0 rfl) rfl ?_; refine qg (.int .i64 pv.q.k) (rn_load rfl rfl (ld_one one_int ((M.b 1 rfl).cell 15))) rfl ?_; refine qg (.bool true) (rn_eql rfl rfl rfl (by rw [hkq, q0]; rfl)) rfl ?_; refine qg (.bool true) (rn_pick rfl rfl rfl) rfl ?_; refine qV (.bool true) (rn_pick rfl rfl rfl) rfl ?_; refine qm (.bool true) rfl ?_; intro a hF; refine wl0 ?_; refine cd_true hF rfl rfl ?_; refine wrgs rfl ?_; revert a; refine qf gp 1 fo_P1 rfl rfl ?_; refine qV (.agg (Ov.arr pv.p)) (rn_load rfl rfl (ld_O (cs := (Ov.arr pv.p)) rfl ((M.b 1 rfl).range 1 _ (sub_of rfl)))) rfl ?_; intro a hF
   refine wlst hF M 0 rfl (vs := (Ov.arr pv.p)) rfl rfl rfl rfl rfl rfl rfl sz_O (Ov.arr_one _) (leb rfl) ?_; clear hF M a; intro W3 a M hF
   revert a; refine qm (.bool true) rfl ?_; refine qm (.bool true) rfl ?_; intro a hF; refine wl0 ?_
   refine wp_ret (?_ : bodyPost _ _ _ .ret _ _)
   exact res_cell2 Try.results50 rfl rfl rfl hF rfl (ld_O rfl (M.b 0 rfl).whole) (PcO.one M (by rw [pieceS, if_pos q0]) M.grown.1.1.1)
  ·skip
   refine wrgs rfl ?_; revert a; refine qf gp 0 fo_P0 rfl rfl ?_; refine qV (.int .i64 pv.of) (rn_load rfl rfl (ld_one one_int ((M.b 1 rfl).cell 0))) rfl ?_; refine qV (.bool false) (rn_eql rfl rfl rfl (by rw [hof]; rfl)) rfl ?_; refine qm (.bool false) rfl ?_; refine qg (.pointer (some ⟨gp, 0, none⟩)) (rn_field (q := 0) rfl rfl fo_P0 rfl) rfl ?_; refine qg (.int .i64 pv.of) (rn_load rfl rfl (ld_one one_int ((M.b 1 rfl).cell 0))) rfl ?_; refine qg (.bool true) (rn_eql rfl rfl rfl (by rw [hof]; rfl)) rfl ?_; refine qn (.bool true) rfl ?_; refine qg (.pointer (some ⟨gp, 15, none⟩)) (rn_field (q := 15) rfl rfl fo_P2 rfl) rfl ?_; refine qg (.pointer (some ⟨gp, 15, none⟩)) (rn_field (q := 15) rfl rfl fo_O0 rfl) rfl ?_; refine qg (.int .i64 pv.q.k) (rn_load rfl rfl (ld_one one_int ((M.b 1 rfl).cell 15))) rfl ?_; refine qg (.bool false) (rn_eql rfl rfl rfl (by rw [hkq]; exact beq_false_of_ne (q0))) rfl ?_; refine qg (.bool false) (rn_pick rfl rfl rfl) rfl ?_; refine qV (.bool false) (rn_pick rfl rfl rfl) rfl ?_; refine qm (.bool false) rfl ?_; intro a hF; refine wl0 ?_; refine cd_false hF rfl rfl ?_
   by_cases p0 : p.kindO = 0
   ·skip
    refine wrgs rfl ?_; revert a; refine qf gp 0 fo_P0 rfl rfl ?_; refine qV (.int .i64 pv.of) (rn_load rfl rfl (ld_one one_int ((M.b 1 rfl).cell 0))) rfl ?_; refine qV (.bool false) (rn_eql rfl rfl rfl (by rw [hof]; rfl)) rfl ?_; refine qm (.bool false) rfl ?_; refine qg (.pointer (some ⟨gp, 1, none⟩)) (rn_field (q := 1) rfl rfl fo_P1 rfl) rfl ?_; refine qg (.pointer (some ⟨gp, 1, none⟩)) (rn_field (q := 1) rfl rfl fo_O0 rfl) rfl ?_; refine qg (.int .i64 pv.p.k) (rn_load rfl rfl (ld_one one_int ((M.b 1 rfl).cell 1))) rfl ?_; refine qg (.bool true) (rn_eql rfl rfl rfl (by rw [hkp, p0]; rfl)) rfl ?_; refine qV (.bool true) (rn_pick rfl rfl rfl) rfl ?_; refine qm (.bool true) rfl ?_; intro a hF; refine wl0 ?_; refine cd_true hF rfl rfl ?_; refine wrgs rfl ?_; revert a; refine qf gp 15 fo_P2 rfl rfl ?_; refine qV (.agg (Ov.arr pv.q)) (rn_load rfl rfl (ld_O (cs := (Ov.arr pv.q)) rfl ((M.b 1 rfl).range 15 _ (sub_of rfl)))) rfl ?_; intro a hF
    refine wlst hF M 0 rfl (vs := (Ov.arr pv.q)) rfl rfl rfl rfl rfl rfl rfl sz_O (Ov.arr_one _) (leb rfl) ?_; clear hF M a; intro W4 a M hF
    revert a; refine qm (.bool true) rfl ?_; refine qm (.bool true) rfl ?_; intro a hF; refine wl0 ?_
    refine wp_ret (?_ : bodyPost _ _ _ .ret _ _)
    exact res_cell2 Try.results50 rfl rfl rfl hF rfl (ld_O rfl (M.b 0 rfl).whole) (PcO.one M (by rw [pieceS, if_neg q0, if_pos p0]) M.grown.1.1.2)
   ·skip
    refine wrgs rfl ?_; revert a; refine qf gp 0 fo_P0 rfl rfl ?_; refine qV (.int .i64 pv.of) (rn_load rfl rfl (ld_one one_int ((M.b 1 rfl).cell 0))) rfl ?_; refine qV (.bool false) (rn_eql rfl rfl rfl (by rw [hof]; rfl)) rfl ?_; refine qm (.bool false) rfl ?_; refine qg (.pointer (some ⟨gp, 1, none⟩)) (rn_field (q := 1) rfl rfl fo_P1 rfl) rfl ?_; refine qg (.pointer (some ⟨gp, 1, none⟩)) (rn_field (q := 1) rfl rfl fo_O0 rfl) rfl ?_; refine qg (.int .i64 pv.p.k) (rn_load rfl rfl (ld_one one_int ((M.b 1 rfl).cell 1))) rfl ?_; refine qg (.bool false) (rn_eql rfl rfl rfl (by rw [hkp]; exact beq_false_of_ne (p0))) rfl ?_; refine qV (.bool false) (rn_pick rfl rfl rfl) rfl ?_; refine qm (.bool false) rfl ?_; intro a hF; refine wl0 ?_; refine cd_false hF rfl rfl ?_
    by_cases p2 : p.kindO = 2
    ·skip
     by_cases q1 : q.kindO = 1
     ·skip
      refine wrgs rfl ?_; revert a; refine qf gp 1 fo_P1 rfl rfl ?_; refine qf gp 1 fo_O0 rfl rfl ?_; refine qV (.int .i64 pv.p.k) (rn_load rfl rfl (ld_one one_int ((M.b 1 rfl).cell 1))) rfl ?_; refine qV (.bool true) (rn_eql rfl rfl rfl (by rw [hkp, p2]; rfl)) rfl ?_; refine qm (.bool true) rfl ?_; refine qg (.pointer (some ⟨gp, 15, none⟩)) (rn_field (q := 15) rfl rfl fo_P2 rfl) rfl ?_; refine qg (.pointer (some ⟨gp, 15, none⟩)) (rn_field (q := 15) rfl rfl fo_O0 rfl) rfl ?_; refine qg (.int .i64 pv.q.k) (rn_load rfl rfl (ld_one one_int ((M.b 1 rfl).cell 15))) rfl ?_; refine qg (.bool true) (rn_eql rfl rfl rfl (by rw [hkq, q1]; rfl)) rfl ?_; refine qV (.bool true) (rn_pick rfl rfl rfl) rfl ?_; refine qm (.bool true) rfl ?_; intro a hF; refine wl0 ?_; refine cd_true hF rfl rfl ?_
      have hll : p.lO.length = q.lO.length := by rw [← size_l sp (.inr p2), ← size_l sq (.inl q1)]; exact hs
      refine wp_seq ?_
      refine wrgs rfl ?_; revert a; refine qf gp 1 fo_P1 rfl rfl ?_; refine qf gp 3 fo_O2 rfl rfl ?_; refine qV (.slice pv.p.L pv.p.ln pv.p.lc) (rn_load rfl rfl (ld_one one_lT ((M.b 1 rfl).cell 3))) rfl ?_; refine qV (.int .i64 (↑pv.p.ln)) (rn_len rfl rfl is_lT) rfl ?_; refine qm (.int .i64 0) rfl ?_; intro a hF; refine wl0 ?_
      refine wp_block (wlp (fun n a W => ∃ (f : Nat → Value) (i : Nat), Fr a 130 f ∧ f 1 = .pointer (some ⟨gp, 0, none⟩) ∧ f 2 = .pointer (some ⟨gr, 0, none⟩) ∧ f 55 = .slice pv.p.L pv.p.ln pv.p.lc ∧ f 56 = .int .i64 (↑pv.p.ln : Int) ∧ f 57 = .int .i64 (↑i : Int) ∧ i + n = pv.p.ln ∧ (∀ j (h : j < p.lO.length) (h' : j < q.lO.length), j < i → eqT p.lO[j] q.lO[j] = true) ∧ Mm S w W (⟨gr, 47, Ov.nil.arr⟩ :: ⟨gp, 82, pv.arr⟩ :: []) [] (fun W S => ((OpAt W S p pv.p ∧ OpAt W S q pv.q) ∧ KidsAt W S pv.p.L pv.p.ln pv.p.lc p.lO lp) ∧ KidsAt W S pv.q.L pv.q.ln pv.q.lc q.lO lq)) pv.p.ln ⟨_, 0, hF, rfl, rfl, rfl, rfl, rfl, by omega, fun j _ _ h => absurd h (Nat.not_lt_zero _), M⟩ ?_)
      clear hF M a
      rintro n a W ⟨f, i, hF, hf1, hf2, hfa, hfb, hfc, hn, hi, M⟩
      replace hF := (((((hF.same (d := 1) hf1).same (d := 2) hf2).same (d := 55) hfa).same (d := 56) hfb).same (d := 57) hfc)
      by_cases hlt : i < pv.p.ln
      ·skip
       have hip : i < p.lO.length := by omega
       have hiq : i < q.lO.length := by omega
       refine wrgs rfl ?_; revert a; refine qV (.bool true) (rn_lss rfl rfl rfl (decide_eq_true (show (↑i : Int) < ↑pv.p.ln by omega))) rfl ?_; intro a hF; refine wl0 ?_
       refine wp_seq (cd_true hF rfl rfl (wp_skip (nm_then ?_)))
       refine wp_seq (wp_block ?_)
       obtain ⟨bo, oo, vo, hLp, hbo, hR, hT⟩ := M.fact.1.2.rng hip
       obtain ⟨bu, ou, vu, hLq, hbu, hR2, hT2⟩ := M.fact.2.rng hiq
       replace M := ((M.note (stable_tree _ _) hT).note (stable_tree _ _) hT2).note (stable_range bu (ou + i * 3) vu.arr.toList) ⟨hbu, hR2⟩; clear hT hT2 hR2 hbo hbu
       rw [hLp] at hF
       refine wrgs rfl ?_; revert a; refine qm (.int .i64 (↑i : Int)) rfl ?_; refine qV (.pointer (some ⟨bo, oo + i * 3, none⟩)) (rn_index (b := bo) (of := oo) (q := oo + i * 3) rfl rfl rfl (by omega) es_lT (by rw [Int.toNat_natCast])) rfl ?_; refine qV (.agg (Tv.arr vo)) (rn_load rfl rfl (ld_T rfl hR)) rfl ?_; intro a hF
       obtain ⟨bk3, hbk3⟩ : ∃ g, W.heap.size = g := ⟨_, rfl⟩
       refine wlal hF M hbk3 rfl rfl rfl (rn_alloc rfl zc_T hbk3) ?_; clear hF M a; intro W21 a M hF
       revert a; refine qm (.int .i64 (↑i : Int)) rfl ?_; intro a hF
       refine wlst hF M 0 rfl (vs := (Tv.arr vo)) rfl rfl rfl rfl rfl rfl rfl sz_T (Tv.arr_one _) (leb rfl) ?_; clear hF M a; intro W22 a M hF
       refine wl0 ?_
       clear hR
       refine wdrs (Un (rows ([])) W22.drew) (fun i => false) prog_mixed ?_
       have M0 := M.drew' _ rfl
       generalize W22.drew = W23 at *
       have M := M0; have hU := Un.refl (rows ([])) W23
       revert a; refine qt 0 (.agg (Tv.arr vo)) rfl (fun W' hw => (rn_load rfl rfl (ld_T rfl (M0.ub hw 0 rfl).whole))) hU rfl (by kernel_rfl) ?_; refine qo 1 gp 15 fo_P2 hU rfl rfl (by kernel_rfl) ?_; refine qo 2 gp 17 fo_O2 hU rfl rfl (by kernel_rfl) ?_; refine qt 3 (.slice pv.q.L pv.q.ln pv.q.lc) rfl (fun W' hw => (rn_load rfl rfl (ld_one one_lT ((M0.ub hw 2 rfl).cell 17)))) hU rfl (by kernel_rfl) ?_; intro a hF
       rw [hLq] at hF
       revert a; refine qx 4 (.int .i64 (↑i : Int)) hU rfl (by kernel_rfl) ?_; refine qp 5 (.pointer (some ⟨bu, ou + i * 3, none⟩)) rfl (rn_index (b := bu) (of := ou) (q := ou + i * 3) rfl rfl rfl (by omega) es_lT (by rw [Int.toNat_natCast])) hU rfl (by kernel_rfl) ?_; refine qt 6 (.agg (Tv.arr vu)) rfl (fun W' hw => (rn_load rfl rfl (ld_T rfl (M0.uf hw).2.2))) hU rfl (by kernel_rfl) ?_; intro a hF; refine g1 (i := 7) (by kernel_rfl) ?_
       refine gc1 hF (rn_call2 (u := .agg (Tv.arr vo)) (u' := .agg (Tv.arr vu)) rfl rfl rfl rfl Try.call35) (equal_mm M M.fact.1.1.2 M.fact.1.2) rfl rfl rfl rfl ?_; clear hF a
       rintro e9 W9 ⟨rfl, M, hb⟩; replace hU := hU.nil hb; clear hb; refine ⟨_, rfl, fun _ => hU, ?_⟩; intro a hF
       cases hq9 : eqT p.lO[i] q.lO[i] with
       | false =>
        rw [hq9] at hF
        revert a; refine qp 8 (.bool true) rfl (rn_not rfl rfl rfl) hU rfl (by kernel_rfl) ?_; intro a hF; refine wgd (by kernel_rfl) ?_ _; refine cd_true hF rfl rfl ?_; refine wrgs rfl ?_; revert a; refine qV (.agg (Ov.arr Ov.nil)) (rn_build (cs := (Ov.arr Ov.nil)) rfl (by kernel_rfl)) rfl ?_; intro a hF
        refine wlst hF M 1 rfl (vs := (Ov.arr Ov.nil)) rfl rfl rfl rfl rfl rfl rfl sz_O (Ov.arr_one _) (leb rfl) ?_; clear hF M a; intro W30 a M hF
        revert a; refine qm (.bool false) rfl ?_; refine qm (.bool false) rfl ?_; intro a hF; refine wl0 ?_
        have hne : ¬ eqL p.lO q.lO = true := fun h9 => by have := (eqL_get hll).1 h9 i hip hiq; rw [hq9] at this; cases this
        refine wp_ret (?_ : bodyPost _ _ _ .ret _ _)
        exact res_cell2 Try.results50 rfl rfl rfl hF rfl (ld_O rfl (M.b 1 rfl).whole) (PcO.none_ M (by rw [pieceS, if_neg q0, if_neg p0, if_pos ⟨p2, q1⟩, if_neg hne]))
       | true =>
        rw [hq9] at hF
        revert a; refine qp 8 (.bool false) rfl (rn_not rfl rfl rfl) hU rfl (by kernel_rfl) ?_; intro a hF; refine wgd (by kernel_rfl) ?_ _; refine cd_false hF rfl rfl (wp_skip ?_)
        replace M := M.tail
        refine nm_block (nm_then ?_); refine wrg rfl ?_; revert a; refine qV (.int .i64 (↑(i + 1) : Int)) (rn_add (q := (↑(i + 1) : Int)) rfl rfl rfl (by omega) (by omega) (by omega)) rfl ?_; refine qm (.int .i64 (↑(i + 1) : Int)) rfl ?_; intro a hF; refine wl0 ?_; refine nm_then ⟨n - 1, by omega, _, i + 1, hF, rfl, rfl, hLp.symm ▸ rfl, rfl, rfl, by omega, fun j h h' hj => ?_, M.imp ((((stable_op _ _).and (stable_op _ _)).and (stable_kids _ _ _ _ _)).and (stable_kids _ _ _ _ _)) fun h => h.1.1.1⟩
        by_cases hji : j < i
        ·exact hi j h h' hji
        ·obtain rfl : j = i := by omega
         exact hq9
      ·skip
       refine wrgs rfl ?_; revert a; refine qV (.bool false) (rn_lss rfl rfl rfl (decide_eq_false (show ¬ (↑i : Int) < ↑pv.p.ln by omega))) rfl ?_; intro a hF; refine wl0 ?_
       refine wp_seq (cd_false hF rfl rfl (wp_exit (ex_then (ex_then (ex_here ?_)))))
       refine nm_then ?_
       have heq : eqL p.lO q.lO = true := (eqL_get hll).2 fun j h h' => hi j h h' (by omega)
       refine wrgs rfl ?_; revert a; refine qV (.agg (Ov.arr Ov.nil)) (rn_build (cs := (Ov.arr Ov.nil)) rfl (by kernel_rfl)) rfl ?_; intro a hF
       refine wlst hF M 0 rfl (vs := (Ov.arr Ov.nil)) rfl rfl rfl rfl rfl rfl rfl sz_O (Ov.arr_one _) (leb rfl) ?_; clear hF M a; intro W31 a M hF
       revert a; refine qm (.bool false) rfl ?_; refine qm (.bool true) rfl ?_; intro a hF; refine wl0 ?_
       refine wp_ret (?_ : bodyPost _ _ _ .ret _ _)
       exact res_cell2 Try.results50 rfl rfl rfl hF rfl (ld_O rfl (M.b 0 rfl).whole) (PcO.zero M (by rw [pieceS, if_neg q0, if_neg p0, if_pos ⟨p2, q1⟩, if_pos heq]))
     ·skip
      have q3 : q.kindO = 3 := by omega
      refine wrgs rfl ?_; revert a; refine qf gp 1 fo_P1 rfl rfl ?_; refine qf gp 1 fo_O0 rfl rfl ?_; refine qV (.int .i64 pv.p.k) (rn_load rfl rfl (ld_one one_int ((M.b 1 rfl).cell 1))) rfl ?_; refine qV (.bool true) (rn_eql rfl rfl rfl (by rw [hkp, p2]; rfl)) rfl ?_; refine qm (.bool true) rfl ?_; refine qg (.pointer (some ⟨gp, 15, none⟩)) (rn_field (q := 15) rfl rfl fo_P2 rfl) rfl ?_; refine qg (.pointer (some ⟨gp, 15, none⟩)) (rn_field (q := 15) rfl rfl fo_O0 rfl) rfl ?_; refine qg (.int .i64 pv.q.k) (rn_load rfl rfl (ld_one one_int ((M.b 1 rfl).cell 15))) rfl ?_; refine qg (.bool false) (rn_eql rfl rfl rfl (by rw [hkq]; exact beq_false_of_ne (q1))) rfl ?_; refine qV (.bool false) (rn_pick rfl rfl rfl) rfl ?_; refine qm (.bool false) rfl ?_; intro a hF; refine wl0 ?_; refine cd_false hF rfl rfl ?_; refine wrgs rfl ?_; revert a; refine qf gp 1 fo_P1 rfl rfl ?_; refine qf gp 1 fo_O0 rfl rfl ?_; refine qV (.int .i64 pv.p.k) (rn_load rfl rfl (ld_one one_int ((M.b 1 rfl).cell 1))) rfl ?_; refine qV (.bool true) (rn_eql rfl rfl rfl (by rw [hkp, p2]; rfl)) rfl ?_; refine qm (.bool true) rfl ?_; intro a hF; refine wl0 ?_; refine cd_true hF rfl rfl ?_
      obtain ⟨x0, hx0⟩ := single_l sp (.inr p2) (by rw [hs]; exact size_3 q3)
      have hbx : bdT B x0 := bp1.2.1 x0 (by rw [hx0]; exact List.mem_singleton.2 rfl)
      have hK := M.fact.1.2; rw [hx0] at hK nlp
      replace nlp : pv.p.ln = 1 := nlp
      obtain ⟨bo, oo, v0, hL, hbo, hR, hT⟩ := hK.rng (i := 0) (by simp)
      replace hT : TreeAt _ _ x0 v0 := hT
      replace M := (M.note (stable_tree _ _) hT).note (stable_range bo oo v0.arr.toList) ⟨hbo, range0 hR⟩; clear hT hR hbo hK
      refine wdrs (Un (rows ([])) W2.drew) (fun i => Nat.beq i 13) prog_mixed ?_
      have M0 := M.drew' _ rfl
      generalize W2.drew = W32 at *
      have M := M0; have hU := Un.refl (rows ([])) W32
      revert a; refine qo 0 gp 15 fo_P2 hU rfl rfl (by kernel_rfl) ?_; refine qo 1 gp 18 fo_O3 hU rfl rfl (by kernel_rfl) ?_; refine qt 2 (.agg (Ev.arr pv.q.e)) rfl (fun W' hw => (rn_load rfl rfl (ld_E (cs := (Ev.arr pv.q.e)) rfl ((M0.ub hw 1 rfl).range 18 _ (sub_of rfl))))) hU rfl (by kernel_rfl) ?_; refine qo 3 gp 1 fo_P1 hU rfl rfl (by kernel_rfl) ?_; refine qo 4 gp 3 fo_O2 hU rfl rfl (by kernel_rfl) ?_; refine qt 5 (.slice pv.p.L pv.p.ln pv.p.lc) rfl (fun W' hw => (rn_load rfl rfl (ld_one one_lT ((M0.ub hw 1 rfl).cell 3)))) hU rfl (by kernel_rfl) ?_; intro a hF
      rw [hL] at hF
      revert a; refine qp 6 (.pointer (some ⟨bo, oo, none⟩)) rfl (rn_index (b := bo) (of := oo) (q := oo) rfl rfl rfl (by omega) es_lT (by rfl)) hU rfl (by kernel_rfl) ?_; refine qt 7 (.agg (Tv.arr v0)) rfl (fun W' hw => (rn_load rfl rfl (ld_T rfl (M0.uf hw).2.2))) hU rfl (by kernel_rfl) ?_; intro a hF
      refine g2 (i := 8) (j := 12) (by kernel_rfl) ?_ ?_
      ·skip
       have hc := oneP_mm M (apply_any B B (by omega) q.eO x0 pv.q.e v0 _ _ ⟨okO_e gq1.1 q3, gq1.2.2.1⟩ bq1.2.2 hbx M.fact.1.1.1.1.2.e M.fact.1.2 M.lts)
       refine gc1 hF (rn_call2 (u := .agg (Ev.arr pv.q.e)) (u' := .agg (Tv.arr v0)) rfl rfl rfl rfl Try.call10) hc rfl rfl rfl rfl ?_; clear hF a
       rintro e W33 ⟨v7, rfl, M, hb⟩; replace hU := hU.nil hb; clear hb; refine ⟨_, rfl, fun _ => hU, ?_⟩; intro a hF
       clear hc
       revert a; refine qx 9 (.tuple #[.agg (Tv.arr v7), .bool ((applyS q.eO x0).isSome)]) hU rfl (by kernel_rfl) ?_; refine qp 10 (.agg (Tv.arr v7)) rfl (rn_extract rfl rfl rfl) hU rfl (by kernel_rfl) ?_; refine qp 11 (.bool ((applyS q.eO x0).isSome)) rfl (rn_extract rfl rfl rfl) hU rfl (by kernel_rfl) ?_; intro a hF; refine g1 (i := 12) (by kernel_rfl) ?_
       obtain ⟨bk4, hbk4⟩ : ∃ g, W33.heap.size = g := ⟨_, rfl⟩
       refine wgal hF M hU hbk4 rfl rfl rfl rfl (rn_alloc rfl zc_T hbk4) ?_; clear hF M hU a; intro W34 a M hU hgebk4 hF
       refine g1 (i := 13) (by kernel_rfl) ?_
       refine wgst hF M 0 rfl (vs := (Tv.arr v7)) (by kernel_rfl) rfl rfl rfl rfl rfl rfl rfl rfl sz_T (Tv.arr_one _) (leb rfl) ?_; clear hF M a; intro W35 a M hF
       refine wgp (i := 14) (v := .bool ((applyS q.eO x0).isSome)) hF (fun W' => (rn_assign rfl rfl)) rfl (by kernel_rfl) rfl rfl rfl (fin_no (by kernel_rfl)) ?_; clear hF a; intro a hF
       refine wgd (by kernel_rfl) ?_ _; refine wrgs rfl ?_; revert a; refine qV (.agg (Tv.arr v7)) (rn_load rfl rfl (ld_T rfl (M.b 0 rfl).whole)) rfl ?_; intro a hF
       obtain ⟨bk5, hbk5⟩ : ∃ g, W35.heap.size = g := ⟨_, rfl⟩
       refine wlal hF M hbk5 rfl rfl rfl (rn_bs1 (cs := (Tv.arr v7)) ti_lT (by decide) rfl rfl rfl hbk5) ?_; clear hF M a; intro W36 a M hF
       revert a; refine qV (.agg (Ov.arr ⟨2, 0, (some ⟨bk5, 0, none⟩), 1, 1, Ev.nil⟩)) (rn_build (cs := (Ov.arr ⟨2, 0, (some ⟨bk5, 0, none⟩), 1, 1, Ev.nil⟩)) rfl (by kernel_rfl)) rfl ?_; refine qm (.bool ((applyS q.eO x0).isSome)) rfl ?_; intro a hF
       refine wlst hF M 2 rfl (vs := (Ov.arr ⟨2, 0, (some ⟨bk5, 0, none⟩), 1, 1, Ev.nil⟩)) rfl rfl rfl rfl rfl rfl rfl sz_O (Ov.arr_one _) (leb rfl) ?_; clear hF M a; intro W37 a M hF
       revert a; refine qm (.bool true) rfl ?_; refine qm (.bool ((applyS q.eO x0).isSome)) rfl ?_; intro a hF; refine wl0 ?_
       replace M := M.oneTree
       refine wp_ret (?_ : bodyPost _ _ _ .ret _ _)
       exact res_cell2 Try.results50 rfl rfl rfl hF rfl (ld_O rfl (M.b 1 rfl).whole) (PcO.opt (d := applyS q.eO x0) (g := fun t => .mk 2 0 [t] nilE) M (by rw [pieceS, if_neg q0, if_neg p0, if_neg (fun h => q1 h.2), if_pos p2, hx0]; rfl) fun t ht => OpAt.nilE (kids_of (TreesAt.one (M.grown.1.2 t ht)) M.grown.2))
      ·skip
       obtain ⟨bk6, hbk6⟩ : ∃ g, W32.heap.size = g := ⟨_, rfl⟩
       refine wgal hF M hU hbk6 rfl rfl rfl rfl (rn_alloc rfl zc_T hbk6) ?_; clear hF M hU a; intro W38 a M hU hgebk6 hF
       refine g1 (i := 8) (by kernel_rfl) ?_
       have hc := oneP_mm M (apply_any B B (by omega) q.eO x0 pv.q.e v0 _ _ ⟨okO_e gq1.1 q3, gq1.2.2.1⟩ bq1.2.2 hbx M.fact.1.1.1.1.2.e M.fact.1.2 M.lts)
       refine gc1 hF (rn_call2 (u := .agg (Ev.arr pv.q.e)) (u' := .agg (Tv.arr v0)) rfl rfl rfl rfl Try.call10) hc rfl rfl rfl rfl ?_; clear hF a
       rintro e W39 ⟨v7, rfl, M, hb⟩; replace hU := hU.nil hb; clear hb; refine ⟨_, rfl, fun _ => hU, ?_⟩; intro a hF
       clear hc
       revert a; refine qx 9 (.tuple #[.agg (Tv.arr v7), .bool ((applyS q.eO x0).isSome)]) hU rfl (by kernel_rfl) ?_; refine qp 10 (.agg (Tv.arr v7)) rfl (rn_extract rfl rfl rfl) hU rfl (by kernel_rfl) ?_; refine qp 11 (.bool ((applyS q.eO x0).isSome)) rfl (rn_extract rfl rfl rfl) hU rfl (by kernel_rfl) ?_; intro a hF; refine g1 (i := 13) (by kernel_rfl) ?_
       refine wgst hF M 0 rfl (vs := (Tv.arr v7)) (by kernel_rfl) rfl rfl rfl rfl rfl rfl rfl rfl sz_T (Tv.arr_one _) (leb rfl) ?_; clear hF M a; intro W40 a M hF
       refine wgp (i := 14) (v := .bool ((applyS q.eO x0).isSome)) hF (fun W' => (rn_assign rfl rfl)) rfl (by kernel_rfl) rfl rfl rfl (fin_no (by kernel_rfl)) ?_; clear hF a; intro a hF
       refine wgd (by kernel_rfl) ?_ _; refine wrgs rfl ?_; revert a; refine qV (.agg (Tv.arr v7)) (rn_load rfl rfl (ld_T rfl (M.b 0 rfl).whole)) rfl ?_; intro a hF
       obtain ⟨bk7, hbk7⟩ : ∃ g, W40.heap.size = g := ⟨_, rfl⟩
       refine wlal hF M hbk7 rfl rfl rfl (rn_bs1 (cs := (Tv.arr v7)) ti_lT (by decide) rfl rfl rfl hbk7) ?_; clear hF M a; intro W41 a M hF
       revert a; refine qV (.agg (Ov.arr ⟨2, 0, (some ⟨bk7, 0, none⟩), 1, 1, Ev.nil⟩)) (rn_build (cs := (Ov.arr ⟨2, 0, (some ⟨bk7, 0, none⟩), 1, 1, Ev.nil⟩)) rfl (by kernel_rfl)) rfl ?_; refine qm (.bool ((applyS q.eO x0).isSome)) rfl ?_; intro a hF
       refine wlst hF M 2 rfl (vs := (Ov.arr ⟨2, 0, (some ⟨bk7, 0, none⟩), 1, 1, Ev.nil⟩)) rfl rfl rfl rfl rfl rfl rfl sz_O (Ov.arr_one _) (leb rfl) ?_; clear hF M a; intro W42 a M hF
       revert a; refine qm (.bool true) rfl ?_; refine qm (.bool ((applyS q.eO x0).isSome)) rfl ?_; intro a hF; refine wl0 ?_
       replace M := M.oneTree
       refine wp_ret (?_ : bodyPost _ _ _ .ret _ _)
       exact res_cell2 Try.results50 rfl rfl rfl hF rfl (ld_O rfl (M.b 1 rfl).whole) (PcO.opt (d := applyS q.eO x0) (g := fun t => .mk 2 0 [t] nilE) M (by rw [pieceS, if_neg q0, if_neg p0, if_neg (fun h => q1 h.2), if_pos p2, hx0]; rfl) fun t ht => OpAt.nilE (kids_of (TreesAt.one (M.grown.1.2 t ht)) M.grown.2))
    ·skip
     have p3 : p.kindO = 3 := by omega
     refine wrgs rfl ?_; revert a; refine qf gp 1 fo_P1 rfl rfl ?_; refine qf gp 1 fo_O0 rfl rfl ?_; refine qV (.int .i64 pv.p.k) (rn_load rfl rfl (ld_one one_int ((M.b 1 rfl).cell 1))) rfl ?_; refine qV (.bool false) (rn_eql rfl rfl rfl (by rw [hkp]; exact beq_false_of_ne (p2))) rfl ?_; refine qm (.bool false) rfl ?_; refine qi rfl ?_; refine qi rfl ?_; refine qi rfl ?_; refine qi rfl ?_; refine qV (.bool false) (rn_pick rfl rfl rfl) rfl ?_; refine qm (.bool false) rfl ?_; intro a hF; refine wl0 ?_; refine cd_false hF rfl rfl ?_; refine wrgs rfl ?_; revert a; refine qf gp 1 fo_P1 rfl rfl ?_; refine qf gp 1 fo_O0 rfl rfl ?_; refine qV (.int .i64 pv.p.k) (rn_load rfl rfl (ld_one one_int ((M.b 1 rfl).cell 1))) rfl ?_; refine qV (.bool false) (rn_eql rfl rfl rfl (by rw [hkp]; exact beq_false_of_ne (p2))) rfl ?_; refine qm (.bool false) rfl ?_; intro a hF; refine wl0 ?_; refine cd_false hF rfl rfl ?_
     by_cases q1 : q.kindO = 1
     ·skip
      refine wrgs rfl ?_; revert a; refine qf gp 15 fo_P2 rfl rfl ?_; refine qf gp 15 fo_O0 rfl rfl ?_; refine qV (.int .i64 pv.q.k) (rn_load rfl rfl (ld_one one_int ((M.b 1 rfl).cell 15))) rfl ?_; refine qV (.bool true) (rn_eql rfl rfl rfl (by rw [hkq, q1]; rfl)) rfl ?_; refine qm (.bool true) rfl ?_; intro a hF; refine wl0 ?_; refine cd_true hF rfl rfl ?_
      obtain ⟨x0, hx0⟩ := single_l sq (.inl q1) (by rw [← hs]; exact size_3 p3)
      have hbx : bdT B x0 := bq1.2.1 x0 (by rw [hx0]; exact List.mem_singleton.2 rfl)
      have hK := M.fact.2; rw [hx0] at hK nlq
      replace nlq : pv.q.ln = 1 := nlq
      obtain ⟨bo, oo, v0, hL, hbo, hR, hT⟩ := hK.rng (i := 0) (by simp)
      replace hT : TreeAt _ _ x0 v0 := hT
      replace M := (M.note (stable_tree _ _) hT).note (stable_range bo oo v0.arr.toList) ⟨hbo, range0 hR⟩; clear hT hR hbo hK
      refine wdrs (Un (rows ([])) W2.drew) (fun i => Nat.beq i 14) prog_mixed ?_
      have M0 := M.drew' _ rfl
      generalize W2.drew = W43 at *
      have M := M0; have hU := Un.refl (rows ([])) W43
      revert a; refine qo 0 gp 1 fo_P1 hU rfl rfl (by kernel_rfl) ?_; refine qo 1 gp 4 fo_O3 hU rfl rfl (by kernel_rfl) ?_; refine qt 2 (.agg (Ev.arr pv.p.e)) rfl (fun W' hw => (rn_load rfl rfl (ld_E (cs := (Ev.arr pv.p.e)) rfl ((M0.ub hw 1 rfl).range 4 _ (sub_of rfl))))) hU rfl (by kernel_rfl) ?_; refine qo 4 gp 15 fo_P2 hU rfl rfl (by kernel_rfl) ?_; refine qo 5 gp 17 fo_O2 hU rfl rfl (by kernel_rfl) ?_; refine qt 6 (.slice pv.q.L pv.q.ln pv.q.lc) rfl (fun W' hw => (rn_load rfl rfl (ld_one one_lT ((M0.ub hw 1 rfl).cell 17)))) hU rfl (by kernel_rfl) ?_; intro a hF
      rw [hL] at hF
      revert a; refine qp 7 (.pointer (some ⟨bo, oo, none⟩)) rfl (rn_index (b := bo) (of := oo) (q := oo) rfl rfl rfl (by omega) es_lT (by rfl)) hU rfl (by kernel_rfl) ?_; refine qt 8 (.agg (Tv.arr v0)) rfl (fun W' hw => (rn_load rfl rfl (ld_T rfl (M0.uf hw).2.2))) hU rfl (by kernel_rfl) ?_; intro a hF
      refine g2 (i := 3) (j := 13) (by kernel_rfl) ?_ ?_
      ·skip
       have hc := edP_mm M (invert_any B (by omega) p.eO pv.p.e _ _ gp1.2.2.1 bp1.2.2 M.fact.1.1.1.1.1.e M.lts)
       refine gc1 hF (rn_call1 (u := .agg (Ev.arr pv.p.e)) rfl rfl rfl Try.call12) hc rfl rfl rfl rfl ?_; clear hF a
       rintro e W44 ⟨v6, rfl, M, hb⟩; replace hU := hU.nil hb; clear hb; refine ⟨_, rfl, fun _ => hU, ?_⟩; intro a hF
       clear hc
       refine g2 (i := 9) (j := 13) (by kernel_rfl) ?_ ?_
       ·skip
        have hc := oneP_mm M (apply_any B B (by omega) (invertE p.eO) x0 v6 v0 _ _ (invert_right ⟨okO_e gp1.1 p3, gp1.2.2.1⟩) (bdE_normal (neat_turned gp1.2.2.1) (bdE_turned bp1.2.2)) hbx M.fact.2 M.fact.1.1.2 M.lts)
        refine gc1 hF (rn_call2 (u := .agg (Ev.arr v6)) (u' := .agg (Tv.arr v0)) rfl rfl rfl rfl Try.call10) hc rfl rfl rfl rfl ?_; clear hF a
        rintro e W45 ⟨v7, rfl, M, hb⟩; replace hU := hU.nil hb; clear hb; refine ⟨_, rfl, fun _ => hU, ?_⟩; intro a hF
        clear hc
        revert a; refine qx 10 (.tuple #[.agg (Tv.arr v7), .bool ((applyS (invertE p.eO) x0).isSome)]) hU rfl (by kernel_rfl) ?_; refine qp 11 (.agg (Tv.arr v7)) rfl (rn_extract rfl rfl rfl) hU rfl (by kernel_rfl) ?_; refine qp 12 (.bool ((applyS (invertE p.eO) x0).isSome)) rfl (rn_extract rfl rfl rfl) hU rfl (by kernel_rfl) ?_; intro a hF; refine g1 (i := 13) (by kernel_rfl) ?_
        obtain ⟨bk8, hbk8⟩ : ∃ g, W45.heap.size = g := ⟨_, rfl⟩
        refine wgal hF M hU hbk8 rfl rfl rfl rfl (rn_alloc rfl zc_T hbk8) ?_; clear hF M hU a; intro W46 a M hU hgebk8 hF
        refine g1 (i := 14) (by kernel_rfl) ?_
        refine wgst hF M 0 rfl (vs := (Tv.arr v7)) (by kernel_rfl) rfl rfl rfl rfl rfl rfl rfl rfl sz_T (Tv.arr_one _) (leb rfl) ?_; clear hF M a; intro W47 a M hF
        refine wgp (i := 15) (v := .bool ((applyS (invertE p.eO) x0).isSome)) hF (fun W' => (rn_assign rfl rfl)) rfl (by kernel_rfl) rfl rfl rfl (fin_no (by kernel_rfl)) ?_; clear hF a; intro a hF
        refine wgd (by kernel_rfl) ?_ _; refine wrgs rfl ?_; revert a; refine qV (.agg (Tv.arr v7)) (rn_load rfl rfl (ld_T rfl (M.b 0 rfl).whole)) rfl ?_; intro a hF
        obtain ⟨bk9, hbk9⟩ : ∃ g, W47.heap.size = g := ⟨_, rfl⟩
        refine wlal hF M hbk9 rfl rfl rfl (rn_bs1 (cs := (Tv.arr v7)) ti_lT (by decide) rfl rfl rfl hbk9) ?_; clear hF M a; intro W48 a M hF
        revert a; refine qV (.agg (Ov.arr ⟨1, 0, (some ⟨bk9, 0, none⟩), 1, 1, Ev.nil⟩)) (rn_build (cs := (Ov.arr ⟨1, 0, (some ⟨bk9, 0, none⟩), 1, 1, Ev.nil⟩)) rfl (by kernel_rfl)) rfl ?_; refine qm (.bool ((applyS (invertE p.eO) x0).isSome)) rfl ?_; intro a hF
        refine wlst hF M 2 rfl (vs := (Ov.arr ⟨1, 0, (some ⟨bk9, 0, none⟩), 1, 1, Ev.nil⟩)) rfl rfl rfl rfl rfl rfl rfl sz_O (Ov.arr_one _) (leb rfl) ?_; clear hF M a; intro W49 a M hF
        revert a; refine qm (.bool true) rfl ?_; refine qm (.bool ((applyS (invertE p.eO) x0).isSome)) rfl ?_; intro a hF; refine wl0 ?_
        replace M := M.oneTree
        refine wp_ret (?_ : bodyPost _ _ _ .ret _ _)
        exact res_cell2 Try.results50 rfl rfl rfl hF rfl (ld_O rfl (M.b 1 rfl).whole) (PcO.opt (d := applyS (invertE p.eO) x0) (g := fun t => .mk 1 0 [t] nilE) M (by rw [pieceS, if_neg q0, if_neg p0, if_neg (fun h => p2 h.1), if_neg p2, if_pos q1, hx0]; rfl) fun t ht => OpAt.nilE (kids_of (TreesAt.one (M.grown.1.2 t ht)) M.grown.2))
       ·skip
        obtain ⟨bk10, hbk10⟩ : ∃ g, W44.heap.size = g := ⟨_, rfl⟩
        refine wgal hF M hU hbk10 rfl rfl rfl rfl (rn_alloc rfl zc_T hbk10) ?_; clear hF M hU a; intro W50 a M hU hgebk10 hF
        refine g1 (i := 9) (by kernel_rfl) ?_
        have hc := oneP_mm M (apply_any B B (by omega) (invertE p.eO) x0 v6 v0 _ _ (invert_right ⟨okO_e gp1.1 p3, gp1.2.2.1⟩) (bdE_normal (neat_turned gp1.2.2.1) (bdE_turned bp1.2.2)) hbx M.fact.2 M.fact.1.1.2 M.lts)
        refine gc1 hF (rn_call2 (u := .agg (Ev.arr v6)) (u' := .agg (Tv.arr v0)) rfl rfl rfl rfl Try.call10) hc rfl rfl rfl rfl ?_; clear hF a
        rintro e W51 ⟨v7, rfl, M, hb⟩; replace hU := hU.nil hb; clear hb; refine ⟨_, rfl, fun _ => hU, ?_⟩; intro a hF
        clear hc
        revert a; refine qx 10 (.tuple #[.agg (Tv.arr v7), .bool ((applyS (invertE p.eO) x0).isSome)]) hU rfl (by kernel_rfl) ?_; refine qp 11 (.agg (Tv.arr v7)) rfl (rn_extract rfl rfl rfl) hU rfl (by kernel_rfl) ?_; refine qp 12 (.bool ((applyS (invertE p.eO) x0).isSome)) rfl (rn_extract rfl rfl rfl) hU rfl (by kernel_rfl) ?_; intro a hF; refine g1 (i := 14) (by kernel_rfl) ?_
        refine wgst hF M 0 rfl (vs := (Tv.arr v7)) (by kernel_rfl) rfl rfl rfl rfl rfl rfl rfl rfl sz_T (Tv.arr_one _) (leb rfl) ?_; clear hF M a; intro W52 a M hF
        refine wgp (i := 15) (v := .bool ((applyS (invertE p.eO) x0).isSome)) hF (fun W' => (rn_assign rfl rfl)) rfl (by kernel_rfl) rfl rfl rfl (fin_no (by kernel_rfl)) ?_; clear hF a; intro a hF
        refine wgd (by kernel_rfl) ?_ _; refine wrgs rfl ?_; revert a; refine qV (.agg (Tv.arr v7)) (rn_load rfl rfl (ld_T rfl (M.b 0 rfl).whole)) rfl ?_; intro a hF
        obtain ⟨bk11, hbk11⟩ : ∃ g, W52.heap.size = g := ⟨_, rfl⟩
        refine wlal hF M hbk11 rfl rfl rfl (rn_bs1 (cs := (Tv.arr v7)) ti_lT (by decide) rfl rfl rfl hbk11) ?_; clear hF M a; intro W53 a M hF
        revert a; refine qV (.agg (Ov.arr ⟨1, 0, (some ⟨bk11, 0, none⟩), 1, 1, Ev.nil⟩)) (rn_build (cs := (Ov.arr ⟨1, 0, (some ⟨bk11, 0, none⟩), 1, 1, Ev.nil⟩)) rfl (by kernel_rfl)) rfl ?_; refine qm (.bool ((applyS (invertE p.eO) x0).isSome)) rfl ?_; intro a hF
        refine wlst hF M 2 rfl (vs := (Ov.arr ⟨1, 0, (some ⟨bk11, 0, none⟩), 1, 1, Ev.nil⟩)) rfl rfl rfl rfl rfl rfl rfl sz_O (Ov.arr_one _) (leb rfl) ?_; clear hF M a; intro W54 a M hF
        revert a; refine qm (.bool true) rfl ?_; refine qm (.bool ((applyS (invertE p.eO) x0).isSome)) rfl ?_; intro a hF; refine wl0 ?_
        replace M := M.oneTree
        refine wp_ret (?_ : bodyPost _ _ _ .ret _ _)
        exact res_cell2 Try.results50 rfl rfl rfl hF rfl (ld_O rfl (M.b 1 rfl).whole) (PcO.opt (d := applyS (invertE p.eO) x0) (g := fun t => .mk 1 0 [t] nilE) M (by rw [pieceS, if_neg q0, if_neg p0, if_neg (fun h => p2 h.1), if_neg p2, if_pos q1, hx0]; rfl) fun t ht => OpAt.nilE (kids_of (TreesAt.one (M.grown.1.2 t ht)) M.grown.2))
      ·skip
       obtain ⟨bk12, hbk12⟩ : ∃ g, W43.heap.size = g := ⟨_, rfl⟩
       refine wgal hF M hU hbk12 rfl rfl rfl rfl (rn_alloc rfl zc_T hbk12) ?_; clear hF M hU a; intro W55 a M hU hgebk12 hF
       refine g1 (i := 3) (by kernel_rfl) ?_
       have hc := edP_mm M (invert_any B (by omega) p.eO pv.p.e _ _ gp1.2.2.1 bp1.2.2 M.fact.1.1.1.1.1.e M.lts)
       refine gc1 hF (rn_call1 (u := .agg (Ev.arr pv.p.e)) rfl rfl rfl Try.call12) hc rfl rfl rfl rfl ?_; clear hF a
       rintro e W56 ⟨v6, rfl, M, hb⟩; replace hU := hU.nil hb; clear hb; refine ⟨_, rfl, fun _ => hU, ?_⟩; intro a hF
       clear hc
       refine g1 (i := 9) (by kernel_rfl) ?_
       have hc := oneP_mm M (apply_any B B (by omega) (invertE p.eO) x0 v6 v0 _ _ (invert_right ⟨okO_e gp1.1 p3, gp1.2.2.1⟩) (bdE_normal (neat_turned gp1.2.2.1) (bdE_turned bp1.2.2)) hbx M.fact.2 M.fact.1.1.2 M.lts)
       refine gc1 hF (rn_call2 (u := .agg (Ev.arr v6)) (u' := .agg (Tv.arr v0)) rfl rfl rfl rfl Try.call10) hc rfl rfl rfl rfl ?_; clear hF a
       rintro e W57 ⟨v7, rfl, M, hb⟩; replace hU := hU.nil hb; clear hb; refine ⟨_, rfl, fun _ => hU, ?_⟩; intro a hF
       clear hc
       revert a; refine qx 10 (.tuple #[.agg (Tv.arr v7), .bool ((applyS (invertE p.eO) x0).isSome)]) hU rfl (by kernel_rfl) ?_; refine qp 11 (.agg (Tv.arr v7)) rfl (rn_extract rfl rfl rfl) hU rfl (by kernel_rfl) ?_; refine qp 12 (.bool ((applyS (invertE p.eO) x0).isSome)) rfl (rn_extract rfl rfl rfl) hU rfl (by kernel_rfl) ?_; intro a hF; refine g1 (i := 14) (by kernel_rfl) ?_
       refine wgst hF M 0 rfl (vs := (Tv.arr v7)) (by kernel_rfl) rfl rfl rfl rfl rfl rfl rfl rfl sz_T (Tv.arr_one _) (leb rfl) ?_; clear hF M a; intro W58 a M hF
       refine wgp (i := 15) (v := .bool ((applyS (invertE p.eO) x0).isSome)) hF (fun W' => (rn_assign rfl rfl)) rfl (by kernel_rfl) rfl rfl rfl (fin_no (by kernel_rfl)) ?_; clear hF a; intro a hF
       refine wgd (by kernel_rfl) ?_ _; refine wrgs rfl ?_; revert a; refine qV (.agg (Tv.arr v7)) (rn_load rfl rfl (ld_T rfl (M.b 0 rfl).whole)) rfl ?_; intro a hF
       obtain ⟨bk13, hbk13⟩ : ∃ g, W58.heap.size = g := ⟨_, rfl⟩
       refine wlal hF M hbk13 rfl rfl rfl (rn_bs1 (cs := (Tv.arr v7)) ti_lT (by decide) rfl rfl rfl hbk13) ?_; clear hF M a; intro W59 a M hF
       revert a; refine qV (.agg (Ov.arr ⟨1, 0, (some ⟨bk13, 0, none⟩), 1, 1, Ev.nil⟩)) (rn_build (cs := (Ov.arr ⟨1, 0, (some ⟨bk13, 0, none⟩), 1, 1, Ev.nil⟩)) rfl (by kernel_rfl)) rfl ?_; refine qm (.bool ((applyS (invertE p.eO) x0).isSome)) rfl ?_; intro a hF
       refine wlst hF M 2 rfl (vs := (Ov.arr ⟨1, 0, (some ⟨bk13, 0, none⟩), 1, 1, Ev.nil⟩)) rfl rfl rfl rfl rfl rfl rfl sz_O (Ov.arr_one _) (leb rfl) ?_; clear hF M a; intro W60 a M hF
       revert a; refine qm (.bool true) rfl ?_; refine qm (.bool ((applyS (invertE p.eO) x0).isSome)) rfl ?_; intro a hF; refine wl0 ?_
       replace M := M.oneTree
       refine wp_ret (?_ : bodyPost _ _ _ .ret _ _)
       exact res_cell2 Try.results50 rfl rfl rfl hF rfl (ld_O rfl (M.b 1 rfl).whole) (PcO.opt (d := applyS (invertE p.eO) x0) (g := fun t => .mk 1 0 [t] nilE) M (by rw [pieceS, if_neg q0, if_neg p0, if_neg (fun h => p2 h.1), if_neg p2, if_pos q1, hx0]; rfl) fun t ht => OpAt.nilE (kids_of (TreesAt.one (M.grown.1.2 t ht)) M.grown.2))
     ·skip
      have q3 : q.kindO = 3 := by omega
      refine wrgs rfl ?_; revert a; refine qf gp 15 fo_P2 rfl rfl ?_; refine qf gp 15 fo_O0 rfl rfl ?_; refine qV (.int .i64 pv.q.k) (rn_load rfl rfl (ld_one one_int ((M.b 1 rfl).cell 15))) rfl ?_; refine qV (.bool false) (rn_eql rfl rfl rfl (by rw [hkq]; exact beq_false_of_ne (q1))) rfl ?_; refine qm (.bool false) rfl ?_; intro a hF; refine wl0 ?_; refine cd_false hF rfl rfl (wp_skip (nm_block (nm_then ?_))); refine wrgs rfl ?_; revert a; refine qf gp 1 fo_P1 rfl rfl ?_; refine qf gp 4 fo_O3 rfl rfl ?_; refine qV (.agg (Ev.arr pv.p.e)) (rn_load rfl rfl (ld_E (cs := (Ev.arr pv.p.e)) rfl ((M.b 1 rfl).range 4 _ (sub_of rfl)))) rfl ?_; refine qf gp 15 fo_P2 rfl rfl ?_; refine qf gp 18 fo_O3 rfl rfl ?_; refine qV (.agg (Ev.arr pv.q.e)) (rn_load rfl rfl (ld_E (cs := (Ev.arr pv.q.e)) rfl ((M.b 1 rfl).range 18 _ (sub_of rfl)))) rfl ?_; intro a hF
      have hc := edO_mm M (ih p.eO q.eO pv.p.e pv.q.e _ _ gp1.2.2.2 gq1.2.2.2 ⟨okO_e gp1.1 p3, gp1.2.2.1⟩ ⟨okO_e gq1.1 q3, gq1.2.2.1⟩ bp1.2.2 bq1.2.2 M.fact.1.1.1.e M.fact.1.1.2.e M.lts)
      refine wlc hF (rn_call2 (u := .agg (Ev.arr pv.p.e)) (u' := .agg (Ev.arr pv.q.e)) rfl rfl rfl rfl Try.call18) hc rfl rfl rfl ?_; clear hF a
      clear hc; rintro e9 W7 ⟨v7, rfl, M, _⟩; refine ⟨_, rfl, ?_⟩; intro a hF
      revert a; refine qm (.tuple #[.agg (Ev.arr v7), .bool ((bothS f p.eO q.eO).isSome)]) rfl ?_; refine qV (.agg (Ev.arr v7)) (rn_extract rfl rfl rfl) rfl ?_; refine qV (.bool ((bothS f p.eO q.eO).isSome)) (rn_extract rfl rfl rfl) rfl ?_; intro a hF
      obtain ⟨bk14, hbk14⟩ : ∃ g, W7.heap.size = g := ⟨_, rfl⟩
      refine wlal hF M hbk14 rfl rfl rfl (rn_alloc rfl zc_E hbk14) ?_; clear hF M a; intro W48 a M hF
      refine wlst hF M 0 rfl (vs := (Ev.arr v7)) rfl rfl rfl rfl rfl rfl rfl sz_E (Ev.arr_one _) (leb rfl) ?_; clear hF M a; intro W49 a M hF
      revert a; refine qm (.bool ((bothS f p.eO q.eO).isSome)) rfl ?_; intro a hF; refine wl0 ?_; refine wrgs rfl ?_; revert a; refine qV (.agg (Ev.arr v7)) (rn_load rfl rfl (ld_E rfl (M.b 0 rfl).whole)) rfl ?_; refine qV (.agg (Ov.arr ⟨3, 0, none, 0, 0, v7⟩)) (rn_build (cs := (Ov.arr ⟨3, 0, none, 0, 0, v7⟩)) rfl (by kernel_rfl)) rfl ?_; refine qm (.bool ((bothS f p.eO q.eO).isSome)) rfl ?_; intro a hF
      refine wlst hF M 1 rfl (vs := (Ov.arr ⟨3, 0, none, 0, 0, v7⟩)) rfl rfl rfl rfl rfl rfl rfl sz_O (Ov.arr_one _) (leb rfl) ?_; clear hF M a; intro W50 a M hF
      revert a; refine qm (.bool true) rfl ?_; refine qm (.bool ((bothS f p.eO q.eO).isSome)) rfl ?_; intro a hF; refine wl0 ?_
      refine wp_ret (?_ : bodyPost _ _ _ .ret _ _)
      exact res_cell2 Try.results50 rfl rfl rfl hF rfl (ld_O rfl (M.b 1 rfl).whole) (PcO.opt (d := bothS f p.eO q.eO) (g := fun e => .mk 3 0 [] e) M (by rw [pieceS, if_neg q0, if_neg p0, if_neg (fun h => p2 h.1), if_neg p2, if_neg q1]) fun t ht => ⟨rfl, rfl, ⟨_, KidsAt.none_⟩, M.grown.2 t ht⟩)
end Go.Proofs.Ytbmjiokjigkdnaa
namespace Go.Proofs.Ytbmjiokjigkdnaa
open Go.RowKit Go.Proofs.Ytbmjiokjigkdnaa.Top
theorem PsAt.rng {w : World} {S : Nat → Prop} {A : Option Addr} {n c : Nat} {l : List Piece} {pv : List Pv} (h : PsAt w S A n c l pv) {i : Nat} (hi : i < l.length) :
  ∃ b o v, A = some ⟨b, o, none⟩ ∧ S b ∧ w.rangeAt b (o + i * 29) (Pv.arr v).toList ∧ PcAt w S l[i] v := by
 have hi' : i < pv.length := by rw [h.pcs.1]; exact hi
 have hl : (pCellsL pv).length = pv.length * 29 := pLen pv
 obtain ⟨b, o, e, hb, hc⟩ := h.row.cells (by rw [hl]; omega)
 refine ⟨b, o, pv[i], e, hb, fun j u hu => ?_, h.pcs.2 i hi hi'⟩
 have hj := (List.getElem?_eq_some_iff.1 hu).1
 have hj : j < 29 := hj
 rw [Nat.add_assoc]
 exact hc _ _ ((flat_at (fun v : Pv => v.arr.toList) 29 (fun _ => rfl) pv i j hi' hj).trans hu)
theorem PsAt.len {w : World} {S : Nat → Prop} {A : Option Addr} {n c : Nat} {l : List Piece} {pv : List Pv} (h : PsAt w S A n c l pv) : n = l.length := by
 have := h.row.len
 rw [pLen, h.pcs.1] at this
 omega
def OsO (r : Option (List Opn)) (S : Nat → Prop) (w : World) (e : Ending) (w' : World) : Prop := ∃ (A : Option Addr) (n c : Nat) (ov : List Ov), e = .returned (.tuple #[.slice A n c, .bool r.isSome]) ∧ Below w.heap.size w w' ∧ ∀ u, r = some u → OsAt w' (Grow S w w') A n c u ov
section
variable {S : Nat → Prop} {w W : World} {l : List Box} {r : List Row} {F : World → (Nat → Prop) → Prop} {g : FuncId} {xs : Array Value}
theorem beh_mm {d : Option (List Piece)} (M : Mm S w W l r F) (hc : Calls Try.prog g xs W (BehP d (mmS S w W l r) W)) :
  Calls Try.prog g xs W fun e W' => ∃ (A : Option Addr) (n c : Nat) (pvs : List Pv), e = .returned (.tuple #[.slice A n c, .bool d.isSome]) ∧ Mm S w W' l r (fun W S => F W S ∧ PsO W S A n c pvs d) ∧ Un [] W W' :=
 hc.mono fun _ _ ⟨A, n, c, pvs, he, hb, h⟩ => ⟨A, n, c, pvs, he, M.call hb (stable_pso _ _ _ _ _) h, .of_below hb⟩
theorem pc_mm {d : Option (List Opn)} (M : Mm S w W l r F) (hc : Calls Try.prog g xs W (PcO d (mmS S w W l r) W)) :
  Calls Try.prog g xs W fun e W' => ∃ (v : Ov) (put : Bool), e = .returned (.tuple #[.agg v.arr, .bool put, .bool d.isSome]) ∧ Mm S w W' l r (fun W S => F W S ∧ ∀ u, d = some u → PcF u v put W S) ∧ Un [] W W' :=
 hc.mono fun _ _ ⟨v, put, he, hb, h⟩ => ⟨v, put, he, M.call hb (stable_opt _ fun _ => stable_pcf _ _ _) h, .of_below hb⟩
theorem wsO_mm {d : Option (List WE)} (M : Mm S w W l r F) (hc : Calls Try.prog g xs W (WsO d (mmS S w W l r) W)) :
  Calls Try.prog g xs W fun e W' => ∃ (A : Option Addr) (n c : Nat), e = .returned (.tuple #[.slice A n c, .bool d.isSome]) ∧ Mm S w W' l r (fun W S => F W S ∧ ∀ u, d = some u → WsAt W S A n c u) ∧ Un [] W W' :=
 hc.mono fun _ _ ⟨A, n, c, he, hb, h⟩ => ⟨A, n, c, he, M.call hb (stable_opt _ fun _ => stable_ws _ _ _ _) h, .of_below hb⟩
theorem ksO_mm {d : Option (List KEd)} (M : Mm S w W l r F) (hc : Calls Try.prog g xs W (KsO d (mmS S w W l r) W)) :
  Calls Try.prog g xs W fun e W' => ∃ (A : Option Addr) (n c : Nat) (kv : List Kv), e = .returned (.tuple #[.slice A n c, .bool d.isSome]) ∧ Mm S w W' l r (fun W S => F W S ∧ ∀ u, d = some u → KsAt W S A n c u kv) ∧ Un [] W W' :=
 hc.mono fun _ _ ⟨A, n, c, kv, he, hb, h⟩ => ⟨A, n, c, kv, he, M.call hb (stable_opt _ fun _ => stable_ks _ _ _ _ _) h, .of_below hb⟩
theorem osO_mm {d : Option (List Opn)} (M : Mm S w W l r F) (hc : Calls Try.prog g xs W (OsO d (mmS S w W l r) W)) :
  Calls Try.prog g xs W fun e W' => ∃ (A : Option Addr) (n c : Nat) (ov : List Ov), e = .returned (.tuple #[.slice A n c, .bool d.isSome]) ∧ Mm S w W' l r (fun W S => F W S ∧ ∀ u, d = some u → OsAt W S A n c u ov) ∧ Un [] W W' :=
 hc.mono fun _ _ ⟨A, n, c, ov, he, hb, h⟩ => ⟨A, n, c, ov, he, M.call hb (stable_opt _ fun _ => stable_os _ _ _ _ _) h, .of_below hb⟩
end
theorem pieces_next {comp : Ed → Ed → Option Ed} {x : Piece} {r : List Piece} {acc u : List Opn} (h : pieceS comp x = some u) : (piecesS comp (x :: r)).map (acc ++ ·) = (piecesS comp r).map ((acc ++ u) ++ ·) := by
 rw [piecesS, h, Option.bind_some]
 cases piecesS comp r <;> simp
theorem pieces_no {comp : Ed → Ed → Option Ed} {x : Piece} {r : List Piece} (h : pieceS comp x = none) : piecesS comp (x :: r) = none := by
 rw [piecesS, h]; rfl
set_option maxHeartbeats 1000000 in
theorem ops_any (B f : Nat) (hB : 2 * B ≤ 1000000000) (ih : BothH B f) (lk : Int) (b2 : 2 ≤ lk) (b9 : lk ≤ 9) (S : Nat → Prop) (w : World) (Ap : Option Addr) (np cp : Nat) (P Q : List Opn) (ovp : List Ov) (Aq : Option Addr) (nq cq : Nat) (ovq : List Ov) (hP : OsAt w S Ap np cp P ovp) (hQ : OsAt w S Aq nq cq Q ovq)
  (h1 : ∀ o ∈ P, neatS o ∧ goodO f lk o ∧ bdo B o) (h2 : ∀ o ∈ Q, neatS o ∧ goodO f lk o ∧ bdo B o) (u1 : (units P).length ≤ B) (u2 : (units Q).length ≤ B) (hS : ∀ b, S b → b < w.heap.size) :
  Calls Try.prog 33 #[.slice Ap np cp, .slice Aq nq cq] w (OsO ((behindS ((units P).length + (units Q).length + 1) P Q).bind (piecesS (bothS f))) S w) := by
 have M := Mm.begin (F := fun W S => OsAt W S Ap np cp P ovp ∧ OsAt W S Aq nq cq Q ovq) hS ((stable_os _ _ _ _ _).and (stable_os _ _ _ _ _)) ⟨hP, hQ⟩
 clear hP hQ
 refine calls_fr (xs := [.slice Ap np cp, .slice Aq nq cq]) Try.func33 rfl Try.ntmps33 rfl (fun a hF => ?_)
 refine wrgs rfl ?_; revert a; refine qm (.slice none 0 0) rfl ?_; refine qm (.bool false) rfl ?_; intro a hF; refine wl0 ?_
 have hc := beh_mm M (behind_any _ _ Ap np cp P Q ovp Aq nq cq ovq M.fact.1 M.fact.2 (fun o ho => (h1 o ho).1) (fun o ho => (h2 o ho).1) (by omega) M.lts)
 refine wrgs rfl ?_; revert a; refine qm (.slice Ap np cp) rfl ?_; refine qm (.slice Aq nq cq) rfl ?_; intro a hF
 refine wlc hF (rn_call2 (u := .slice Ap np cp) (u' := .slice Aq nq cq) rfl rfl rfl rfl Try.call49) hc rfl rfl rfl ?_; clear hF a
 clear hc; rintro e9 W7 ⟨A, n, c, pvs, rfl, M, _⟩; refine ⟨_, rfl, ?_⟩; intro a hF
 revert a; refine qm (.tuple #[.slice A n c, .bool ((behindS ((units P).length + (units Q).length + 1) P Q).isSome)]) rfl ?_; refine qV (.slice A n c) (rn_extract rfl rfl rfl) rfl ?_; refine qV (.bool ((behindS ((units P).length + (units Q).length + 1) P Q).isSome)) (rn_extract rfl rfl rfl) rfl ?_; refine qm (.slice A n c) rfl ?_; refine qm (.bool ((behindS ((units P).length + (units Q).length + 1) P Q).isSome)) rfl ?_; intro a hF; refine wl0 ?_
 cases hbd : (behindS ((units P).length + (units Q).length + 1) P Q) with
 | none =>
  rw [hbd] at hF
  refine wp_seq ?_
  refine wrgs rfl ?_; revert a; refine qm (.bool false) rfl ?_; refine qV (.bool true) (rn_not rfl rfl rfl) rfl ?_; intro a hF; refine wl0 ?_; refine cd_true hF rfl rfl ?_; refine wrgs rfl ?_; revert a; refine qm (.slice none 0 0) rfl ?_; refine qm (.bool false) rfl ?_; intro a hF; refine wl0 ?_
  refine wp_ret (?_ : bodyPost _ _ _ .ret _ _)
  exact res_slots Try.results33 rfl rfl hF ⟨none, 0, 0, [], rfl, M.bel, fun u hu => by cases hu⟩
 | some l =>
  rw [hbd] at hF
  have hall := behind_all (P := fun o => goodO f lk o ∧ bdo B o) (fun n hn o r hs hP hr => by
   have h1 := goodO_take b2 b9 n hn o r hs hP.1 (fun x hx => (hr x hx).1)
   have h2 := bdO_take (n := n) hP.2 (fun x hx => (hr x hx).2)
   exact ⟨⟨h1.1, h2.1⟩, fun x hx => ⟨h1.2 x hx, h2.2 x hx⟩⟩) _ P Q l h1 h2 hbd
  replace M := M.imp (F' := fun W S => PsAt W S A n c l pvs ∧ OpsAt W S [] []) ((stable_ps _ _ _ _ _).and (stable_ops _ _)) fun h => ⟨h.2 l hbd, OpsAt.nil⟩
  have hnl := M.fact.1.len; have hnf := M.fact.1.row.few
  replace M := M.nilRow 47 14
  clear hbd
  refine wp_seq ?_
  refine wrgs rfl ?_; revert a; refine qm (.bool true) rfl ?_; refine qV (.bool false) (rn_not rfl rfl rfl) rfl ?_; intro a hF; refine wl0 ?_; refine cd_false hF rfl rfl (wp_skip (nm_then ?_)); refine wrgs rfl ?_; revert a; refine qm (.slice none 0 0) rfl ?_; intro a hF; refine wl0 ?_
  refine wp_seq ?_
  refine wrgs rfl ?_; revert a; refine qm (.slice A n c) rfl ?_; refine qV (.int .i64 (↑n)) (rn_len rfl rfl is_lP) rfl ?_; refine qm (.int .i64 0) rfl ?_; intro a hF; refine wl0 ?_
  refine wp_block (wlp (fun m a W => ∃ (f9 : Nat → Value) (i : Nat) (acc : List Opn) (ovs : List Ov) (A9 : Option Addr) (c9 : Nat), Fr a 43 f9 ∧ f9 22 = .slice A n c ∧ f9 23 = .int .i64 (↑n : Int) ∧ f9 24 = .int .i64 (↑i : Int) ∧ f9 8 = .slice A9 acc.length c9 ∧ i + m = n ∧ acc.length ≤ i ∧ piecesS (bothS f) l = (piecesS (bothS f) (l.drop i)).map (acc ++ ·) ∧ Mm S w W [] (⟨47, 14, A9, acc.length, c9, (oCellsL ovs)⟩ :: []) (fun W S => PsAt W S A n c l pvs ∧ OpsAt W S acc ovs)) n ⟨_, 0, [], [], none, 0, hF, rfl, rfl, rfl, rfl, by omega, Nat.le_refl _, by simp, M⟩ ?_)
  clear hF M a
  rintro m a W ⟨f9, i, acc, ovs, A9, c9, hF, hfa, hfb, hfc, hf8, hm, hai, hpc, M⟩
  replace hF := ((((hF.same (d := 22) hfa).same (d := 23) hfb).same (d := 24) hfc).same (d := 8) hf8)
  have hrl := M.len 0 rfl
  by_cases hlt : i < n
  ·skip
   have hil : i < l.length := by omega
   have hxa := hall _ (List.getElem_mem hil)
   have hdr : l.drop i = l[i] :: l.drop (i + 1) := List.drop_eq_getElem_cons hil
   rw [hdr] at hpc; clear hdr
   refine wrgs rfl ?_; revert a; refine qV (.bool true) (rn_lss rfl rfl rfl (decide_eq_true (show (↑i : Int) < ↑n by omega))) rfl ?_; intro a hF; refine wl0 ?_
   refine wp_seq (cd_true hF rfl rfl (wp_skip (nm_then ?_)))
   refine wp_seq (wp_block ?_)
   obtain ⟨bo, oo, xv, hA, hbo, hR, hT⟩ := M.fact.1.rng hil; clear hbo
   replace M := M.note (stable_pc _ _) hT; clear hT
   rw [hA] at hF
   generalize hx : l[i] = x at *
   refine wrgs rfl ?_; revert a; refine qV (.pointer (some ⟨bo, oo + i * 29, none⟩)) (rn_index (b := bo) (of := oo) (q := oo + i * 29) rfl rfl rfl (by omega) es_lP (by rw [Int.toNat_natCast])) rfl ?_; refine qV (.agg (Pv.arr xv)) (rn_load rfl rfl (ld_P rfl hR)) rfl ?_; intro a hF
   obtain ⟨bk1, hbk1⟩ : ∃ g, W.heap.size = g := ⟨_, rfl⟩
   refine wlal hF M hbk1 rfl rfl rfl (rn_alloc rfl zc_P hbk1) ?_; clear hF M a; intro W21 a M hF
   refine wlst hF M 0 rfl (vs := (Pv.arr xv)) rfl rfl rfl rfl rfl rfl rfl sz_P (Pv.arr_one _) (leb rfl) ?_; clear hF M a; intro W22 a M hF
   refine wl0 ?_
   clear hR
   have hc := pc_mm M (piece_any B f hB ih lk x xv _ _ hxa M.fact.2 M.lts)
   refine wrgs rfl ?_; revert a; refine qV (.agg (Pv.arr xv)) (rn_load rfl rfl (ld_P rfl (M.b 0 rfl).whole)) rfl ?_; intro a hF
   refine wlc hF (rn_call1 (u := .agg (Pv.arr xv)) rfl rfl rfl Try.call50) hc rfl rfl rfl ?_; clear hF a
   clear hc; rintro e9 W37 ⟨v7, put, rfl, M, _⟩; refine ⟨_, rfl, ?_⟩; intro a hF
   revert a; refine qm (.tuple #[.agg (Ov.arr v7), .bool put, .bool ((pieceS (bothS f) x).isSome)]) rfl ?_; refine qV (.agg (Ov.arr v7)) (rn_extract rfl rfl rfl) rfl ?_; refine qV (.bool put) (rn_extract rfl rfl rfl) rfl ?_; refine qV (.bool ((pieceS (bothS f) x).isSome)) (rn_extract rfl rfl rfl) rfl ?_; intro a hF
   obtain ⟨bk2, hbk2⟩ : ∃ g, W37.heap.size = g := ⟨_, rfl⟩
   refine wlal hF M hbk2 rfl rfl rfl (rn_alloc rfl zc_O hbk2) ?_; clear hF M a; intro W38 a M hF
   refine wlst hF M 0 rfl (vs := (Ov.arr v7)) rfl rfl rfl rfl rfl rfl rfl sz_O (Ov.arr_one _) (leb rfl) ?_; clear hF M a; intro W39 a M hF
   revert a; refine qm (.bool put) rfl ?_; refine qm (.bool ((pieceS (bothS f) x).isSome)) rfl ?_; intro a hF; refine wl0 ?_
   cases hps : pieceS (bothS f) x with
   | none =>
    rw [hps] at hF
    rw [pieces_no hps] at hpc
    refine wp_seq ?_
    refine wrgs rfl ?_; revert a; refine qm (.bool false) rfl ?_; refine qV (.bool true) (rn_not rfl rfl rfl) rfl ?_; intro a hF; refine wl0 ?_; refine cd_true hF rfl rfl ?_; refine wrgs rfl ?_; revert a; refine qm (.slice none 0 0) rfl ?_; refine qm (.bool false) rfl ?_; intro a hF; refine wl0 ?_
    refine wp_ret (?_ : bodyPost _ _ _ .ret _ _)
    refine res_slots Try.results33 rfl rfl hF ?_
    rw [Option.bind_some, hpc]
    exact ⟨none, 0, 0, [], rfl, M.bel, fun u hu => by cases hu⟩
   | some u =>
    rw [hps] at hF
    rw [pieces_next hps] at hpc
    refine wp_seq ?_
    refine wrgs rfl ?_; revert a; refine qm (.bool true) rfl ?_; refine qV (.bool false) (rn_not rfl rfl rfl) rfl ?_; intro a hF; refine wl0 ?_; refine cd_false hF rfl rfl (wp_skip (nm_then ?_))
    rcases M.fact.2 u hps with ⟨hpu, hu⟩ | ⟨hpu, o9, hu, _⟩
    ·subst hpu hu
     rw [List.append_nil] at hpc
     refine wrgs rfl ?_; revert a; refine qm (.bool false) rfl ?_; intro a hF; refine wl0 ?_; refine cd_false hF rfl rfl (wp_skip (nm_block (nm_then ?_))); refine wrg rfl ?_; revert a; refine qV (.int .i64 (↑(i + 1) : Int)) (rn_add (q := (↑(i + 1) : Int)) rfl rfl rfl (by omega) (by omega) (by omega)) rfl ?_; refine qm (.int .i64 (↑(i + 1) : Int)) rfl ?_; intro a hF; refine wl0 ?_; refine nm_then ⟨m - 1, by omega, _, i + 1, acc, ovs, A9, c9, hF, hA.symm ▸ rfl, rfl, rfl, ?_, by omega, ?_, ?_, ?_⟩
     ·rfl
     ·omega
     ·exact hpc
     ·exact M.tail.tail.imp ((stable_ps _ _ _ _ _).and (stable_ops _ _)) fun h => h.1.1
    ·subst hpu
     refine wrgs rfl ?_; revert a; refine qm (.bool true) rfl ?_; intro a hF; refine wl0 ?_; refine cd_true hF rfl rfl ?_; refine wrg rfl ?_; revert a; refine qm (.slice A9 acc.length c9) rfl ?_; refine qV (.agg (Ov.arr v7)) (rn_load rfl rfl (ld_O rfl (M.b 0 rfl).whole)) rfl ?_; intro a hF
     obtain ⟨bk3, hbk3⟩ : ∃ g, W39.heap.size = g := ⟨_, rfl⟩
     refine wlal hF M hbk3 rfl rfl rfl (rn_bs1 (cs := (Ov.arr v7)) ti_lO (by decide) rfl rfl rfl hbk3) ?_; clear hF M a; intro W40 a M hF
     refine wlap hF M 0 rfl ti_lO rfl rfl rfl rfl rfl ((Ov.arr v7).toList) rfl rfl (src_box (M.b 0 rfl)) (Ov.arr_one _) (by show (acc.length + 1) * 240 ≤ _; omega) (by show acc.length + 1 ≤ _; unfold maxLen; omega) ?_; clear hF M a; intro A41 c41 W41 a M hF
     revert a; refine qm (.slice A41 (acc.length + 1) c41) rfl ?_; intro a hF; refine wl0 ?_
     replace M := M.tail.tail.tail
     rw [oSnoc] at M
     refine nm_block (nm_then ?_); refine wrg rfl ?_; revert a; refine qV (.int .i64 (↑(i + 1) : Int)) (rn_add (q := (↑(i + 1) : Int)) rfl rfl rfl (by omega) (by omega) (by omega)) rfl ?_; refine qm (.int .i64 (↑(i + 1) : Int)) rfl ?_; intro a hF; refine wl0 ?_; refine nm_then ⟨m - 1, by omega, _, i + 1, acc ++ u, ovs ++ [v7], A41, c41, hF, hA.symm ▸ rfl, rfl, rfl, ?_, by omega, ?_, ?_, ?_⟩
     ·rw [hu, List.length_append]; rfl
     ·rw [hu, List.length_append, List.length_singleton]; omega
     ·exact hpc
     ·rw [hu, List.length_append]
      exact M.imp ((stable_ps _ _ _ _ _).and (stable_ops _ _)) fun h => ⟨h.1.1.1, h.1.1.2.app (OpsAt.one (by
       rcases h.2 u hps with ⟨h9, _⟩ | ⟨_, o8, h8, h7⟩
       ·cases h9
       ·rw [hu] at h8; injection h8 with h8; subst h8; exact h7))⟩
  ·skip
   refine wrgs rfl ?_; revert a; refine qV (.bool false) (rn_lss rfl rfl rfl (decide_eq_false (show ¬ (↑i : Int) < ↑n by omega))) rfl ?_; intro a hF; refine wl0 ?_
   refine wp_seq (cd_false hF rfl rfl (wp_exit (ex_then (ex_then (ex_here ?_)))))
   refine nm_then ?_
   have hpc : piecesS (bothS f) l = some acc := by rw [hpc, List.drop_of_length_le (by omega), piecesS]; simp
   have M2 := M.done 0 (few := 586406201480) rfl (by show acc.length ≤ _; omega)
   replace M := M2.unrow; clear M2
   refine wrgs rfl ?_; revert a; refine qm (.slice A9 acc.length c9) rfl ?_; refine qm (.slice A9 acc.length c9) rfl ?_; refine qm (.bool true) rfl ?_; intro a hF; refine wl0 ?_
   refine wp_ret (res_slots Try.results33 rfl rfl hF ?_)
   rw [Option.bind_some, hpc]
   exact ⟨A9, acc.length, c9, ovs, rfl, M.bel, fun u hu => by injection hu with hu; subst hu; exact ⟨M.grown.1.2.1, M.grown.2, M.grown.1.2.2⟩⟩
end Go.Proofs.Ytbmjiokjigkdnaa
namespace Go.Proofs.Ytbmjiokjigkdnaa
open Go.RowKit Go.Proofs.Ytbmjiokjigkdnaa.Top
theorem EdO.opt {α : Type} {d : Option α} {g : α → Ed} {r : Option Ed} {v : Ev} {S : Nat → Prop} {w W : World} {l : List Box} {rr : List Row} {F : World → (Nat → Prop) → Prop} (M : Mm S w W l rr F) (hr : r = d.map g) (h : ∀ t, d = some t → EdAt W (Grow S w W) (g t) v) : EdO r S w (.returned (.tuple #[.agg v.arr, .bool d.isSome])) W := by
 subst hr
 refine ⟨v, by rw [Option.isSome_map]; rfl, M.bel, fun u hu => ?_⟩
 obtain ⟨t, ht, rfl⟩ := Option.map_eq_some_iff.1 hu
 exact h t ht
theorem EdO.nothing {r : Option Ed} {v : Ev} {S : Nat → Prop} {w W : World} {l : List Box} {rr : List Row} {F : World → (Nat → Prop) → Prop} (M : Mm S w W l rr F) (hr : r = none) : EdO r S w (.returned (.tuple #[.agg v.arr, .bool false])) W := by
 subst hr
 exact ⟨v, rfl, M.bel, fun u hu => by cases hu⟩
theorem EdO.yes {r : Option Ed} {e : Ed} {v : Ev} {S : Nat → Prop} {w W : World} {l : List Box} {rr : List Row} {F : World → (Nat → Prop) → Prop} (M : Mm S w W l rr F) (hr : r = some e) (h : EdAt W (Grow S w W) e v) : EdO r S w (.returned (.tuple #[.agg v.arr, .bool true])) W := by
 subst hr
 exact ⟨v, rfl, M.bel, fun u hu => by injection hu with hu; subst hu; exact h⟩
theorem kid2_any (B f : Nat) (ih : BothH B f) (x y : KEd) (vx vy : Kv) (S : Nat → Prop) (w : World) (hx : dE x.e ≤ f ∧ rightE x.e ∧ bdE B x.e) (hy : dE y.e ≤ f ∧ rightE y.e ∧ bdE B y.e) (ax : vx.at_ = x.at_) (ex : EdAt w S x.e vx.e) (ay : vy.at_ = y.at_) (ey : EdAt w S y.e vy.e) (hS : ∀ b, S b → b < w.heap.size) :
  Calls Try.prog 48 #[.agg vx.arr, .agg vy.arr] w (KdO ((bothS f x.e y.e).map (.mk x.at_ ·)) S w) := by
 have M := Mm.begin (F := fun W S => EdAt W S x.e vx.e ∧ EdAt W S y.e vy.e) hS ((stable_ed _ _).and (stable_ed _ _)) ⟨ex, ey⟩
 clear ex ey
 refine calls_fr (xs := [.agg vx.arr, .agg vy.arr]) Try.func48 rfl Try.ntmps48 rfl (fun a hF => ?_)
 refine wrgs rfl ?_
 obtain ⟨bk1, hbk1⟩ : ∃ g, w.heap.size = g := ⟨_, rfl⟩
 refine wlal hF M hbk1 rfl rfl rfl (rn_box (cs := (Kv.arr vx)) rfl rfl hbk1) ?_; clear hF M a; intro W1 a M hF
 obtain ⟨bk2, hbk2⟩ : ∃ g, W1.heap.size = g := ⟨_, rfl⟩
 refine wlal hF M hbk2 rfl rfl rfl (rn_box (cs := (Kv.arr vy)) rfl rfl hbk2) ?_; clear hF M a; intro W2 a M hF
 obtain ⟨bk3, hbk3⟩ : ∃ g, W2.heap.size = g := ⟨_, rfl⟩
 refine wlal hF M hbk3 rfl rfl rfl (rn_alloc rfl zc_K hbk3) ?_; clear hF M a; intro W3 a M hF
 revert a; refine qm (.bool false) rfl ?_; intro a hF; refine wl0 ?_
 have hc := edO_mm M (ih x.e y.e vx.e vy.e _ _ hx.1 hy.1 hx.2.1 hy.2.1 hx.2.2 hy.2.2 M.fact.1 M.fact.2 M.lts)
 refine wrgs rfl ?_; revert a; refine qf bk1 1 fo_K1 rfl rfl ?_; refine qV (.agg (Ev.arr vx.e)) (rn_load rfl rfl (ld_E (cs := (Ev.arr vx.e)) rfl ((M.b 2 rfl).range 1 _ (sub_of rfl)))) rfl ?_; refine qf bk2 1 fo_K1 rfl rfl ?_; refine qV (.agg (Ev.arr vy.e)) (rn_load rfl rfl (ld_E (cs := (Ev.arr vy.e)) rfl ((M.b 1 rfl).range 1 _ (sub_of rfl)))) rfl ?_; intro a hF
 refine wlc hF (rn_call2 (u := .agg (Ev.arr vx.e)) (u' := .agg (Ev.arr vy.e)) rfl rfl rfl rfl Try.call18) hc rfl rfl rfl ?_; clear hF a
 clear hc; rintro e9 W7 ⟨v7, rfl, M, _⟩; refine ⟨_, rfl, ?_⟩; intro a hF
 revert a; refine qm (.tuple #[.agg (Ev.arr v7), .bool ((bothS f x.e y.e).isSome)]) rfl ?_; refine qV (.agg (Ev.arr v7)) (rn_extract rfl rfl rfl) rfl ?_; refine qV (.bool ((bothS f x.e y.e).isSome)) (rn_extract rfl rfl rfl) rfl ?_; intro a hF
 obtain ⟨bk4, hbk4⟩ : ∃ g, W7.heap.size = g := ⟨_, rfl⟩
 refine wlal hF M hbk4 rfl rfl rfl (rn_alloc rfl zc_E hbk4) ?_; clear hF M a; intro W8 a M hF
 refine wlst hF M 0 rfl (vs := (Ev.arr v7)) rfl rfl rfl rfl rfl rfl rfl sz_E (Ev.arr_one _) (leb rfl) ?_; clear hF M a; intro W9 a M hF
 revert a; refine qm (.bool ((bothS f x.e y.e).isSome)) rfl ?_; intro a hF; refine wl0 ?_; refine wrgs rfl ?_; revert a; refine qf bk1 0 fo_K0 rfl rfl ?_; refine qV (.int .i64 vx.at_) (rn_load rfl rfl (ld_one one_int ((M.b 3 rfl).cell 0))) rfl ?_; refine qV (.agg (Ev.arr v7)) (rn_load rfl rfl (ld_E rfl (M.b 0 rfl).whole)) rfl ?_; refine qV (.agg (Kv.arr ⟨vx.at_, v7⟩)) (rn_build (cs := (Kv.arr ⟨vx.at_, v7⟩)) rfl (by kernel_rfl)) rfl ?_; refine qm (.bool ((bothS f x.e y.e).isSome)) rfl ?_; intro a hF
 refine wlst hF M 1 rfl (vs := (Kv.arr ⟨vx.at_, v7⟩)) rfl rfl rfl rfl rfl rfl rfl sz_K (Kv.arr_one _) (leb rfl) ?_; clear hF M a; intro W10 a M hF
 revert a; refine qm (.bool ((bothS f x.e y.e).isSome)) rfl ?_; intro a hF; refine wl0 ?_
 refine wp_ret (res_cell1 Try.results48 rfl rfl hF rfl (ld_K rfl (M.b 1 rfl).whole) ?_)
 refine ⟨⟨vx.at_, v7⟩, by rw [Option.isSome_map]; rfl, M.bel, fun u hu => ?_⟩
 obtain ⟨t, ht, rfl⟩ := Option.map_eq_some_iff.1 hu
 exact ⟨ax, M.grown.2 t ht⟩
theorem words_any (P Q : List WE) (Ap : Option Addr) (np cp : Nat) (Aq : Option Addr) (nq cq : Nat) (S : Nat → Prop) (w : World) (hP : WsAt w S Ap np cp P) (hQ : WsAt w S Aq nq cq Q) (hB : P.length + Q.length ≤ 1000000000) (hS : ∀ b, S b → b < w.heap.size) :
  Calls Try.prog 31 #[.slice Ap np cp, .slice Aq nq cq] w (WsO (mergeR WE.at_ WE.comp (P.length + Q.length + 1) P Q) S w) := by
 have M := Mm.begin (F := fun W S => WsAt W S Ap np cp P ∧ WsAt W S Aq nq cq Q) hS ((stable_ws _ _ _ _).and (stable_ws _ _ _ _)) ⟨hP, hQ⟩
 clear hP hQ
 refine calls_fr (xs := [.slice Ap np cp, .slice Aq nq cq]) Try.func31 rfl Try.ntmps31 rfl (fun a hF => ?_)
 refine wrgs rfl ?_; revert a; refine qm (.slice none 0 0) rfl ?_; refine qm (.bool false) rfl ?_; intro a hF; refine wl0 ?_
 have hc := wsO_mm M (merged43_any P Q Ap np cp Aq nq cq _ _ M.fact.1 M.fact.2 (by omega) M.lts)
 refine wrgs rfl ?_; revert a; refine qm (.slice Ap np cp) rfl ?_; refine qm (.slice Aq nq cq) rfl ?_; intro a hF
 refine wlc hF (rn_call4 (u := .slice Ap np cp) (u' := .slice Aq nq cq) (u'' := .func (.func 44) #[] #[]) (u3 := .func (.func 45) #[] #[]) rfl rfl rfl rfl rfl rfl Try.call43) hc rfl rfl rfl ?_; clear hF a
 clear hc; rintro e9 W7 ⟨A9, n9, c9, rfl, M, _⟩; refine ⟨_, rfl, ?_⟩; intro a hF
 revert a; refine qV (.slice A9 n9 c9) (rn_extract rfl rfl rfl) rfl ?_; refine qV (.bool ((mergeR WE.at_ WE.comp (P.length + Q.length + 1) P Q).isSome)) (rn_extract rfl rfl rfl) rfl ?_; refine qm (.slice A9 n9 c9) rfl ?_; refine qm (.bool ((mergeR WE.at_ WE.comp (P.length + Q.length + 1) P Q).isSome)) rfl ?_; intro a hF; refine wl0 ?_
 exact wp_ret (res_slots Try.results31 rfl rfl hF ⟨A9, n9, c9, rfl, M.bel, fun u hu => M.grown.2 u hu⟩)
theorem kids_any (B f : Nat) (ih : BothH B f) (P Q : List KEd) (Ap : Option Addr) (np cp : Nat) (Aq : Option Addr) (nq cq : Nat) (kvp kvq : List Kv) (S : Nat → Prop) (w : World) (hP : KsAt w S Ap np cp P kvp) (hQ : KsAt w S Aq nq cq Q kvq) (h1 : ∀ x ∈ P, dE x.e ≤ f ∧ rightE x.e ∧ bdE B x.e) (h2 : ∀ x ∈ Q, dE x.e ≤ f ∧ rightE x.e ∧ bdE B x.e) (hB : P.length + Q.length ≤ 1000000000) (hS : ∀ b, S b → b < w.heap.size) :
  Calls Try.prog 32 #[.slice Ap np cp, .slice Aq nq cq] w (KsO (mergeR KEd.at_ (fun a b => (bothS f a.e b.e).map (.mk a.at_ ·)) (P.length + Q.length + 1) P Q) S w) := by
 have M := Mm.begin (F := fun W S => KsAt W S Ap np cp P kvp ∧ KsAt W S Aq nq cq Q kvq) hS ((stable_ks _ _ _ _ _).and (stable_ks _ _ _ _ _)) ⟨hP, hQ⟩
 clear hP hQ
 refine calls_fr (xs := [.slice Ap np cp, .slice Aq nq cq]) Try.func32 rfl Try.ntmps32 rfl (fun a hF => ?_)
 refine wrgs rfl ?_; revert a; refine qm (.slice none 0 0) rfl ?_; refine qm (.bool false) rfl ?_; intro a hF; refine wl0 ?_
 have hc := ksO_mm M (merged46_any P Q (fun a b => (bothS f a.e b.e).map (.mk a.at_ ·)) (fun x hx y hy vx vy S' W ax ex ay ey hS' => kid2_any B f ih x y vx vy S' W (h1 x hx) (h2 y hy) ax ex ay ey hS') Ap np cp Aq nq cq kvp kvq _ _ M.fact.1 M.fact.2 (by omega) M.lts)
 refine wrgs rfl ?_; revert a; refine qm (.slice Ap np cp) rfl ?_; refine qm (.slice Aq nq cq) rfl ?_; intro a hF
 refine wlc hF (rn_call4 (u := .slice Ap np cp) (u' := .slice Aq nq cq) (u'' := .func (.func 47) #[] #[]) (u3 := .func (.func 48) #[] #[]) rfl rfl rfl rfl rfl rfl Try.call46) hc rfl rfl rfl ?_; clear hF a
 clear hc; rintro e9 W7 ⟨A9, n9, c9, kv9, rfl, M, _⟩; refine ⟨_, rfl, ?_⟩; intro a hF
 revert a; refine qV (.slice A9 n9 c9) (rn_extract rfl rfl rfl) rfl ?_; intro a hF
 refine wlv (v := .bool ((mergeR KEd.at_ (fun a b => (bothS f a.e b.e).map (.mk a.at_ ·)) (P.length + Q.length + 1) P Q).isSome)) hF (rn_extract rfl rfl rfl) rfl rfl rfl ?_; clear hF a; intro a hF
 revert a; refine qm (.slice A9 n9 c9) rfl ?_; intro a hF
 refine wlv (v := .bool ((mergeR KEd.at_ (fun a b => (bothS f a.e b.e).map (.mk a.at_ ·)) (P.length + Q.length + 1) P Q).isSome)) hF (rn_assign rfl rfl) rfl rfl rfl ?_; clear hF a; intro a hF
 refine wl0 ?_
 exact wp_ret (res_slots Try.results32 rfl rfl hF ⟨A9, n9, c9, kv9, rfl, M.bel, fun u hu => M.grown.2 u hu⟩)
set_option maxHeartbeats 1000000 in
theorem both_all (B : Nat) (hB : 2 * B ≤ 1000000000) : ∀ N, BothH B N := by
 intro N
 induction N with
 | zero =>
  intro p q vp vq S w hd
  obtain ⟨kind, old, new, ws, ks, lk, ops⟩ := p
  rw [dE] at hd
  omega
 | succ f ih =>
  intro p q vp vq S w hdp hdq hrp hrq hbp hbq hp hq hS
  have M := Mm.begin (F := fun W S => EdAt W S p vp ∧ EdAt W S q vq) hS ((stable_ed _ _).and (stable_ed _ _)) ⟨hp, hq⟩
  obtain ⟨k1, old1, new1, ws1, ks1, lk1, ops1⟩ := p
  obtain ⟨k2, old2, new2, ws2, ks2, lk2, ops2⟩ := q
  obtain ⟨hdk1, hdo1⟩ := dE_ks hdp
  obtain ⟨hdk2, hdo2⟩ := dE_ks hdq
  obtain ⟨hk1, hlk1, kv1, ov1, hP1⟩ := hp.parts
  obtain ⟨hk2, hlk2, kv2, ov2, hP2⟩ := hq.parts
  have ok1 := hrp.1; have ok2 := hrq.1
  rw [okE] at ok1 ok2
  have nt1 := hrp.2; have nt2 := hrq.2
  rw [neatE] at nt1 nt2
  have bd1 := hbp; have bd2 := hbq
  rw [bdE] at bd1 bd2
  clear hp hq hP1 hP2
  generalize he1 : Ed.mk k1 old1 new1 ws1 ks1 lk1 ops1 = p at *
  generalize he2 : Ed.mk k2 old2 new2 ws2 ks2 lk2 ops2 = q at *
  have hpp : ∀ {W : World} {S : Nat → Prop}, EdAt W S p vp → ∃ kv ov, EdParts W S old1 new1 ws1 ks1 ops1 vp kv ov := fun h => by rw [← he1] at h; exact h.parts.2.2
  have hqq : ∀ {W : World} {S : Nat → Prop}, EdAt W S q vq → ∃ kv ov, EdParts W S old2 new2 ws2 ks2 ops2 vq kv ov := fun h => by rw [← he2] at h; exact h.parts.2.2
  refine calls_fr (xs := [.agg vp.arr, .agg vq.arr]) Try.func18 rfl Try.ntmps18 rfl (fun a hF => ?_)
  refine wrgs rfl ?_
  obtain ⟨bk1, hbk1⟩ : ∃ g, w.heap.size = g := ⟨_, rfl⟩
  refine wlal hF M hbk1 rfl rfl rfl (rn_box (cs := (Ev.arr vp)) rfl rfl hbk1) ?_; clear hF M a; intro W1 a M hF
  obtain ⟨bk2, hbk2⟩ : ∃ g, W1.heap.size = g := ⟨_, rfl⟩
  refine wlal hF M hbk2 rfl rfl rfl (rn_box (cs := (Ev.arr vq)) rfl rfl hbk2) ?_; clear hF M a; intro W2 a M hF
  obtain ⟨bk3, hbk3⟩ : ∃ g, W2.heap.size = g := ⟨_, rfl⟩
  refine wlal hF M hbk3 rfl rfl rfl (rn_alloc rfl zc_E hbk3) ?_; clear hF M a; intro W3 a M hF
  revert a; refine qm (.bool false) rfl ?_; intro a hF; refine wl0 ?_
  generalize bk3 = gr at *; generalize bk2 = gq at *; generalize bk1 = gp at *
  refine wp_seq (wp_block ?_)
  by_cases c1 : k1 = 0
  ·skip
   refine wrgs rfl ?_; revert a; refine qf gp 0 fo_E0 rfl rfl ?_; refine qV (.int .i64 vp.k) (rn_load rfl rfl (ld_one one_int ((M.b 2 rfl).cell 0))) rfl ?_; refine qV (.bool true) (rn_eql rfl rfl rfl (by rw [hk1, c1]; rfl)) rfl ?_; refine qm (.bool true) rfl ?_; intro a hF; refine wl0 ?_; refine cd_true hF rfl rfl ?_; refine wrgs rfl ?_; revert a; refine qV (.agg (Ev.arr vq)) (rn_load rfl rfl (ld_E rfl (M.b 1 rfl).whole)) rfl ?_; intro a hF
   refine wlst hF M 0 rfl (vs := (Ev.arr vq)) rfl rfl rfl rfl rfl rfl rfl sz_E (Ev.arr_one _) (leb rfl) ?_; clear hF M a; intro W4 a M hF
   revert a; refine qm (.bool true) rfl ?_; intro a hF; refine wl0 ?_
   refine wp_ret (?_ : bodyPost _ _ _ .ret _ _)
   exact res_cell1 Try.results18 rfl rfl hF rfl (ld_E rfl (M.b 0 rfl).whole) (EdO.yes (e := q) M (by rw [← he1, ← he2, bothS, if_pos c1]) M.grown.2)
  ·skip
   refine wrgs rfl ?_; revert a; refine qf gp 0 fo_E0 rfl rfl ?_; refine qV (.int .i64 vp.k) (rn_load rfl rfl (ld_one one_int ((M.b 2 rfl).cell 0))) rfl ?_; refine qV (.bool false) (rn_eql rfl rfl rfl (by rw [hk1]; exact beq_false_of_ne c1)) rfl ?_; refine qm (.bool false) rfl ?_; intro a hF; refine wl0 ?_; refine cd_false hF rfl rfl ?_
   by_cases c2 : k2 = 0
   ·skip
    refine wrgs rfl ?_; revert a; refine qf gq 0 fo_E0 rfl rfl ?_; refine qV (.int .i64 vq.k) (rn_load rfl rfl (ld_one one_int ((M.b 1 rfl).cell 0))) rfl ?_; refine qV (.bool true) (rn_eql rfl rfl rfl (by rw [hk2, c2]; rfl)) rfl ?_; refine qm (.bool true) rfl ?_; intro a hF; refine wl0 ?_; refine cd_true hF rfl rfl ?_; refine wrgs rfl ?_; revert a; refine qV (.agg (Ev.arr vp)) (rn_load rfl rfl (ld_E rfl (M.b 2 rfl).whole)) rfl ?_; intro a hF
    refine wlst hF M 0 rfl (vs := (Ev.arr vp)) rfl rfl rfl rfl rfl rfl rfl sz_E (Ev.arr_one _) (leb rfl) ?_; clear hF M a; intro W5 a M hF
    revert a; refine qm (.bool true) rfl ?_; intro a hF; refine wl0 ?_
    refine wp_ret (?_ : bodyPost _ _ _ .ret _ _)
    exact res_cell1 Try.results18 rfl rfl hF rfl (ld_E rfl (M.b 0 rfl).whole) (EdO.yes (e := p) M (by rw [← he1, ← he2, bothS, if_neg c1, if_pos c2]) M.grown.1)
   ·skip
    refine wrgs rfl ?_; revert a; refine qf gq 0 fo_E0 rfl rfl ?_; refine qV (.int .i64 vq.k) (rn_load rfl rfl (ld_one one_int ((M.b 1 rfl).cell 0))) rfl ?_; refine qV (.bool false) (rn_eql rfl rfl rfl (by rw [hk2]; exact beq_false_of_ne c2)) rfl ?_; refine qm (.bool false) rfl ?_; intro a hF; refine wl0 ?_; refine cd_false hF rfl rfl ?_
    by_cases c3 : k1 = 1
    ·skip
     refine wrgs rfl ?_; revert a; refine qf gp 0 fo_E0 rfl rfl ?_; refine qV (.int .i64 vp.k) (rn_load rfl rfl (ld_one one_int ((M.b 2 rfl).cell 0))) rfl ?_; refine qV (.bool true) (rn_eql rfl rfl rfl (by rw [hk1, c3]; rfl)) rfl ?_; refine qm (.bool true) rfl ?_; intro a hF; refine wl0 ?_; refine cd_true hF rfl rfl ?_
     obtain ⟨_, _, hpP⟩ := hpp M.fact.1
     have hc := oneP_mm M (apply_any B B (by omega) q new1 vq vp.new _ _ hrq hbq bd1.2.1 M.fact.2 hpP.new M.lts)
     clear hpP
     refine wrgs rfl ?_; revert a; refine qV (.agg (Ev.arr vq)) (rn_load rfl rfl (ld_E rfl (M.b 1 rfl).whole)) rfl ?_; refine qf gp 4 fo_E2 rfl rfl ?_; refine qV (.agg (Tv.arr vp.new)) (rn_load rfl rfl (ld_T (cs := (Tv.arr vp.new)) rfl ((M.b 2 rfl).range 4 _ (sub_of rfl)))) rfl ?_; intro a hF
     refine wlc hF (rn_call2 (u := .agg (Ev.arr vq)) (u' := .agg (Tv.arr vp.new)) rfl rfl rfl rfl Try.call10) hc rfl rfl rfl ?_; clear hF a
     clear hc; rintro e9 W7 ⟨v7, rfl, M, _⟩; refine ⟨_, rfl, ?_⟩; intro a hF
     revert a; refine qm (.tuple #[.agg (Tv.arr v7), .bool ((applyS q new1).isSome)]) rfl ?_; refine qV (.agg (Tv.arr v7)) (rn_extract rfl rfl rfl) rfl ?_; refine qV (.bool ((applyS q new1).isSome)) (rn_extract rfl rfl rfl) rfl ?_; intro a hF
     obtain ⟨bk4, hbk4⟩ : ∃ g, W7.heap.size = g := ⟨_, rfl⟩
     refine wlal hF M hbk4 rfl rfl rfl (rn_alloc rfl zc_T hbk4) ?_; clear hF M a; intro W8 a M hF
     refine wlst hF M 0 rfl (vs := (Tv.arr v7)) rfl rfl rfl rfl rfl rfl rfl sz_T (Tv.arr_one _) (leb rfl) ?_; clear hF M a; intro W9 a M hF
     revert a; refine qm (.bool ((applyS q new1).isSome)) rfl ?_; intro a hF; refine wl0 ?_; refine wrgs rfl ?_; revert a; refine qf gp 1 fo_E1 rfl rfl ?_; refine qV (.agg (Tv.arr vp.old)) (rn_load rfl rfl (ld_T (cs := (Tv.arr vp.old)) rfl ((M.b 3 rfl).range 1 _ (sub_of rfl)))) rfl ?_; refine qV (.agg (Tv.arr v7)) (rn_load rfl rfl (ld_T rfl (M.b 0 rfl).whole)) rfl ?_; refine qV (.agg (Ev.arr ⟨1, vp.old, v7, none, 0, 0, none, 0, 0, 0, none, 0, 0⟩)) (rn_build (cs := (Ev.arr ⟨1, vp.old, v7, none, 0, 0, none, 0, 0, 0, none, 0, 0⟩)) rfl (by kernel_rfl)) rfl ?_; refine qm (.bool ((applyS q new1).isSome)) rfl ?_; intro a hF
     refine wlst hF M 1 rfl (vs := (Ev.arr ⟨1, vp.old, v7, none, 0, 0, none, 0, 0, 0, none, 0, 0⟩)) rfl rfl rfl rfl rfl rfl rfl sz_E (Ev.arr_one _) (leb rfl) ?_; clear hF M a; intro W10 a M hF
     revert a; refine qm (.bool ((applyS q new1).isSome)) rfl ?_; intro a hF; refine wl0 ?_
     refine wp_ret (?_ : bodyPost _ _ _ .ret _ _)
     exact res_cell1 Try.results18 rfl rfl hF rfl (ld_E rfl (M.b 1 rfl).whole) (EdO.opt (d := applyS q new1) (g := fun t => .mk 1 old1 t [] [] 0 []) M (by rw [← he1, ← he2, bothS, if_neg c1, if_neg c2, if_pos c3]) fun t ht => (hpp M.grown.1.1).elim fun _ h => h.elim fun _ h => EdAt.of h.old (M.grown.2 t ht) .none_ .none_ .none_)
    ·skip
     refine wrgs rfl ?_; revert a; refine qf gp 0 fo_E0 rfl rfl ?_; refine qV (.int .i64 vp.k) (rn_load rfl rfl (ld_one one_int ((M.b 2 rfl).cell 0))) rfl ?_; refine qV (.bool false) (rn_eql rfl rfl rfl (by rw [hk1]; exact beq_false_of_ne c3)) rfl ?_; refine qm (.bool false) rfl ?_; intro a hF; refine wl0 ?_; refine cd_false hF rfl rfl ?_
     by_cases c4 : k2 = 1
     ·skip
      refine wrgs rfl ?_; revert a; refine qf gq 0 fo_E0 rfl rfl ?_; refine qV (.int .i64 vq.k) (rn_load rfl rfl (ld_one one_int ((M.b 1 rfl).cell 0))) rfl ?_; refine qV (.bool true) (rn_eql rfl rfl rfl (by rw [hk2, c4]; rfl)) rfl ?_; refine qm (.bool true) rfl ?_; intro a hF; refine wl0 ?_; refine cd_true hF rfl rfl ?_
      refine wdrs (Un (rows ([])) W3.drew) (fun i => Nat.beq i 9) prog_mixed ?_
      have M0 := M.drew' _ rfl
      generalize W3.drew = W11 at *
      have M := M0; have hU := Un.refl (rows ([])) W11
      revert a; refine qt 0 (.agg (Ev.arr vp)) rfl (fun W' hw => (rn_load rfl rfl (ld_E rfl (M0.ub hw 2 rfl).whole))) hU rfl (by kernel_rfl) ?_; refine qo 2 gq 1 fo_E1 hU rfl rfl (by kernel_rfl) ?_; refine qt 3 (.agg (Tv.arr vq.old)) rfl (fun W' hw => (rn_load rfl rfl (ld_T (cs := (Tv.arr vq.old)) rfl ((M0.ub hw 1 rfl).range 1 _ (sub_of rfl))))) hU rfl (by kernel_rfl) ?_; intro a hF
      refine g2 (i := 1) (j := 8) (by kernel_rfl) ?_ ?_
      ·skip
       have hc := edP_mm M (invert_any B (by omega) p vp _ _ hrp.2 hbp M.fact.1 M.lts)
       refine gc1 hF (rn_call1 (u := .agg (Ev.arr vp)) rfl rfl rfl Try.call12) hc rfl rfl rfl rfl ?_; clear hF a
       rintro e W12 ⟨v6, rfl, M, hb⟩; replace hU := hU.nil hb; clear hb; refine ⟨_, rfl, fun _ => hU, ?_⟩; intro a hF
       clear hc
       refine g2 (i := 4) (j := 8) (by kernel_rfl) ?_ ?_
       ·skip
        obtain ⟨_, _, hqP⟩ := hqq M.fact.1.2
        have hc := oneP_mm M (apply_any B B (by omega) (invertE p) old2 v6 vq.old _ _ (invert_right hrp) (bdE_normal (neat_turned hrp.2) (bdE_turned hbp)) bd2.1 M.fact.2 hqP.old M.lts)
        clear hqP
        refine gc1 hF (rn_call2 (u := .agg (Ev.arr v6)) (u' := .agg (Tv.arr vq.old)) rfl rfl rfl rfl Try.call10) hc rfl rfl rfl rfl ?_; clear hF a
        rintro e W13 ⟨v7, rfl, M, hb⟩; replace hU := hU.nil hb; clear hb; refine ⟨_, rfl, fun _ => hU, ?_⟩; intro a hF
        clear hc
        revert a; refine qx 5 (.tuple #[.agg (Tv.arr v7), .bool ((applyS (invertE p) old2).isSome)]) hU rfl (by kernel_rfl) ?_; refine qp 6 (.agg (Tv.arr v7)) rfl (rn_extract rfl rfl rfl) hU rfl (by kernel_rfl) ?_; refine qp 7 (.bool ((applyS (invertE p) old2).isSome)) rfl (rn_extract rfl rfl rfl) hU rfl (by kernel_rfl) ?_; intro a hF; refine g1 (i := 8) (by kernel_rfl) ?_
        obtain ⟨bk5, hbk5⟩ : ∃ g, W13.heap.size = g := ⟨_, rfl⟩
        refine wgal hF M hU hbk5 rfl rfl rfl rfl (rn_alloc rfl zc_T hbk5) ?_; clear hF M hU a; intro W14 a M hU hgebk5 hF
        refine g1 (i := 9) (by kernel_rfl) ?_
        refine wgst hF M 0 rfl (vs := (Tv.arr v7)) (by kernel_rfl) rfl rfl rfl rfl rfl rfl rfl rfl sz_T (Tv.arr_one _) (leb rfl) ?_; clear hF M a; intro W15 a M hF
        refine wgp (i := 10) (v := .bool ((applyS (invertE p) old2).isSome)) hF (fun W' => (rn_assign rfl rfl)) rfl (by kernel_rfl) rfl rfl rfl (fin_no (by kernel_rfl)) ?_; clear hF a; intro a hF
        refine wgd (by kernel_rfl) ?_ _; refine wrgs rfl ?_; revert a; refine qV (.agg (Tv.arr v7)) (rn_load rfl rfl (ld_T rfl (M.b 0 rfl).whole)) rfl ?_; refine qf gq 4 fo_E2 rfl rfl ?_; refine qV (.agg (Tv.arr vq.new)) (rn_load rfl rfl (ld_T (cs := (Tv.arr vq.new)) rfl ((M.b 2 rfl).range 4 _ (sub_of rfl)))) rfl ?_; refine qV (.agg (Ev.arr ⟨1, v7, vq.new, none, 0, 0, none, 0, 0, 0, none, 0, 0⟩)) (rn_build (cs := (Ev.arr ⟨1, v7, vq.new, none, 0, 0, none, 0, 0, 0, none, 0, 0⟩)) rfl (by kernel_rfl)) rfl ?_; refine qm (.bool ((applyS (invertE p) old2).isSome)) rfl ?_; intro a hF
        refine wlst hF M 1 rfl (vs := (Ev.arr ⟨1, v7, vq.new, none, 0, 0, none, 0, 0, 0, none, 0, 0⟩)) rfl rfl rfl rfl rfl rfl rfl sz_E (Ev.arr_one _) (leb rfl) ?_; clear hF M a; intro W16 a M hF
        revert a; refine qm (.bool ((applyS (invertE p) old2).isSome)) rfl ?_; intro a hF; refine wl0 ?_
        refine wp_ret (?_ : bodyPost _ _ _ .ret _ _)
        exact res_cell1 Try.results18 rfl rfl hF rfl (ld_E rfl (M.b 1 rfl).whole) (EdO.opt (d := applyS (invertE p) old2) (g := fun t => .mk 1 t new2 [] [] 0 []) M (by rw [← he1, ← he2, bothS, if_neg c1, if_neg c2, if_neg c3, if_pos c4]; rw [he1]; rfl) fun t ht => (hqq M.grown.1.1.2).elim fun _ h => h.elim fun _ h => EdAt.of (M.grown.2 t ht) h.new .none_ .none_ .none_)
       ·skip
        obtain ⟨bk6, hbk6⟩ : ∃ g, W12.heap.size = g := ⟨_, rfl⟩
        refine wgal hF M hU hbk6 rfl rfl rfl rfl (rn_alloc rfl zc_T hbk6) ?_; clear hF M hU a; intro W17 a M hU hgebk6 hF
        refine g1 (i := 4) (by kernel_rfl) ?_
        obtain ⟨_, _, hqP⟩ := hqq M.fact.1.2
        have hc := oneP_mm M (apply_any B B (by omega) (invertE p) old2 v6 vq.old _ _ (invert_right hrp) (bdE_normal (neat_turned hrp.2) (bdE_turned hbp)) bd2.1 M.fact.2 hqP.old M.lts)
        clear hqP
        refine gc1 hF (rn_call2 (u := .agg (Ev.arr v6)) (u' := .agg (Tv.arr vq.old)) rfl rfl rfl rfl Try.call10) hc rfl rfl rfl rfl ?_; clear hF a
        rintro e W18 ⟨v7, rfl, M, hb⟩; replace hU := hU.nil hb; clear hb; refine ⟨_, rfl, fun _ => hU, ?_⟩; intro a hF
        clear hc
        revert a; refine qx 5 (.tuple #[.agg (Tv.arr v7), .bool ((applyS (invertE p) old2).isSome)]) hU rfl (by kernel_rfl) ?_; refine qp 6 (.agg (Tv.arr v7)) rfl (rn_extract rfl rfl rfl) hU rfl (by kernel_rfl) ?_; refine qp 7 (.bool ((applyS (invertE p) old2).isSome)) rfl (rn_extract rfl rfl rfl) hU rfl (by kernel_rfl) ?_; intro a hF; refine g1 (i := 9) (by kernel_rfl) ?_
        refine wgst hF M 0 rfl (vs := (Tv.arr v7)) (by kernel_rfl) rfl rfl rfl rfl rfl rfl rfl rfl sz_T (Tv.arr_one _) (leb rfl) ?_; clear hF M a; intro W19 a M hF
        refine wgp (i := 10) (v := .bool ((applyS (invertE p) old2).isSome)) hF (fun W' => (rn_assign rfl rfl)) rfl (by kernel_rfl) rfl rfl rfl (fin_no (by kernel_rfl)) ?_; clear hF a; intro a hF
        refine wgd (by kernel_rfl) ?_ _; refine wrgs rfl ?_; revert a; refine qV (.agg (Tv.arr v7)) (rn_load rfl rfl (ld_T rfl (M.b 0 rfl).whole)) rfl ?_; refine qf gq 4 fo_E2 rfl rfl ?_; refine qV (.agg (Tv.arr vq.new)) (rn_load rfl rfl (ld_T (cs := (Tv.arr vq.new)) rfl ((M.b 2 rfl).range 4 _ (sub_of rfl)))) rfl ?_; refine qV (.agg (Ev.arr ⟨1, v7, vq.new, none, 0, 0, none, 0, 0, 0, none, 0, 0⟩)) (rn_build (cs := (Ev.arr ⟨1, v7, vq.new, none, 0, 0, none, 0, 0, 0, none, 0, 0⟩)) rfl (by kernel_rfl)) rfl ?_; refine qm (.bool ((applyS (invertE p) old2).isSome)) rfl ?_; intro a hF
        refine wlst hF M 1 rfl (vs := (Ev.arr ⟨1, v7, vq.new, none, 0, 0, none, 0, 0, 0, none, 0, 0⟩)) rfl rfl rfl rfl rfl rfl rfl sz_E (Ev.arr_one _) (leb rfl) ?_; clear hF M a; intro W20 a M hF
        revert a; refine qm (.bool ((applyS (invertE p) old2).isSome)) rfl ?_; intro a hF; refine wl0 ?_
        refine wp_ret (?_ : bodyPost _ _ _ .ret _ _)
        exact res_cell1 Try.results18 rfl rfl hF rfl (ld_E rfl (M.b 1 rfl).whole) (EdO.opt (d := applyS (invertE p) old2) (g := fun t => .mk 1 t new2 [] [] 0 []) M (by rw [← he1, ← he2, bothS, if_neg c1, if_neg c2, if_neg c3, if_pos c4]; rw [he1]; rfl) fun t ht => (hqq M.grown.1.1.2).elim fun _ h => h.elim fun _ h => EdAt.of (M.grown.2 t ht) h.new .none_ .none_ .none_)
      ·skip
       obtain ⟨bk7, hbk7⟩ : ∃ g, W11.heap.size = g := ⟨_, rfl⟩
       refine wgal hF M hU hbk7 rfl rfl rfl rfl (rn_alloc rfl zc_T hbk7) ?_; clear hF M hU a; intro W21 a M hU hgebk7 hF
       refine g1 (i := 1) (by kernel_rfl) ?_
       have hc := edP_mm M (invert_any B (by omega) p vp _ _ hrp.2 hbp M.fact.1 M.lts)
       refine gc1 hF (rn_call1 (u := .agg (Ev.arr vp)) rfl rfl rfl Try.call12) hc rfl rfl rfl rfl ?_; clear hF a
       rintro e W22 ⟨v6, rfl, M, hb⟩; replace hU := hU.nil hb; clear hb; refine ⟨_, rfl, fun _ => hU, ?_⟩; intro a hF
       clear hc
       refine g1 (i := 4) (by kernel_rfl) ?_
       obtain ⟨_, _, hqP⟩ := hqq M.fact.1.2
       have hc := oneP_mm M (apply_any B B (by omega) (invertE p) old2 v6 vq.old _ _ (invert_right hrp) (bdE_normal (neat_turned hrp.2) (bdE_turned hbp)) bd2.1 M.fact.2 hqP.old M.lts)
       clear hqP
       refine gc1 hF (rn_call2 (u := .agg (Ev.arr v6)) (u' := .agg (Tv.arr vq.old)) rfl rfl rfl rfl Try.call10) hc rfl rfl rfl rfl ?_; clear hF a
       rintro e W23 ⟨v7, rfl, M, hb⟩; replace hU := hU.nil hb; clear hb; refine ⟨_, rfl, fun _ => hU, ?_⟩; intro a hF
       clear hc
       revert a; refine qx 5 (.tuple #[.agg (Tv.arr v7), .bool ((applyS (invertE p) old2).isSome)]) hU rfl (by kernel_rfl) ?_; refine qp 6 (.agg (Tv.arr v7)) rfl (rn_extract rfl rfl rfl) hU rfl (by kernel_rfl) ?_; refine qp 7 (.bool ((applyS (invertE p) old2).isSome)) rfl (rn_extract rfl rfl rfl) hU rfl (by kernel_rfl) ?_; intro a hF; refine g1 (i := 9) (by kernel_rfl) ?_
       refine wgst hF M 0 rfl (vs := (Tv.arr v7)) (by kernel_rfl) rfl rfl rfl rfl rfl rfl rfl rfl sz_T (Tv.arr_one _) (leb rfl) ?_; clear hF M a; intro W24 a M hF
       refine wgp (i := 10) (v := .bool ((applyS (invertE p) old2).isSome)) hF (fun W' => (rn_assign rfl rfl)) rfl (by kernel_rfl) rfl rfl rfl (fin_no (by kernel_rfl)) ?_; clear hF a; intro a hF
       refine wgd (by kernel_rfl) ?_ _; refine wrgs rfl ?_; revert a; refine qV (.agg (Tv.arr v7)) (rn_load rfl rfl (ld_T rfl (M.b 0 rfl).whole)) rfl ?_; refine qf gq 4 fo_E2 rfl rfl ?_; refine qV (.agg (Tv.arr vq.new)) (rn_load rfl rfl (ld_T (cs := (Tv.arr vq.new)) rfl ((M.b 2 rfl).range 4 _ (sub_of rfl)))) rfl ?_; refine qV (.agg (Ev.arr ⟨1, v7, vq.new, none, 0, 0, none, 0, 0, 0, none, 0, 0⟩)) (rn_build (cs := (Ev.arr ⟨1, v7, vq.new, none, 0, 0, none, 0, 0, 0, none, 0, 0⟩)) rfl (by kernel_rfl)) rfl ?_; refine qm (.bool ((applyS (invertE p) old2).isSome)) rfl ?_; intro a hF
       refine wlst hF M 1 rfl (vs := (Ev.arr ⟨1, v7, vq.new, none, 0, 0, none, 0, 0, 0, none, 0, 0⟩)) rfl rfl rfl rfl rfl rfl rfl sz_E (Ev.arr_one _) (leb rfl) ?_; clear hF M a; intro W25 a M hF
       revert a; refine qm (.bool ((applyS (invertE p) old2).isSome)) rfl ?_; intro a hF; refine wl0 ?_
       refine wp_ret (?_ : bodyPost _ _ _ .ret _ _)
       exact res_cell1 Try.results18 rfl rfl hF rfl (ld_E rfl (M.b 1 rfl).whole) (EdO.opt (d := applyS (invertE p) old2) (g := fun t => .mk 1 t new2 [] [] 0 []) M (by rw [← he1, ← he2, bothS, if_neg c1, if_neg c2, if_neg c3, if_pos c4]; rw [he1]; rfl) fun t ht => (hqq M.grown.1.1.2).elim fun _ h => h.elim fun _ h => EdAt.of (M.grown.2 t ht) h.new .none_ .none_ .none_)
     ·skip
      refine wrgs rfl ?_; revert a; refine qf gq 0 fo_E0 rfl rfl ?_; refine qV (.int .i64 vq.k) (rn_load rfl rfl (ld_one one_int ((M.b 1 rfl).cell 0))) rfl ?_; refine qV (.bool false) (rn_eql rfl rfl rfl (by rw [hk2]; exact beq_false_of_ne c4)) rfl ?_; refine qm (.bool false) rfl ?_; intro a hF; refine wl0 ?_; refine cd_false hF rfl rfl ?_
      by_cases c5 : k1 = k2
      ·skip
       by_cases c6 : lk1 = lk2
       ·skip
        refine wrgs rfl ?_; revert a; refine qf gp 0 fo_E0 rfl rfl ?_; refine qV (.int .i64 vp.k) (rn_load rfl rfl (ld_one one_int ((M.b 2 rfl).cell 0))) rfl ?_; refine qf gq 0 fo_E0 rfl rfl ?_; refine qV (.int .i64 vq.k) (rn_load rfl rfl (ld_one one_int ((M.b 1 rfl).cell 0))) rfl ?_; refine qV (.bool false) (rn_neq rfl rfl rfl (by rw [hk1, hk2, c5]; exact bne_self_eq_false _)) rfl ?_; refine qm (.bool false) rfl ?_; refine qg (.pointer (some ⟨gp, 9, none⟩)) (rn_field (q := 9) rfl rfl fo_E5 rfl) rfl ?_; refine qg (.int .i64 vp.lk) (rn_load rfl rfl (ld_one one_int ((M.b 2 rfl).cell 9))) rfl ?_; refine qg (.pointer (some ⟨gq, 9, none⟩)) (rn_field (q := 9) rfl rfl fo_E5 rfl) rfl ?_; refine qg (.int .i64 vq.lk) (rn_load rfl rfl (ld_one one_int ((M.b 1 rfl).cell 9))) rfl ?_; refine qg (.bool false) (rn_neq rfl rfl rfl (by rw [hlk1, hlk2, c6]; exact bne_self_eq_false _)) rfl ?_; refine qV (.bool false) (rn_pick rfl rfl rfl) rfl ?_; refine qm (.bool false) rfl ?_; intro a hF; refine wl0 ?_; refine cd_false hF rfl rfl ?_
        have c56 : ¬ (k1 ≠ k2 ∨ lk1 ≠ lk2) := fun h => h.elim (fun h => h c5) (fun h => h c6)
        by_cases c7 : k1 = 2
        ·skip
         refine wrgs rfl ?_; revert a; refine qf gp 0 fo_E0 rfl rfl ?_; refine qV (.int .i64 vp.k) (rn_load rfl rfl (ld_one one_int ((M.b 2 rfl).cell 0))) rfl ?_; refine qV (.bool true) (rn_eql rfl rfl rfl (by rw [hk1, c7]; rfl)) rfl ?_; refine qm (.bool true) rfl ?_; intro a hF; refine wl0 ?_; refine cd_true hF rfl rfl ?_
         have hwk1 := ok1.2.2.2.1 c7; have hwk2 := ok2.2.2.2.1 (by omega)
         obtain ⟨_, _, hpP⟩ := hpp M.fact.1; obtain ⟨_, _, hqP⟩ := hqq M.fact.2
         have hc := wsO_mm M (words_any ws1 ws2 _ _ _ _ _ _ _ _ hpP.ws hqP.ws (by omega) M.lts)
         clear hpP hqP
         refine wrgs rfl ?_; revert a; refine qf gp 7 fo_E3 rfl rfl ?_; refine qV (.slice vp.W vp.wn vp.wc) (rn_load rfl rfl (ld_one one_lW ((M.b 2 rfl).cell 7))) rfl ?_; refine qf gq 7 fo_E3 rfl rfl ?_; refine qV (.slice vq.W vq.wn vq.wc) (rn_load rfl rfl (ld_one one_lW ((M.b 1 rfl).cell 7))) rfl ?_; intro a hF
         refine wlc hF (rn_call2 (u := .slice vp.W vp.wn vp.wc) (u' := .slice vq.W vq.wn vq.wc) rfl rfl rfl rfl Try.call31) hc rfl rfl rfl ?_; clear hF a
         clear hc; rintro e9 W7 ⟨A7, n7, c7', rfl, M, _⟩; refine ⟨_, rfl, ?_⟩; intro a hF
         revert a; refine qm (.tuple #[.slice A7 n7 c7', .bool ((mergeR WE.at_ WE.comp (ws1.length + ws2.length + 1) ws1 ws2).isSome)]) rfl ?_; refine qV (.slice A7 n7 c7') (rn_extract rfl rfl rfl) rfl ?_; refine qV (.bool ((mergeR WE.at_ WE.comp (ws1.length + ws2.length + 1) ws1 ws2).isSome)) (rn_extract rfl rfl rfl) rfl ?_; refine qm (.slice A7 n7 c7') rfl ?_; refine qm (.bool ((mergeR WE.at_ WE.comp (ws1.length + ws2.length + 1) ws1 ws2).isSome)) rfl ?_; intro a hF; refine wl0 ?_
         cases hmw : mergeR WE.at_ WE.comp (ws1.length + ws2.length + 1) ws1 ws2 with
         | none =>
          rw [hmw] at hF
          refine wp_seq ?_
          refine wrgs rfl ?_; revert a; refine qm (.bool false) rfl ?_; refine qV (.bool true) (rn_not rfl rfl rfl) rfl ?_; intro a hF; refine wl0 ?_; refine cd_true hF rfl rfl ?_; refine wrgs rfl ?_; revert a; refine qV (.agg (Ev.arr Ev.nil)) (rn_build (cs := (Ev.arr Ev.nil)) rfl (by kernel_rfl)) rfl ?_; intro a hF
          refine wlst hF M 0 rfl (vs := (Ev.arr Ev.nil)) rfl rfl rfl rfl rfl rfl rfl sz_E (Ev.arr_one _) (leb rfl) ?_; clear hF M a; intro W8 a M hF
          revert a; refine qm (.bool false) rfl ?_; intro a hF; refine wl0 ?_
          refine wp_ret (?_ : bodyPost _ _ _ .ret _ _)
          exact res_cell1 Try.results18 rfl rfl hF rfl (ld_E rfl (M.b 0 rfl).whole) (EdO.nothing M (by rw [← he1, ← he2, bothS, if_neg c1, if_neg c2, if_neg c3, if_neg c4, if_neg c56, if_pos c7]; rw [hmw]; rfl))
         | some w9 =>
          rw [hmw] at hF
          refine wp_seq ?_
          refine wrgs rfl ?_; revert a; refine qm (.bool true) rfl ?_; refine qV (.bool false) (rn_not rfl rfl rfl) rfl ?_; intro a hF; refine wl0 ?_; refine cd_false hF rfl rfl (wp_skip (nm_then ?_))
          obtain ⟨_, _, hpP⟩ := hpp M.fact.1.1; obtain ⟨_, _, hqP⟩ := hqq M.fact.1.2
          have hc := ksO_mm M (kids_any B f ih ks1 ks2 _ _ _ _ _ _ _ _ _ _ hpP.ks hqP.ks (fun x hx => ⟨hdk1 x hx, ⟨(okKs_ge hwk1.2.2 (by omega) x hx).2, neatK_mem nt1.2.2.1 x hx⟩, (bdK_iff.1 bd1.2.2.2.2.2.1 x hx).2⟩) (fun x hx => ⟨hdk2 x hx, ⟨(okKs_ge hwk2.2.2 (by omega) x hx).2, neatK_mem nt2.2.2.1 x hx⟩, (bdK_iff.1 bd2.2.2.2.2.2.1 x hx).2⟩) (by omega) M.lts)
          clear hpP hqP
          refine wrgs rfl ?_; revert a; refine qf gp 8 fo_E4 rfl rfl ?_; refine qV (.slice vp.K vp.kn vp.kc) (rn_load rfl rfl (ld_one one_lK ((M.b 2 rfl).cell 8))) rfl ?_; refine qf gq 8 fo_E4 rfl rfl ?_; refine qV (.slice vq.K vq.kn vq.kc) (rn_load rfl rfl (ld_one one_lK ((M.b 1 rfl).cell 8))) rfl ?_; intro a hF
          refine wlc hF (rn_call2 (u := .slice vp.K vp.kn vp.kc) (u' := .slice vq.K vq.kn vq.kc) rfl rfl rfl rfl Try.call32) hc rfl rfl rfl ?_; clear hF a
          clear hc; rintro e9 W8 ⟨A8, n8, c8, kv8, rfl, M, _⟩; refine ⟨_, rfl, ?_⟩; intro a hF
          refine wlv (v := .tuple #[.slice A8 n8 c8, .bool ((mergeR KEd.at_ (fun a b => (bothS f a.e b.e).map (.mk a.at_ ·)) (ks1.length + ks2.length + 1) ks1 ks2).isSome)]) hF (rn_move rfl rfl) rfl rfl rfl ?_; clear hF a; intro a hF
          revert a; refine qV (.slice A8 n8 c8) (rn_extract rfl rfl rfl) rfl ?_; intro a hF
          refine wlv (v := .bool ((mergeR KEd.at_ (fun a b => (bothS f a.e b.e).map (.mk a.at_ ·)) (ks1.length + ks2.length + 1) ks1 ks2).isSome)) hF (rn_extract rfl rfl rfl) rfl rfl rfl ?_; clear hF a; intro a hF
          revert a; refine qm (.slice A8 n8 c8) rfl ?_; intro a hF
          refine wlv (v := .bool ((mergeR KEd.at_ (fun a b => (bothS f a.e b.e).map (.mk a.at_ ·)) (ks1.length + ks2.length + 1) ks1 ks2).isSome)) hF (rn_assign rfl rfl) rfl rfl rfl ?_; clear hF a; intro a hF
          refine wl0 ?_; refine wrgs rfl ?_; revert a; refine qm (.slice A7 n7 c7') rfl ?_; refine qm (.slice A8 n8 c8) rfl ?_; refine qV (.agg (Ev.arr ⟨2, Tv.nil, Tv.nil, A7, n7, c7', A8, n8, c8, 0, none, 0, 0⟩)) (rn_build (cs := (Ev.arr ⟨2, Tv.nil, Tv.nil, A7, n7, c7', A8, n8, c8, 0, none, 0, 0⟩)) rfl (by kernel_rfl)) rfl ?_; intro a hF
          refine wlv (v := .bool ((mergeR KEd.at_ (fun a b => (bothS f a.e b.e).map (.mk a.at_ ·)) (ks1.length + ks2.length + 1) ks1 ks2).isSome)) hF (rn_move rfl rfl) rfl rfl rfl ?_; clear hF a; intro a hF
          refine wlst hF M 0 rfl (vs := (Ev.arr ⟨2, Tv.nil, Tv.nil, A7, n7, c7', A8, n8, c8, 0, none, 0, 0⟩)) rfl rfl rfl rfl rfl rfl rfl sz_E (Ev.arr_one _) (leb rfl) ?_; clear hF M a; intro W9 a M hF
          refine wlv (v := .bool ((mergeR KEd.at_ (fun a b => (bothS f a.e b.e).map (.mk a.at_ ·)) (ks1.length + ks2.length + 1) ks1 ks2).isSome)) hF (rn_assign rfl rfl) rfl rfl rfl ?_; clear hF a; intro a hF
          refine wl0 ?_
          refine wp_ret (?_ : bodyPost _ _ _ .ret _ _)
          exact res_cell1 Try.results18 rfl rfl hF rfl (ld_E rfl (M.b 0 rfl).whole) (EdO.opt (d := mergeR KEd.at_ (fun a b => (bothS f a.e b.e).map (.mk a.at_ ·)) (ks1.length + ks2.length + 1) ks1 ks2) (g := fun k => .mk 2 nilT nilT w9 k 0 []) M (by rw [← he1, ← he2, bothS, if_neg c1, if_neg c2, if_neg c3, if_neg c4, if_neg c56, if_pos c7]; rw [hmw]; rfl) fun t ht => EdAt.of TreeAt.nil TreeAt.nil (M.grown.1.2 w9 hmw) (M.grown.2 t ht) .none_)
        ·skip
         have c8 : k1 = 3 := by omega
         refine wrgs rfl ?_; revert a; refine qf gp 0 fo_E0 rfl rfl ?_; refine qV (.int .i64 vp.k) (rn_load rfl rfl (ld_one one_int ((M.b 2 rfl).cell 0))) rfl ?_; refine qV (.bool false) (rn_eql rfl rfl rfl (by rw [hk1]; exact beq_false_of_ne c7)) rfl ?_; refine qm (.bool false) rfl ?_; intro a hF; refine wl0 ?_; refine cd_false hF rfl rfl (wp_skip (nm_block (nm_then ?_)))
         have ho1 := ok1.2.2.2.2 c8; have ho2 := ok2.2.2.2.2 (by omega)
         have g1 : ∀ o ∈ ops1, neatS o ∧ goodO f lk1 o ∧ bdo B o := fun o ho => ⟨(neatO_mem nt1.2.2.2 o ho).1, ⟨okOs_iff.1 ho1.2.2 o ho, (neatO_mem nt1.2.2.2 o ho).2.1, (neatO_mem nt1.2.2.2 o ho).2.2, hdo1 o ho⟩, bdO_iff.1 bd1.2.2.2.2.2.2.2 o ho⟩
         have g2 : ∀ o ∈ ops2, neatS o ∧ goodO f lk1 o ∧ bdo B o := fun o ho => ⟨(neatO_mem nt2.2.2.2 o ho).1, ⟨by rw [c6]; exact okOs_iff.1 ho2.2.2 o ho, (neatO_mem nt2.2.2.2 o ho).2.1, (neatO_mem nt2.2.2.2 o ho).2.2, hdo2 o ho⟩, bdO_iff.1 bd2.2.2.2.2.2.2.2 o ho⟩
         obtain ⟨_, _, hpP⟩ := hpp M.fact.1; obtain ⟨_, _, hqP⟩ := hqq M.fact.2
         have hc := osO_mm M (ops_any B f hB ih lk1 ho1.1 ho1.2.1 _ _ _ _ _ ops1 ops2 _ _ _ _ _ hpP.ops hqP.ops g1 g2 bd1.2.2.2.2.2.2.1 bd2.2.2.2.2.2.2.1 M.lts)
         clear hpP hqP
         refine wrgs rfl ?_; revert a; refine qf gp 10 fo_E6 rfl rfl ?_; refine qV (.slice vp.O vp.on vp.oc) (rn_load rfl rfl (ld_one one_lO ((M.b 2 rfl).cell 10))) rfl ?_; refine qf gq 10 fo_E6 rfl rfl ?_; refine qV (.slice vq.O vq.on vq.oc) (rn_load rfl rfl (ld_one one_lO ((M.b 1 rfl).cell 10))) rfl ?_; intro a hF
         refine wlc hF (rn_call2 (u := .slice vp.O vp.on vp.oc) (u' := .slice vq.O vq.on vq.oc) rfl rfl rfl rfl Try.call33) hc rfl rfl rfl ?_; clear hF a
         clear hc; rintro e9 W7 ⟨A7, n7, c7', ov7, rfl, M, _⟩; refine ⟨_, rfl, ?_⟩; intro a hF
         revert a; refine qm (.tuple #[.slice A7 n7 c7', .bool (((behindS ((units ops1).length + (units ops2).length + 1) ops1 ops2).bind (piecesS (bothS f))).isSome)]) rfl ?_; refine qV (.slice A7 n7 c7') (rn_extract rfl rfl rfl) rfl ?_; refine qV (.bool (((behindS ((units ops1).length + (units ops2).length + 1) ops1 ops2).bind (piecesS (bothS f))).isSome)) (rn_extract rfl rfl rfl) rfl ?_; refine qm (.slice A7 n7 c7') rfl ?_; refine qm (.bool (((behindS ((units ops1).length + (units ops2).length + 1) ops1 ops2).bind (piecesS (bothS f))).isSome)) rfl ?_; intro a hF; refine wl0 ?_; refine wrgs rfl ?_; revert a; refine qf gp 9 fo_E5 rfl rfl ?_; refine qV (.int .i64 vp.lk) (rn_load rfl rfl (ld_one one_int ((M.b 2 rfl).cell 9))) rfl ?_; refine qm (.slice A7 n7 c7') rfl ?_; refine qV (.agg (Ev.arr ⟨3, Tv.nil, Tv.nil, none, 0, 0, none, 0, 0, vp.lk, A7, n7, c7'⟩)) (rn_build (cs := (Ev.arr ⟨3, Tv.nil, Tv.nil, none, 0, 0, none, 0, 0, vp.lk, A7, n7, c7'⟩)) rfl (by kernel_rfl)) rfl ?_; refine qm (.bool (((behindS ((units ops1).length + (units ops2).length + 1) ops1 ops2).bind (piecesS (bothS f))).isSome)) rfl ?_; intro a hF
         refine wlst hF M 0 rfl (vs := (Ev.arr ⟨3, Tv.nil, Tv.nil, none, 0, 0, none, 0, 0, vp.lk, A7, n7, c7'⟩)) rfl rfl rfl rfl rfl rfl rfl sz_E (Ev.arr_one _) (leb rfl) ?_; clear hF M a; intro W8 a M hF
         revert a; refine qm (.bool (((behindS ((units ops1).length + (units ops2).length + 1) ops1 ops2).bind (piecesS (bothS f))).isSome)) rfl ?_; intro a hF; refine wl0 ?_
         have hbe : bothS (f + 1) p q = ((behindS ((units ops1).length + (units ops2).length + 1) ops1 ops2).bind (piecesS (bothS f))).map fun o => .mk 3 nilT nilT [] [] lk1 o := by
          rw [← he1, ← he2, bothS, if_neg c1, if_neg c2, if_neg c3, if_neg c4, if_neg c56, if_neg c7]
          cases behindS ((units ops1).length + (units ops2).length + 1) ops1 ops2 <;> rfl
         refine wp_ret (?_ : bodyPost _ _ _ .ret _ _)
         exact res_cell1 Try.results18 rfl rfl hF rfl (ld_E rfl (M.b 0 rfl).whole) (EdO.opt (d := (behindS ((units ops1).length + (units ops2).length + 1) ops1 ops2).bind (piecesS (bothS f))) (g := fun o => .mk 3 nilT nilT [] [] lk1 o) M hbe fun t ht => by rw [← hlk1]; exact EdAt.of TreeAt.nil TreeAt.nil .none_ .none_ (M.grown.2 t ht))
       ·skip
        refine wrgs rfl ?_; revert a; refine qf gp 0 fo_E0 rfl rfl ?_; refine qV (.int .i64 vp.k) (rn_load rfl rfl (ld_one one_int ((M.b 2 rfl).cell 0))) rfl ?_; refine qf gq 0 fo_E0 rfl rfl ?_; refine qV (.int .i64 vq.k) (rn_load rfl rfl (ld_one one_int ((M.b 1 rfl).cell 0))) rfl ?_; refine qV (.bool false) (rn_neq rfl rfl rfl (by rw [hk1, hk2, c5]; exact bne_self_eq_false _)) rfl ?_; refine qm (.bool false) rfl ?_; refine qg (.pointer (some ⟨gp, 9, none⟩)) (rn_field (q := 9) rfl rfl fo_E5 rfl) rfl ?_; refine qg (.int .i64 vp.lk) (rn_load rfl rfl (ld_one one_int ((M.b 2 rfl).cell 9))) rfl ?_; refine qg (.pointer (some ⟨gq, 9, none⟩)) (rn_field (q := 9) rfl rfl fo_E5 rfl) rfl ?_; refine qg (.int .i64 vq.lk) (rn_load rfl rfl (ld_one one_int ((M.b 1 rfl).cell 9))) rfl ?_; refine qg (.bool true) (rn_neq rfl rfl rfl (by rw [hlk1, hlk2]; exact bne_iff_ne.2 c6)) rfl ?_; refine qV (.bool true) (rn_pick rfl rfl rfl) rfl ?_; refine qm (.bool true) rfl ?_; intro a hF; refine wl0 ?_; refine cd_true hF rfl rfl ?_; refine wrgs rfl ?_; revert a; refine qV (.agg (Ev.arr Ev.nil)) (rn_build (cs := (Ev.arr Ev.nil)) rfl (by kernel_rfl)) rfl ?_; intro a hF
        refine wlst hF M 0 rfl (vs := (Ev.arr Ev.nil)) rfl rfl rfl rfl rfl rfl rfl sz_E (Ev.arr_one _) (leb rfl) ?_; clear hF M a; intro W9 a M hF
        revert a; refine qm (.bool false) rfl ?_; intro a hF; refine wl0 ?_
        refine wp_ret (?_ : bodyPost _ _ _ .ret _ _)
        exact res_cell1 Try.results18 rfl rfl hF rfl (ld_E rfl (M.b 0 rfl).whole) (EdO.nothing M (by rw [← he1, ← he2, bothS, if_neg c1, if_neg c2, if_neg c3, if_neg c4, if_pos (.inr c6)]))
      ·skip
       refine wrgs rfl ?_; revert a; refine qf gp 0 fo_E0 rfl rfl ?_; refine qV (.int .i64 vp.k) (rn_load rfl rfl (ld_one one_int ((M.b 2 rfl).cell 0))) rfl ?_; refine qf gq 0 fo_E0 rfl rfl ?_; refine qV (.int .i64 vq.k) (rn_load rfl rfl (ld_one one_int ((M.b 1 rfl).cell 0))) rfl ?_; refine qV (.bool true) (rn_neq rfl rfl rfl (by rw [hk1, hk2]; exact bne_iff_ne.2 c5)) rfl ?_; refine qm (.bool true) rfl ?_; refine qi rfl ?_; refine qi rfl ?_; refine qi rfl ?_; refine qi rfl ?_; refine qi rfl ?_; refine qV (.bool true) (rn_pick rfl rfl rfl) rfl ?_; refine qm (.bool true) rfl ?_; intro a hF; refine wl0 ?_; refine cd_true hF rfl rfl ?_; refine wrgs rfl ?_; revert a; refine qV (.agg (Ev.arr Ev.nil)) (rn_build (cs := (Ev.arr Ev.nil)) rfl (by kernel_rfl)) rfl ?_; intro a hF
       refine wlst hF M 0 rfl (vs := (Ev.arr Ev.nil)) rfl rfl rfl rfl rfl rfl rfl sz_E (Ev.arr_one _) (leb rfl) ?_; clear hF M a; intro W10 a M hF
       revert a; refine qm (.bool false) rfl ?_; intro a hF; refine wl0 ?_
       refine wp_ret (?_ : bodyPost _ _ _ .ret _ _)
       exact res_cell1 Try.results18 rfl rfl hF rfl (ld_E rfl (M.b 0 rfl).whole) (EdO.nothing M (by rw [← he1, ← he2, bothS, if_neg c1, if_neg c2, if_neg c3, if_neg c4, if_pos (.inl c5)]))
end Go.Proofs.Ytbmjiokjigkdnaa
namespace Go.Proofs.Ytbmjiokjigkdnaa
open Go.RowKit Go.Proofs.Ytbmjiokjigkdnaa.Top
def atomA : T := .node 10 [1] []
def edA : Ed := .mk 3 nilT nilT [] [] 4 [.mk 2 0 [atomA] nilE, .mk 0 1 [] nilE]
def edB : Ed := .mk 3 nilT nilT [] [] 4 [.mk 0 1 [] nilE]
theorem awake_comp : composeT edA (invertE edA) = some edB := by rfl
theorem awake_app : applyS edB (.node 4 [] [atomA]) = some (.node 4 [] [atomA]) := by rfl
end Go.Proofs.Ytbmjiokjigkdnaa
