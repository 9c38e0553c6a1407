/-
  Part G of the proofs of TopAssociates and TopConverse.
-/
import Derived.Test.YtbmjiokjigkdnaaZF
set_option linter.unusedVariables false
set_option linter.unusedSimpArgs false
namespace Go.Proofs.Ytbmjiokjigkdnaa
open Go.RowKit Go.Proofs.Ytbmjiokjigkdnaa.Top
theorem calls_fr {P : Program} {g : FuncId} {fn : Func} {c : Code} {xs : List Value} {n : Nat} {w : World} {R : Ending → World → Prop} (hf : P.funcs[g]? = some fn) (hb : fn.body = some c) (hn : fn.ntmps = n) (hl : Nat.ble xs.length n = true) (h : ∀ a, Fr a n (args0 xs) → c.wp P (bodyPost P fn R) a w) : Calls P g xs.toArray w R := by
 refine calls_of_wp hf hb ?_
 rw [hn]
 exact h _ (Fr.enter xs n (by simpa [Nat.ble_eq] using hl))
theorem splL_end (xs vs zs : List Value) (h : zs.length = vs.length) : splL (xs ++ zs) xs.length vs = xs ++ vs := by
 unfold splL
 rw [List.take_append, List.take_of_length_le (Nat.le_refl _), Nat.sub_self, List.take_zero, List.append_nil, List.drop_of_length_le (by rw [List.length_append]; omega), List.append_nil]
theorem oLen (ov : List Ov) : (oCellsL ov).length = ov.length * 14 := flat_len Ov.cells 14 Ov.cells_len ov
theorem kLen (kv : List Kv) : (kCellsL kv).length = kv.length * 12 := flat_len Kv.cells 12 Kv.cells_len kv
theorem wLen (ws : List WE) : (wCellsL ws).length = ws.length * 4 := flat_len wCells 4 wCells_len ws
theorem oSnoc (ov : List Ov) (v : Ov) : oCellsL ov ++ v.arr.toList = oCellsL (ov ++ [v]) := by simp [oCellsL, Ov.cells_arr]
theorem kSnoc (kv : List Kv) (v : Kv) : kCellsL kv ++ v.arr.toList = kCellsL (kv ++ [v]) := by simp [kCellsL, Kv.cells_arr]
theorem tSnoc (gv : List Tv) (v : Tv) : kidCells gv ++ v.arr.toList = kidCells (gv ++ [v]) := by simp [kidCells, Tv.arr, Tv.cells]
theorem oSet (ov : List Ov) (v : Ov) (z : Ov) (n : Nat) (h : n = (oCellsL ov).length) : splL (oCellsL ov ++ z.arr.toList) n v.arr.toList = oCellsL (ov ++ [v]) := by rw [h, splL_end _ v.arr.toList z.arr.toList rfl, oSnoc]
theorem tSet (gv : List Tv) (v : Tv) (z : Tv) (n : Nat) (h : n = (kidCells gv).length) : splL (kidCells gv ++ z.arr.toList) n v.arr.toList = kidCells (gv ++ [v]) := by rw [h, splL_end _ v.arr.toList z.arr.toList rfl, tSnoc]
theorem src_box {W : World} {g : Nat} {t : TypeId} {cs : Array Value} (h : Blk W g t cs) : ∀ j u, cs.toList[j]? = some u → ∃ ad, (some ⟨g, 0, none⟩ : Option Addr) = some ad ∧ W.cell? (ad.add j) = some u := fun j u hu => ⟨_, rfl, by rw [add_lit, Nat.zero_add, h.cell]; simpa using hu⟩
theorem wp_seq' {P : Program} {x y : Code} {Q : Exit → Act → World → Prop} {a : Act} {w : World} (h : x.wp P (Exit.then (y.wp P Q) Q) a w) : (Code.seq x y).wp P Q a w := wp_seq h
theorem kids_of {W : World} {S : Nat → Prop} {A : Option Addr} {n c : Nat} {ks : List T} {kv : List Tv} (h : TreesAt W S ks kv) (hr : RowAt W S A n c 3 2513169434843 (kidCells kv)) : KidsAt W S A n c ks kv := by
 have hl := hr.len
 rw [kidCells_len] at hl
 exact ⟨by have := h.1; omega, hr.cap, hr.capM, by have := h.1; have := hr.few; omega, h.1, hr.read, h.2⟩
def WrM (S : Nat → Prop) (w W : World) (gw : Nat) (l : List Box) (r : List Row) (F0 : World → (Nat → Prop) → Prop) (x : Wr) : Prop :=
 ∃ (Ao : Option Addr) (co : Nat) (Ag : Option Addr) (cg : Nat) (Ab : Option Addr) (cb : Nat) (ov : List Ov) (gv bv : List Tv), Mm S w W (⟨gw, 87, #[.slice Ao x.out.length co, .slice Ag x.gone.length cg, .slice Ab x.brought.length cb]⟩ :: l)
  (⟨47, 14, Ao, x.out.length, co, oCellsL ov⟩ :: ⟨25, 3, Ag, x.gone.length, cg, kidCells gv⟩ :: ⟨25, 3, Ab, x.brought.length, cb, kidCells bv⟩ :: r) (fun W S => ((F0 W S ∧ OpsAt W S x.out ov) ∧ TreesAt W S x.gone gv) ∧ TreesAt W S x.brought bv)
def WrP (S : Nat → Prop) (w : World) (gw : Nat) (l : List Box) (r : List Row) (F0 : World → (Nat → Prop) → Prop) (x : Wr) (e : Ending) (W' : World) : Prop := e = .returned (.tuple #[]) ∧ WrM S w W' gw l r F0 x
theorem OpAt.nilE {W : World} {S : Nat → Prop} {k : Int} {A : Option Addr} {n c : Nat} {ks : List T} {kv : List Tv} (h : KidsAt W S A n c ks kv) : OpAt W S (.mk k 0 ks Top.nilE) ⟨k, 0, A, n, c, Ev.nil⟩ := ⟨rfl, rfl, ⟨kv, h⟩, EdAt.nil⟩
theorem Stable.opTrees {F0 : World → (Nat → Prop) → Prop} (st : Stable F0) (o : List Opn) (ov : List Ov) : Stable fun W S => F0 W S ∧ OpsAt W S o ov := st.and (stable_ops _ _)
def FlK (S : Nat → Prop) (w : World) (gw : Nat) (l : List Box) (r : List Row) (F0 : World → (Nat → Prop) → Prop) (o1 : List Opn) (b : List T) (a : Act) (W : World) : Prop :=
 ∃ f, Fr a 50 f ∧ f 0 = .pointer (some ⟨gw, 0, none⟩) ∧ ∃ (Ao : Option Addr) (co : Nat) (Ab : Option Addr) (cb : Nat) (z : Value) (ov : List Ov) (bv : List Tv), Mm S w W (⟨gw, 87, #[.slice Ao o1.length co, z, .slice Ab b.length cb]⟩ :: l)
  (⟨47, 14, Ao, o1.length, co, oCellsL ov⟩ :: ⟨25, 3, none, 0, 0, []⟩ :: ⟨25, 3, Ab, b.length, cb, kidCells bv⟩ :: r) (fun W S => (F0 W S ∧ OpsAt W S o1 ov) ∧ TreesAt W S b bv)
def FlK2 (S : Nat → Prop) (w : World) (gw : Nat) (l : List Box) (r : List Row) (F0 : World → (Nat → Prop) → Prop) (o1 : List Opn) (a : Act) (W : World) : Prop :=
 ∃ f, Fr a 50 f ∧ f 0 = .pointer (some ⟨gw, 0, none⟩) ∧ ∃ (Ao : Option Addr) (co : Nat) (z z' : Value) (ov : List Ov), Mm S w W (⟨gw, 87, #[.slice Ao o1.length co, z, z']⟩ :: l)
  (⟨47, 14, Ao, o1.length, co, oCellsL ov⟩ :: ⟨25, 3, none, 0, 0, []⟩ :: ⟨25, 3, none, 0, 0, []⟩ :: r) (fun W S => F0 W S ∧ OpsAt W S o1 ov)
theorem flush_any {S : Nat → Prop} {w W : World} {gw : Nat} {l : List Box} {r : List Row} {F0 : World → (Nat → Prop) → Prop} {x : Wr} (st0 : Stable F0) (h : WrM S w W gw l r F0 x) (b1 : x.out.length + 2 ≤ 586406201480) (b2 : x.gone.length ≤ 2513169434843) (b3 : x.brought.length ≤ 2513169434843) :
  Calls Try.prog 54 #[.pointer (some ⟨gw, 0, none⟩)] W (WrP S w gw l r F0 ⟨x.flushed, [], []⟩) := by
 obtain ⟨xo, xg, xb⟩ := x
 obtain ⟨Ao, co, Ag, cg, Ab, cb, ov, gv, bv, M⟩ := h
 simp only at b1 b2 b3 M
 refine calls_fr (xs := [.pointer (some ⟨gw, 0, none⟩)]) Try.func54 rfl Try.ntmps54 rfl (fun a hF => ?_)
 refine wp_seq' (wp_cut (FlK S w gw l r F0 (xo ++ (if xg = [] then [] else [.mk 1 0 xg nilE])) xb) ?_ ?_)
 ·skip
  by_cases hz : xg = []
  ·skip
   refine wrgs rfl ?_; revert a; refine qm (.pointer (some ⟨gw, 0, none⟩)) rfl ?_; refine qV (.pointer (some ⟨gw, 0, none⟩)) (rn_nil rfl rfl) rfl ?_; refine qf gw 1 fo_R1 rfl rfl ?_; refine qV (.slice Ag xg.length cg) (rn_load rfl rfl (ld_one one_lT ((M.b 0 rfl).cell 1))) rfl ?_; refine qV (.int .i64 (↑xg.length)) (rn_len rfl rfl is_lT) rfl ?_; refine qV (.bool false) (rn_gtr rfl rfl rfl (by rw [hz]; rfl)) rfl ?_; intro a hF; refine wl0 ?_; refine cd_false hF rfl rfl (wp_skip ?_)
   have M := M.done 1 (few := 2513169434843) rfl (by simpa using b2)
   refine ⟨_, hF, rfl, Ao, co, Ab, cb, .slice Ag xg.length cg, ov, bv, ?_⟩
   rw [if_pos hz, List.append_nil]
   exact M.imp ((st0.opTrees _ _).and (stable_trees _ _)) fun h => ⟨h.1.1.1, h.1.2⟩
  ·skip
   have hlen : 0 < xg.length := List.length_pos_iff.2 hz
   have hol : xo.length * 14 = (oCellsL ov).length := (M.len 0 rfl).symm
   refine wrgs rfl ?_; revert a; refine qm (.pointer (some ⟨gw, 0, none⟩)) rfl ?_; refine qV (.pointer (some ⟨gw, 0, none⟩)) (rn_nil rfl rfl) rfl ?_; refine qf gw 1 fo_R1 rfl rfl ?_; refine qV (.slice Ag xg.length cg) (rn_load rfl rfl (ld_one one_lT ((M.b 0 rfl).cell 1))) rfl ?_; refine qV (.int .i64 (↑xg.length)) (rn_len rfl rfl is_lT) rfl ?_; refine qV (.bool true) (rn_gtr rfl rfl rfl (decide_eq_true (show (0 : Int) < ↑xg.length by omega))) rfl ?_; intro a hF; refine wl0 ?_; refine cd_true hF rfl rfl ?_
   refine wdr (Un (rows (⟨47, 14, Ao, xo.length, co, (oCellsL ov)⟩ :: ⟨25, 3, Ag, xg.length, cg, (kidCells gv)⟩ :: ⟨25, 3, Ab, xb.length, cb, (kidCells bv)⟩ :: r)) W.drew) (fun i => Nat.beq i 13 || Nat.beq i 16) prog_mixed ?_
   have M0 := M.drew' _ rfl
   generalize W.drew = W1 at *
   have M := M0; have hU := Un.refl (rows (⟨47, 14, Ao, xo.length, co, (oCellsL ov)⟩ :: ⟨25, 3, Ag, xg.length, cg, (kidCells gv)⟩ :: ⟨25, 3, Ab, xb.length, cb, (kidCells bv)⟩ :: r)) W1
   revert a; refine qx 0 (.pointer (some ⟨gw, 0, none⟩)) hU rfl (by kernel_rfl) ?_; refine qp 1 (.pointer (some ⟨gw, 0, none⟩)) rfl (rn_nil rfl rfl) hU rfl (by kernel_rfl) ?_; refine qo 2 gw 0 fo_R0 hU rfl rfl (by kernel_rfl) ?_; refine qt 3 (.slice Ao xo.length co) rfl (fun W' hw => (rn_load rfl rfl (ld_one one_lO ((M0.ub hw 0 rfl).cell 0)))) hU rfl (by kernel_rfl) ?_; refine qx 4 (.pointer (some ⟨gw, 0, none⟩)) hU rfl (by kernel_rfl) ?_; refine qp 5 (.pointer (some ⟨gw, 0, none⟩)) rfl (rn_nil rfl rfl) hU rfl (by kernel_rfl) ?_; refine qo 6 gw 1 fo_R1 hU rfl rfl (by kernel_rfl) ?_; refine qt 7 (.slice Ag xg.length cg) rfl (fun W' hw => (rn_load rfl rfl (ld_one one_lT ((M0.ub hw 0 rfl).cell 1)))) hU rfl (by kernel_rfl) ?_; refine qp 8 (.agg (Ov.arr ⟨1, 0, Ag, xg.length, cg, Ev.nil⟩)) rfl (rn_build (cs := (Ov.arr ⟨1, 0, Ag, xg.length, cg, Ev.nil⟩)) rfl (by kernel_rfl)) hU rfl (by kernel_rfl) ?_; refine qp 9 (.int .i64 (↑xo.length)) rfl (rn_len rfl rfl is_lO) hU rfl (by kernel_rfl) ?_; intro a hF; refine g1 (i := 10) (by kernel_rfl) ?_
   obtain ⟨bk1, hbk1⟩ : ∃ g, W1.heap.size = g := ⟨_, rfl⟩
   refine wgal hF M hU hbk1 rfl rfl rfl rfl (rn_bs1 (cs := (Ov.arr Ov.nil)) ti_lO (by decide) rfl rfl rfl hbk1) ?_; clear hF M hU a; intro W2 a M hU hgebk1 hF
   refine g1 (i := 11) (by kernel_rfl) ?_
   refine wgap hF M hU 0 rfl (rows_in (i := 0) rfl) ti_lO rfl rfl rfl rfl rfl rfl (Ov.nil.arr.toList) rfl rfl (src_box (M.b 0 rfl)) Ov.nil.arr_one (by show (xo.length + 1) * 240 ≤ _; omega) (by show xo.length + 1 ≤ _; unfold maxLen; omega) ?_; clear hF M hU a; intro A3 c3 W3 a M hU hx3 hF
   obtain ⟨ga3, rfl⟩ : ∃ g, A3 = some ⟨g, 0, none⟩ := M.at0 0 rfl (pos_app _ _ (leb (a := 1) rfl))
   revert a; refine qp 12 (.pointer (some ⟨ga3, xo.length * 14, none⟩)) rfl (rn_index (b := ga3) (of := 0) (q := xo.length * 14) rfl rfl rfl (by show (0 : Int) ≤ ↑xo.length ∧ (↑xo.length : Int) < ↑(xo.length + 1); omega) es_lO (by rw [Int.toNat_natCast]; omega)) hU rfl (by kernel_rfl) ?_; refine qp 14 (.pointer (some ⟨gw, 0, none⟩)) rfl (rn_nil rfl rfl) hU rfl (by kernel_rfl) ?_; refine qo 15 gw 0 fo_R0 hU rfl rfl (by kernel_rfl) ?_; intro a hF
   refine g2 (i := 13) (j := 16) (by kernel_rfl) ?_ ?_
   ·skip
    refine gsrf hF M 0 rfl rfl (vs := (Ov.arr ⟨1, 0, Ag, xg.length, cg, Ev.nil⟩)) (by kernel_rfl) rfl rfl rfl rfl rfl rfl rfl rfl sz_O (Ov.arr_one _) (by have h9 := M.len 0 rfl; simp only at h9; show xo.length * 14 + 14 ≤ ((oCellsL ov) ++ Ov.nil.arr.toList).length; omega) ?_; clear hF M a; intro W4 a M hF
    rw [oSet ov ⟨1, 0, Ag, xg.length, cg, Ev.nil⟩ Ov.nil _ hol] at M
    refine g1 (i := 16) (by kernel_rfl) ?_
    refine wgst hF M 1 rfl (vs := #[.slice (some ⟨ga3, 0, none⟩) (xo.length + 1) c3]) (by kernel_rfl) rfl rfl rfl rfl rfl rfl rfl rfl sz_lO (sl_one _ _ _) (leb rfl) ?_; clear hF M a; intro W5 a M hF
    refine wgd (by kernel_rfl) ?_ _
    have M := M.done 1 (few := 2513169434843) rfl b2
    replace M := M.tail
    refine ⟨_, hF, rfl, (some ⟨ga3, 0, none⟩), c3, Ab, cb, .slice Ag xg.length cg, ov ++ [⟨1, 0, Ag, xg.length, cg, Ev.nil⟩], bv, ?_⟩
    rw [if_neg hz, List.length_append]
    exact M.imp ((st0.opTrees _ _).and (stable_trees _ _)) fun h => ⟨⟨h.1.1.1.1, h.1.1.1.2.app (OpsAt.one (OpAt.nilE (kids_of h.1.1.2 h.2)))⟩, h.1.2⟩
   ·skip
    refine wgst hF M 1 rfl (vs := #[.slice (some ⟨ga3, 0, none⟩) (xo.length + 1) c3]) (by kernel_rfl) rfl rfl rfl rfl rfl rfl rfl rfl sz_lO (sl_one _ _ _) (leb rfl) ?_; clear hF M a; intro W6 a M hF
    refine g1 (i := 13) (by kernel_rfl) ?_
    refine gsrf hF M 0 rfl rfl (vs := (Ov.arr ⟨1, 0, Ag, xg.length, cg, Ev.nil⟩)) (by kernel_rfl) rfl rfl rfl rfl rfl rfl rfl rfl sz_O (Ov.arr_one _) (by have h9 := M.len 0 rfl; simp only at h9; show xo.length * 14 + 14 ≤ ((oCellsL ov) ++ Ov.nil.arr.toList).length; omega) ?_; clear hF M a; intro W7 a M hF
    rw [oSet ov ⟨1, 0, Ag, xg.length, cg, Ev.nil⟩ Ov.nil _ hol] at M
    refine wgd (by kernel_rfl) ?_ _
    have M := M.done 1 (few := 2513169434843) rfl b2
    replace M := M.tail
    refine ⟨_, hF, rfl, (some ⟨ga3, 0, none⟩), c3, Ab, cb, .slice Ag xg.length cg, ov ++ [⟨1, 0, Ag, xg.length, cg, Ev.nil⟩], bv, ?_⟩
    rw [if_neg hz, List.length_append]
    exact M.imp ((st0.opTrees _ _).and (stable_trees _ _)) fun h => ⟨⟨h.1.1.1.1, h.1.1.1.2.app (OpsAt.one (OpAt.nilE (kids_of h.1.1.2 h.2)))⟩, h.1.2⟩
 ·rintro a W1 ⟨f, hF, hf0, Ao, co, Ab, cb, z, ov, bv, M⟩
  replace hF := hF.same hf0
  have b1' : (xo ++ (if xg = [] then [] else [Opn.mk 1 0 xg nilE])).length + 1 ≤ 586406201480 := by rw [List.length_append]; split <;> simp <;> omega
  generalize hx1 : xo ++ (if xg = [] then [] else [Opn.mk 1 0 xg nilE]) = x1 at *
  refine wp_seq' (wp_cut (FlK2 S w gw l r F0 (x1 ++ (if xb = [] then [] else [.mk 2 0 xb nilE]))) ?_ ?_)
  ·skip
   by_cases hz : xb = []
   ·skip
    refine wrgs rfl ?_; revert a; refine qm (.pointer (some ⟨gw, 0, none⟩)) rfl ?_; refine qV (.pointer (some ⟨gw, 0, none⟩)) (rn_nil rfl rfl) rfl ?_; refine qf gw 2 fo_R2 rfl rfl ?_; refine qV (.slice Ab xb.length cb) (rn_load rfl rfl (ld_one one_lT ((M.b 0 rfl).cell 2))) rfl ?_; refine qV (.int .i64 (↑xb.length)) (rn_len rfl rfl is_lT) rfl ?_; refine qV (.bool false) (rn_gtr rfl rfl rfl (by rw [hz]; rfl)) rfl ?_; intro a hF; refine wl0 ?_; refine cd_false hF rfl rfl (wp_skip ?_)
    have M := M.done 2 (few := 2513169434843) rfl (by simpa using b3)
    refine ⟨_, hF, rfl, Ao, co, z, .slice Ab xb.length cb, ov, ?_⟩
    rw [if_pos hz, List.append_nil]
    exact M.imp (st0.opTrees _ _) fun h => h.1.1
   ·skip
    have hlen : 0 < xb.length := List.length_pos_iff.2 hz
    have hol : x1.length * 14 = (oCellsL ov).length := (M.len 0 rfl).symm
    refine wrgs rfl ?_; revert a; refine qm (.pointer (some ⟨gw, 0, none⟩)) rfl ?_; refine qV (.pointer (some ⟨gw, 0, none⟩)) (rn_nil rfl rfl) rfl ?_; refine qf gw 2 fo_R2 rfl rfl ?_; refine qV (.slice Ab xb.length cb) (rn_load rfl rfl (ld_one one_lT ((M.b 0 rfl).cell 2))) rfl ?_; refine qV (.int .i64 (↑xb.length)) (rn_len rfl rfl is_lT) rfl ?_; refine qV (.bool true) (rn_gtr rfl rfl rfl (decide_eq_true (show (0 : Int) < ↑xb.length by omega))) rfl ?_; intro a hF; refine wl0 ?_; refine cd_true hF rfl rfl ?_
    refine wdr (Un (rows (⟨47, 14, Ao, x1.length, co, (oCellsL ov)⟩ :: ⟨25, 3, none, 0, 0, []⟩ :: ⟨25, 3, Ab, xb.length, cb, (kidCells bv)⟩ :: r)) W1.drew) (fun i => Nat.beq i 13 || Nat.beq i 16) prog_mixed ?_
    have M0 := M.drew' _ rfl
    generalize W1.drew = W2 at *
    have M := M0; have hU := Un.refl (rows (⟨47, 14, Ao, x1.length, co, (oCellsL ov)⟩ :: ⟨25, 3, none, 0, 0, []⟩ :: ⟨25, 3, Ab, xb.length, cb, (kidCells bv)⟩ :: r)) W2
    revert a; refine qx 0 (.pointer (some ⟨gw, 0, none⟩)) hU rfl (by kernel_rfl) ?_; refine qp 1 (.pointer (some ⟨gw, 0, none⟩)) rfl (rn_nil rfl rfl) hU rfl (by kernel_rfl) ?_; refine qo 2 gw 0 fo_R0 hU rfl rfl (by kernel_rfl) ?_; refine qt 3 (.slice Ao x1.length co) rfl (fun W' hw => (rn_load rfl rfl (ld_one one_lO ((M0.ub hw 0 rfl).cell 0)))) hU rfl (by kernel_rfl) ?_; refine qx 4 (.pointer (some ⟨gw, 0, none⟩)) hU rfl (by kernel_rfl) ?_; refine qp 5 (.pointer (some ⟨gw, 0, none⟩)) rfl (rn_nil rfl rfl) hU rfl (by kernel_rfl) ?_; refine qo 6 gw 2 fo_R2 hU rfl rfl (by kernel_rfl) ?_; refine qt 7 (.slice Ab xb.length cb) rfl (fun W' hw => (rn_load rfl rfl (ld_one one_lT ((M0.ub hw 0 rfl).cell 2)))) hU rfl (by kernel_rfl) ?_; refine qp 8 (.agg (Ov.arr ⟨2, 0, Ab, xb.length, cb, Ev.nil⟩)) rfl (rn_build (cs := (Ov.arr ⟨2, 0, Ab, xb.length, cb, Ev.nil⟩)) rfl (by kernel_rfl)) hU rfl (by kernel_rfl) ?_; refine qp 9 (.int .i64 (↑x1.length)) rfl (rn_len rfl rfl is_lO) hU rfl (by kernel_rfl) ?_; intro a hF; refine g1 (i := 10) (by kernel_rfl) ?_
    obtain ⟨bk2, hbk2⟩ : ∃ g, W2.heap.size = g := ⟨_, rfl⟩
    refine wgal hF M hU hbk2 rfl rfl rfl rfl (rn_bs1 (cs := (Ov.arr Ov.nil)) ti_lO (by decide) rfl rfl rfl hbk2) ?_; clear hF M hU a; intro W3 a M hU hgebk2 hF
    refine g1 (i := 11) (by kernel_rfl) ?_
    refine wgap hF M hU 0 rfl (rows_in (i := 0) rfl) ti_lO rfl rfl rfl rfl rfl rfl (Ov.nil.arr.toList) rfl rfl (src_box (M.b 0 rfl)) Ov.nil.arr_one (by show (x1.length + 1) * 240 ≤ _; omega) (by show x1.length + 1 ≤ _; unfold maxLen; omega) ?_; clear hF M hU a; intro A4 c4 W4 a M hU hx4 hF
    obtain ⟨ga4, rfl⟩ : ∃ g, A4 = some ⟨g, 0, none⟩ := M.at0 0 rfl (pos_app _ _ (leb (a := 1) rfl))
    revert a; refine qp 12 (.pointer (some ⟨ga4, x1.length * 14, none⟩)) rfl (rn_index (b := ga4) (of := 0) (q := x1.length * 14) rfl rfl rfl (by show (0 : Int) ≤ ↑x1.length ∧ (↑x1.length : Int) < ↑(x1.length + 1); omega) es_lO (by rw [Int.toNat_natCast]; omega)) hU rfl (by kernel_rfl) ?_; refine qp 14 (.pointer (some ⟨gw, 0, none⟩)) rfl (rn_nil rfl rfl) hU rfl (by kernel_rfl) ?_; refine qo 15 gw 0 fo_R0 hU rfl rfl (by kernel_rfl) ?_; intro a hF
    refine g2 (i := 13) (j := 16) (by kernel_rfl) ?_ ?_
    ·skip
     refine gsrf hF M 0 rfl rfl (vs := (Ov.arr ⟨2, 0, Ab, xb.length, cb, Ev.nil⟩)) (by kernel_rfl) rfl rfl rfl rfl rfl rfl rfl rfl sz_O (Ov.arr_one _) (by have h9 := M.len 0 rfl; simp only at h9; show x1.length * 14 + 14 ≤ ((oCellsL ov) ++ Ov.nil.arr.toList).length; omega) ?_; clear hF M a; intro W5 a M hF
     rw [oSet ov ⟨2, 0, Ab, xb.length, cb, Ev.nil⟩ Ov.nil _ hol] at M
     refine g1 (i := 16) (by kernel_rfl) ?_
     refine wgst hF M 1 rfl (vs := #[.slice (some ⟨ga4, 0, none⟩) (x1.length + 1) c4]) (by kernel_rfl) rfl rfl rfl rfl rfl rfl rfl rfl sz_lO (sl_one _ _ _) (leb rfl) ?_; clear hF M a; intro W6 a M hF
     refine wgd (by kernel_rfl) ?_ _
     have M := M.done 2 (few := 2513169434843) rfl b3
     replace M := M.tail
     refine ⟨_, hF, rfl, (some ⟨ga4, 0, none⟩), c4, z, .slice Ab xb.length cb, ov ++ [⟨2, 0, Ab, xb.length, cb, Ev.nil⟩], ?_⟩
     rw [if_neg hz, List.length_append]
     exact M.imp (st0.opTrees _ _) fun h => ⟨h.1.1.1, h.1.1.2.app (OpsAt.one (OpAt.nilE (kids_of h.1.2 h.2)))⟩
    ·skip
     refine wgst hF M 1 rfl (vs := #[.slice (some ⟨ga4, 0, none⟩) (x1.length + 1) c4]) (by kernel_rfl) rfl rfl rfl rfl rfl rfl rfl rfl sz_lO (sl_one _ _ _) (leb rfl) ?_; clear hF M a; intro W7 a M hF
     refine g1 (i := 13) (by kernel_rfl) ?_
     refine gsrf hF M 0 rfl rfl (vs := (Ov.arr ⟨2, 0, Ab, xb.length, cb, Ev.nil⟩)) (by kernel_rfl) rfl rfl rfl rfl rfl rfl rfl rfl sz_O (Ov.arr_one _) (by have h9 := M.len 0 rfl; simp only at h9; show x1.length * 14 + 14 ≤ ((oCellsL ov) ++ Ov.nil.arr.toList).length; omega) ?_; clear hF M a; intro W8 a M hF
     rw [oSet ov ⟨2, 0, Ab, xb.length, cb, Ev.nil⟩ Ov.nil _ hol] at M
     refine wgd (by kernel_rfl) ?_ _
     have M := M.done 2 (few := 2513169434843) rfl b3
     replace M := M.tail
     refine ⟨_, hF, rfl, (some ⟨ga4, 0, none⟩), c4, z, .slice Ab xb.length cb, ov ++ [⟨2, 0, Ab, xb.length, cb, Ev.nil⟩], ?_⟩
     rw [if_neg hz, List.length_append]
     exact M.imp (st0.opTrees _ _) fun h => ⟨h.1.1.1, h.1.1.2.app (OpsAt.one (OpAt.nilE (kids_of h.1.2 h.2)))⟩
  ·rintro a W2 ⟨f, hF, hf0, Ao, co, z, z', ov, M⟩
   replace hF := hF.same hf0
   refine wrg rfl ?_; revert a; refine qm (.pointer (some ⟨gw, 0, none⟩)) rfl ?_; refine qm (.pointer (some ⟨gw, 0, none⟩)) rfl ?_; refine qV (.pointer (some ⟨gw, 0, none⟩)) (rn_nil rfl rfl) rfl ?_; refine qf gw 1 fo_R1 rfl rfl ?_; intro a hF
   refine wlst hF M 0 rfl (vs := #[.slice none 0 0]) rfl rfl rfl rfl rfl rfl rfl sz_lT (sl_one _ _ _) (leb rfl) ?_; clear hF M a; intro W3 a M hF
   revert a; refine qV (.pointer (some ⟨gw, 0, none⟩)) (rn_nil rfl rfl) rfl ?_; refine qf gw 2 fo_R2 rfl rfl ?_; intro a hF
   refine wlst hF M 0 rfl (vs := #[.slice none 0 0]) rfl rfl rfl rfl rfl rfl rfl sz_lT (sl_one _ _ _) (leb rfl) ?_; clear hF M a; intro W4 a M hF
   refine wl0 ?_
   refine bp_normal (res_none Try.results54 hF ⟨rfl, ?_⟩)
   have e : (Wr.mk xo xg xb).flushed = x1 ++ (if xb = [] then [] else [.mk 2 0 xb nilE]) := by rw [← hx1]; rfl
   rw [e]
   exact ⟨Ao, co, none, 0, none, 0, ov, [], [], M.imp (((st0.opTrees _ _).and (stable_trees _ _)).and (stable_trees _ _)) fun h => ⟨⟨h, TreesAt.nil⟩, TreesAt.nil⟩⟩
theorem addKeep_snoc (n : Int) : ∀ (l : List Opn) (kind m : Int) (x : List T) (e : Ed), addKeep n (l ++ [.mk kind m x e]) = if kind = 0 then l ++ [.mk kind (m + n) x e] else (l ++ [.mk kind m x e]) ++ [.mk 0 n [] Top.nilE]
 | [], kind, m, x, e => by show addKeep n [.mk kind m x e] = _; rw [addKeep]; split <;> rfl
 | o :: r, kind, m, x, e => by
  have h := addKeep_snoc n r kind m x e
  cases r with
  | nil => show addKeep n (o :: (.mk kind m x e) :: []) = _; rw [addKeep]; show o :: addKeep n [.mk kind m x e] = _; rw [show [Opn.mk kind m x e] = [] ++ [Opn.mk kind m x e] from rfl, h]; split <;> rfl
  | cons o' r' => show addKeep n (o :: o' :: (r' ++ [.mk kind m x e])) = _; rw [addKeep]; show o :: addKeep n (o' :: r' ++ [.mk kind m x e]) = _; rw [h]; split <;> rfl
theorem app_at (xs ys : List Value) (n : Nat) (h : n = xs.length) (j : Nat) (u : Value) (hu : ys[j]? = some u) : (xs ++ ys)[n + j]? = some u := by
 rw [h, List.getElem?_append_right (by omega), Nat.add_sub_cancel_left]; exact hu
theorem splL_at (xs ys : List Value) (n k : Nat) (vs : List Value) (h : n = xs.length) (hk : k + vs.length ≤ ys.length) : splL (xs ++ ys) (n + k) vs = xs ++ splL ys k vs := by
 subst h
 unfold splL
 rw [List.take_length_add_append, List.append_assoc, List.append_assoc, show xs.length + k + vs.length = xs.length + (k + vs.length) from by omega, List.drop_length_add_append, List.append_assoc]
theorem ops_snoc {W : World} {S : Nat → Prop} {l : List Opn} {o : Opn} {ov : List Ov} (h : OpsAt W S (l ++ [o]) ov) : ∃ vo v, ov = vo ++ [v] ∧ vo.length = l.length ∧ OpsAt W S l vo ∧ OpAt W S o v := by
 have hl := h.1
 rw [List.length_append, List.length_singleton] at hl
 refine ⟨ov.take l.length, ov[l.length]'(by omega), ?_, by rw [List.length_take]; omega, ⟨by rw [List.length_take]; omega, fun i a b => ?_⟩, ?_⟩
 ·rw [← List.take_succ_eq_append_getElem (by omega), List.take_of_length_le (by omega)]
 ·have := h.2 i (by rw [List.length_append]; omega) (by omega)
  rw [List.getElem_append_left a] at this
  rw [List.getElem_take]
  exact this
 ·have := h.2 l.length (by rw [List.length_append, List.length_singleton]; omega) (by omega)
  rw [List.getElem_append_right (Nat.le_refl _)] at this
  simpa using this
theorem OpAt.addN {W : World} {S : Nat → Prop} {k m n : Int} {x : List T} {e : Ed} {v : Ov} (h : OpAt W S (.mk k m x e) v) : OpAt W S (.mk k (m + n) x e) ⟨v.k, v.n + n, v.L, v.ln, v.lc, v.e⟩ := ⟨h.k, by show v.n + n = m + n; rw [h.n]; rfl, h.l, h.e⟩
def KpK (S : Nat → Prop) (w : World) (gw : Nat) (l : List Box) (r : List Row) (F0 : World → (Nat → Prop) → Prop) (o1 : List Opn) (n : Int) (a : Act) (W : World) : Prop :=
 ∃ f, Fr a 50 f ∧ f 0 = .pointer (some ⟨gw, 0, none⟩) ∧ f 1 = .int .i64 n ∧ addKeep n o1 = o1 ++ [.mk 0 n [] Top.nilE] ∧ WrM S w W gw l r F0 ⟨o1, [], []⟩
theorem keep_any {S : Nat → Prop} {w W : World} {gw : Nat} {l : List Box} {r : List Row} {F0 : World → (Nat → Prop) → Prop} {x : Wr} (n : Int) (st0 : Stable F0) (h : WrM S w W gw l r F0 x) (b1 : x.out.length + 2 ≤ 586406201480) (b2 : x.gone.length ≤ 2513169434843) (b3 : x.brought.length ≤ 2513169434843)
  (b4 : x.flushed.length + 1 ≤ 586406201480) (b5 : ∀ o ∈ x.flushed, o.kindO = 0 → 0 ≤ o.nO ∧ o.nO ≤ 2305843009213693952) (b6 : 0 ≤ n ∧ n ≤ 2305843009213693952) :
  Calls Try.prog 51 #[.pointer (some ⟨gw, 0, none⟩), .int .i64 n] W (WrP S w gw l r F0 ⟨addKeep n x.flushed, [], []⟩) := by
 have HC := flush_any st0 h b1 b2 b3
 clear h
 generalize x.flushed = o1 at *
 refine calls_fr (xs := [.pointer (some ⟨gw, 0, none⟩), .int .i64 n]) Try.func51 rfl Try.ntmps51 rfl (fun a hF => ?_)
 refine wrgs rfl ?_; revert a; refine qm (.pointer (some ⟨gw, 0, none⟩)) rfl ?_; intro a hF
 refine wlc hF (rn_call1 (u := .pointer (some ⟨gw, 0, none⟩)) rfl rfl rfl Try.call54) HC rfl rfl rfl ?_; clear hF a
 rintro e W1 ⟨rfl, h⟩; refine ⟨_, rfl, ?_⟩; intro a hF
 refine wl0 ?_
 clear HC
 refine wp_seq' (wp_cut (KpK S w gw l r F0 o1 n) ?_ ?_)
 ·skip
  rcases List.eq_nil_or_concat o1 with he | ⟨lo, op, he⟩
  ·skip
   have h0 := h
   obtain ⟨Ao, co, Ag, cg, Ab, cb, ov, gv, bv, M⟩ := h
   subst he
   refine wrgs rfl ?_; revert a; refine qm (.pointer (some ⟨gw, 0, none⟩)) rfl ?_; refine qV (.pointer (some ⟨gw, 0, none⟩)) (rn_nil rfl rfl) rfl ?_; refine qf gw 0 fo_R0 rfl rfl ?_; refine qV (.slice Ao (([] : List Opn).length) co) (rn_load rfl rfl (ld_one one_lO ((M.b 0 rfl).cell 0))) rfl ?_; refine qV (.int .i64 (↑(([] : List Opn).length))) (rn_len rfl rfl is_lO) rfl ?_; refine qV (.int .i64 (-1)) (rn_sub (q := (-1)) rfl rfl rfl rfl (by decide) (by decide)) rfl ?_; refine qm (.int .i64 (-1)) rfl ?_; intro a hF; refine wl0 ?_; refine wrgs rfl ?_; revert a; refine qm (.int .i64 (-1)) rfl ?_; refine qV (.bool false) (rn_geq rfl rfl rfl (by decide)) rfl ?_; refine qm (.bool false) rfl ?_; refine qi rfl ?_; refine qi rfl ?_; refine qi rfl ?_; refine qi rfl ?_; refine qi rfl ?_; refine qi rfl ?_; refine qi rfl ?_; refine qi rfl ?_; refine qi rfl ?_; refine qV (.bool false) (rn_pick rfl rfl rfl) rfl ?_; intro a hF; refine wl0 ?_; refine cd_false hF rfl rfl (wp_skip ?_)
   exact ⟨_, hF, rfl, rfl, rfl, h0⟩
  ·skip
   rw [List.concat_eq_append] at he
   obtain ⟨kind, m, xl, e⟩ := op
   have hak := addKeep_snoc n lo kind m xl e
   subst he
   have h0 := h
   obtain ⟨Ao, co, Ag, cg, Ab, cb, ov, gv, bv, M⟩ := h
   obtain ⟨vo, v, rfl, hvl, _, hv⟩ := ops_snoc M.fact.1.1.2
   have hvk : v.k = kind := hv.k; have hvn : v.n = m := hv.n
   have hlen : (lo ++ [Opn.mk kind m xl e]).length = lo.length + 1 := by rw [List.length_append, List.length_singleton]
   simp only [hlen] at M
   rw [← oSnoc] at M
   have hol : lo.length * 14 = (oCellsL vo).length := by rw [oLen, hvl]
   obtain ⟨ga, rfl⟩ := M.at0 0 rfl (pos_app _ _ (show 0 < 14 by decide))
   have hR := M.rowRange 0 rfl rfl (lo.length * 14) v.arr.toList (app_at _ _ _ hol)
   have e12 : ((↑(lo.length + 1) : Int)) - 1 = (↑lo.length : Int) := by omega
   refine wrgs rfl ?_; revert a; refine qm (.pointer (some ⟨gw, 0, none⟩)) rfl ?_; refine qV (.pointer (some ⟨gw, 0, none⟩)) (rn_nil rfl rfl) rfl ?_; refine qf gw 0 fo_R0 rfl rfl ?_; refine qV (.slice (some ⟨ga, 0, none⟩) (lo.length + 1) co) (rn_load rfl rfl (ld_one one_lO ((M.b 0 rfl).cell 0))) rfl ?_; refine qV (.int .i64 (↑(lo.length + 1))) (rn_len rfl rfl is_lO) rfl ?_; refine qV (.int .i64 (↑lo.length : Int)) (rn_sub (q := (↑lo.length : Int)) rfl rfl rfl e12 (by omega) (by omega)) rfl ?_; refine qm (.int .i64 (↑lo.length : Int)) rfl ?_; intro a hF; refine wl0 ?_
   by_cases hk : kind = 0
   ·skip
    have hm : 0 ≤ m ∧ m ≤ 2305843009213693952 := b5 (.mk kind m xl e) (by simp) hk
    refine wrgs rfl ?_; revert a; refine qm (.int .i64 (↑lo.length : Int)) rfl ?_; refine qV (.bool true) (rn_geq rfl rfl rfl (decide_eq_true (show (0 : Int) ≤ ↑lo.length by omega))) rfl ?_; refine qm (.bool true) rfl ?_; refine qn (.pointer (some ⟨gw, 0, none⟩)) rfl ?_; refine qg (.pointer (some ⟨gw, 0, none⟩)) (rn_nil rfl rfl) rfl ?_; refine qg (.pointer (some ⟨gw, 0, none⟩)) (rn_field (q := 0) rfl rfl fo_R0 rfl) rfl ?_; refine qg (.slice (some ⟨ga, 0, none⟩) (lo.length + 1) co) (rn_load rfl rfl (ld_one one_lO ((M.b 0 rfl).cell 0))) rfl ?_; refine qn (.int .i64 (↑lo.length : Int)) rfl ?_; refine qg (.pointer (some ⟨ga, lo.length * 14, none⟩)) (rn_index (b := ga) (of := 0) (q := lo.length * 14) rfl rfl rfl (by omega) es_lO (by rw [Int.toNat_natCast]; omega)) rfl ?_; refine qg (.pointer (some ⟨ga, lo.length * 14 + 0, none⟩)) (rn_field (q := lo.length * 14 + 0) rfl rfl fo_O0 rfl) rfl ?_; refine qg (.int .i64 v.k) (rn_load rfl rfl (ld_one one_int (hR 0 _ rfl))) rfl ?_; refine qg (.bool true) (rn_eql rfl rfl rfl (by rw [hvk, hk]; rfl)) rfl ?_; refine qV (.bool true) (rn_pick rfl rfl rfl) rfl ?_; intro a hF; refine wl0 ?_; refine cd_true hF rfl rfl ?_; refine wrgs rfl ?_; revert a; refine qm (.pointer (some ⟨gw, 0, none⟩)) rfl ?_; refine qV (.pointer (some ⟨gw, 0, none⟩)) (rn_nil rfl rfl) rfl ?_; refine qf gw 0 fo_R0 rfl rfl ?_; refine qV (.slice (some ⟨ga, 0, none⟩) (lo.length + 1) co) (rn_load rfl rfl (ld_one one_lO ((M.b 0 rfl).cell 0))) rfl ?_; refine qm (.int .i64 (↑lo.length : Int)) rfl ?_; refine qV (.pointer (some ⟨ga, lo.length * 14, none⟩)) (rn_index (b := ga) (of := 0) (q := lo.length * 14) rfl rfl rfl (by omega) es_lO (by rw [Int.toNat_natCast]; omega)) rfl ?_; refine qf ga (lo.length * 14 + 1) fo_O1 rfl rfl ?_; refine qV (.int .i64 v.n) (rn_load rfl rfl (ld_one one_int (hR 1 _ rfl))) rfl ?_; refine qm (.int .i64 n) rfl ?_; refine qV (.int .i64 (v.n + n)) (rn_add (q := (v.n + n)) rfl rfl rfl rfl (by omega) (by omega)) rfl ?_; refine qV (.pointer (some ⟨ga, lo.length * 14, none⟩)) (rn_index (b := ga) (of := 0) (q := lo.length * 14) rfl rfl rfl (by omega) es_lO (by rw [Int.toNat_natCast]; omega)) rfl ?_; refine qf ga (lo.length * 14 + 1) fo_O1 rfl rfl ?_; intro a hF
    refine wlsr hF M 0 rfl rfl (ty := 3) (of := lo.length * 14 + 1) (vs := #[.int .i64 (v.n + n)]) rfl rfl rfl rfl rfl rfl rfl sz_int (int_one _ _) (by have h9 := M.len 0 rfl; simp only at h9; show lo.length * 14 + 1 + 1 ≤ (oCellsL vo ++ v.arr.toList).length; omega) ?_; clear hF M a; intro W2 a M hF
    refine wl0 ?_
    refine wp_ret ?_
    rw [if_pos hk] at hak
    refine res_none Try.results51 hF ⟨rfl, ?_⟩
    rw [hak]
    have e2 : splL (oCellsL vo ++ v.arr.toList) (lo.length * 14 + 1) [.int .i64 (v.n + n)] = oCellsL (vo ++ [⟨v.k, v.n + n, v.L, v.ln, v.lc, v.e⟩]) := by rw [splL_at _ _ _ _ _ hol (by show 1 + 1 ≤ 14; decide)]; exact oSnoc vo ⟨v.k, v.n + n, v.L, v.ln, v.lc, v.e⟩
    rw [e2] at M
    have e3 : (lo ++ [Opn.mk kind (m + n) xl e]).length = lo.length + 1 := by rw [List.length_append, List.length_singleton]
    refine ⟨some ⟨ga, 0, none⟩, co, Ag, cg, Ab, cb, vo ++ [⟨v.k, v.n + n, v.L, v.ln, v.lc, v.e⟩], gv, bv, ?_⟩
    simp only [e3]
    refine M.imp (((st0.opTrees _ _).and (stable_trees _ _)).and (stable_trees _ _)) fun h => ⟨⟨⟨h.1.1.1, ?_⟩, h.1.2⟩, h.2⟩
    obtain ⟨vo', v', e4, hl', h5, h6⟩ := ops_snoc h.1.1.2
    obtain ⟨rfl, h7⟩ := List.append_inj e4 (by omega)
    injection h7 with h7; subst h7
    exact h5.app (OpsAt.one h6.addN)
   ·skip
    refine wrgs rfl ?_; revert a; refine qm (.int .i64 (↑lo.length : Int)) rfl ?_; refine qV (.bool true) (rn_geq rfl rfl rfl (decide_eq_true (show (0 : Int) ≤ ↑lo.length by omega))) rfl ?_; refine qm (.bool true) rfl ?_; refine qn (.pointer (some ⟨gw, 0, none⟩)) rfl ?_; refine qg (.pointer (some ⟨gw, 0, none⟩)) (rn_nil rfl rfl) rfl ?_; refine qg (.pointer (some ⟨gw, 0, none⟩)) (rn_field (q := 0) rfl rfl fo_R0 rfl) rfl ?_; refine qg (.slice (some ⟨ga, 0, none⟩) (lo.length + 1) co) (rn_load rfl rfl (ld_one one_lO ((M.b 0 rfl).cell 0))) rfl ?_; refine qn (.int .i64 (↑lo.length : Int)) rfl ?_; refine qg (.pointer (some ⟨ga, lo.length * 14, none⟩)) (rn_index (b := ga) (of := 0) (q := lo.length * 14) rfl rfl rfl (by omega) es_lO (by rw [Int.toNat_natCast]; omega)) rfl ?_; refine qg (.pointer (some ⟨ga, lo.length * 14 + 0, none⟩)) (rn_field (q := lo.length * 14 + 0) rfl rfl fo_O0 rfl) rfl ?_; refine qg (.int .i64 v.k) (rn_load rfl rfl (ld_one one_int (hR 0 _ rfl))) rfl ?_; refine qg (.bool false) (rn_eql rfl rfl rfl (by rw [hvk]; exact beq_false_of_ne hk)) rfl ?_; refine qV (.bool false) (rn_pick rfl rfl rfl) rfl ?_; intro a hF; refine wl0 ?_; refine cd_false hF rfl rfl (wp_skip ?_)
    rw [if_neg hk] at hak
    exact ⟨_, hF, rfl, rfl, hak, h0⟩
 ·rintro a W2 ⟨f, hF, hf0, hf1, hak, h⟩
  replace hF := (hF.same (d := 0) hf0).same (d := 1) hf1
  obtain ⟨Ao, co, Ag, cg, Ab, cb, ov, gv, bv, M⟩ := h
  rw [hak]
  have hol : o1.length * 14 = (oCellsL ov).length := (M.len 0 rfl).symm
  refine wdr (Un (rows (⟨47, 14, Ao, o1.length, co, (oCellsL ov)⟩ :: ⟨25, 3, Ag, (([] : List T).length), cg, (kidCells gv)⟩ :: ⟨25, 3, Ab, (([] : List T).length), cb, (kidCells bv)⟩ :: r)) W2.drew) (fun i => Nat.beq i 10 || Nat.beq i 13) prog_mixed ?_
  have M0 := M.drew' _ rfl
  generalize W2.drew = W3 at *
  have M := M0; have hU := Un.refl (rows (⟨47, 14, Ao, o1.length, co, (oCellsL ov)⟩ :: ⟨25, 3, Ag, (([] : List T).length), cg, (kidCells gv)⟩ :: ⟨25, 3, Ab, (([] : List T).length), cb, (kidCells bv)⟩ :: r)) W3
  revert a; refine qx 0 (.pointer (some ⟨gw, 0, none⟩)) hU rfl (by kernel_rfl) ?_; refine qp 1 (.pointer (some ⟨gw, 0, none⟩)) rfl (rn_nil rfl rfl) hU rfl (by kernel_rfl) ?_; refine qo 2 gw 0 fo_R0 hU rfl rfl (by kernel_rfl) ?_; refine qt 3 (.slice Ao o1.length co) rfl (fun W' hw => (rn_load rfl rfl (ld_one one_lO ((M0.ub hw 0 rfl).cell 0)))) hU rfl (by kernel_rfl) ?_; refine qx 4 (.int .i64 n) hU rfl (by kernel_rfl) ?_; refine qp 5 (.agg (Ov.arr ⟨0, n, none, 0, 0, Ev.nil⟩)) rfl (rn_build (cs := (Ov.arr ⟨0, n, none, 0, 0, Ev.nil⟩)) rfl (by kernel_rfl)) hU rfl (by kernel_rfl) ?_; refine qp 6 (.int .i64 (↑o1.length)) rfl (rn_len rfl rfl is_lO) hU rfl (by kernel_rfl) ?_; intro a hF; refine g1 (i := 7) (by kernel_rfl) ?_
  obtain ⟨bk1, hbk1⟩ : ∃ g, W3.heap.size = g := ⟨_, rfl⟩
  refine wgal hF M hU hbk1 rfl rfl rfl rfl (rn_bs1 (cs := (Ov.arr Ov.nil)) ti_lO (by decide) rfl rfl rfl hbk1) ?_; clear hF M hU a; intro W4 a M hU hgebk1 hF
  refine g1 (i := 8) (by kernel_rfl) ?_
  refine wgap hF M hU 0 rfl (rows_in (i := 0) rfl) ti_lO rfl rfl rfl rfl rfl rfl (Ov.nil.arr.toList) rfl rfl (src_box (M.b 0 rfl)) Ov.nil.arr_one (by show (o1.length + 1) * 240 ≤ _; omega) (by show o1.length + 1 ≤ _; unfold maxLen; omega) ?_; clear hF M hU a; intro A5 c5 W5 a M hU hx5 hF
  obtain ⟨ga5, rfl⟩ : ∃ g, A5 = some ⟨g, 0, none⟩ := M.at0 0 rfl (pos_app _ _ (leb (a := 1) rfl))
  revert a; refine qp 9 (.pointer (some ⟨ga5, o1.length * 14, none⟩)) rfl (rn_index (b := ga5) (of := 0) (q := o1.length * 14) rfl rfl rfl (by show (0 : Int) ≤ ↑o1.length ∧ (↑o1.length : Int) < ↑(o1.length + 1); omega) es_lO (by rw [Int.toNat_natCast]; omega)) hU rfl (by kernel_rfl) ?_; refine qp 11 (.pointer (some ⟨gw, 0, none⟩)) rfl (rn_nil rfl rfl) hU rfl (by kernel_rfl) ?_; refine qo 12 gw 0 fo_R0 hU rfl rfl (by kernel_rfl) ?_; intro a hF
  refine g2 (i := 10) (j := 13) (by kernel_rfl) ?_ ?_
  ·skip
   refine gsrf hF M 0 rfl rfl (vs := (Ov.arr ⟨0, n, none, 0, 0, Ev.nil⟩)) (by kernel_rfl) rfl rfl rfl rfl rfl rfl rfl rfl sz_O (Ov.arr_one _) (by have h9 := M.len 0 rfl; simp only at h9; show o1.length * 14 + 14 ≤ ((oCellsL ov) ++ Ov.nil.arr.toList).length; omega) ?_; clear hF M a; intro W6 a M hF
   rw [oSet ov ⟨0, n, none, 0, 0, Ev.nil⟩ Ov.nil _ hol] at M
   refine g1 (i := 13) (by kernel_rfl) ?_
   refine wgst hF M 1 rfl (vs := #[.slice (some ⟨ga5, 0, none⟩) (o1.length + 1) c5]) (by kernel_rfl) rfl rfl rfl rfl rfl rfl rfl rfl sz_lO (sl_one _ _ _) (leb rfl) ?_; clear hF M a; intro W7 a M hF
   refine wgd (by kernel_rfl) ?_ _
   replace M := M.tail
   refine bp_normal (res_none Try.results51 hF ⟨rfl, ?_⟩)
   refine ⟨(some ⟨ga5, 0, none⟩), c5, Ag, cg, Ab, cb, ov ++ [⟨0, n, none, 0, 0, Ev.nil⟩], gv, bv, ?_⟩
   simp only [List.length_append, List.length_singleton]
   exact M.imp (((st0.opTrees _ _).and (stable_trees _ _)).and (stable_trees _ _)) fun h => ⟨⟨⟨h.1.1.1, h.1.1.2.app (OpsAt.one ⟨rfl, rfl, ⟨[], KidsAt.none_⟩, EdAt.nil⟩)⟩, h.1.2⟩, h.2⟩
  ·skip
   refine wgst hF M 1 rfl (vs := #[.slice (some ⟨ga5, 0, none⟩) (o1.length + 1) c5]) (by kernel_rfl) rfl rfl rfl rfl rfl rfl rfl rfl sz_lO (sl_one _ _ _) (leb rfl) ?_; clear hF M a; intro W8 a M hF
   refine g1 (i := 10) (by kernel_rfl) ?_
   refine gsrf hF M 0 rfl rfl (vs := (Ov.arr ⟨0, n, none, 0, 0, Ev.nil⟩)) (by kernel_rfl) rfl rfl rfl rfl rfl rfl rfl rfl sz_O (Ov.arr_one _) (by have h9 := M.len 0 rfl; simp only at h9; show o1.length * 14 + 14 ≤ ((oCellsL ov) ++ Ov.nil.arr.toList).length; omega) ?_; clear hF M a; intro W9 a M hF
   rw [oSet ov ⟨0, n, none, 0, 0, Ev.nil⟩ Ov.nil _ hol] at M
   refine wgd (by kernel_rfl) ?_ _
   replace M := M.tail
   refine bp_normal (res_none Try.results51 hF ⟨rfl, ?_⟩)
   refine ⟨(some ⟨ga5, 0, none⟩), c5, Ag, cg, Ab, cb, ov ++ [⟨0, n, none, 0, 0, Ev.nil⟩], gv, bv, ?_⟩
   simp only [List.length_append, List.length_singleton]
   exact M.imp (((st0.opTrees _ _).and (stable_trees _ _)).and (stable_trees _ _)) fun h => ⟨⟨⟨h.1.1.1, h.1.1.2.app (OpsAt.one ⟨rfl, rfl, ⟨[], KidsAt.none_⟩, EdAt.nil⟩)⟩, h.1.2⟩, h.2⟩
def waitGI (S : Nat → Prop) (w : World) (gw : Nat) (l : List Box) (r : List Row) (F0 : World → (Nat → Prop) → Prop) (xo : List Opn) (xg xb ks : List T) (L : Option Addr) (ln lc : Nat) (n : Nat) (a : Act) (W : World) : Prop :=
 ∃ (f : Nat → Value) (q : Nat), Fr a 23 f ∧ f 0 = .pointer (some ⟨gw, 1, none⟩) ∧ f 6 = .slice L ln lc ∧ f 7 = .int .i64 (↑ln : Int) ∧ f 8 = .int .i64 (↑q : Int) ∧ q + n = ln ∧ WrM S w W gw l r F0 ⟨xo, xg ++ (ks.take q).map norm, xb⟩
theorem waitG_any {S : Nat → Prop} {w W : World} {gw : Nat} {l : List Box} {r : List Row} {F0 : World → (Nat → Prop) → Prop} {x : Wr} {L : Option Addr} {ln lc : Nat} {ks : List T} {kv : List Tv} (st0 : Stable F0) (h : WrM S w W gw l r F0 x) (hL : ∀ {W S}, F0 W S → KidsAt W S L ln lc ks kv) (b : x.gone.length + ks.length ≤ 2513169434843) :
  Calls Try.prog 52 #[.pointer (some ⟨gw, 1, none⟩), .slice L ln lc] W (WrP S w gw l r F0 ⟨x.out, x.gone ++ ks.map norm, x.brought⟩) := by
 obtain ⟨xo, xg, xb⟩ := x
 simp only at b
 have hln : ln = ks.length := by
  obtain ⟨Ao, co, Ag, cg, Ab, cb, ov, gvs, bv, M⟩ := h
  exact (hL M.fact.1.1.1).len
 refine calls_fr (xs := [.pointer (some ⟨gw, 1, none⟩), .slice L ln lc]) Try.func52 rfl Try.ntmps52 rfl (fun a hF => ?_)
 refine wrgs rfl ?_; revert a; refine qm (.slice L ln lc) rfl ?_; refine qV (.int .i64 (↑ln)) (rn_len rfl rfl is_lT) rfl ?_; refine qm (.int .i64 0) rfl ?_; intro a hF; refine wl0 ?_
 refine wp_block (wlp (waitGI S w gw l r F0 xo xg xb ks L ln lc) ln ⟨_, 0, hF, rfl, rfl, rfl, rfl, by omega, by simpa using h⟩ ?_)
 clear hF a h W
 rintro n a W ⟨f, q, hF, hf0, hf6, hf7, hf8, hq, h⟩
 replace hF := (((hF.same (d := 0) hf0).same (d := 6) hf6).same (d := 7) hf7).same (d := 8) hf8
 by_cases hlt : q < ln
 ·skip
  refine wrgs rfl ?_; revert a; refine qV (.bool true) (rn_lss rfl rfl rfl (decide_eq_true (show (↑q : Int) < ↑ln by omega))) rfl ?_; intro a hF; refine wl0 ?_
  refine wp_seq (cd_true hF rfl rfl (wp_skip (nm_then ?_)))
  refine wp_seq (wp_block ?_)
  have hqk : q < ks.length := by omega
  have hmt : (ks.take (q + 1)).map norm = (ks.take q).map norm ++ [norm ks[q]] := by rw [List.take_succ_eq_append_getElem hqk, List.map_append]; rfl
  have htl : (ks.take q).length = q := by rw [List.length_take]; omega
  obtain ⟨Ao, co, Ag, cg, Ab, cb, ov, gvs, bv, M⟩ := h
  obtain ⟨bo, oo, tv, rfl, hbo, hR, hT⟩ := (hL M.fact.1.1.1).rng hqk
  replace M := M.note (stable_tree _ _) hT; clear hT hbo
  generalize hxg : xg ++ (ks.take q).map norm = xs at *
  have hxl : xs.length + 1 ≤ 2513169434843 := by rw [← hxg, List.length_append, List.length_map, htl]; omega
  have hol : xs.length * 3 = (kidCells gvs).length := (M.len 1 rfl).symm
  refine wrgs rfl ?_; revert a; refine qV (.pointer (some ⟨bo, oo + q * 3, none⟩)) (rn_index (b := bo) (of := oo) (q := oo + q * 3) rfl rfl rfl (by omega) es_lT (by rw [Int.toNat_natCast])) rfl ?_; refine qV (.agg (Tv.arr tv)) (rn_load rfl rfl (ld_T rfl hR)) rfl ?_; intro a hF
  obtain ⟨bk1, hbk1⟩ : ∃ g, W.heap.size = g := ⟨_, rfl⟩
  refine wlal hF M hbk1 rfl rfl rfl (rn_alloc rfl zc_T hbk1) ?_; clear hF M a; intro W1 a M hF
  refine wlst hF M 0 rfl (vs := (Tv.arr tv)) rfl rfl rfl rfl rfl rfl rfl sz_T (Tv.arr_one _) (leb rfl) ?_; clear hF M a; intro W2 a M hF
  refine wl0 ?_
  refine wdr (Un (rows (⟨47, 14, Ao, xo.length, co, (oCellsL ov)⟩ :: ⟨25, 3, Ag, xs.length, cg, (kidCells gvs)⟩ :: ⟨25, 3, Ab, xb.length, cb, (kidCells bv)⟩ :: r)) W2.drew) (fun i => Nat.beq i 9 || Nat.beq i 11) prog_mixed ?_
  have M0 := M.drew' _ rfl
  generalize W2.drew = W3 at *
  have M := M0; have hU := Un.refl (rows (⟨47, 14, Ao, xo.length, co, (oCellsL ov)⟩ :: ⟨25, 3, Ag, xs.length, cg, (kidCells gvs)⟩ :: ⟨25, 3, Ab, xb.length, cb, (kidCells bv)⟩ :: r)) W3
  revert a; refine qx 0 (.pointer (some ⟨gw, 1, none⟩)) hU rfl (by kernel_rfl) ?_; refine qp 1 (.pointer (some ⟨gw, 1, none⟩)) rfl (rn_nil rfl rfl) hU rfl (by kernel_rfl) ?_; refine qt 2 (.slice Ag xs.length cg) rfl (fun W' hw => (rn_load rfl rfl (ld_one one_lT ((M0.ub hw 1 rfl).cell 1)))) hU rfl (by kernel_rfl) ?_; refine qt 3 (.agg (Tv.arr tv)) rfl (fun W' hw => (rn_load rfl rfl (ld_T rfl (M0.ub hw 0 rfl).whole))) hU rfl (by kernel_rfl) ?_; refine qp 5 (.int .i64 (↑xs.length)) rfl (rn_len rfl rfl is_lT) hU rfl (by kernel_rfl) ?_; intro a hF
  refine g2 (i := 4) (j := 6) (by kernel_rfl) ?_ ?_
  ·skip
   refine gc1 hF (rn_call1 (u := .agg (Tv.arr tv)) rfl rfl rfl Try.call21) (norm_mm (t := ks[q]) (v := tv) M M.fact.2) rfl rfl rfl rfl ?_; clear hF a
   rintro e W4 ⟨v9, rfl, M, hb⟩; replace hU := hU.nil hb; clear hb; refine ⟨_, rfl, fun _ => hU, ?_⟩; intro a hF
   refine g1 (i := 6) (by kernel_rfl) ?_
   obtain ⟨bk2, hbk2⟩ : ∃ g, W4.heap.size = g := ⟨_, rfl⟩
   refine wgal hF M hU hbk2 rfl rfl rfl rfl (rn_bs1 (cs := (Tv.arr Tv.nil)) ti_lT (by decide) rfl rfl rfl hbk2) ?_; clear hF M hU a; intro W5 a M hU hgebk2 hF
   refine g1 (i := 7) (by kernel_rfl) ?_
   refine wgap hF M hU 1 rfl (rows_in (i := 1) rfl) ti_lT rfl rfl rfl rfl rfl rfl (Tv.nil.arr.toList) rfl rfl (src_box (M.b 0 rfl)) Tv.nil.arr_one (by show (xs.length + 1) * 56 ≤ _; omega) (by show xs.length + 1 ≤ _; unfold maxLen; omega) ?_; clear hF M hU a; intro A6 c6 W6 a M hU hx6 hF
   obtain ⟨ga6, rfl⟩ : ∃ g, A6 = some ⟨g, 0, none⟩ := M.at0 1 rfl (pos_app _ _ (leb (a := 1) rfl))
   revert a; refine qp 8 (.pointer (some ⟨ga6, xs.length * 3, none⟩)) rfl (rn_index (b := ga6) (of := 0) (q := xs.length * 3) rfl rfl rfl (by show (0 : Int) ≤ ↑xs.length ∧ (↑xs.length : Int) < ↑(xs.length + 1); omega) es_lT (by rw [Int.toNat_natCast]; omega)) hU rfl (by kernel_rfl) ?_; refine qp 10 (.pointer (some ⟨gw, 1, none⟩)) rfl (rn_nil rfl rfl) hU rfl (by kernel_rfl) ?_; intro a hF
   refine g2 (i := 9) (j := 11) (by kernel_rfl) ?_ ?_
   ·skip
    refine gsrf hF M 1 rfl rfl (vs := (Tv.arr v9)) (by kernel_rfl) rfl rfl rfl rfl rfl rfl rfl rfl sz_T (Tv.arr_one _) (by have h9 := M.len 1 rfl; simp only at h9; show xs.length * 3 + 3 ≤ ((kidCells gvs) ++ Tv.nil.arr.toList).length; omega) ?_; clear hF M a; intro W7 a M hF
    rw [tSet gvs v9 Tv.nil _ hol] at M
    refine g1 (i := 11) (by kernel_rfl) ?_
    refine wgst hF M 2 rfl (vs := #[.slice (some ⟨ga6, 0, none⟩) (xs.length + 1) c6]) (by kernel_rfl) rfl rfl rfl rfl rfl rfl rfl rfl sz_lT (sl_one _ _ _) (leb rfl) ?_; clear hF M a; intro W8 a M hF
    refine wgd (by kernel_rfl) ?_ _
    replace M := M.tail.tail
    refine nm_block (nm_then ?_); refine wrg rfl ?_; revert a; refine qV (.int .i64 (↑(q + 1) : Int)) (rn_add (q := (↑(q + 1) : Int)) rfl rfl rfl (by omega) (by omega) (by omega)) rfl ?_; refine qm (.int .i64 (↑(q + 1) : Int)) rfl ?_; intro a hF; refine wl0 ?_; refine nm_then ⟨ln - (q + 1), by omega, _, q + 1, hF, rfl, rfl, rfl, rfl, by omega, ?_⟩
    rw [hmt, ← List.append_assoc, hxg]
    refine ⟨Ao, co, (some ⟨ga6, 0, none⟩), c6, Ab, cb, ov, gvs ++ [v9], bv, ?_⟩
    simp only [List.length_append, List.length_singleton]
    exact M.imp (((st0.opTrees _ _).and (stable_trees _ _)).and (stable_trees _ _)) fun h => ⟨⟨h.1.1.1.1, h.1.1.1.2.app (TreesAt.one h.2)⟩, h.1.1.2⟩
   ·skip
    refine wgst hF M 2 rfl (vs := #[.slice (some ⟨ga6, 0, none⟩) (xs.length + 1) c6]) (by kernel_rfl) rfl rfl rfl rfl rfl rfl rfl rfl sz_lT (sl_one _ _ _) (leb rfl) ?_; clear hF M a; intro W9 a M hF
    refine g1 (i := 9) (by kernel_rfl) ?_
    refine gsrf hF M 1 rfl rfl (vs := (Tv.arr v9)) (by kernel_rfl) rfl rfl rfl rfl rfl rfl rfl rfl sz_T (Tv.arr_one _) (by have h9 := M.len 1 rfl; simp only at h9; show xs.length * 3 + 3 ≤ ((kidCells gvs) ++ Tv.nil.arr.toList).length; omega) ?_; clear hF M a; intro W10 a M hF
    rw [tSet gvs v9 Tv.nil _ hol] at M
    refine wgd (by kernel_rfl) ?_ _
    replace M := M.tail.tail
    refine nm_block (nm_then ?_); refine wrg rfl ?_; revert a; refine qV (.int .i64 (↑(q + 1) : Int)) (rn_add (q := (↑(q + 1) : Int)) rfl rfl rfl (by omega) (by omega) (by omega)) rfl ?_; refine qm (.int .i64 (↑(q + 1) : Int)) rfl ?_; intro a hF; refine wl0 ?_; refine nm_then ⟨ln - (q + 1), by omega, _, q + 1, hF, rfl, rfl, rfl, rfl, by omega, ?_⟩
    rw [hmt, ← List.append_assoc, hxg]
    refine ⟨Ao, co, (some ⟨ga6, 0, none⟩), c6, Ab, cb, ov, gvs ++ [v9], bv, ?_⟩
    simp only [List.length_append, List.length_singleton]
    exact M.imp (((st0.opTrees _ _).and (stable_trees _ _)).and (stable_trees _ _)) fun h => ⟨⟨h.1.1.1.1, h.1.1.1.2.app (TreesAt.one h.2)⟩, h.1.1.2⟩
  ·skip
   obtain ⟨bk3, hbk3⟩ : ∃ g, W3.heap.size = g := ⟨_, rfl⟩
   refine wgal hF M hU hbk3 rfl rfl rfl rfl (rn_bs1 (cs := (Tv.arr Tv.nil)) ti_lT (by decide) rfl rfl rfl hbk3) ?_; clear hF M hU a; intro W11 a M hU hgebk3 hF
   refine g1 (i := 4) (by kernel_rfl) ?_
   refine gc1 hF (rn_call1 (u := .agg (Tv.arr tv)) rfl rfl rfl Try.call21) (norm_mm (t := ks[q]) (v := tv) M M.fact.2) rfl rfl rfl rfl ?_; clear hF a
   rintro e W12 ⟨v9, rfl, M, hb⟩; replace hU := hU.nil hb; clear hb; refine ⟨_, rfl, fun _ => hU, ?_⟩; intro a hF
   refine g1 (i := 7) (by kernel_rfl) ?_
   refine wgap hF M hU 1 rfl (rows_in (i := 1) rfl) ti_lT rfl rfl rfl rfl rfl rfl (Tv.nil.arr.toList) rfl rfl (src_box (M.b 0 rfl)) Tv.nil.arr_one (by show (xs.length + 1) * 56 ≤ _; omega) (by show xs.length + 1 ≤ _; unfold maxLen; omega) ?_; clear hF M hU a; intro A13 c13 W13 a M hU hx13 hF
   obtain ⟨ga13, rfl⟩ : ∃ g, A13 = some ⟨g, 0, none⟩ := M.at0 1 rfl (pos_app _ _ (leb (a := 1) rfl))
   revert a; refine qp 8 (.pointer (some ⟨ga13, xs.length * 3, none⟩)) rfl (rn_index (b := ga13) (of := 0) (q := xs.length * 3) rfl rfl rfl (by show (0 : Int) ≤ ↑xs.length ∧ (↑xs.length : Int) < ↑(xs.length + 1); omega) es_lT (by rw [Int.toNat_natCast]; omega)) hU rfl (by kernel_rfl) ?_; refine qp 10 (.pointer (some ⟨gw, 1, none⟩)) rfl (rn_nil rfl rfl) hU rfl (by kernel_rfl) ?_; intro a hF
   refine g2 (i := 9) (j := 11) (by kernel_rfl) ?_ ?_
   ·skip
    refine gsrf hF M 1 rfl rfl (vs := (Tv.arr v9)) (by kernel_rfl) rfl rfl rfl rfl rfl rfl rfl rfl sz_T (Tv.arr_one _) (by have h9 := M.len 1 rfl; simp only at h9; show xs.length * 3 + 3 ≤ ((kidCells gvs) ++ Tv.nil.arr.toList).length; omega) ?_; clear hF M a; intro W14 a M hF
    rw [tSet gvs v9 Tv.nil _ hol] at M
    refine g1 (i := 11) (by kernel_rfl) ?_
    refine wgst hF M 2 rfl (vs := #[.slice (some ⟨ga13, 0, none⟩) (xs.length + 1) c13]) (by kernel_rfl) rfl rfl rfl rfl rfl rfl rfl rfl sz_lT (sl_one _ _ _) (leb rfl) ?_; clear hF M a; intro W15 a M hF
    refine wgd (by kernel_rfl) ?_ _
    replace M := M.tail.tail
    refine nm_block (nm_then ?_); refine wrg rfl ?_; revert a; refine qV (.int .i64 (↑(q + 1) : Int)) (rn_add (q := (↑(q + 1) : Int)) rfl rfl rfl (by omega) (by omega) (by omega)) rfl ?_; refine qm (.int .i64 (↑(q + 1) : Int)) rfl ?_; intro a hF; refine wl0 ?_; refine nm_then ⟨ln - (q + 1), by omega, _, q + 1, hF, rfl, rfl, rfl, rfl, by omega, ?_⟩
    rw [hmt, ← List.append_assoc, hxg]
    refine ⟨Ao, co, (some ⟨ga13, 0, none⟩), c13, Ab, cb, ov, gvs ++ [v9], bv, ?_⟩
    simp only [List.length_append, List.length_singleton]
    exact M.imp (((st0.opTrees _ _).and (stable_trees _ _)).and (stable_trees _ _)) fun h => ⟨⟨h.1.1.1.1, h.1.1.1.2.app (TreesAt.one h.2)⟩, h.1.1.2⟩
   ·skip
    refine wgst hF M 2 rfl (vs := #[.slice (some ⟨ga13, 0, none⟩) (xs.length + 1) c13]) (by kernel_rfl) rfl rfl rfl rfl rfl rfl rfl rfl sz_lT (sl_one _ _ _) (leb rfl) ?_; clear hF M a; intro W16 a M hF
    refine g1 (i := 9) (by kernel_rfl) ?_
    refine gsrf hF M 1 rfl rfl (vs := (Tv.arr v9)) (by kernel_rfl) rfl rfl rfl rfl rfl rfl rfl rfl sz_T (Tv.arr_one _) (by have h9 := M.len 1 rfl; simp only at h9; show xs.length * 3 + 3 ≤ ((kidCells gvs) ++ Tv.nil.arr.toList).length; omega) ?_; clear hF M a; intro W17 a M hF
    rw [tSet gvs v9 Tv.nil _ hol] at M
    refine wgd (by kernel_rfl) ?_ _
    replace M := M.tail.tail
    refine nm_block (nm_then ?_); refine wrg rfl ?_; revert a; refine qV (.int .i64 (↑(q + 1) : Int)) (rn_add (q := (↑(q + 1) : Int)) rfl rfl rfl (by omega) (by omega) (by omega)) rfl ?_; refine qm (.int .i64 (↑(q + 1) : Int)) rfl ?_; intro a hF; refine wl0 ?_; refine nm_then ⟨ln - (q + 1), by omega, _, q + 1, hF, rfl, rfl, rfl, rfl, by omega, ?_⟩
    rw [hmt, ← List.append_assoc, hxg]
    refine ⟨Ao, co, (some ⟨ga13, 0, none⟩), c13, Ab, cb, ov, gvs ++ [v9], bv, ?_⟩
    simp only [List.length_append, List.length_singleton]
    exact M.imp (((st0.opTrees _ _).and (stable_trees _ _)).and (stable_trees _ _)) fun h => ⟨⟨h.1.1.1.1, h.1.1.1.2.app (TreesAt.one h.2)⟩, h.1.1.2⟩
 ·skip
  refine wrgs rfl ?_; revert a; refine qV (.bool false) (rn_lss rfl rfl rfl (decide_eq_false (show ¬ (↑q : Int) < ↑ln by omega))) rfl ?_; intro a hF; refine wl0 ?_
  refine wp_seq (cd_false hF rfl rfl (wp_exit (ex_then (ex_then (ex_here ?_)))))
  refine bp_normal (res_none Try.results52 hF ⟨rfl, ?_⟩)
  rw [List.take_of_length_le (by omega)] at h
  exact h
def waitBI (S : Nat → Prop) (w : World) (gw : Nat) (l : List Box) (r : List Row) (F0 : World → (Nat → Prop) → Prop) (xo : List Opn) (xg xb ks : List T) (L : Option Addr) (ln lc : Nat) (n : Nat) (a : Act) (W : World) : Prop :=
 ∃ (f : Nat → Value) (q : Nat), Fr a 23 f ∧ f 0 = .pointer (some ⟨gw, 2, none⟩) ∧ f 6 = .slice L ln lc ∧ f 7 = .int .i64 (↑ln : Int) ∧ f 8 = .int .i64 (↑q : Int) ∧ q + n = ln ∧ WrM S w W gw l r F0 ⟨xo, xg, xb ++ (ks.take q).map norm⟩
theorem waitB_any {S : Nat → Prop} {w W : World} {gw : Nat} {l : List Box} {r : List Row} {F0 : World → (Nat → Prop) → Prop} {x : Wr} {L : Option Addr} {ln lc : Nat} {ks : List T} {kv : List Tv} (st0 : Stable F0) (h : WrM S w W gw l r F0 x) (hL : ∀ {W S}, F0 W S → KidsAt W S L ln lc ks kv) (b : x.brought.length + ks.length ≤ 2513169434843) :
  Calls Try.prog 52 #[.pointer (some ⟨gw, 2, none⟩), .slice L ln lc] W (WrP S w gw l r F0 ⟨x.out, x.gone, x.brought ++ ks.map norm⟩) := by
 obtain ⟨xo, xg, xb⟩ := x
 simp only at b
 have hln : ln = ks.length := by
  obtain ⟨Ao, co, Ag, cg, Ab, cb, ov, gvs, bv, M⟩ := h
  exact (hL M.fact.1.1.1).len
 refine calls_fr (xs := [.pointer (some ⟨gw, 2, none⟩), .slice L ln lc]) Try.func52 rfl Try.ntmps52 rfl (fun a hF => ?_)
 refine wrgs rfl ?_; revert a; refine qm (.slice L ln lc) rfl ?_; refine qV (.int .i64 (↑ln)) (rn_len rfl rfl is_lT) rfl ?_; refine qm (.int .i64 0) rfl ?_; intro a hF; refine wl0 ?_
 refine wp_block (wlp (waitBI S w gw l r F0 xo xg xb ks L ln lc) ln ⟨_, 0, hF, rfl, rfl, rfl, rfl, by omega, by simpa using h⟩ ?_)
 clear hF a h W
 rintro n a W ⟨f, q, hF, hf0, hf6, hf7, hf8, hq, h⟩
 replace hF := (((hF.same (d := 0) hf0).same (d := 6) hf6).same (d := 7) hf7).same (d := 8) hf8
 by_cases hlt : q < ln
 ·skip
  refine wrgs rfl ?_; revert a; refine qV (.bool true) (rn_lss rfl rfl rfl (decide_eq_true (show (↑q : Int) < ↑ln by omega))) rfl ?_; intro a hF; refine wl0 ?_
  refine wp_seq (cd_true hF rfl rfl (wp_skip (nm_then ?_)))
  refine wp_seq (wp_block ?_)
  have hqk : q < ks.length := by omega
  have hmt : (ks.take (q + 1)).map norm = (ks.take q).map norm ++ [norm ks[q]] := by rw [List.take_succ_eq_append_getElem hqk, List.map_append]; rfl
  have htl : (ks.take q).length = q := by rw [List.length_take]; omega
  obtain ⟨Ao, co, Ag, cg, Ab, cb, ov, gvs, bv, M⟩ := h
  obtain ⟨bo, oo, tv, rfl, hbo, hR, hT⟩ := (hL M.fact.1.1.1).rng hqk
  replace M := M.note (stable_tree _ _) hT; clear hT hbo
  generalize hxg : xb ++ (ks.take q).map norm = xs at *
  have hxl : xs.length + 1 ≤ 2513169434843 := by rw [← hxg, List.length_append, List.length_map, htl]; omega
  have hol : xs.length * 3 = (kidCells bv).length := (M.len 2 rfl).symm
  refine wrgs rfl ?_; revert a; refine qV (.pointer (some ⟨bo, oo + q * 3, none⟩)) (rn_index (b := bo) (of := oo) (q := oo + q * 3) rfl rfl rfl (by omega) es_lT (by rw [Int.toNat_natCast])) rfl ?_; refine qV (.agg (Tv.arr tv)) (rn_load rfl rfl (ld_T rfl hR)) rfl ?_; intro a hF
  obtain ⟨bk1, hbk1⟩ : ∃ g, W.heap.size = g := ⟨_, rfl⟩
  refine wlal hF M hbk1 rfl rfl rfl (rn_alloc rfl zc_T hbk1) ?_; clear hF M a; intro W1 a M hF
  refine wlst hF M 0 rfl (vs := (Tv.arr tv)) rfl rfl rfl rfl rfl rfl rfl sz_T (Tv.arr_one _) (leb rfl) ?_; clear hF M a; intro W2 a M hF
  refine wl0 ?_
  refine wdr (Un (rows (⟨47, 14, Ao, xo.length, co, (oCellsL ov)⟩ :: ⟨25, 3, Ag, xg.length, cg, (kidCells gvs)⟩ :: ⟨25, 3, Ab, xs.length, cb, (kidCells bv)⟩ :: r)) W2.drew) (fun i => Nat.beq i 9 || Nat.beq i 11) prog_mixed ?_
  have M0 := M.drew' _ rfl
  generalize W2.drew = W3 at *
  have M := M0; have hU := Un.refl (rows (⟨47, 14, Ao, xo.length, co, (oCellsL ov)⟩ :: ⟨25, 3, Ag, xg.length, cg, (kidCells gvs)⟩ :: ⟨25, 3, Ab, xs.length, cb, (kidCells bv)⟩ :: r)) W3
  revert a; refine qx 0 (.pointer (some ⟨gw, 2, none⟩)) hU rfl (by kernel_rfl) ?_; refine qp 1 (.pointer (some ⟨gw, 2, none⟩)) rfl (rn_nil rfl rfl) hU rfl (by kernel_rfl) ?_; refine qt 2 (.slice Ab xs.length cb) rfl (fun W' hw => (rn_load rfl rfl (ld_one one_lT ((M0.ub hw 1 rfl).cell 2)))) hU rfl (by kernel_rfl) ?_; refine qt 3 (.agg (Tv.arr tv)) rfl (fun W' hw => (rn_load rfl rfl (ld_T rfl (M0.ub hw 0 rfl).whole))) hU rfl (by kernel_rfl) ?_; refine qp 5 (.int .i64 (↑xs.length)) rfl (rn_len rfl rfl is_lT) hU rfl (by kernel_rfl) ?_; intro a hF
  refine g2 (i := 4) (j := 6) (by kernel_rfl) ?_ ?_
  ·skip
   refine gc1 hF (rn_call1 (u := .agg (Tv.arr tv)) rfl rfl rfl Try.call21) (norm_mm (t := ks[q]) (v := tv) M M.fact.2) rfl rfl rfl rfl ?_; clear hF a
   rintro e W4 ⟨v9, rfl, M, hb⟩; replace hU := hU.nil hb; clear hb; refine ⟨_, rfl, fun _ => hU, ?_⟩; intro a hF
   refine g1 (i := 6) (by kernel_rfl) ?_
   obtain ⟨bk2, hbk2⟩ : ∃ g, W4.heap.size = g := ⟨_, rfl⟩
   refine wgal hF M hU hbk2 rfl rfl rfl rfl (rn_bs1 (cs := (Tv.arr Tv.nil)) ti_lT (by decide) rfl rfl rfl hbk2) ?_; clear hF M hU a; intro W5 a M hU hgebk2 hF
   refine g1 (i := 7) (by kernel_rfl) ?_
   refine wgap hF M hU 2 rfl (rows_in (i := 2) rfl) ti_lT rfl rfl rfl rfl rfl rfl (Tv.nil.arr.toList) rfl rfl (src_box (M.b 0 rfl)) Tv.nil.arr_one (by show (xs.length + 1) * 56 ≤ _; omega) (by show xs.length + 1 ≤ _; unfold maxLen; omega) ?_; clear hF M hU a; intro A6 c6 W6 a M hU hx6 hF
   obtain ⟨ga6, rfl⟩ : ∃ g, A6 = some ⟨g, 0, none⟩ := M.at0 2 rfl (pos_app _ _ (leb (a := 1) rfl))
   revert a; refine qp 8 (.pointer (some ⟨ga6, xs.length * 3, none⟩)) rfl (rn_index (b := ga6) (of := 0) (q := xs.length * 3) rfl rfl rfl (by show (0 : Int) ≤ ↑xs.length ∧ (↑xs.length : Int) < ↑(xs.length + 1); omega) es_lT (by rw [Int.toNat_natCast]; omega)) hU rfl (by kernel_rfl) ?_; refine qp 10 (.pointer (some ⟨gw, 2, none⟩)) rfl (rn_nil rfl rfl) hU rfl (by kernel_rfl) ?_; intro a hF
   refine g2 (i := 9) (j := 11) (by kernel_rfl) ?_ ?_
   ·skip
    refine gsrf hF M 2 rfl rfl (vs := (Tv.arr v9)) (by kernel_rfl) rfl rfl rfl rfl rfl rfl rfl rfl sz_T (Tv.arr_one _) (by have h9 := M.len 2 rfl; simp only at h9; show xs.length * 3 + 3 ≤ ((kidCells bv) ++ Tv.nil.arr.toList).length; omega) ?_; clear hF M a; intro W7 a M hF
    rw [tSet bv v9 Tv.nil _ hol] at M
    refine g1 (i := 11) (by kernel_rfl) ?_
    refine wgst hF M 2 rfl (vs := #[.slice (some ⟨ga6, 0, none⟩) (xs.length + 1) c6]) (by kernel_rfl) rfl rfl rfl rfl rfl rfl rfl rfl sz_lT (sl_one _ _ _) (leb rfl) ?_; clear hF M a; intro W8 a M hF
    refine wgd (by kernel_rfl) ?_ _
    replace M := M.tail.tail
    refine nm_block (nm_then ?_); refine wrg rfl ?_; revert a; refine qV (.int .i64 (↑(q + 1) : Int)) (rn_add (q := (↑(q + 1) : Int)) rfl rfl rfl (by omega) (by omega) (by omega)) rfl ?_; refine qm (.int .i64 (↑(q + 1) : Int)) rfl ?_; intro a hF; refine wl0 ?_; refine nm_then ⟨ln - (q + 1), by omega, _, q + 1, hF, rfl, rfl, rfl, rfl, by omega, ?_⟩
    rw [hmt, ← List.append_assoc, hxg]
    refine ⟨Ao, co, Ag, cg, (some ⟨ga6, 0, none⟩), c6, ov, gvs, bv ++ [v9], ?_⟩
    simp only [List.length_append, List.length_singleton]
    exact M.imp (((st0.opTrees _ _).and (stable_trees _ _)).and (stable_trees _ _)) fun h => ⟨h.1.1.1, h.1.1.2.app (TreesAt.one h.2)⟩
   ·skip
    refine wgst hF M 2 rfl (vs := #[.slice (some ⟨ga6, 0, none⟩) (xs.length + 1) c6]) (by kernel_rfl) rfl rfl rfl rfl rfl rfl rfl rfl sz_lT (sl_one _ _ _) (leb rfl) ?_; clear hF M a; intro W9 a M hF
    refine g1 (i := 9) (by kernel_rfl) ?_
    refine gsrf hF M 2 rfl rfl (vs := (Tv.arr v9)) (by kernel_rfl) rfl rfl rfl rfl rfl rfl rfl rfl sz_T (Tv.arr_one _) (by have h9 := M.len 2 rfl; simp only at h9; show xs.length * 3 + 3 ≤ ((kidCells bv) ++ Tv.nil.arr.toList).length; omega) ?_; clear hF M a; intro W10 a M hF
    rw [tSet bv v9 Tv.nil _ hol] at M
    refine wgd (by kernel_rfl) ?_ _
    replace M := M.tail.tail
    refine nm_block (nm_then ?_); refine wrg rfl ?_; revert a; refine qV (.int .i64 (↑(q + 1) : Int)) (rn_add (q := (↑(q + 1) : Int)) rfl rfl rfl (by omega) (by omega) (by omega)) rfl ?_; refine qm (.int .i64 (↑(q + 1) : Int)) rfl ?_; intro a hF; refine wl0 ?_; refine nm_then ⟨ln - (q + 1), by omega, _, q + 1, hF, rfl, rfl, rfl, rfl, by omega, ?_⟩
    rw [hmt, ← List.append_assoc, hxg]
    refine ⟨Ao, co, Ag, cg, (some ⟨ga6, 0, none⟩), c6, ov, gvs, bv ++ [v9], ?_⟩
    simp only [List.length_append, List.length_singleton]
    exact M.imp (((st0.opTrees _ _).and (stable_trees _ _)).and (stable_trees _ _)) fun h => ⟨h.1.1.1, h.1.1.2.app (TreesAt.one h.2)⟩
  ·skip
   obtain ⟨bk3, hbk3⟩ : ∃ g, W3.heap.size = g := ⟨_, rfl⟩
   refine wgal hF M hU hbk3 rfl rfl rfl rfl (rn_bs1 (cs := (Tv.arr Tv.nil)) ti_lT (by decide) rfl rfl rfl hbk3) ?_; clear hF M hU a; intro W11 a M hU hgebk3 hF
   refine g1 (i := 4) (by kernel_rfl) ?_
   refine gc1 hF (rn_call1 (u := .agg (Tv.arr tv)) rfl rfl rfl Try.call21) (norm_mm (t := ks[q]) (v := tv) M M.fact.2) rfl rfl rfl rfl ?_; clear hF a
   rintro e W12 ⟨v9, rfl, M, hb⟩; replace hU := hU.nil hb; clear hb; refine ⟨_, rfl, fun _ => hU, ?_⟩; intro a hF
   refine g1 (i := 7) (by kernel_rfl) ?_
   refine wgap hF M hU 2 rfl (rows_in (i := 2) rfl) ti_lT rfl rfl rfl rfl rfl rfl (Tv.nil.arr.toList) rfl rfl (src_box (M.b 0 rfl)) Tv.nil.arr_one (by show (xs.length + 1) * 56 ≤ _; omega) (by show xs.length + 1 ≤ _; unfold maxLen; omega) ?_; clear hF M hU a; intro A13 c13 W13 a M hU hx13 hF
   obtain ⟨ga13, rfl⟩ : ∃ g, A13 = some ⟨g, 0, none⟩ := M.at0 2 rfl (pos_app _ _ (leb (a := 1) rfl))
   revert a; refine qp 8 (.pointer (some ⟨ga13, xs.length * 3, none⟩)) rfl (rn_index (b := ga13) (of := 0) (q := xs.length * 3) rfl rfl rfl (by show (0 : Int) ≤ ↑xs.length ∧ (↑xs.length : Int) < ↑(xs.length + 1); omega) es_lT (by rw [Int.toNat_natCast]; omega)) hU rfl (by kernel_rfl) ?_; refine qp 10 (.pointer (some ⟨gw, 2, none⟩)) rfl (rn_nil rfl rfl) hU rfl (by kernel_rfl) ?_; intro a hF
   refine g2 (i := 9) (j := 11) (by kernel_rfl) ?_ ?_
   ·skip
    refine gsrf hF M 2 rfl rfl (vs := (Tv.arr v9)) (by kernel_rfl) rfl rfl rfl rfl rfl rfl rfl rfl sz_T (Tv.arr_one _) (by have h9 := M.len 2 rfl; simp only at h9; show xs.length * 3 + 3 ≤ ((kidCells bv) ++ Tv.nil.arr.toList).length; omega) ?_; clear hF M a; intro W14 a M hF
    rw [tSet bv v9 Tv.nil _ hol] at M
    refine g1 (i := 11) (by kernel_rfl) ?_
    refine wgst hF M 2 rfl (vs := #[.slice (some ⟨ga13, 0, none⟩) (xs.length + 1) c13]) (by kernel_rfl) rfl rfl rfl rfl rfl rfl rfl rfl sz_lT (sl_one _ _ _) (leb rfl) ?_; clear hF M a; intro W15 a M hF
    refine wgd (by kernel_rfl) ?_ _
    replace M := M.tail.tail
    refine nm_block (nm_then ?_); refine wrg rfl ?_; revert a; refine qV (.int .i64 (↑(q + 1) : Int)) (rn_add (q := (↑(q + 1) : Int)) rfl rfl rfl (by omega) (by omega) (by omega)) rfl ?_; refine qm (.int .i64 (↑(q + 1) : Int)) rfl ?_; intro a hF; refine wl0 ?_; refine nm_then ⟨ln - (q + 1), by omega, _, q + 1, hF, rfl, rfl, rfl, rfl, by omega, ?_⟩
    rw [hmt, ← List.append_assoc, hxg]
    refine ⟨Ao, co, Ag, cg, (some ⟨ga13, 0, none⟩), c13, ov, gvs, bv ++ [v9], ?_⟩
    simp only [List.length_append, List.length_singleton]
    exact M.imp (((st0.opTrees _ _).and (stable_trees _ _)).and (stable_trees _ _)) fun h => ⟨h.1.1.1, h.1.1.2.app (TreesAt.one h.2)⟩
   ·skip
    refine wgst hF M 2 rfl (vs := #[.slice (some ⟨ga13, 0, none⟩) (xs.length + 1) c13]) (by kernel_rfl) rfl rfl rfl rfl rfl rfl rfl rfl sz_lT (sl_one _ _ _) (leb rfl) ?_; clear hF M a; intro W16 a M hF
    refine g1 (i := 9) (by kernel_rfl) ?_
    refine gsrf hF M 2 rfl rfl (vs := (Tv.arr v9)) (by kernel_rfl) rfl rfl rfl rfl rfl rfl rfl rfl sz_T (Tv.arr_one _) (by have h9 := M.len 2 rfl; simp only at h9; show xs.length * 3 + 3 ≤ ((kidCells bv) ++ Tv.nil.arr.toList).length; omega) ?_; clear hF M a; intro W17 a M hF
    rw [tSet bv v9 Tv.nil _ hol] at M
    refine wgd (by kernel_rfl) ?_ _
    replace M := M.tail.tail
    refine nm_block (nm_then ?_); refine wrg rfl ?_; revert a; refine qV (.int .i64 (↑(q + 1) : Int)) (rn_add (q := (↑(q + 1) : Int)) rfl rfl rfl (by omega) (by omega) (by omega)) rfl ?_; refine qm (.int .i64 (↑(q + 1) : Int)) rfl ?_; intro a hF; refine wl0 ?_; refine nm_then ⟨ln - (q + 1), by omega, _, q + 1, hF, rfl, rfl, rfl, rfl, by omega, ?_⟩
    rw [hmt, ← List.append_assoc, hxg]
    refine ⟨Ao, co, Ag, cg, (some ⟨ga13, 0, none⟩), c13, ov, gvs, bv ++ [v9], ?_⟩
    simp only [List.length_append, List.length_singleton]
    exact M.imp (((st0.opTrees _ _).and (stable_trees _ _)).and (stable_trees _ _)) fun h => ⟨h.1.1.1, h.1.1.2.app (TreesAt.one h.2)⟩
 ·skip
  refine wrgs rfl ?_; revert a; refine qV (.bool false) (rn_lss rfl rfl rfl (decide_eq_false (show ¬ (↑q : Int) < ↑ln by omega))) rfl ?_; intro a hF; refine wl0 ?_
  refine wp_seq (cd_false hF rfl rfl (wp_exit (ex_then (ex_then (ex_here ?_)))))
  refine bp_normal (res_none Try.results52 hF ⟨rfl, ?_⟩)
  rw [List.take_of_length_le (by omega)] at h
  exact h
end Go.Proofs.Ytbmjiokjigkdnaa
namespace Go.Proofs.Ytbmjiokjigkdnaa
open Go.RowKit Go.Proofs.Ytbmjiokjigkdnaa.Top
theorem OsAt.rng {w : World} {S : Nat → Prop} {A : Option Addr} {n c : Nat} {ops : List Opn} {ov : List Ov} (h : OsAt w S A n c ops ov) {i : Nat} (hi : i < ops.length) :
  ∃ b o v, A = some ⟨b, o, none⟩ ∧ S b ∧ w.rangeAt b (o + i * 14) (Ov.arr v).toList ∧ OpAt w S ops[i] v := by
 have hi' : i < ov.length := by rw [h.ovl]; exact hi
 have hl : (oCellsL ov).length = ov.length * 14 := oLen ov
 obtain ⟨b, o, e, hb, hc⟩ := h.row.cells (by rw [hl]; omega)
 refine ⟨b, o, ov[i], e, hb, fun j u hu => ?_, h.op i hi hi'⟩
 have hj := (List.getElem?_eq_some_iff.1 hu).1
 have hj : j < 14 := hj
 rw [Nat.add_assoc]
 exact hc _ _ ((flat_at Ov.cells 14 Ov.cells_len ov i j hi' hj).trans hu)
theorem KsAt.rng {w : World} {S : Nat → Prop} {A : Option Addr} {n c : Nat} {ks : List KEd} {kv : List Kv} (h : KsAt w S A n c ks kv) {i : Nat} (hi : i < ks.length) :
  ∃ b o v, A = some ⟨b, o, none⟩ ∧ S b ∧ w.rangeAt b (o + i * 12) (Kv.arr v).toList ∧ v.at_ = ks[i].at_ ∧ EdAt w S ks[i].e v.e := by
 have hi' : i < kv.length := by rw [h.kvl]; exact hi
 have hl : (kCellsL kv).length = kv.length * 12 := kLen kv
 obtain ⟨b, o, e, hb, hc⟩ := h.row.cells (by rw [hl]; omega)
 refine ⟨b, o, kv[i], e, hb, fun j u hu => ?_, h.at_ i hi hi', h.kid i hi hi'⟩
 have hj := (List.getElem?_eq_some_iff.1 hu).1
 have hj : j < 12 := hj
 rw [Nat.add_assoc]
 exact hc _ _ ((flat_at Kv.cells 12 Kv.cells_len kv i j hi' hj).trans hu)
theorem WsAt.rng {w : World} {S : Nat → Prop} {A : Option Addr} {n c : Nat} {ws : List WE} (h : WsAt w S A n c ws) {i : Nat} (hi : i < ws.length) :
  ∃ b o, A = some ⟨b, o, none⟩ ∧ S b ∧ w.rangeAt b (o + i * 4) (wArr ws[i]).toList := by
 have hl : (wCellsL ws).length = ws.length * 4 := wLen ws
 obtain ⟨b, o, e, hb, hc⟩ := h.row.cells (by rw [hl]; omega)
 refine ⟨b, o, e, hb, fun j u hu => ?_⟩
 have hj := (List.getElem?_eq_some_iff.1 hu).1
 have hj : j < 4 := hj
 rw [Nat.add_assoc]
 exact hc _ _ ((flat_at wCells 4 wCells_len ws i j hi hj).trans hu)
def stepN (lk : Int) (o : Opn) (w : Wr) : Wr := normalO lk [o] w
theorem normalO_cons (lk : Int) (o : Opn) (r : List Opn) (w : Wr) : normalO lk (o :: r) w = normalO lk r (stepN lk o w) := by
 obtain ⟨kind, n, l, e⟩ := o
 unfold stepN
 rw [normalO, normalO]
 repeat' split
 all_goals rw [normalO]
theorem units_ge : ∀ (l : List Opn), neatO l → l.length ≤ (units l).length ∧ ∀ o ∈ l, o.kindO = 0 → 0 ≤ o.nO ∧ o.nO ≤ ((units l).length : Int)
 | [], _ => ⟨Nat.zero_le _, fun o h => by cases h⟩
 | .mk kind n l e :: r, h => by
  rw [neatO] at h
  have h1 := unitsOf_len h.1
  have h2 := size_pos h.1
  obtain ⟨h3, h4⟩ := units_ge r h.2.2.2
  rw [units, List.length_append, List.length_cons]
  refine ⟨by omega, fun o ho hk => ?_⟩
  rcases List.mem_cons.1 ho with e1 | e1
  ·subst e1
   have hk : kind = 0 := hk
   subst hk
   refine ⟨h.2.1, ?_⟩
   show n ≤ _
   have h6 : sizeS (.mk 0 n l e) = n.toNat + l.length := rfl
   rw [h1, h6]
   have := h.2.1
   omega
  ·have := h4 o e1 hk
   exact ⟨this.1, by omega⟩
def InvN (B : Nat) (w : Wr) (rest : List Opn) : Prop := neatO w.out ∧ (units w.flushed).length + (units rest).length ≤ B ∧ neatO rest
theorem InvN.step {B : Nat} {w : Wr} {o : Opn} {r : List Opn} (lk : Int) (h : InvN B w (o :: r)) : InvN B (stepN lk o w) r := by
 obtain ⟨h1, h2, h3⟩ := h
 have h4 : neatO [o] ∧ neatO r := by
  obtain ⟨k, n, l, e⟩ := o
  rw [neatO] at h3
  refine ⟨?_, h3.2.2.2⟩
  rw [neatO, neatO]
  exact ⟨h3.1, h3.2.1, h3.2.2.1, trivial⟩
 refine ⟨normal_neatO [o] lk w h4.1 h1, ?_, h4.2⟩
 unfold stepN
 rw [normalO_len [o] lk w h4.1 h1]
 rw [units, List.length_append] at h2
 simp only [units, List.append_nil]
 omega
theorem InvN.bounds {B : Nat} {w : Wr} {r : List Opn} (h : InvN B w r) : w.out.length + w.gone.length + w.brought.length ≤ B ∧ w.flushed.length ≤ B ∧ ∀ o ∈ w.flushed, o.kindO = 0 → 0 ≤ o.nO ∧ o.nO ≤ (B : Int) := by
 obtain ⟨h1, h2, h3⟩ := h
 have h4 := neat_flushed h1
 have h5 := units_ge _ h1
 have h6 := units_ge _ h4
 have h7 : (units w.flushed).length = (units w.out).length + (w.gone.length + w.brought.length) := by rw [units_flushed]; simp
 refine ⟨by omega, by omega, fun o ho hk => ?_⟩
 have := h6.2 o ho hk
 exact ⟨this.1, by omega⟩
theorem InvN.wait {B : Nat} {w : Wr} {o : Opn} {r : List Opn} (h : InvN B w (o :: r)) (hk : o.kindO = 1 ∨ o.kindO = 2) : w.gone.length + o.lO.length ≤ B ∧ w.brought.length + o.lO.length ≤ B := by
 have h2 := h.2.1
 have h7 : (units w.flushed).length = (units w.out).length + (w.gone.length + w.brought.length) := by rw [units_flushed]; simp
 rw [units, List.length_append] at h2
 have h8 : (unitsOf o).length = o.lO.length := by
  rcases hk with hk | hk
  ·rw [units_kind1 hk, List.length_map]
  ·rw [units_kind2 hk, List.length_map]
 omega
theorem WrM.imp {S : Nat → Prop} {w W : World} {gw : Nat} {l : List Box} {r : List Row} {F0 F1 : World → (Nat → Prop) → Prop} {x : Wr} (st : Stable F1) (h : WrM S w W gw l r F0 x) (hf : ∀ {W S}, F0 W S → F1 W S) : WrM S w W gw l r F1 x := by
 obtain ⟨Ao, co, Ag, cg, Ab, cb, ov, gvs, bv, M⟩ := h
 exact ⟨Ao, co, Ag, cg, Ab, cb, ov, gvs, bv, M.imp (((st.opTrees _ _).and (stable_trees _ _)).and (stable_trees _ _)) fun h => ⟨⟨⟨hf h.1.1.1, h.1.1.2⟩, h.1.2⟩, h.2⟩⟩
theorem WrM.drop {S : Nat → Prop} {w W : World} {gw : Nat} {y : Box} {l : List Box} {r : List Row} {F0 : World → (Nat → Prop) → Prop} {x : Wr} (h : WrM S w W gw (y :: l) r F0 x) : WrM S w W gw l r F0 x := by
 obtain ⟨Ao, co, Ag, cg, Ab, cb, ov, gvs, bv, M⟩ := h
 exact ⟨Ao, co, Ag, cg, Ab, cb, ov, gvs, bv, M.tail2⟩
theorem WrM.fact {S : Nat → Prop} {w W : World} {gw : Nat} {l : List Box} {r : List Row} {F0 : World → (Nat → Prop) → Prop} {x : Wr} (h : WrM S w W gw l r F0 x) : ∃ S', F0 W S' := by
 obtain ⟨Ao, co, Ag, cg, Ab, cb, ov, gvs, bv, M⟩ := h
 exact ⟨_, M.fact.1.1.1⟩
def OsP (l : List Opn) (S : Nat → Prop) (w : World) (e : Ending) (w' : World) : Prop := ∃ (A : Option Addr) (n c : Nat) (ov : List Ov), e = .returned (.slice A n c) ∧ Below w.heap.size w w' ∧ OsAt w' (Grow S w w') A n c l ov
def NormalH (N B : Nat) : Prop := ∀ (e : Ed) (v : Ev) (S : Nat → Prop) (w : World), dE e ≤ N → neatE e → bdE B e → EdAt w S e v → (∀ b, S b → b < w.heap.size) →
  Calls Try.prog 19 #[.agg v.arr] w (EdP (normalE e) S w)
theorem idle_any (lk : Int) (e : Ed) (v : Ev) (S : Nat → Prop) (w : World) (h : EdAt w S e v) :
  Calls Try.prog 53 #[.int .i64 lk, .agg v.arr] w (fun en w' => en = .returned (.bool (isIdle lk e)) ∧ Below w.heap.size w w') := by
 obtain ⟨kind, old, new, ws, ks, lk', ops⟩ := e
 obtain ⟨hk, _, kv, ov, hp⟩ := h.parts
 have hw := hp.ws.len
 have hks := hp.ks.len
 have b1 := hp.ws.row.few
 have b2 := hp.ks.row.few
 have hid : isIdle lk (.mk kind old new ws ks lk' ops) = (kind == 0 || (lk == 9 && kind == 2 && ws.isEmpty && ks.isEmpty)) := rfl
 rw [hid]
 clear hp h hid
 have M := Mm.begin (S := fun _ => False) (w := w) (F := fun _ _ => True) (fun b hb => hb.elim) stable_true trivial
 refine calls_fr (xs := [.int .i64 lk, .agg v.arr]) Try.func53 rfl Try.ntmps53 rfl (fun a hF => ?_)
 refine wrgs rfl ?_
 obtain ⟨bk1, hbk1⟩ : ∃ g, w.heap.size = g := ⟨_, rfl⟩
 refine wlal hF M hbk1 rfl rfl rfl (rn_box (cs := (Ev.arr v)) rfl rfl hbk1) ?_; clear hF M a; intro W1 a M hF
 revert a; refine qm (.bool false) rfl ?_; intro a hF; refine wl0 ?_
 by_cases k0 : kind = 0
 ·skip
  refine wrgs rfl ?_; revert a; refine qf bk1 0 fo_E0 rfl rfl ?_; refine qV (.int .i64 v.k) (rn_load rfl rfl (ld_one one_int ((M.b 0 rfl).cell 0))) rfl ?_; refine qV (.bool true) (rn_eql rfl rfl rfl (by rw [hk, k0]; rfl)) rfl ?_; refine qm (.bool true) rfl ?_; refine qi rfl ?_; refine qi rfl ?_; refine qi rfl ?_; intro a hF; refine lgs hF rfl rfl rfl (.inr rfl) rfl ?_; clear hF a; intro a hF; refine lgs hF rfl rfl rfl (.inr rfl) rfl ?_; clear hF a; intro a hF; refine lgs hF rfl rfl rfl (.inr rfl) rfl ?_; clear hF a; intro a hF; revert a; refine qi rfl ?_; refine qi rfl ?_; intro a hF; refine lgs hF rfl rfl rfl (.inr rfl) rfl ?_; clear hF a; intro a hF; refine lgs hF rfl rfl rfl (.inr rfl) rfl ?_; clear hF a; intro a hF; refine lgs hF rfl rfl rfl (.inr rfl) rfl ?_; clear hF a; intro a hF; refine lgs hF rfl rfl rfl (.inr rfl) rfl ?_; clear hF a; intro a hF; refine lgs hF rfl rfl rfl (.inr rfl) rfl ?_; clear hF a; intro a hF; refine lgs hF rfl rfl rfl (.inr rfl) rfl ?_; clear hF a; intro a hF; refine lgs hF rfl rfl rfl (.inr rfl) rfl ?_; clear hF a; intro a hF; refine lgs hF rfl rfl rfl (.inr rfl) rfl ?_; clear hF a; intro a hF; revert a; refine qi rfl ?_; refine qV (.bool true) (rn_pick rfl rfl rfl) rfl ?_; refine qm (.bool true) rfl ?_; intro a hF; refine wl0 ?_
  refine wp_ret (res_slot Try.results53 rfl hF ⟨?_, M.bel⟩)
  show Ending.returned (.bool true) = _
  rw [k0]; rfl
 ·skip
  have e0 : (kind == 0) = false := beq_false_of_ne k0
  rw [e0]
  by_cases k9 : lk = 9
  ·skip
   by_cases k2 : kind = 2
   ·skip
    by_cases hz : v.wn + v.kn = 0
    ·skip
     have z1 : ws = [] := List.eq_nil_of_length_eq_zero (by omega)
     have z2 : ks = [] := List.eq_nil_of_length_eq_zero (by omega)
     refine wrgs rfl ?_; revert a; refine qf bk1 0 fo_E0 rfl rfl ?_; refine qV (.int .i64 v.k) (rn_load rfl rfl (ld_one one_int ((M.b 0 rfl).cell 0))) rfl ?_; refine qV (.bool false) (rn_eql rfl rfl rfl (by rw [hk]; exact e0)) rfl ?_; refine qm (.bool false) rfl ?_; refine qn (.int .i64 lk) rfl ?_; refine qg (.bool true) (rn_eql rfl rfl rfl (by rw [k9]; rfl)) rfl ?_; refine qn (.bool true) rfl ?_; refine qg (.pointer (some ⟨bk1, 0, none⟩)) (rn_field (q := 0) rfl rfl fo_E0 rfl) rfl ?_; refine qg (.int .i64 v.k) (rn_load rfl rfl (ld_one one_int ((M.b 0 rfl).cell 0))) rfl ?_; refine qg (.bool true) (rn_eql rfl rfl rfl (by rw [hk, k2]; rfl)) rfl ?_; refine qg (.bool true) (rn_pick rfl rfl rfl) rfl ?_; refine qn (.bool true) rfl ?_; refine qg (.pointer (some ⟨bk1, 7, none⟩)) (rn_field (q := 7) rfl rfl fo_E3 rfl) rfl ?_; refine qg (.slice v.W v.wn v.wc) (rn_load rfl rfl (ld_one one_lW ((M.b 0 rfl).cell 7))) rfl ?_; refine qg (.int .i64 (↑v.wn)) (rn_len rfl rfl is_lW) rfl ?_; refine qg (.pointer (some ⟨bk1, 8, none⟩)) (rn_field (q := 8) rfl rfl fo_E4 rfl) rfl ?_; refine qg (.slice v.K v.kn v.kc) (rn_load rfl rfl (ld_one one_lK ((M.b 0 rfl).cell 8))) rfl ?_; refine qg (.int .i64 (↑v.kn)) (rn_len rfl rfl is_lK) rfl ?_; refine qg (.int .i64 (↑v.wn + ↑v.kn : Int)) (rn_add (q := (↑v.wn + ↑v.kn : Int)) rfl rfl rfl rfl (by omega) (by omega)) rfl ?_; refine qg (.bool true) (rn_eql rfl rfl rfl (beq_iff_eq.2 (by omega))) rfl ?_; refine qg (.bool true) (rn_pick rfl rfl rfl) rfl ?_; refine qV (.bool true) (rn_pick rfl rfl rfl) rfl ?_; refine qm (.bool true) rfl ?_; intro a hF
     refine wl0 ?_
     refine wp_ret (res_slot Try.results53 rfl hF ⟨?_, M.bel⟩)
     show Ending.returned (.bool true) = _
     rw [k9, k2, z1, z2]; rfl
    ·skip
     have z3 : (ws.isEmpty && ks.isEmpty) = false := by
      cases ws with
      | nil => cases ks with
       | nil => simp at hw hks; omega
       | cons => rfl
      | cons => rfl
     refine wrgs rfl ?_; revert a; refine qf bk1 0 fo_E0 rfl rfl ?_; refine qV (.int .i64 v.k) (rn_load rfl rfl (ld_one one_int ((M.b 0 rfl).cell 0))) rfl ?_; refine qV (.bool false) (rn_eql rfl rfl rfl (by rw [hk]; exact e0)) rfl ?_; refine qm (.bool false) rfl ?_; refine qn (.int .i64 lk) rfl ?_; refine qg (.bool true) (rn_eql rfl rfl rfl (by rw [k9]; rfl)) rfl ?_; refine qn (.bool true) rfl ?_; refine qg (.pointer (some ⟨bk1, 0, none⟩)) (rn_field (q := 0) rfl rfl fo_E0 rfl) rfl ?_; refine qg (.int .i64 v.k) (rn_load rfl rfl (ld_one one_int ((M.b 0 rfl).cell 0))) rfl ?_; refine qg (.bool true) (rn_eql rfl rfl rfl (by rw [hk, k2]; rfl)) rfl ?_; refine qg (.bool true) (rn_pick rfl rfl rfl) rfl ?_; refine qn (.bool true) rfl ?_; refine qg (.pointer (some ⟨bk1, 7, none⟩)) (rn_field (q := 7) rfl rfl fo_E3 rfl) rfl ?_; refine qg (.slice v.W v.wn v.wc) (rn_load rfl rfl (ld_one one_lW ((M.b 0 rfl).cell 7))) rfl ?_; refine qg (.int .i64 (↑v.wn)) (rn_len rfl rfl is_lW) rfl ?_; refine qg (.pointer (some ⟨bk1, 8, none⟩)) (rn_field (q := 8) rfl rfl fo_E4 rfl) rfl ?_; refine qg (.slice v.K v.kn v.kc) (rn_load rfl rfl (ld_one one_lK ((M.b 0 rfl).cell 8))) rfl ?_; refine qg (.int .i64 (↑v.kn)) (rn_len rfl rfl is_lK) rfl ?_; refine qg (.int .i64 (↑v.wn + ↑v.kn : Int)) (rn_add (q := (↑v.wn + ↑v.kn : Int)) rfl rfl rfl rfl (by omega) (by omega)) rfl ?_; refine qg (.bool false) (rn_eql rfl rfl rfl (beq_false_of_ne (by omega))) rfl ?_; refine qg (.bool false) (rn_pick rfl rfl rfl) rfl ?_; refine qV (.bool false) (rn_pick rfl rfl rfl) rfl ?_; refine qm (.bool false) rfl ?_; intro a hF
     refine wl0 ?_
     refine wp_ret (res_slot Try.results53 rfl hF ⟨?_, M.bel⟩)
     show Ending.returned (.bool false) = _
     rw [Bool.and_assoc, z3, Bool.and_false]; rfl
   ·skip
    have e2 : (kind == 2) = false := beq_false_of_ne k2
    refine wrgs rfl ?_; revert a; refine qf bk1 0 fo_E0 rfl rfl ?_; refine qV (.int .i64 v.k) (rn_load rfl rfl (ld_one one_int ((M.b 0 rfl).cell 0))) rfl ?_; refine qV (.bool false) (rn_eql rfl rfl rfl (by rw [hk]; exact e0)) rfl ?_; refine qm (.bool false) rfl ?_; refine qn (.int .i64 lk) rfl ?_; refine qg (.bool true) (rn_eql rfl rfl rfl (by rw [k9]; rfl)) rfl ?_; refine qn (.bool true) rfl ?_; refine qg (.pointer (some ⟨bk1, 0, none⟩)) (rn_field (q := 0) rfl rfl fo_E0 rfl) rfl ?_; refine qg (.int .i64 v.k) (rn_load rfl rfl (ld_one one_int ((M.b 0 rfl).cell 0))) rfl ?_; refine qg (.bool false) (rn_eql rfl rfl rfl (by rw [hk]; exact beq_false_of_ne k2)) rfl ?_; refine qg (.bool false) (rn_pick rfl rfl rfl) rfl ?_; refine qn (.bool false) rfl ?_; refine qi rfl ?_; refine qi rfl ?_; refine qi rfl ?_; refine qi rfl ?_; refine qi rfl ?_; refine qi rfl ?_; refine qi rfl ?_; refine qi rfl ?_; refine qg (.bool false) (rn_pick rfl rfl rfl) rfl ?_; refine qV (.bool false) (rn_pick rfl rfl rfl) rfl ?_; refine qm (.bool false) rfl ?_; intro a hF; refine wl0 ?_
    refine wp_ret (res_slot Try.results53 rfl hF ⟨?_, M.bel⟩)
    show Ending.returned (.bool false) = _
    rw [e2, Bool.and_false, Bool.false_and, Bool.false_and]; rfl
  ·skip
   have e9 : (lk == 9) = false := beq_false_of_ne k9
   refine wrgs rfl ?_; revert a; refine qf bk1 0 fo_E0 rfl rfl ?_; refine qV (.int .i64 v.k) (rn_load rfl rfl (ld_one one_int ((M.b 0 rfl).cell 0))) rfl ?_; refine qV (.bool false) (rn_eql rfl rfl rfl (by rw [hk]; exact e0)) rfl ?_; refine qm (.bool false) rfl ?_; refine qn (.int .i64 lk) rfl ?_; refine qg (.bool false) (rn_eql rfl rfl rfl e9) rfl ?_; refine qn (.bool false) rfl ?_; refine qi rfl ?_; refine qi rfl ?_; refine qi rfl ?_; refine qg (.bool false) (rn_pick rfl rfl rfl) rfl ?_; refine qn (.bool false) rfl ?_; refine qi rfl ?_; refine qi rfl ?_; refine qi rfl ?_; refine qi rfl ?_; refine qi rfl ?_; refine qi rfl ?_; refine qi rfl ?_; refine qi rfl ?_; refine qg (.bool false) (rn_pick rfl rfl rfl) rfl ?_; refine qV (.bool false) (rn_pick rfl rfl rfl) rfl ?_; refine qm (.bool false) rfl ?_; intro a hF; refine wl0 ?_
   refine wp_ret (res_slot Try.results53 rfl hF ⟨?_, M.bel⟩)
   show Ending.returned (.bool false) = _
   rw [e9]; rfl
theorem stepN0 (lk n : Int) (l : List T) (e : Ed) (x : Wr) : stepN lk (.mk 0 n l e) x = ⟨addKeep n x.flushed, [], []⟩ := rfl
theorem stepN1 (lk n : Int) (l : List T) (e : Ed) (x : Wr) : stepN lk (.mk 1 n l e) x = ⟨x.out, x.gone ++ l.map norm, x.brought⟩ := rfl
theorem stepN2 (lk n : Int) (l : List T) (e : Ed) (x : Wr) : stepN lk (.mk 2 n l e) x = ⟨x.out, x.gone, x.brought ++ l.map norm⟩ := rfl
theorem stepN3 (lk n : Int) (l : List T) (e : Ed) (x : Wr) : stepN lk (.mk 3 n l e) x = if isIdle lk (normalE e) then ⟨addKeep 1 x.flushed, [], []⟩ else ⟨x.flushed ++ [.mk 3 0 [] (normalE e)], [], []⟩ := by
 unfold stepN
 rw [normalO, if_neg (by decide), if_neg (by decide), if_neg (by decide)]
 split <;> rw [normalO]
def NopK (S : Nat → Prop) (w : World) (gw : Nat) (lk : Int) (ops : List Opn) (L : Option Addr) (ln lc : Nat) (ov0 : List Ov) (q : Nat) (x : Wr) (a : Act) (W : World) : Prop :=
 ∃ f, Fr a 72 f ∧ f 0 = .int .i64 lk ∧ f 5 = .pointer (some ⟨gw, 0, none⟩) ∧ f 11 = .slice L ln lc ∧ f 12 = .int .i64 (↑ln : Int) ∧ f 13 = .int .i64 (↑q : Int) ∧ WrM S w W gw [] [] (fun W S => OsAt W S L ln lc ops ov0) x
def NopI (S : Nat → Prop) (w : World) (gw : Nat) (lk : Int) (ops : List Opn) (L : Option Addr) (ln lc : Nat) (ov0 : List Ov) (B : Nat) (n : Nat) (a : Act) (W : World) : Prop :=
 ∃ (q : Nat) (x : Wr), q + n = ln ∧ NopK S w gw lk ops L ln lc ov0 q x a W ∧ normalO lk (ops.drop q) x = normalO lk ops ⟨[], [], []⟩ ∧ InvN B x (ops.drop q)
theorem nops_any (N B : Nat) (hN : NormalH N B) (hB : B ≤ 400000000000) (lk : Int) (ops : List Opn) (S : Nat → Prop) (w : World) (L : Option Addr) (ln lc : Nat) (ov0 : List Ov) (h : OsAt w S L ln lc ops ov0) (hd : ∀ o ∈ ops, dE o.eO ≤ N) (hnt : neatO ops) (hbd : bdO B ops) (hu : (units ops).length ≤ B) (hS : ∀ b, S b → b < w.heap.size) :
  Calls Try.prog 34 #[.int .i64 lk, .slice L ln lc] w (OsP (normalO lk ops ⟨[], [], []⟩).flushed S w) := by
 have hln : ln = ops.length := h.len
 have st0 : Stable (fun W S => OsAt W S L ln lc ops ov0) := stable_os _ _ _ _ _
 have hfew : ln ≤ 586406201480 := h.row.few
 have M := Mm.begin hS st0 h
 refine calls_fr (xs := [.int .i64 lk, .slice L ln lc]) Try.func34 rfl Try.ntmps34 rfl (fun a hF => ?_)
 refine wrgs rfl ?_; revert a; refine qm (.slice none 0 0) rfl ?_; intro a hF; refine wl0 ?_; refine wrgs rfl ?_; revert a; refine qV (.agg #[.slice none 0 0, .slice none 0 0, .slice none 0 0]) (rn_build (cs := #[.slice none 0 0, .slice none 0 0, .slice none 0 0]) rfl (by kernel_rfl)) rfl ?_; intro a hF
 obtain ⟨bk1, hbk1⟩ : ∃ g, w.heap.size = g := ⟨_, rfl⟩
 refine wlal hF M hbk1 rfl rfl rfl (rn_box (cs := #[.slice none 0 0, .slice none 0 0, .slice none 0 0]) rfl rfl hbk1) ?_; clear hF M a; intro W1 a M hF
 revert a; refine qm (.pointer (some ⟨bk1, 0, none⟩)) rfl ?_; intro a hF; refine wl0 ?_
 have hW : WrM S w W1 bk1 [] [] (fun W S => OsAt W S L ln lc ops ov0) ⟨[], [], []⟩ := ⟨none, 0, none, 0, none, 0, [], [], [], (((M.nilRow 25 3).nilRow 25 3).nilRow 47 14).imp (((st0.opTrees _ _).and (stable_trees _ _)).and (stable_trees _ _)) fun h => ⟨⟨⟨h, OpsAt.nil⟩, TreesAt.nil⟩, TreesAt.nil⟩⟩
 clear M
 generalize bk1 = gw at *
 refine wp_seq ?_
 refine wrgs rfl ?_; revert a; refine qm (.slice L ln lc) rfl ?_; refine qV (.int .i64 (↑ln)) (rn_len rfl rfl is_lO) rfl ?_; refine qm (.int .i64 0) rfl ?_; intro a hF; refine wl0 ?_
 refine wp_block (wlp (NopI S w gw lk ops L ln lc ov0 B) ln ⟨0, ⟨[], [], []⟩, by omega, ⟨_, hF, rfl, rfl, rfl, rfl, rfl, hW⟩, rfl, ⟨neatO_nil, by show 0 + (units ops).length ≤ B; omega, hnt⟩⟩ ?_)
 clear hF a hW W1
 rintro n a W ⟨q, x, hq, ⟨f, hF, hf0, hf5, hf11, hf12, hf13, hW⟩, hX, hI⟩
 replace hF := ((((hF.same (d := 0) hf0).same (d := 5) hf5).same (d := 11) hf11).same (d := 12) hf12).same (d := 13) hf13
 by_cases hlt : q < ln
 ·skip
  have hqk : q < ops.length := by omega
  rw [List.drop_eq_getElem_cons hqk] at hX hI
  have hmem : ops[q] ∈ ops := List.getElem_mem hqk
  have hdq := hd _ hmem; have hntq := (neatO_iff.1 hnt) _ hmem; have hbq := (bdO_iff.1 hbd) _ hmem
  rw [normalO_cons] at hX
  have hI2 := hI.step lk
  have hbd2 := hI.bounds; have hwt := hI.wait
  obtain ⟨hb1, hb2, hb3⟩ := hbd2
  refine wrgs rfl ?_; revert a; refine qV (.bool true) (rn_lss rfl rfl rfl (decide_eq_true (show (↑q : Int) < ↑ln by omega))) rfl ?_; intro a hF; refine wl0 ?_
  refine wp_seq (cd_true hF rfl rfl (wp_skip (nm_then ?_)))
  refine wp_seq (wp_cut (NopK S w gw lk ops L ln lc ov0 q (stepN lk ops[q] x)) ?_ ?_)
  ·skip
   clear hX hI hI2
   obtain ⟨Ao, co, Ag, cg, Ab, cb, ov, gvs, bv, M⟩ := hW
   obtain ⟨bo, oo, v, rfl, hbo, hR, hT⟩ := M.fact.1.1.1.rng hqk
   obtain ⟨lv, hlv⟩ := hT.l
   replace M := (M.note (stable_op _ _) hT).note (stable_kids _ _ _ _ _) hlv
   generalize ops[q] = o at *
   obtain ⟨kind, on, ol, oe⟩ := o
   have hk : v.k = kind := hT.k; have hn : v.n = on := hT.n
   simp only [Opn.lO, Opn.eO, Opn.kindO] at hlv hdq hntq hbq hwt M
   clear hT hlv hbo
   refine wp_block ?_
   refine wrgs rfl ?_; revert a; refine qV (.pointer (some ⟨bo, oo + q * 14, none⟩)) (rn_index (b := bo) (of := oo) (q := oo + q * 14) rfl rfl rfl (by omega) es_lO (by rw [Int.toNat_natCast])) rfl ?_; refine qV (.agg (Ov.arr v)) (rn_load rfl rfl (ld_O rfl hR)) rfl ?_; intro a hF
   obtain ⟨bk2, hbk2⟩ : ∃ g, W.heap.size = g := ⟨_, rfl⟩
   refine wlal hF M hbk2 rfl rfl rfl (rn_alloc rfl zc_O hbk2) ?_; clear hF M a; intro W1 a M hF
   refine wlst hF M 0 rfl (vs := (Ov.arr v)) rfl rfl rfl rfl rfl rfl rfl sz_O (Ov.arr_one _) (leb rfl) ?_; clear hF M a; intro W2 a M hF
   refine wl0 ?_
   clear hR
   refine wrgs rfl ?_; revert a; refine qf bk2 0 fo_O0 rfl rfl ?_; refine qV (.int .i64 v.k) (rn_load rfl rfl (ld_one one_int ((M.b 0 rfl).cell 0))) rfl ?_; intro a hF; refine wl0 ?_
   refine wp_block ?_
   have stF : Stable (fun W S => (OsAt W S (some ⟨bo, oo, none⟩) ln lc ops ov0 ∧ OpAt W S (.mk kind on ol oe) v) ∧ KidsAt W S v.L v.ln v.lc ol lv) := ((stable_os _ _ _ _ _).and (stable_op _ _)).and (stable_kids _ _ _ _ _)
   by_cases k0 : kind = 0
   ·skip
    refine wrgs rfl ?_; revert a; refine qV (.bool true) (rn_eql rfl rfl rfl (by rw [hk, k0]; rfl)) rfl ?_; refine qm (.bool true) rfl ?_; intro a hF; refine wl0 ?_; refine cd_true hF rfl rfl ?_
    have hW : WrM S w W2 gw [⟨bk2, 47, Ov.arr v⟩] [] (fun W S => (OsAt W S (some ⟨bo, oo, none⟩) ln lc ops ov0 ∧ OpAt W S (.mk kind on ol oe) v) ∧ KidsAt W S v.L v.ln v.lc ol lv) x := ⟨Ao, co, Ag, cg, Ab, cb, ov, gvs, bv, M.swap.imp (((stF.opTrees _ _).and (stable_trees _ _)).and (stable_trees _ _)) fun h => ⟨⟨⟨⟨⟨h.1.1.1.1.1, h.1.2⟩, h.2⟩, h.1.1.1.1.2⟩, h.1.1.1.2⟩, h.1.1.2⟩⟩
    have hun : v.n ≤ (B : Int) := by
     have h1 := hu; have h2 := (units_ge _ hnt).2 _ hmem k0
     rw [hn]; simp only [Opn.nO] at h2; omega
    refine wrg rfl ?_; revert a; refine qm (.pointer (some ⟨gw, 0, none⟩)) rfl ?_; refine qf bk2 1 fo_O1 rfl rfl ?_; refine qV (.int .i64 v.n) (rn_load rfl rfl (ld_one one_int ((M.b 0 rfl).cell 1))) rfl ?_; intro a hF
    refine wlc hF (rn_call2 (u := .pointer (some ⟨gw, 0, none⟩)) (u' := .int .i64 v.n) rfl rfl rfl rfl Try.call51) (keep_any v.n stF hW (by omega) (by omega) (by omega) (by omega) (fun o ho hk => by have := hb3 o ho hk; omega) ⟨by rw [hn]; exact hntq.2.1, by omega⟩) rfl rfl rfl ?_; clear hF a
    clear hW; rintro e W9 ⟨rfl, hW⟩; refine ⟨_, rfl, ?_⟩; intro a hF
    refine wl0 ?_
    rw [k0, stepN0, ← hn]
    refine nm_block (nm_block ?_)
    refine ⟨_, hF, rfl, rfl, rfl, rfl, rfl, hW.drop.imp (stable_os _ _ _ _ _) (fun h => h.1.1)⟩
   ·skip
    refine wrgs rfl ?_; revert a; refine qV (.bool false) (rn_eql rfl rfl rfl (by rw [hk]; exact beq_false_of_ne k0)) rfl ?_; refine qm (.bool false) rfl ?_; intro a hF; refine wl0 ?_; refine cd_false hF rfl rfl ?_
    by_cases k1 : kind = 1
    ·skip
     refine wrgs rfl ?_; revert a; refine qV (.bool true) (rn_eql rfl rfl rfl (by rw [hk, k1]; rfl)) rfl ?_; refine qm (.bool true) rfl ?_; intro a hF; refine wl0 ?_; refine cd_true hF rfl rfl ?_
     refine wdr (Un (rows (⟨47, 14, Ao, x.out.length, co, (oCellsL ov)⟩ :: ⟨25, 3, Ag, x.gone.length, cg, (kidCells gvs)⟩ :: ⟨25, 3, Ab, x.brought.length, cb, (kidCells bv)⟩ :: [])) W2.drew) (fun i => Nat.beq i 5) prog_mixed ?_
     have M0 := M.drew' _ rfl
     generalize W2.drew = W3 at *
     have M := M0; have hU := Un.refl (rows (⟨47, 14, Ao, x.out.length, co, (oCellsL ov)⟩ :: ⟨25, 3, Ag, x.gone.length, cg, (kidCells gvs)⟩ :: ⟨25, 3, Ab, x.brought.length, cb, (kidCells bv)⟩ :: [])) W3
     revert a; refine qx 0 (.pointer (some ⟨gw, 0, none⟩)) hU rfl (by kernel_rfl) ?_; refine qp 1 (.pointer (some ⟨gw, 0, none⟩)) rfl (rn_nil rfl rfl) hU rfl (by kernel_rfl) ?_; refine qo 2 gw 1 fo_R1 hU rfl rfl (by kernel_rfl) ?_; refine qo 3 bk2 2 fo_O2 hU rfl rfl (by kernel_rfl) ?_; refine qt 4 (.slice v.L v.ln v.lc) rfl (fun W' hw => (rn_load rfl rfl (ld_one one_lT ((M0.ub hw 0 rfl).cell 2)))) hU rfl (by kernel_rfl) ?_; intro a hF; refine g1 (i := 5) (by kernel_rfl) ?_
     have hW : WrM S w W3 gw [⟨bk2, 47, Ov.arr v⟩] [] (fun W S => (OsAt W S (some ⟨bo, oo, none⟩) ln lc ops ov0 ∧ OpAt W S (.mk kind on ol oe) v) ∧ KidsAt W S v.L v.ln v.lc ol lv) x := ⟨Ao, co, Ag, cg, Ab, cb, ov, gvs, bv, M.swap.imp (((stF.opTrees _ _).and (stable_trees _ _)).and (stable_trees _ _)) fun h => ⟨⟨⟨⟨⟨h.1.1.1.1.1, h.1.2⟩, h.2⟩, h.1.1.1.1.2⟩, h.1.1.1.2⟩, h.1.1.2⟩⟩
     refine gc1 hF (rn_call2 (u := .pointer (some ⟨gw, 1, none⟩)) (u' := .slice v.L v.ln v.lc) rfl rfl rfl rfl Try.call52) (waitG_any stF hW (fun h => h.2) (by have := hwt (.inl k1); omega)) rfl rfl rfl rfl ?_; clear hF a hW
     rintro e W9 ⟨rfl, hW⟩; refine ⟨_, rfl, fin_no (by kernel_rfl), ?_⟩; intro a hF
     refine wgd (by kernel_rfl) ?_ _
     rw [k1, stepN1]
     refine nm_block (nm_block ?_)
     refine ⟨_, hF, rfl, rfl, rfl, rfl, rfl, hW.drop.imp (stable_os _ _ _ _ _) (fun h => h.1.1)⟩
    ·skip
     refine wrgs rfl ?_; revert a; refine qV (.bool false) (rn_eql rfl rfl rfl (by rw [hk]; exact beq_false_of_ne k1)) rfl ?_; refine qm (.bool false) rfl ?_; intro a hF; refine wl0 ?_; refine cd_false hF rfl rfl ?_
     by_cases k2 : kind = 2
     ·skip
      refine wrgs rfl ?_; revert a; refine qV (.bool true) (rn_eql rfl rfl rfl (by rw [hk, k2]; rfl)) rfl ?_; refine qm (.bool true) rfl ?_; intro a hF; refine wl0 ?_; refine cd_true hF rfl rfl ?_
      refine wdr (Un (rows (⟨47, 14, Ao, x.out.length, co, (oCellsL ov)⟩ :: ⟨25, 3, Ag, x.gone.length, cg, (kidCells gvs)⟩ :: ⟨25, 3, Ab, x.brought.length, cb, (kidCells bv)⟩ :: [])) W2.drew) (fun i => Nat.beq i 5) prog_mixed ?_
      have M0 := M.drew' _ rfl
      generalize W2.drew = W4 at *
      have M := M0; have hU := Un.refl (rows (⟨47, 14, Ao, x.out.length, co, (oCellsL ov)⟩ :: ⟨25, 3, Ag, x.gone.length, cg, (kidCells gvs)⟩ :: ⟨25, 3, Ab, x.brought.length, cb, (kidCells bv)⟩ :: [])) W4
      revert a; refine qx 0 (.pointer (some ⟨gw, 0, none⟩)) hU rfl (by kernel_rfl) ?_; refine qp 1 (.pointer (some ⟨gw, 0, none⟩)) rfl (rn_nil rfl rfl) hU rfl (by kernel_rfl) ?_; refine qo 2 gw 2 fo_R2 hU rfl rfl (by kernel_rfl) ?_; refine qo 3 bk2 2 fo_O2 hU rfl rfl (by kernel_rfl) ?_; refine qt 4 (.slice v.L v.ln v.lc) rfl (fun W' hw => (rn_load rfl rfl (ld_one one_lT ((M0.ub hw 0 rfl).cell 2)))) hU rfl (by kernel_rfl) ?_; intro a hF; refine g1 (i := 5) (by kernel_rfl) ?_
      have hW : WrM S w W4 gw [⟨bk2, 47, Ov.arr v⟩] [] (fun W S => (OsAt W S (some ⟨bo, oo, none⟩) ln lc ops ov0 ∧ OpAt W S (.mk kind on ol oe) v) ∧ KidsAt W S v.L v.ln v.lc ol lv) x := ⟨Ao, co, Ag, cg, Ab, cb, ov, gvs, bv, M.swap.imp (((stF.opTrees _ _).and (stable_trees _ _)).and (stable_trees _ _)) fun h => ⟨⟨⟨⟨⟨h.1.1.1.1.1, h.1.2⟩, h.2⟩, h.1.1.1.1.2⟩, h.1.1.1.2⟩, h.1.1.2⟩⟩
      refine gc1 hF (rn_call2 (u := .pointer (some ⟨gw, 2, none⟩)) (u' := .slice v.L v.ln v.lc) rfl rfl rfl rfl Try.call52) (waitB_any stF hW (fun h => h.2) (by have := hwt (.inr k2); omega)) rfl rfl rfl rfl ?_; clear hF a hW
      rintro e W9 ⟨rfl, hW⟩; refine ⟨_, rfl, fin_no (by kernel_rfl), ?_⟩; intro a hF
      refine wgd (by kernel_rfl) ?_ _
      rw [k2, stepN2]
      refine nm_block (nm_block ?_)
      refine ⟨_, hF, rfl, rfl, rfl, rfl, rfl, hW.drop.imp (stable_os _ _ _ _ _) (fun h => h.1.1)⟩
     ·skip
      refine wrgs rfl ?_; revert a; refine qV (.bool false) (rn_eql rfl rfl rfl (by rw [hk]; exact beq_false_of_ne k2)) rfl ?_; refine qm (.bool false) rfl ?_; intro a hF; refine wl0 ?_; refine cd_false hF rfl rfl ?_
      have k3 : kind = 3 := by have h9 := hntq.1; rw [neatS] at h9; omega
      refine wrgs rfl ?_; revert a; refine qV (.bool true) (rn_eql rfl rfl rfl (by rw [hk, k3]; rfl)) rfl ?_; refine qm (.bool true) rfl ?_; intro a hF; refine wl0 ?_; refine cd_true hF rfl rfl ?_
      rw [k3, stepN3]
      refine wrgs rfl ?_; revert a; refine qf bk2 3 fo_O3 rfl rfl ?_; refine qV (.agg (Ev.arr v.e)) (rn_load rfl rfl (ld_E (cs := (Ev.arr v.e)) rfl ((M.b 0 rfl).range 3 _ (sub_of rfl)))) rfl ?_; intro a hF
      refine wlc hF (rn_call1 (u := .agg (Ev.arr v.e)) rfl rfl rfl Try.call19) (edP_mm M (hN oe v.e _ _ hdq hntq.2.2 hbq.2.2 M.fact.1.2.e M.lts)) rfl rfl rfl ?_; clear hF a
      rintro e W7 ⟨v7, rfl, M, _⟩; refine ⟨_, rfl, ?_⟩; intro a hF
      obtain ⟨bk3, hbk3⟩ : ∃ g, W7.heap.size = g := ⟨_, rfl⟩
      refine wlal hF M hbk3 rfl rfl rfl (rn_alloc rfl zc_E hbk3) ?_; clear hF M a; intro W8 a M hF
      refine wlst hF M 0 rfl (vs := (Ev.arr v7)) rfl rfl rfl rfl rfl rfl rfl sz_E (Ev.arr_one _) (leb rfl) ?_; clear hF M a; intro W9 a M hF
      refine wl0 ?_
      by_cases hidle : isIdle lk (normalE oe) = true
      ·skip
       rw [if_pos hidle]
       refine wrgs rfl ?_; revert a; refine qm (.int .i64 lk) rfl ?_; refine qV (.agg (Ev.arr v7)) (rn_load rfl rfl (ld_E rfl (M.b 0 rfl).whole)) rfl ?_; intro a hF
       refine wlc hF (rn_call2 (u := .int .i64 lk) (u' := .agg (Ev.arr v7)) rfl rfl rfl rfl Try.call53) (idle_any lk (normalE oe) v7 _ _ M.fact.2) rfl rfl rfl ?_; clear hF a
       rintro e W10 ⟨rfl, hb⟩; replace M := M.step hb; clear hb; rw [hidle]; refine ⟨_, rfl, ?_⟩; intro a hF
       refine wl0 ?_; refine cd_true hF rfl rfl ?_
       have hW : WrM S w W10 gw [⟨bk3, 30, (Ev.arr v7)⟩, ⟨bk2, 47, (Ov.arr v)⟩] [] (fun W S => (OsAt W S (some ⟨bo, oo, none⟩) ln lc ops ov0) ∧ EdAt W S (normalE oe) v7) x := ⟨Ao, co, Ag, cg, Ab, cb, ov, gvs, bv, (M.perm (l' := [⟨gw, 87, #[.slice Ao x.out.length co, .slice Ag x.gone.length cg, .slice Ab x.brought.length cb]⟩, ⟨bk3, 30, (Ev.arr v7)⟩, ⟨bk2, 47, (Ov.arr v)⟩]) (((List.Perm.swap _ _ _).trans ((List.Perm.swap _ _ _).cons _)).symm.symm)).imp ((((stable_os _ _ _ _ _).and (stable_ed _ _)).opTrees _ _).and (stable_trees _ _) |>.and (stable_trees _ _)) fun h => ⟨⟨⟨⟨h.1.1.1.1.1.1, h.2⟩, h.1.1.1.1.1.2⟩, h.1.1.1.1.2⟩, h.1.1.1.2⟩⟩
       refine wrg rfl ?_; revert a; refine qm (.pointer (some ⟨gw, 0, none⟩)) rfl ?_; intro a hF
       refine wlc hF (rn_call2 (u := .pointer (some ⟨gw, 0, none⟩)) (u' := .int .i64 1) rfl rfl rfl rfl Try.call51) (keep_any 1 ((stable_os _ _ _ _ _).and (stable_ed _ _)) hW (by omega) (by omega) (by omega) (by omega) (fun o ho hk => by have := hb3 o ho hk; omega) (by decide)) rfl rfl rfl ?_; clear hF a
       clear hW; rintro e W9 ⟨rfl, hW⟩; refine ⟨_, rfl, ?_⟩; intro a hF
       refine wl0 ?_; refine nm_block (nm_block ?_)
       refine ⟨_, hF, rfl, rfl, rfl, rfl, rfl, hW.drop.drop.imp (stable_os _ _ _ _ _) (fun h => h.1)⟩
      ·skip
       rw [if_neg hidle]
       refine wrgs rfl ?_; revert a; refine qm (.int .i64 lk) rfl ?_; refine qV (.agg (Ev.arr v7)) (rn_load rfl rfl (ld_E rfl (M.b 0 rfl).whole)) rfl ?_; intro a hF
       refine wlc hF (rn_call2 (u := .int .i64 lk) (u' := .agg (Ev.arr v7)) rfl rfl rfl rfl Try.call53) (idle_any lk (normalE oe) v7 _ _ M.fact.2) rfl rfl rfl ?_; clear hF a
       rintro e W10 ⟨rfl, hb⟩; replace M := M.step hb; clear hb; rw [Bool.eq_false_iff.2 hidle]; refine ⟨_, rfl, ?_⟩; intro a hF
       refine wl0 ?_; refine cd_false hF rfl rfl ?_
       have hW : WrM S w W10 gw [⟨bk3, 30, (Ev.arr v7)⟩, ⟨bk2, 47, (Ov.arr v)⟩] [] (fun W S => (OsAt W S (some ⟨bo, oo, none⟩) ln lc ops ov0) ∧ EdAt W S (normalE oe) v7) x := ⟨Ao, co, Ag, cg, Ab, cb, ov, gvs, bv, (M.perm (l' := [⟨gw, 87, #[.slice Ao x.out.length co, .slice Ag x.gone.length cg, .slice Ab x.brought.length cb]⟩, ⟨bk3, 30, (Ev.arr v7)⟩, ⟨bk2, 47, (Ov.arr v)⟩]) (((List.Perm.swap _ _ _).trans ((List.Perm.swap _ _ _).cons _)).symm.symm)).imp ((((stable_os _ _ _ _ _).and (stable_ed _ _)).opTrees _ _).and (stable_trees _ _) |>.and (stable_trees _ _)) fun h => ⟨⟨⟨⟨h.1.1.1.1.1.1, h.2⟩, h.1.1.1.1.1.2⟩, h.1.1.1.1.2⟩, h.1.1.1.2⟩⟩
       refine wrgs rfl ?_; revert a; refine qm (.pointer (some ⟨gw, 0, none⟩)) rfl ?_; intro a hF
       refine wlc hF (rn_call1 (u := .pointer (some ⟨gw, 0, none⟩)) rfl rfl rfl Try.call54) (flush_any ((stable_os _ _ _ _ _).and (stable_ed _ _)) hW (by omega) (by omega) (by omega)) rfl rfl rfl ?_; clear hF a
       clear hW M; rintro e W11 ⟨rfl, hW⟩; refine ⟨_, rfl, ?_⟩; intro a hF
       refine wl0 ?_
       obtain ⟨Ao, co, Ag, cg, Ab, cb, ov, gvs, bv, M⟩ := hW
       simp only at M
       generalize x.flushed = o1 at *
       have hol : o1.length * 14 = (oCellsL ov).length := (M.len 0 rfl).symm
       refine wdr (Un (rows (⟨47, 14, Ao, o1.length, co, (oCellsL ov)⟩ :: ⟨25, 3, Ag, (([] : List T).length), cg, (kidCells gvs)⟩ :: ⟨25, 3, Ab, (([] : List T).length), cb, (kidCells bv)⟩ :: [])) W11.drew) (fun i => Nat.beq i 10 || Nat.beq i 13) prog_mixed ?_
       have M0 := M.drew' _ rfl
       generalize W11.drew = W12 at *
       have M := M0; have hU := Un.refl (rows (⟨47, 14, Ao, o1.length, co, (oCellsL ov)⟩ :: ⟨25, 3, Ag, (([] : List T).length), cg, (kidCells gvs)⟩ :: ⟨25, 3, Ab, (([] : List T).length), cb, (kidCells bv)⟩ :: [])) W12
       revert a; refine qx 0 (.pointer (some ⟨gw, 0, none⟩)) hU rfl (by kernel_rfl) ?_; refine qp 1 (.pointer (some ⟨gw, 0, none⟩)) rfl (rn_nil rfl rfl) hU rfl (by kernel_rfl) ?_; refine qo 2 gw 0 fo_R0 hU rfl rfl (by kernel_rfl) ?_; refine qt 3 (.slice Ao o1.length co) rfl (fun W' hw => (rn_load rfl rfl (ld_one one_lO ((M0.ub hw 0 rfl).cell 0)))) hU rfl (by kernel_rfl) ?_; refine qt 4 (.agg (Ev.arr v7)) rfl (fun W' hw => (rn_load rfl rfl (ld_E rfl (M0.ub hw 1 rfl).whole))) hU rfl (by kernel_rfl) ?_; refine qp 5 (.agg (Ov.arr ⟨3, 0, none, 0, 0, v7⟩)) rfl (rn_build (cs := (Ov.arr ⟨3, 0, none, 0, 0, v7⟩)) rfl (by kernel_rfl)) hU rfl (by kernel_rfl) ?_; refine qp 6 (.int .i64 (↑o1.length)) rfl (rn_len rfl rfl is_lO) hU rfl (by kernel_rfl) ?_; intro a hF; refine g1 (i := 7) (by kernel_rfl) ?_
       obtain ⟨bk4, hbk4⟩ : ∃ g, W12.heap.size = g := ⟨_, rfl⟩
       refine wgal hF M hU hbk4 rfl rfl rfl rfl (rn_bs1 (cs := (Ov.arr Ov.nil)) ti_lO (by decide) rfl rfl rfl hbk4) ?_; clear hF M hU a; intro W13 a M hU hgebk4 hF
       refine g1 (i := 8) (by kernel_rfl) ?_
       refine wgap hF M hU 0 rfl (rows_in (i := 0) rfl) ti_lO rfl rfl rfl rfl rfl rfl (Ov.nil.arr.toList) rfl rfl (src_box (M.b 0 rfl)) Ov.nil.arr_one (by show (o1.length + 1) * 240 ≤ _; omega) (by show o1.length + 1 ≤ _; unfold maxLen; omega) ?_; clear hF M hU a; intro A14 c14 W14 a M hU hx14 hF
       obtain ⟨ga14, rfl⟩ : ∃ g, A14 = some ⟨g, 0, none⟩ := M.at0 0 rfl (pos_app _ _ (leb (a := 1) rfl))
       revert a; refine qp 9 (.pointer (some ⟨ga14, o1.length * 14, none⟩)) rfl (rn_index (b := ga14) (of := 0) (q := o1.length * 14) rfl rfl rfl (by show (0 : Int) ≤ ↑o1.length ∧ (↑o1.length : Int) < ↑(o1.length + 1); omega) es_lO (by rw [Int.toNat_natCast]; omega)) hU rfl (by kernel_rfl) ?_; refine qp 11 (.pointer (some ⟨gw, 0, none⟩)) rfl (rn_nil rfl rfl) hU rfl (by kernel_rfl) ?_; refine qo 12 gw 0 fo_R0 hU rfl rfl (by kernel_rfl) ?_; intro a hF
       refine g2 (i := 10) (j := 13) (by kernel_rfl) ?_ ?_
       ·skip
        refine gsrf hF M 0 rfl rfl (vs := (Ov.arr ⟨3, 0, none, 0, 0, v7⟩)) (by kernel_rfl) rfl rfl rfl rfl rfl rfl rfl rfl sz_O (Ov.arr_one _) (by have h9 := M.len 0 rfl; simp only at h9; show o1.length * 14 + 14 ≤ ((oCellsL ov) ++ Ov.nil.arr.toList).length; omega) ?_; clear hF M a; intro W15 a M hF
        rw [oSet ov ⟨3, 0, none, 0, 0, v7⟩ Ov.nil _ hol] at M
        refine g1 (i := 13) (by kernel_rfl) ?_
        refine wgst hF M 1 rfl (vs := #[.slice (some ⟨ga14, 0, none⟩) (o1.length + 1) c14]) (by kernel_rfl) rfl rfl rfl rfl rfl rfl rfl rfl sz_lO (sl_one _ _ _) (leb rfl) ?_; clear hF M a; intro W16 a M hF
        refine wgd (by kernel_rfl) ?_ _
        replace M := M.tail.tail2.tail2
        refine nm_block (nm_block ?_)
        refine ⟨_, hF, rfl, rfl, rfl, rfl, rfl, (some ⟨ga14, 0, none⟩), c14, Ag, cg, Ab, cb, ov ++ [⟨3, 0, none, 0, 0, v7⟩], gvs, bv, ?_⟩
        simp only [List.length_append, List.length_singleton]
        exact M.imp ((((stable_os _ _ _ _ _).opTrees _ _).and (stable_trees _ _)).and (stable_trees _ _)) fun h => ⟨⟨⟨h.1.1.1.1, h.1.1.2.app (OpsAt.one ⟨rfl, rfl, ⟨[], KidsAt.none_⟩, h.1.1.1.2⟩)⟩, h.1.2⟩, h.2⟩
       ·skip
        refine wgst hF M 1 rfl (vs := #[.slice (some ⟨ga14, 0, none⟩) (o1.length + 1) c14]) (by kernel_rfl) rfl rfl rfl rfl rfl rfl rfl rfl sz_lO (sl_one _ _ _) (leb rfl) ?_; clear hF M a; intro W17 a M hF
        refine g1 (i := 10) (by kernel_rfl) ?_
        refine gsrf hF M 0 rfl rfl (vs := (Ov.arr ⟨3, 0, none, 0, 0, v7⟩)) (by kernel_rfl) rfl rfl rfl rfl rfl rfl rfl rfl sz_O (Ov.arr_one _) (by have h9 := M.len 0 rfl; simp only at h9; show o1.length * 14 + 14 ≤ ((oCellsL ov) ++ Ov.nil.arr.toList).length; omega) ?_; clear hF M a; intro W18 a M hF
        rw [oSet ov ⟨3, 0, none, 0, 0, v7⟩ Ov.nil _ hol] at M
        refine wgd (by kernel_rfl) ?_ _
        replace M := M.tail.tail2.tail2
        refine nm_block (nm_block ?_)
        refine ⟨_, hF, rfl, rfl, rfl, rfl, rfl, (some ⟨ga14, 0, none⟩), c14, Ag, cg, Ab, cb, ov ++ [⟨3, 0, none, 0, 0, v7⟩], gvs, bv, ?_⟩
        simp only [List.length_append, List.length_singleton]
        exact M.imp ((((stable_os _ _ _ _ _).opTrees _ _).and (stable_trees _ _)).and (stable_trees _ _)) fun h => ⟨⟨⟨h.1.1.1.1, h.1.1.2.app (OpsAt.one ⟨rfl, rfl, ⟨[], KidsAt.none_⟩, h.1.1.1.2⟩)⟩, h.1.2⟩, h.2⟩
  ·rintro a W9 ⟨f, hF, hf0, hf5, hf11, hf12, hf13, hW⟩
   replace hF := ((((hF.same (d := 0) hf0).same (d := 5) hf5).same (d := 11) hf11).same (d := 12) hf12).same (d := 13) hf13
   refine nm_then ?_; refine wrg rfl ?_; revert a; refine qV (.int .i64 (↑(q + 1) : Int)) (rn_add (q := (↑(q + 1) : Int)) rfl rfl rfl (by omega) (by omega) (by omega)) rfl ?_; refine qm (.int .i64 (↑(q + 1) : Int)) rfl ?_; intro a hF; refine wl0 ?_
   exact nm_then ⟨ln - (q + 1), by omega, q + 1, stepN lk ops[q] x, by omega, ⟨_, hF, rfl, rfl, rfl, rfl, rfl, hW⟩, hX, hI2⟩
 ·skip
  have hdr : ops.drop q = [] := List.drop_eq_nil_of_le (by omega)
  rw [hdr] at hX hI
  obtain ⟨hb1, hb2, hb3⟩ := hI.bounds
  have hX : x = normalO lk ops ⟨[], [], []⟩ := hX
  rw [← hX]
  refine wrgs rfl ?_; revert a; refine qV (.bool false) (rn_lss rfl rfl rfl (decide_eq_false (show ¬ (↑q : Int) < ↑ln by omega))) rfl ?_; intro a hF; refine wl0 ?_
  refine wp_seq (cd_false hF rfl rfl (wp_exit (ex_then (ex_then (ex_here ?_)))))
  refine nm_then ?_; refine wrgs rfl ?_; revert a; refine qm (.pointer (some ⟨gw, 0, none⟩)) rfl ?_; intro a hF
  refine wlc hF (rn_call1 (u := .pointer (some ⟨gw, 0, none⟩)) rfl rfl rfl Try.call54) (flush_any (stable_os _ _ _ _ _) hW (by omega) (by omega) (by omega)) rfl rfl rfl ?_; clear hF a
  clear hW; rintro e W11 ⟨rfl, hW⟩; refine ⟨_, rfl, ?_⟩; intro a hF
  refine wl0 ?_
  obtain ⟨Ao, co, Ag, cg, Ab, cb, ov, gvs, bv, M⟩ := hW
  simp only at M
  have hfl := hb2
  refine wrgs rfl ?_; revert a; refine qm (.pointer (some ⟨gw, 0, none⟩)) rfl ?_; refine qV (.pointer (some ⟨gw, 0, none⟩)) (rn_nil rfl rfl) rfl ?_; refine qf gw 0 fo_R0 rfl rfl ?_; refine qV (.slice Ao x.flushed.length co) (rn_load rfl rfl (ld_one one_lO ((M.b 0 rfl).cell 0))) rfl ?_; refine qm (.slice Ao x.flushed.length co) rfl ?_; intro a hF; refine wl0 ?_
  have M := M.done 0 (few := 586406201480) rfl (by show x.flushed.length ≤ _; omega)
  have hG := M.grown
  refine wp_ret (res_slot Try.results34 rfl hF ⟨Ao, x.flushed.length, co, ov, rfl, M.bel, ?_⟩)
  exact ⟨hG.1.1.1.2.1, hG.2, hG.1.1.1.2.2⟩
end Go.Proofs.Ytbmjiokjigkdnaa
namespace Go.Proofs.Ytbmjiokjigkdnaa
open Go.RowKit Go.Proofs.Ytbmjiokjigkdnaa.Top
theorem RdS.src {w : World} {S : Nat → Prop} {A : Option Addr} {xs : List Value} (h : RdS w S A xs) : ∀ j u, xs[j]? = some u → ∃ ad, A = some ad ∧ w.cell? (ad.add j) = some u := fun j u hu => by
 obtain ⟨b, o, e, _, hc⟩ := h j u hu
 exact ⟨_, e, by rw [add_lit]; exact hc⟩
theorem normalK_map : ∀ (l : List KEd), normalK l = l.map fun x => KEd.mk x.at_ (normalE x.e)
 | [] => by rw [normalK]; rfl
 | .mk a e :: r => by rw [normalK, normalK_map r]; rfl
theorem dE_ks {kind : Int} {old new : T} {ws : List WE} {ks : List KEd} {lk : Int} {ops : List Opn} {N : Nat} (h : dE (.mk kind old new ws ks lk ops) ≤ N + 1) : (∀ x ∈ ks, dE x.e ≤ N) ∧ ∀ o ∈ ops, dE o.eO ≤ N := by
 rw [dE] at h
 exact ⟨fun x hx => by have := dK_mem x hx; omega, fun o ho => by have := dO_mem o ho; omega⟩
theorem EdP.ret {r : Ed} {S : Nat → Prop} {w W : World} {l : List Box} {rr : List Row} {F : World → (Nat → Prop) → Prop} {v : Ev} (M : Mm S w W l rr F) (h : EdAt W (Grow S w W) r v) : EdP r S w (.returned (.agg v.arr)) W := ⟨v, rfl, M.bel, h⟩
def NeK (S : Nat → Prop) (w : World) (gp gr go : Nat) (v : Ev) (r : Ed) (a : Act) (W : World) : Prop :=
 ∃ f, Fr a 59 f ∧ f 2 = .pointer (some ⟨gr, 0, none⟩) ∧ f 3 = .pointer (some ⟨go, 0, none⟩) ∧ ∃ v' : Ev, Mm S w W (⟨go, 30, v'.arr⟩ :: ⟨gr, 30, Ev.nil.arr⟩ :: ⟨gp, 30, v.arr⟩ :: []) [] (fun W S => EdAt W S r v')
def NeI (S : Nat → Prop) (w : World) (gp gr go : Nat) (v : Ev) (ws : List WE) (ks : List KEd) (kv : List Kv) (Aw : Option Addr) (cw : Nat) (n : Nat) (a : Act) (W : World) : Prop :=
 ∃ (f : Nat → Value) (q : Nat) (Ak : Option Addr) (ck : Nat) (kvs : List Kv), Fr a 59 f ∧ f 2 = .pointer (some ⟨gr, 0, none⟩) ∧ f 3 = .pointer (some ⟨go, 0, none⟩) ∧ f 32 = .slice v.K v.kn v.kc ∧ f 33 = .int .i64 (↑v.kn : Int) ∧ f 34 = .int .i64 (↑q : Int) ∧ q + n = v.kn ∧
  Mm S w W (⟨go, 30, Ev.arr ⟨v.k, Tv.nil, Tv.nil, Aw, v.wn, cw, Ak, q, ck, v.lk, none, 0, 0⟩⟩ :: ⟨gr, 30, Ev.nil.arr⟩ :: ⟨gp, 30, v.arr⟩ :: []) (⟨55, 12, Ak, q, ck, kCellsL kvs⟩ :: []) (fun W S => (KsAt W S v.K v.kn v.kc ks kv ∧ WsAt W S Aw v.wn cw ws) ∧ KedsAt W S ((normalK ks).take q) kvs)
theorem normal_all (B : Nat) (hB : B ≤ 400000000000) : ∀ N, NormalH N B := by
 intro N
 induction N with
 | zero =>
  intro e v S w hd
  obtain ⟨kind, old, new, ws, ks, lk, ops⟩ := e
  rw [dE] at hd
  omega
 | succ N ih =>
  intro e v S w hd hnt hbd h hS
  obtain ⟨kind, old, new, ws, ks, lk, ops⟩ := e
  obtain ⟨hdk, hdo⟩ := dE_ks hd
  rw [neatE] at hnt
  rw [bdE] at hbd
  obtain ⟨hk, hlk, kv, ov, hp⟩ := h.parts
  have hwl := hp.ws.len
  have hkl := hp.ks.len
  have hwf := hp.ws.row.few
  have hkf := hp.ks.row.few
  have M := Mm.begin (F := fun W S => EdParts W S old new ws ks ops v kv ov) hS ⟨fun h hk => ⟨h.old.keep hk, h.new.keep hk, h.ws.keep hk, h.ks.keep hk, h.ops.keep hk⟩, fun h hS => ⟨h.old.mono hS, h.new.mono hS, h.ws.mono hS, h.ks.mono hS, h.ops.mono hS⟩⟩ hp
  clear hp h hd
  refine calls_fr (xs := [.agg v.arr]) Try.func19 rfl Try.ntmps19 rfl (fun a hF => ?_)
  refine wrgs rfl ?_
  obtain ⟨bk1, hbk1⟩ : ∃ g, w.heap.size = g := ⟨_, rfl⟩
  refine wlal hF M hbk1 rfl rfl rfl (rn_box (cs := (Ev.arr v)) rfl rfl hbk1) ?_; clear hF M a; intro W1 a M hF
  obtain ⟨bk2, hbk2⟩ : ∃ g, W1.heap.size = g := ⟨_, rfl⟩
  refine wlal hF M hbk2 rfl rfl rfl (rn_alloc rfl zc_E hbk2) ?_; clear hF M a; intro W2 a M hF
  refine wl0 ?_; refine wrgs rfl ?_; revert a; refine qf bk1 0 fo_E0 rfl rfl ?_; refine qV (.int .i64 v.k) (rn_load rfl rfl (ld_one one_int ((M.b 1 rfl).cell 0))) rfl ?_; refine qf bk1 9 fo_E5 rfl rfl ?_; refine qV (.int .i64 v.lk) (rn_load rfl rfl (ld_one one_int ((M.b 1 rfl).cell 9))) rfl ?_; refine qV (.agg (Ev.arr ⟨v.k, Tv.nil, Tv.nil, none, 0, 0, none, 0, 0, v.lk, none, 0, 0⟩)) (rn_build (cs := (Ev.arr ⟨v.k, Tv.nil, Tv.nil, none, 0, 0, none, 0, 0, v.lk, none, 0, 0⟩)) rfl (by kernel_rfl)) rfl ?_; intro a hF
  obtain ⟨bk3, hbk3⟩ : ∃ g, W2.heap.size = g := ⟨_, rfl⟩
  refine wlal hF M hbk3 rfl rfl rfl (rn_alloc rfl zc_E hbk3) ?_; clear hF M a; intro W3 a M hF
  refine wlst hF M 0 rfl (vs := (Ev.arr ⟨v.k, Tv.nil, Tv.nil, none, 0, 0, none, 0, 0, v.lk, none, 0, 0⟩)) rfl rfl rfl rfl rfl rfl rfl sz_E (Ev.arr_one _) (leb rfl) ?_; clear hF M a; intro W4 a M hF
  refine wl0 ?_
  generalize bk3 = go at *; generalize bk2 = gr at *; generalize bk1 = gp at *
  refine wp_seq (wp_cut (NeK S w gp gr go v (normalE (.mk kind old new ws ks lk ops))) ?_ ?_)
  ·skip
   refine wrgs rfl ?_; revert a; refine qf gp 0 fo_E0 rfl rfl ?_; refine qV (.int .i64 v.k) (rn_load rfl rfl (ld_one one_int ((M.b 2 rfl).cell 0))) rfl ?_; intro a hF; refine wl0 ?_
   refine wp_block ?_
   by_cases k1 : kind = 1
   ·skip
    refine wrgs rfl ?_; revert a; refine qV (.bool true) (rn_eql rfl rfl rfl (by rw [hk, k1]; rfl)) rfl ?_; refine qm (.bool true) rfl ?_; intro a hF; refine wl0 ?_; refine cd_true hF rfl rfl ?_
    refine wdr (Un (rows ([])) W4.drew) (fun i => Nat.beq i 7 || Nat.beq i 9) prog_mixed ?_
    have M0 := M.drew' _ rfl
    generalize W4.drew = W5 at *
    have M := M0; have hU := Un.refl (rows ([])) W5
    revert a; refine qo 0 gp 1 fo_E1 hU rfl rfl (by kernel_rfl) ?_; refine qt 1 (.agg (Tv.arr v.old)) rfl (fun W' hw => (rn_load rfl rfl (ld_T (cs := (Tv.arr v.old)) rfl ((M0.ub hw 2 rfl).range 1 _ (sub_of rfl))))) hU rfl (by kernel_rfl) ?_; refine qo 3 gp 4 fo_E2 hU rfl rfl (by kernel_rfl) ?_; refine qt 4 (.agg (Tv.arr v.new)) rfl (fun W' hw => (rn_load rfl rfl (ld_T (cs := (Tv.arr v.new)) rfl ((M0.ub hw 2 rfl).range 4 _ (sub_of rfl))))) hU rfl (by kernel_rfl) ?_; intro a hF; refine g1 (i := 2) (by kernel_rfl) ?_
    refine gc1 hF (rn_call1 (u := .agg (Tv.arr v.old)) rfl rfl rfl Try.call21) (norm_mm (t := old) (v := v.old) M M.fact.old) rfl rfl rfl rfl ?_; clear hF a
    rintro e W6 ⟨v1, rfl, M, hb⟩; replace hU := hU.nil hb; clear hb; refine ⟨_, rfl, fun _ => hU, ?_⟩; intro a hF
    revert a; refine qo 6 go 1 fo_E1 hU rfl rfl (by kernel_rfl) ?_; intro a hF; refine g1 (i := 5) (by kernel_rfl) ?_
    refine gc1 hF (rn_call1 (u := .agg (Tv.arr v.new)) rfl rfl rfl Try.call21) (norm_mm (t := new) (v := v.new) M M.fact.1.new) rfl rfl rfl rfl ?_; clear hF a
    rintro e W7 ⟨v2, rfl, M, hb⟩; replace hU := hU.nil hb; clear hb; refine ⟨_, rfl, fun _ => hU, ?_⟩; intro a hF
    refine g1 (i := 7) (by kernel_rfl) ?_
    refine wgst hF M 0 rfl (vs := (Tv.arr v1)) (by kernel_rfl) rfl rfl rfl rfl rfl rfl rfl rfl sz_T (Tv.arr_one _) (leb rfl) ?_; clear hF M a; intro W8 a M hF
    refine wgp (i := 8) (v := .pointer (some ⟨go, 4, none⟩)) hF (fun W' => (rn_field (q := 4) rfl rfl fo_E2 rfl)) rfl (by kernel_rfl) rfl rfl rfl (fin_no (by kernel_rfl)) ?_; clear hF a; intro a hF
    refine g1 (i := 9) (by kernel_rfl) ?_
    refine wgst hF M 0 rfl (vs := (Tv.arr v2)) (by kernel_rfl) rfl rfl rfl rfl rfl rfl rfl rfl sz_T (Tv.arr_one _) (leb rfl) ?_; clear hF M a; intro W9 a M hF
    refine wgd (by kernel_rfl) ?_ _; refine nm_block ⟨_, hF, rfl, rfl, ⟨v.k, v1, v2, none, 0, 0, none, 0, 0, v.lk, none, 0, 0⟩, ?_⟩
    refine M.imp (stable_ed _ _) fun h => ?_
    rw [normalE, if_pos k1, ← hk, ← hlk]
    exact EdAt.of h.1.2 h.2 .none_ .none_ .none_
   ·skip
    refine wrgs rfl ?_; revert a; refine qV (.bool false) (rn_eql rfl rfl rfl (by rw [hk]; exact beq_false_of_ne k1)) rfl ?_; refine qm (.bool false) rfl ?_; intro a hF; refine wl0 ?_; refine cd_false hF rfl rfl ?_
    by_cases k2 : kind = 2
    ·skip
     refine wrgs rfl ?_; revert a; refine qV (.bool true) (rn_eql rfl rfl rfl (by rw [hk, k2]; rfl)) rfl ?_; refine qm (.bool true) rfl ?_; intro a hF; refine wl0 ?_; refine cd_true hF rfl rfl ?_
     replace M := M.nilRow 52 4
     refine wrgs rfl ?_; revert a; refine qf go 7 fo_E3 rfl rfl ?_; refine qV (.slice none 0 0) (rn_load rfl rfl (ld_one one_lW ((M.b 0 rfl).cell 7))) rfl ?_; refine qf gp 7 fo_E3 rfl rfl ?_; refine qV (.slice v.W v.wn v.wc) (rn_load rfl rfl (ld_one one_lW ((M.b 2 rfl).cell 7))) rfl ?_; intro a hF
     refine wlap hF M 0 rfl ti_lW rfl rfl rfl rfl rfl (wCellsL ws) rfl (by rw [wLen, ← hwl]) M.fact.ws.row.read.src (flat_one wCells wCells_one ws) (by show (0 + v.wn) * 32 ≤ _; omega) (by show 0 + v.wn ≤ _; unfold maxLen; omega) ?_; clear hF M a; intro Aw cw W8 a M hF
     simp only [Nat.zero_add] at M hF
     revert a; refine qf go 7 fo_E3 rfl rfl ?_; intro a hF
     refine wlst hF M 0 rfl (vs := #[.slice Aw v.wn cw]) rfl rfl rfl rfl rfl rfl rfl sz_lW (sl_one _ _ _) (leb rfl) ?_; clear hF M a; intro W9 a M hF
     refine wl0 ?_
     have M2 := M.done 0 (few := 4398046511104) rfl hwf
     replace M := M2.unrow; clear M2
     replace M := M.nilRow 55 12
     replace M := M.imp (F' := fun W S => (KsAt W S v.K v.kn v.kc ks kv ∧ WsAt W S Aw v.wn cw ws) ∧ KedsAt W S ((normalK ks).take 0) []) (((stable_ks _ _ _ _ _).and (stable_ws _ _ _ _)).and (stable_keds _ _)) fun h => ⟨⟨h.1.ks, ⟨h.2, h.1.ws.in_⟩⟩, KedsAt.nil⟩
     refine wrgs rfl ?_; revert a; refine qf gp 8 fo_E4 rfl rfl ?_; refine qV (.slice v.K v.kn v.kc) (rn_load rfl rfl (ld_one one_lK ((M.b 2 rfl).cell 8))) rfl ?_; refine qV (.int .i64 (↑v.kn)) (rn_len rfl rfl is_lK) rfl ?_; refine qm (.int .i64 0) rfl ?_; intro a hF; refine wl0 ?_
     refine wp_block (wlp (NeI S w gp gr go v ws ks kv Aw cw) v.kn ⟨_, 0, none, 0, [], hF, rfl, rfl, rfl, rfl, rfl, by omega, M⟩ ?_)
     clear hF M a
     rintro n a W ⟨f, q, Ak, ck, kvs, hF, hf2, hf3, hf32, hf33, hf34, hq, M⟩
     replace hF := ((((hF.same (d := 2) hf2).same (d := 3) hf3).same (d := 32) hf32).same (d := 33) hf33).same (d := 34) hf34
     by_cases hlt : q < v.kn
     ·skip
      have hqk : q < ks.length := by omega
      have hmem : ks[q] ∈ ks := List.getElem_mem hqk
      have hdq := hdk _ hmem; have hntq := neatK_mem hnt.2.2.1 _ hmem; have hbq := (bdK_iff.1 hbd.2.2.2.2.2.1 _ hmem).2
      have hmt : (normalK ks).take (q + 1) = (normalK ks).take q ++ [KEd.mk ks[q].at_ (normalE ks[q].e)] := by
       rw [normalK_map, List.take_succ_eq_append_getElem (by rw [List.length_map]; exact hqk), List.getElem_map]
      refine wrgs rfl ?_; revert a; refine qV (.bool true) (rn_lss rfl rfl rfl (decide_eq_true (show (↑q : Int) < ↑v.kn by omega))) rfl ?_; intro a hF; refine wl0 ?_
      refine wp_seq (cd_true hF rfl rfl (wp_skip (nm_then ?_)))
      refine wp_seq (wp_block ?_)
      obtain ⟨bo, oo, kw, hKe, hbo, hR, hat, hT⟩ := M.fact.1.1.rng hqk
      replace M := M.note (stable_ed _ _) hT; clear hT hbo
      rw [hKe] at hF
      refine wrgs rfl ?_; revert a; refine qV (.pointer (some ⟨bo, oo + q * 12, none⟩)) (rn_index (b := bo) (of := oo) (q := oo + q * 12) rfl rfl rfl (by omega) es_lK (by rw [Int.toNat_natCast])) rfl ?_; refine qV (.agg (Kv.arr kw)) (rn_load rfl rfl (ld_K rfl hR)) rfl ?_; intro a hF
      obtain ⟨bk4, hbk4⟩ : ∃ g, W.heap.size = g := ⟨_, rfl⟩
      refine wlal hF M hbk4 rfl rfl rfl (rn_alloc rfl zc_K hbk4) ?_; clear hF M a; intro W21 a M hF
      refine wlst hF M 0 rfl (vs := (Kv.arr kw)) rfl rfl rfl rfl rfl rfl rfl sz_K (Kv.arr_one _) (leb rfl) ?_; clear hF M a; intro W22 a M hF
      refine wl0 ?_
      clear hR
      refine wdr (Un (rows (⟨55, 12, Ak, q, ck, (kCellsL kvs)⟩ :: [])) W22.drew) (fun i => Nat.beq i 11) prog_mixed ?_
      have M0 := M.drew' _ rfl
      generalize W22.drew = W23 at *
      have M := M0; have hU := Un.refl (rows (⟨55, 12, Ak, q, ck, (kCellsL kvs)⟩ :: [])) W23
      revert a; refine qo 0 go 8 fo_E4 hU rfl rfl (by kernel_rfl) ?_; refine qt 1 (.slice Ak q ck) rfl (fun W' hw => (rn_load rfl rfl (ld_one one_lK ((M0.ub hw 1 rfl).cell 8)))) hU rfl (by kernel_rfl) ?_; refine qo 2 bk4 0 fo_K0 hU rfl rfl (by kernel_rfl) ?_; refine qt 3 (.int .i64 kw.at_) rfl (fun W' hw => (rn_load rfl rfl (ld_one one_int ((M0.ub hw 0 rfl).cell 0)))) hU rfl (by kernel_rfl) ?_; refine qo 4 bk4 1 fo_K1 hU rfl rfl (by kernel_rfl) ?_; refine qt 5 (.agg (Ev.arr kw.e)) rfl (fun W' hw => (rn_load rfl rfl (ld_E (cs := (Ev.arr kw.e)) rfl ((M0.ub hw 0 rfl).range 1 _ (sub_of rfl))))) hU rfl (by kernel_rfl) ?_; intro a hF; refine g1 (i := 6) (by kernel_rfl) ?_
      refine gc1 hF (rn_call1 (u := .agg (Ev.arr kw.e)) rfl rfl rfl Try.call19) (edP_mm M (ih ks[q].e kw.e _ _ hdq hntq hbq M.fact.2 M.lts)) rfl rfl rfl rfl ?_; clear hF a
      rintro e W24 ⟨v9, rfl, M, hb⟩; replace hU := hU.nil hb; clear hb; refine ⟨_, rfl, fun _ => hU, ?_⟩; intro a hF
      revert a; refine qp 7 (.agg (Kv.arr ⟨kw.at_, v9⟩)) rfl (rn_build (cs := (Kv.arr ⟨kw.at_, v9⟩)) rfl (by kernel_rfl)) hU rfl (by kernel_rfl) ?_; intro a hF; refine g1 (i := 8) (by kernel_rfl) ?_
      obtain ⟨bk5, hbk5⟩ : ∃ g, W24.heap.size = g := ⟨_, rfl⟩
      refine wgal hF M hU hbk5 rfl rfl rfl rfl (rn_bs1 (cs := (Kv.arr ⟨kw.at_, v9⟩)) ti_lK (by decide) rfl rfl rfl hbk5) ?_; clear hF M hU a; intro W25 a M hU hgebk5 hF
      refine g1 (i := 9) (by kernel_rfl) ?_
      refine wgap hF M hU 0 rfl (rows_in (i := 0) rfl) ti_lK rfl rfl rfl rfl rfl rfl ((Kv.arr ⟨kw.at_, v9⟩).toList) rfl rfl (src_box (M.b 0 rfl)) (Kv.arr_one _) (by show (q + 1) * 208 ≤ _; omega) (by show q + 1 ≤ _; unfold maxLen; omega) ?_; clear hF M hU a; intro A26 c26 W26 a M hU hx26 hF
      obtain ⟨ga26, rfl⟩ : ∃ g, A26 = some ⟨g, 0, none⟩ := M.at0 0 rfl (pos_app _ _ (leb (a := 1) rfl))
      revert a; refine qo 10 go 8 fo_E4 hU rfl rfl (by kernel_rfl) ?_; intro a hF; refine g1 (i := 11) (by kernel_rfl) ?_
      refine wgst hF M 2 rfl (vs := #[.slice (some ⟨ga26, 0, none⟩) (q + 1) c26]) (by kernel_rfl) rfl rfl rfl rfl rfl rfl rfl rfl sz_lK (sl_one _ _ _) (leb rfl) ?_; clear hF M a; intro W27 a M hF
      refine wgd (by kernel_rfl) ?_ _; refine nm_block (nm_then ?_); refine wrg rfl ?_; revert a; refine qV (.int .i64 (↑(q + 1) : Int)) (rn_add (q := (↑(q + 1) : Int)) rfl rfl rfl (by omega) (by omega) (by omega)) rfl ?_; refine qm (.int .i64 (↑(q + 1) : Int)) rfl ?_; intro a hF; refine wl0 ?_
      replace M := M.tail.tail
      rw [kSnoc] at M
      refine nm_then ⟨v.kn - (q + 1), by omega, _, q + 1, (some ⟨ga26, 0, none⟩), c26, kvs ++ [⟨kw.at_, v9⟩], hF, rfl, rfl, hKe.symm ▸ rfl, rfl, rfl, by omega, ?_⟩
      rw [hmt]
      exact M.imp (((stable_ks _ _ _ _ _).and (stable_ws _ _ _ _)).and (stable_keds _ _)) fun h => ⟨h.1.1.1, h.1.1.2.app (KedsAt.one hat h.2)⟩
     ·skip
      refine wrgs rfl ?_; revert a; refine qV (.bool false) (rn_lss rfl rfl rfl (decide_eq_false (show ¬ (↑q : Int) < ↑v.kn by omega))) rfl ?_; intro a hF; refine wl0 ?_
      refine wp_seq (cd_false hF rfl rfl (wp_exit (ex_then (ex_then (ex_here ?_)))))
      have hqe : q = v.kn := by omega
      subst hqe
      have M2 := M.done 0 (few := 676622540169) rfl hkf
      replace M := M2.unrow; clear M2
      refine nm_block ⟨_, hF, rfl, rfl, ⟨v.k, Tv.nil, Tv.nil, Aw, v.wn, cw, Ak, v.kn, ck, v.lk, none, 0, 0⟩, ?_⟩
      refine M.imp (stable_ed _ _) fun h => ?_
      rw [normalE, if_neg k1, if_pos k2, ← hk, ← hlk]
      have h5 := h.1.2
      rw [List.take_of_length_le (by rw [normalK_len]; omega)] at h5
      exact EdAt.of TreeAt.nil TreeAt.nil h.1.1.2 ⟨h5.1, h.2, fun i a b => (h5.2 i a b).1, fun i a b => (h5.2 i a b).2⟩ .none_
    ·skip
     refine wrgs rfl ?_; revert a; refine qV (.bool false) (rn_eql rfl rfl rfl (by rw [hk]; exact beq_false_of_ne k2)) rfl ?_; refine qm (.bool false) rfl ?_; intro a hF; refine wl0 ?_; refine cd_false hF rfl rfl ?_
     by_cases k3 : kind = 3
     ·skip
      refine wrgs rfl ?_; revert a; refine qV (.bool true) (rn_eql rfl rfl rfl (by rw [hk, k3]; rfl)) rfl ?_; refine qm (.bool true) rfl ?_; intro a hF; refine wl0 ?_; refine cd_true hF rfl rfl ?_; refine wrg rfl ?_; revert a; refine qf gp 9 fo_E5 rfl rfl ?_; refine qV (.int .i64 v.lk) (rn_load rfl rfl (ld_one one_int ((M.b 2 rfl).cell 9))) rfl ?_; refine qf gp 10 fo_E6 rfl rfl ?_; refine qV (.slice v.O v.on v.oc) (rn_load rfl rfl (ld_one one_lO ((M.b 2 rfl).cell 10))) rfl ?_; intro a hF
      refine wlc hF (rn_call2 (u := .int .i64 v.lk) (u' := .slice v.O v.on v.oc) rfl rfl rfl rfl Try.call34) (nops_any N B ih hB v.lk ops _ _ v.O v.on v.oc ov M.fact.ops hdo hnt.2.2.2 hbd.2.2.2.2.2.2.2 hbd.2.2.2.2.2.2.1 M.lts) rfl rfl rfl ?_; clear hF a
      rintro e W7 ⟨A7, n7, c7, ov7, rfl, hb, hO⟩; replace M := M.call hb (stable_os _ _ _ _ _) hO; clear hb hO; refine ⟨_, rfl, ?_⟩; intro a hF
      revert a; refine qf go 10 fo_E6 rfl rfl ?_; intro a hF
      refine wlst hF M 0 rfl (vs := #[.slice A7 n7 c7]) rfl rfl rfl rfl rfl rfl rfl sz_lO (sl_one _ _ _) (leb rfl) ?_; clear hF M a; intro W8 a M hF
      refine wl0 ?_; refine nm_block ⟨_, hF, rfl, rfl, ⟨v.k, Tv.nil, Tv.nil, none, 0, 0, none, 0, 0, v.lk, A7, n7, c7⟩, ?_⟩
      refine M.imp (stable_ed _ _) fun h => ?_
      rw [normalE, if_neg k1, if_neg k2, if_pos k3, ← hk, ← hlk]
      exact EdAt.of TreeAt.nil TreeAt.nil .none_ .none_ h.2
     ·skip
      refine wrgs rfl ?_; revert a; refine qV (.bool false) (rn_eql rfl rfl rfl (by rw [hk]; exact beq_false_of_ne k3)) rfl ?_; refine qm (.bool false) rfl ?_; intro a hF; refine wl0 ?_; refine cd_false hF rfl rfl ?_
      refine wp_skip (nm_block ⟨_, hF, rfl, rfl, ⟨v.k, Tv.nil, Tv.nil, none, 0, 0, none, 0, 0, v.lk, none, 0, 0⟩, ?_⟩)
      refine M.imp (stable_ed _ _) fun h => ?_
      rw [normalE, if_neg k1, if_neg k2, if_neg k3, ← hk, ← hlk]
      exact EdAt.of TreeAt.nil TreeAt.nil .none_ .none_ .none_
  ·rintro a W9 ⟨f, hF, hf2, hf3, v', M⟩
   replace hF := (hF.same (d := 2) hf2).same (d := 3) hf3
   refine nm_then ?_; refine wrgs rfl ?_; revert a; refine qV (.agg (Ev.arr v')) (rn_load rfl rfl (ld_E rfl (M.b 0 rfl).whole)) rfl ?_; intro a hF
   refine wlst hF M 1 rfl (vs := (Ev.arr v')) rfl rfl rfl rfl rfl rfl rfl sz_E (Ev.arr_one _) (leb rfl) ?_; clear hF M a; intro W10 a M hF
   refine wl0 ?_
   exact wp_ret (res_cell Try.results19 rfl hF rfl (ld_E rfl (M.b 1 rfl).whole) (EdP.ret M M.grown))
end Go.Proofs.Ytbmjiokjigkdnaa
namespace Go.Proofs.Ytbmjiokjigkdnaa
open Go.RowKit Go.Proofs.Ytbmjiokjigkdnaa.Top
def turnS : Opn → Opn
 | .mk kind n l e => if kind = 1 then .mk 2 n l e else if kind = 2 then .mk 1 n l e else if kind = 3 then .mk kind n l (turned e) else .mk kind n l e
theorem turnedO_map : ∀ (l : List Opn), turnedO l = l.map turnS
 | [] => rfl
 | .mk kind n l e :: r => by rw [turnedO, List.map_cons, turnedO_map r]; rfl
def turnK (x : KEd) : KEd := KEd.mk x.at_ (turned x.e)
theorem turnedK_map : ∀ (l : List KEd), turnedK l = l.map turnK
 | [] => rfl
 | .mk a e :: r => by rw [turnedK, List.map_cons, turnedK_map r]; rfl
def TurnedH (N : Nat) : Prop := ∀ (e : Ed) (v : Ev) (S : Nat → Prop) (w : World), dE e ≤ N → EdAt w S e v → (∀ b, S b → b < w.heap.size) →
  Calls Try.prog 23 #[.agg v.arr] w (EdP (turned e) S w)
theorem OpP.ret {r : Opn} {S : Nat → Prop} {w W : World} {l : List Box} {rr : List Row} {F : World → (Nat → Prop) → Prop} {v : Ov} (M : Mm S w W l rr F) (h : OpAt W (Grow S w W) r v) : OpP r S w (.returned (.agg v.arr)) W := ⟨v, rfl, M.bel, h⟩
theorem take_map {α β : Type} (f : α → β) (l : List α) (q : Nat) (h : q < l.length) : (l.map f).take (q + 1) = (l.map f).take q ++ [f l[q]] := by
 rw [List.take_succ_eq_append_getElem (by rw [List.length_map]; exact h), List.getElem_map]
theorem wSnoc (ws : List WE) (v : WE) : wCellsL ws ++ (wArr v).toList = wCellsL (ws ++ [v]) := by simp [wCellsL, wCells_arr]
theorem stable_parts (old new : T) (ws : List WE) (ks : List KEd) (ops : List Opn) (v : Ev) (kv : List Kv) (ov : List Ov) : Stable fun W S => EdParts W S old new ws ks ops v kv ov :=
 ⟨fun h hk => ⟨h.old.keep hk, h.new.keep hk, h.ws.keep hk, h.ks.keep hk, h.ops.keep hk⟩, fun h hS => ⟨h.old.mono hS, h.new.mono hS, h.ws.mono hS, h.ks.mono hS, h.ops.mono hS⟩⟩
theorem turned_parts (k : Int) (old new : T) (ws : List WE) (ks : List KEd) (lk : Int) (ops : List Opn) : turned (.mk k old new ws ks lk ops) = .mk k new old (ws.map WE.turned) (ks.map turnK) lk (ops.map turnS) := by rw [turned, turnedK_map, turnedO_map]
def IopK (S : Nat → Prop) (w : World) (gp gr : Nat) (r : Opn) (a : Act) (W : World) : Prop :=
 ∃ f, Fr a 18 f ∧ f 1 = .pointer (some ⟨gp, 0, none⟩) ∧ f 2 = .pointer (some ⟨gr, 0, none⟩) ∧ ∃ v' : Ov, Mm S w W (⟨gr, 47, Ov.nil.arr⟩ :: ⟨gp, 47, v'.arr⟩ :: []) [] (fun W S => OpAt W S r v')
theorem iop_any (N : Nat) (hT : TurnedH N) (o : Opn) (v : Ov) (S : Nat → Prop) (w : World) (hd : dE o.eO ≤ N) (h : OpAt w S o v) (hS : ∀ b, S b → b < w.heap.size) :
  Calls Try.prog 39 #[.agg v.arr] w (OpP (turnS o) S w) := by
 obtain ⟨kind, n, l, e⟩ := o
 have hk : v.k = kind := h.k
 obtain ⟨lv, hl⟩ := h.l
 have M := (Mm.begin hS (stable_op _ _) h).note (stable_kids _ _ _ _ _) (Mm.begin hS (stable_kids _ _ _ _ _) hl).fact
 refine calls_fr (xs := [.agg v.arr]) Try.func39 rfl Try.ntmps39 rfl (fun a hF => ?_)
 refine wrgs rfl ?_
 obtain ⟨bk1, hbk1⟩ : ∃ g, w.heap.size = g := ⟨_, rfl⟩
 refine wlal hF M hbk1 rfl rfl rfl (rn_box (cs := (Ov.arr v)) rfl rfl hbk1) ?_; clear hF M a; intro W1 a M hF
 obtain ⟨bk2, hbk2⟩ : ∃ g, W1.heap.size = g := ⟨_, rfl⟩
 refine wlal hF M hbk2 rfl rfl rfl (rn_alloc rfl zc_O hbk2) ?_; clear hF M a; intro W2 a M hF
 refine wl0 ?_
 generalize bk2 = gr at *; generalize bk1 = gp at *
 refine wp_seq (wp_cut (IopK S w gp gr (turnS (.mk kind n l e))) ?_ ?_)
 ·skip
  refine wrgs rfl ?_; revert a; refine qf gp 0 fo_O0 rfl rfl ?_; refine qV (.int .i64 v.k) (rn_load rfl rfl (ld_one one_int ((M.b 1 rfl).cell 0))) rfl ?_; intro a hF; refine wl0 ?_
  refine wp_block ?_
  by_cases k1 : kind = 1
  ·skip
   refine wrgs rfl ?_; revert a; refine qV (.bool true) (rn_eql rfl rfl rfl (by rw [hk, k1]; rfl)) rfl ?_; refine qm (.bool true) rfl ?_; intro a hF; refine wl0 ?_; refine cd_true hF rfl rfl ?_; refine wrg rfl ?_; revert a; refine qf gp 0 fo_O0 rfl rfl ?_; intro a hF
   refine wlst hF M 1 rfl (vs := #[.int .i64 2]) rfl rfl rfl rfl rfl rfl rfl sz_int (int_one _ _) (leb rfl) ?_; clear hF M a; intro W3 a M hF
   refine wl0 ?_; refine nm_block ⟨_, hF, rfl, rfl, ⟨2, v.n, v.L, v.ln, v.lc, v.e⟩, M.imp (stable_op _ _) fun h => ?_⟩
   rw [turnS, if_pos k1]
   exact ⟨rfl, h.1.n, ⟨lv, h.2⟩, h.1.e⟩
  ·skip
   refine wrgs rfl ?_; revert a; refine qV (.bool false) (rn_eql rfl rfl rfl (by rw [hk]; exact beq_false_of_ne k1)) rfl ?_; refine qm (.bool false) rfl ?_; intro a hF; refine wl0 ?_; refine cd_false hF rfl rfl ?_
   by_cases k2 : kind = 2
   ·skip
    refine wrgs rfl ?_; revert a; refine qV (.bool true) (rn_eql rfl rfl rfl (by rw [hk, k2]; rfl)) rfl ?_; refine qm (.bool true) rfl ?_; intro a hF; refine wl0 ?_; refine cd_true hF rfl rfl ?_; refine wrg rfl ?_; revert a; refine qf gp 0 fo_O0 rfl rfl ?_; intro a hF
    refine wlst hF M 1 rfl (vs := #[.int .i64 1]) rfl rfl rfl rfl rfl rfl rfl sz_int (int_one _ _) (leb rfl) ?_; clear hF M a; intro W4 a M hF
    refine wl0 ?_; refine nm_block ⟨_, hF, rfl, rfl, ⟨1, v.n, v.L, v.ln, v.lc, v.e⟩, M.imp (stable_op _ _) fun h => ?_⟩
    rw [turnS, if_neg k1, if_pos k2]
    exact ⟨rfl, h.1.n, ⟨lv, h.2⟩, h.1.e⟩
   ·skip
    refine wrgs rfl ?_; revert a; refine qV (.bool false) (rn_eql rfl rfl rfl (by rw [hk]; exact beq_false_of_ne k2)) rfl ?_; refine qm (.bool false) rfl ?_; intro a hF; refine wl0 ?_; refine cd_false hF rfl rfl ?_
    by_cases k3 : kind = 3
    ·skip
     refine wrgs rfl ?_; revert a; refine qV (.bool true) (rn_eql rfl rfl rfl (by rw [hk, k3]; rfl)) rfl ?_; refine qm (.bool true) rfl ?_; intro a hF; refine wl0 ?_; refine cd_true hF rfl rfl ?_; refine wrg rfl ?_; revert a; refine qf gp 3 fo_O3 rfl rfl ?_; refine qV (.agg (Ev.arr v.e)) (rn_load rfl rfl (ld_E (cs := (Ev.arr v.e)) rfl ((M.b 1 rfl).range 3 _ (sub_of rfl)))) rfl ?_; intro a hF
     refine wlc hF (rn_call1 (u := .agg (Ev.arr v.e)) rfl rfl rfl Try.call23) (edP_mm M (hT e v.e _ _ hd M.fact.1.e M.lts)) rfl rfl rfl ?_; clear hF a
     rintro e9 W7 ⟨v7, rfl, M, _⟩; refine ⟨_, rfl, ?_⟩; intro a hF
     revert a; refine qf gp 3 fo_O3 rfl rfl ?_; intro a hF
     refine wlst hF M 1 rfl (vs := (Ev.arr v7)) rfl rfl rfl rfl rfl rfl rfl sz_E (Ev.arr_one _) (leb rfl) ?_; clear hF M a; intro W8 a M hF
     refine wl0 ?_; refine nm_block ⟨_, hF, rfl, rfl, ⟨v.k, v.n, v.L, v.ln, v.lc, v7⟩, M.imp (stable_op _ _) fun h => ?_⟩
     rw [turnS, if_neg k1, if_neg k2, if_pos k3]
     exact ⟨h.1.1.k, h.1.1.n, ⟨lv, h.1.2⟩, h.2⟩
    ·skip
     refine wrgs rfl ?_; revert a; refine qV (.bool false) (rn_eql rfl rfl rfl (by rw [hk]; exact beq_false_of_ne k3)) rfl ?_; refine qm (.bool false) rfl ?_; intro a hF; refine wl0 ?_; refine cd_false hF rfl rfl ?_
     refine wp_skip (nm_block ⟨_, hF, rfl, rfl, v, M.imp (stable_op _ _) fun h => ?_⟩)
     rw [turnS, if_neg k1, if_neg k2, if_neg k3]
     exact h.1
 ·rintro a W9 ⟨f, hF, hf1, hf2, v', M⟩
  replace hF := (hF.same (d := 1) hf1).same (d := 2) hf2
  refine nm_then ?_; refine wrgs rfl ?_; revert a; refine qV (.agg (Ov.arr v')) (rn_load rfl rfl (ld_O rfl (M.b 1 rfl).whole)) rfl ?_; intro a hF
  refine wlst hF M 0 rfl (vs := (Ov.arr v')) rfl rfl rfl rfl rfl rfl rfl sz_O (Ov.arr_one _) (leb rfl) ?_; clear hF M a; intro W10 a M hF
  refine wl0 ?_
  exact wp_ret (res_cell Try.results39 rfl hF rfl (ld_O rfl (M.b 0 rfl).whole) (OpP.ret M M.grown))
def TuI1 (S : Nat → Prop) (w : World) (gp gr go : Nat) (old new : T) (ws : List WE) (ks : List KEd) (ops : List Opn) (v : Ev) (kv : List Kv) (ov : List Ov) (n : Nat) (a : Act) (W : World) : Prop :=
 ∃ (f : Nat → Value) (q : Nat) (A : Option Addr) (c : Nat), Fr a 76 f ∧ f 1 = .pointer (some ⟨gp, 0, none⟩) ∧ f 2 = .pointer (some ⟨gr, 0, none⟩) ∧ f 3 = .pointer (some ⟨go, 0, none⟩) ∧ f 20 = .slice v.W v.wn v.wc ∧ f 21 = .int .i64 (↑v.wn : Int) ∧ f 22 = .int .i64 (↑q : Int) ∧ q + n = v.wn ∧
  Mm S w W (⟨go, 30, (Ev.arr ⟨v.k, v.new, v.old, A, q, c, none, 0, 0, v.lk, none, 0, 0⟩)⟩ :: ⟨gr, 30, Ev.nil.arr⟩ :: ⟨gp, 30, v.arr⟩ :: []) (⟨52, 4, A, q, c, wCellsL ((ws.map WE.turned).take q)⟩ :: []) (fun W S => EdParts W S old new ws ks ops v kv ov)
def TuI2 (S : Nat → Prop) (w : World) (gp gr go : Nat) (old new : T) (ws : List WE) (ks : List KEd) (ops : List Opn) (v : Ev) (kv : List Kv) (ov : List Ov) (A1 : Option Addr) (c1 : Nat) (n : Nat) (a : Act) (W : World) : Prop :=
 ∃ (f : Nat → Value) (q : Nat) (A : Option Addr) (c : Nat) (kvs : List Kv), Fr a 76 f ∧ f 1 = .pointer (some ⟨gp, 0, none⟩) ∧ f 2 = .pointer (some ⟨gr, 0, none⟩) ∧ f 3 = .pointer (some ⟨go, 0, none⟩) ∧ f 42 = .slice v.K v.kn v.kc ∧ f 43 = .int .i64 (↑v.kn : Int) ∧ f 44 = .int .i64 (↑q : Int) ∧ q + n = v.kn ∧
  Mm S w W (⟨go, 30, (Ev.arr ⟨v.k, v.new, v.old, A1, v.wn, c1, A, q, c, v.lk, none, 0, 0⟩)⟩ :: ⟨gr, 30, Ev.nil.arr⟩ :: ⟨gp, 30, v.arr⟩ :: []) (⟨55, 12, A, q, c, kCellsL kvs⟩ :: []) (fun W S => (EdParts W S old new ws ks ops v kv ov ∧ WsAt W S A1 v.wn c1 (ws.map WE.turned)) ∧ KedsAt W S ((ks.map turnK).take q) kvs)
def TuI3 (S : Nat → Prop) (w : World) (gp gr go : Nat) (old new : T) (ws : List WE) (ks : List KEd) (ops : List Opn) (v : Ev) (kv : List Kv) (ov : List Ov) (A1 : Option Addr) (c1 : Nat) (A2 : Option Addr) (c2 : Nat) (kvs : List Kv) (n : Nat) (a : Act) (W : World) : Prop :=
 ∃ (f : Nat → Value) (q : Nat) (A : Option Addr) (c : Nat) (ovs : List Ov), Fr a 76 f ∧ f 2 = .pointer (some ⟨gr, 0, none⟩) ∧ f 3 = .pointer (some ⟨go, 0, none⟩) ∧ f 61 = .slice v.O v.on v.oc ∧ f 62 = .int .i64 (↑v.on : Int) ∧ f 63 = .int .i64 (↑q : Int) ∧ q + n = v.on ∧
  Mm S w W (⟨go, 30, (Ev.arr ⟨v.k, v.new, v.old, A1, v.wn, c1, A2, v.kn, c2, v.lk, A, q, c⟩)⟩ :: ⟨gr, 30, Ev.nil.arr⟩ :: ⟨gp, 30, v.arr⟩ :: []) (⟨47, 14, A, q, c, oCellsL ovs⟩ :: []) (fun W S => ((EdParts W S old new ws ks ops v kv ov ∧ WsAt W S A1 v.wn c1 (ws.map WE.turned)) ∧ KsAt W S A2 v.kn c2 (ks.map turnK) kvs) ∧ OpsAt W S ((ops.map turnS).take q) ovs)
theorem turned_all : ∀ N, TurnedH N := by
 intro N
 induction N with
 | zero =>
  intro e v S w hd
  obtain ⟨kind, old, new, ws, ks, lk, ops⟩ := e
  rw [dE] at hd
  omega
 | succ N ih =>
  intro e v S w hd h hS
  obtain ⟨kind, old, new, ws, ks, lk, ops⟩ := e
  obtain ⟨hdk, hdo⟩ := dE_ks hd
  obtain ⟨hk, hlk, kv, ov, hp⟩ := h.parts
  have hwl := hp.ws.len
  have hkl := hp.ks.len
  have hol := hp.ops.len
  have hwf := hp.ws.row.few
  have hkf := hp.ks.row.few
  have hof := hp.ops.row.few
  have M := Mm.begin (F := fun W S => EdParts W S old new ws ks ops v kv ov) hS (stable_parts _ _ _ _ _ _ _ _) hp
  clear hp h hd
  refine calls_fr (xs := [.agg v.arr]) Try.func23 rfl Try.ntmps23 rfl (fun a hF => ?_)
  refine wrgs rfl ?_
  obtain ⟨bk1, hbk1⟩ : ∃ g, w.heap.size = g := ⟨_, rfl⟩
  refine wlal hF M hbk1 rfl rfl rfl (rn_box (cs := (Ev.arr v)) rfl rfl hbk1) ?_; clear hF M a; intro W1 a M hF
  obtain ⟨bk2, hbk2⟩ : ∃ g, W1.heap.size = g := ⟨_, rfl⟩
  refine wlal hF M hbk2 rfl rfl rfl (rn_alloc rfl zc_E hbk2) ?_; clear hF M a; intro W2 a M hF
  refine wl0 ?_; refine wrgs rfl ?_; revert a; refine qf bk1 0 fo_E0 rfl rfl ?_; refine qV (.int .i64 v.k) (rn_load rfl rfl (ld_one one_int ((M.b 1 rfl).cell 0))) rfl ?_; refine qf bk1 4 fo_E2 rfl rfl ?_; refine qV (.agg (Tv.arr v.new)) (rn_load rfl rfl (ld_T (cs := (Tv.arr v.new)) rfl ((M.b 1 rfl).range 4 _ (sub_of rfl)))) rfl ?_; refine qf bk1 1 fo_E1 rfl rfl ?_; refine qV (.agg (Tv.arr v.old)) (rn_load rfl rfl (ld_T (cs := (Tv.arr v.old)) rfl ((M.b 1 rfl).range 1 _ (sub_of rfl)))) rfl ?_; refine qf bk1 9 fo_E5 rfl rfl ?_; refine qV (.int .i64 v.lk) (rn_load rfl rfl (ld_one one_int ((M.b 1 rfl).cell 9))) rfl ?_; refine qV (.agg (Ev.arr ⟨v.k, v.new, v.old, none, 0, 0, none, 0, 0, v.lk, none, 0, 0⟩)) (rn_build (cs := (Ev.arr ⟨v.k, v.new, v.old, none, 0, 0, none, 0, 0, v.lk, none, 0, 0⟩)) rfl (by kernel_rfl)) rfl ?_; intro a hF
  obtain ⟨bk3, hbk3⟩ : ∃ g, W2.heap.size = g := ⟨_, rfl⟩
  refine wlal hF M hbk3 rfl rfl rfl (rn_alloc rfl zc_E hbk3) ?_; clear hF M a; intro W3 a M hF
  refine wlst hF M 0 rfl (vs := (Ev.arr ⟨v.k, v.new, v.old, none, 0, 0, none, 0, 0, v.lk, none, 0, 0⟩)) rfl rfl rfl rfl rfl rfl rfl sz_E (Ev.arr_one _) (leb rfl) ?_; clear hF M a; intro W4 a M hF
  refine wl0 ?_
  generalize bk3 = go at *; generalize bk2 = gr at *; generalize bk1 = gp at *
  replace M := M.nilRow 52 4
  refine wp_seq ?_
  refine wrgs rfl ?_; revert a; refine qf gp 7 fo_E3 rfl rfl ?_; refine qV (.slice v.W v.wn v.wc) (rn_load rfl rfl (ld_one one_lW ((M.b 2 rfl).cell 7))) rfl ?_; refine qV (.int .i64 (↑v.wn)) (rn_len rfl rfl is_lW) rfl ?_; refine qm (.int .i64 0) rfl ?_; intro a hF; refine wl0 ?_
  refine wp_block (wlp (TuI1 S w gp gr go old new ws ks ops v kv ov) v.wn ⟨_, 0, none, 0, hF, rfl, rfl, rfl, rfl, rfl, rfl, by omega, M⟩ ?_)
  clear hF M a
  rintro n a W ⟨f, q, A, c, hF, hf1, hf2, hf3, hfa, hfb, hfc, hq, M⟩
  replace hF := ((((((hF.same (d := 1) hf1).same (d := 2) hf2).same (d := 3) hf3).same (d := 20) hfa).same (d := 21) hfb).same (d := 22) hfc)
  by_cases hlt : q < v.wn
  ·skip
   have hqk : q < ws.length := by omega
   have hmem : ws[q] ∈ ws := List.getElem_mem hqk
   have hmt := take_map WE.turned ws q hqk
   refine wrgs rfl ?_; revert a; refine qV (.bool true) (rn_lss rfl rfl rfl (decide_eq_true (show (↑q : Int) < ↑v.wn by omega))) rfl ?_; intro a hF; refine wl0 ?_
   refine wp_seq (cd_true hF rfl rfl (wp_skip (nm_then ?_)))
   refine wp_seq (wp_block ?_)
   obtain ⟨bo, oo, hWe, hbo, hR⟩ := M.fact.ws.rng hqk; clear hbo
   rw [hWe] at hF
   generalize hx : ws[q] = x at *
   refine wrgs rfl ?_; revert a; refine qV (.pointer (some ⟨bo, oo + q * 4, none⟩)) (rn_index (b := bo) (of := oo) (q := oo + q * 4) rfl rfl rfl (by omega) es_lW (by rw [Int.toNat_natCast])) rfl ?_; refine qV (.agg (wArr x)) (rn_load rfl rfl (ld_W rfl hR)) rfl ?_; intro a hF
   obtain ⟨bk4, hbk4⟩ : ∃ g, W.heap.size = g := ⟨_, rfl⟩
   refine wlal hF M hbk4 rfl rfl rfl (rn_alloc rfl zc_W hbk4) ?_; clear hF M a; intro W21 a M hF
   refine wlst hF M 0 rfl (vs := (wArr x)) rfl rfl rfl rfl rfl rfl rfl sz_W (wArr_one _) (leb rfl) ?_; clear hF M a; intro W22 a M hF
   refine wl0 ?_
   clear hR
   refine wrg rfl ?_; revert a; refine qf go 7 fo_E3 rfl rfl ?_; refine qV (.slice A q c) (rn_load rfl rfl (ld_one one_lW ((M.b 1 rfl).cell 7))) rfl ?_; refine qf bk4 0 fo_W0 rfl rfl ?_; refine qV (.int .i64 x.at_) (rn_load rfl rfl (ld_one one_int ((M.b 0 rfl).cell 0))) rfl ?_; refine qf bk4 1 fo_W1 rfl rfl ?_; refine qV (.int .u8 x.mask) (rn_load rfl rfl (ld_one one_u8 ((M.b 0 rfl).cell 1))) rfl ?_; refine qf bk4 3 fo_W3 rfl rfl ?_; refine qV (.int .u64 x.new) (rn_load rfl rfl (ld_one one_u64 ((M.b 0 rfl).cell 3))) rfl ?_; refine qf bk4 2 fo_W2 rfl rfl ?_; refine qV (.int .u64 x.old) (rn_load rfl rfl (ld_one one_u64 ((M.b 0 rfl).cell 2))) rfl ?_; refine qV (.agg (wArr x.turned)) (rn_build (cs := (wArr x.turned)) rfl (by kernel_rfl)) rfl ?_; intro a hF
   obtain ⟨bk5, hbk5⟩ : ∃ g, W22.heap.size = g := ⟨_, rfl⟩
   refine wlal hF M hbk5 rfl rfl rfl (rn_bs1 (cs := (wArr x.turned)) ti_lW (by decide) rfl rfl rfl hbk5) ?_; clear hF M a; intro W23 a M hF
   refine wlap hF M 0 rfl ti_lW rfl rfl rfl rfl rfl ((wArr x.turned).toList) rfl rfl (src_box (M.b 0 rfl)) (wArr_one _) (by show (q + 1) * 32 ≤ _; omega) (by show q + 1 ≤ _; unfold maxLen; omega) ?_; clear hF M a; intro A24 c24 W24 a M hF
   revert a; refine qf go 7 fo_E3 rfl rfl ?_; intro a hF
   refine wlst hF M 2 rfl (vs := #[.slice A24 (q + 1) c24]) rfl rfl rfl rfl rfl rfl rfl sz_lW (sl_one _ _ _) (leb rfl) ?_; clear hF M a; intro W25 a M hF
   refine wl0 ?_; refine nm_block (nm_then ?_); refine wrg rfl ?_; revert a; refine qV (.int .i64 (↑(q + 1) : Int)) (rn_add (q := (↑(q + 1) : Int)) rfl rfl rfl (by omega) (by omega) (by omega)) rfl ?_; refine qm (.int .i64 (↑(q + 1) : Int)) rfl ?_; intro a hF; refine wl0 ?_
   replace M := M.tail.tail
   rw [wSnoc, ← hmt] at M
   exact nm_then ⟨v.wn - (q + 1), by omega, _, q + 1, A24, c24, hF, rfl, rfl, rfl, hWe.symm ▸ rfl, rfl, rfl, by omega, M⟩
  ·skip
   have hqe : q = v.wn := by omega
   refine wrgs rfl ?_; revert a; refine qV (.bool false) (rn_lss rfl rfl rfl (decide_eq_false (show ¬ (↑q : Int) < ↑v.wn by omega))) rfl ?_; intro a hF; refine wl0 ?_
   refine wp_seq (cd_false hF rfl rfl (wp_exit (ex_then (ex_then (ex_here ?_)))))
   refine nm_then ?_
   subst hqe
   have M2 := M.done 0 (few := 4398046511104) rfl hwf
   replace M := M2.unrow; clear M2
   replace M := M.imp (F' := fun W S => EdParts W S old new ws ks ops v kv ov ∧ WsAt W S A v.wn c (ws.map WE.turned)) ((stable_parts _ _ _ _ _ _ _ _).and (stable_ws _ _ _ _)) fun h => ⟨h.1, by
    have h5 := h.2
    simp only at h5
    rw [List.take_of_length_le (by rw [List.length_map]; omega)] at h5
    refine ⟨h5, fun x hx => ?_⟩
    obtain ⟨y, hy, rfl⟩ := List.mem_map.1 hx
    have := h.1.ws.in_ y hy
    exact ⟨this.1, this.2.1, this.2.2.2, this.2.2.1⟩⟩
   generalize A = A1 at *; generalize c = c1 at *
   replace M := M.nilRow 55 12
   replace M := M.imp (F' := fun W S => (EdParts W S old new ws ks ops v kv ov ∧ WsAt W S A1 v.wn c1 (ws.map WE.turned)) ∧ KedsAt W S ((ks.map turnK).take 0) []) (((stable_parts _ _ _ _ _ _ _ _).and (stable_ws _ _ _ _)).and (stable_keds _ _)) fun h => ⟨h, KedsAt.nil⟩
   refine wp_seq ?_
   refine wrgs rfl ?_; revert a; refine qf gp 8 fo_E4 rfl rfl ?_; refine qV (.slice v.K v.kn v.kc) (rn_load rfl rfl (ld_one one_lK ((M.b 2 rfl).cell 8))) rfl ?_; refine qV (.int .i64 (↑v.kn)) (rn_len rfl rfl is_lK) rfl ?_; refine qm (.int .i64 0) rfl ?_; intro a hF; refine wl0 ?_
   refine wp_block (wlp (TuI2 S w gp gr go old new ws ks ops v kv ov A1 c1) v.kn ⟨_, 0, none, 0, [], hF, rfl, rfl, rfl, rfl, rfl, rfl, by omega, M⟩ ?_)
   clear hF M a
   rintro n a W ⟨f, q, A, c, kvs, hF, hf1, hf2, hf3, hfa, hfb, hfc, hq, M⟩
   replace hF := ((((((hF.same (d := 1) hf1).same (d := 2) hf2).same (d := 3) hf3).same (d := 42) hfa).same (d := 43) hfb).same (d := 44) hfc)
   by_cases hlt : q < v.kn
   ·skip
    have hqk : q < ks.length := by omega
    have hmem : ks[q] ∈ ks := List.getElem_mem hqk
    have hmt := take_map turnK ks q hqk
    refine wrgs rfl ?_; revert a; refine qV (.bool true) (rn_lss rfl rfl rfl (decide_eq_true (show (↑q : Int) < ↑v.kn by omega))) rfl ?_; intro a hF; refine wl0 ?_
    refine wp_seq (cd_true hF rfl rfl (wp_skip (nm_then ?_)))
    refine wp_seq (wp_block ?_)
    obtain ⟨bo, oo, kw, hKe, hbo, hR, hat, hT⟩ := M.fact.1.1.ks.rng hqk
    replace M := M.note (stable_ed _ _) hT; clear hT hbo
    rw [hKe] at hF
    refine wrgs rfl ?_; revert a; refine qV (.pointer (some ⟨bo, oo + q * 12, none⟩)) (rn_index (b := bo) (of := oo) (q := oo + q * 12) rfl rfl rfl (by omega) es_lK (by rw [Int.toNat_natCast])) rfl ?_; refine qV (.agg (Kv.arr kw)) (rn_load rfl rfl (ld_K rfl hR)) rfl ?_; intro a hF
    obtain ⟨bk6, hbk6⟩ : ∃ g, W.heap.size = g := ⟨_, rfl⟩
    refine wlal hF M hbk6 rfl rfl rfl (rn_alloc rfl zc_K hbk6) ?_; clear hF M a; intro W41 a M hF
    refine wlst hF M 0 rfl (vs := (Kv.arr kw)) rfl rfl rfl rfl rfl rfl rfl sz_K (Kv.arr_one _) (leb rfl) ?_; clear hF M a; intro W42 a M hF
    refine wl0 ?_
    clear hR
    refine wdr (Un (rows (⟨55, 12, A, q, c, (kCellsL kvs)⟩ :: [])) W42.drew) (fun i => Nat.beq i 11) prog_mixed ?_
    have M0 := M.drew' _ rfl
    generalize W42.drew = W43 at *
    have M := M0; have hU := Un.refl (rows (⟨55, 12, A, q, c, (kCellsL kvs)⟩ :: [])) W43
    revert a; refine qo 0 go 8 fo_E4 hU rfl rfl (by kernel_rfl) ?_; refine qt 1 (.slice A q c) rfl (fun W' hw => (rn_load rfl rfl (ld_one one_lK ((M0.ub hw 1 rfl).cell 8)))) hU rfl (by kernel_rfl) ?_; refine qo 2 bk6 0 fo_K0 hU rfl rfl (by kernel_rfl) ?_; refine qt 3 (.int .i64 kw.at_) rfl (fun W' hw => (rn_load rfl rfl (ld_one one_int ((M0.ub hw 0 rfl).cell 0)))) hU rfl (by kernel_rfl) ?_; refine qo 4 bk6 1 fo_K1 hU rfl rfl (by kernel_rfl) ?_; refine qt 5 (.agg (Ev.arr kw.e)) rfl (fun W' hw => (rn_load rfl rfl (ld_E (cs := (Ev.arr kw.e)) rfl ((M0.ub hw 0 rfl).range 1 _ (sub_of rfl))))) hU rfl (by kernel_rfl) ?_; intro a hF; refine g1 (i := 6) (by kernel_rfl) ?_
    refine gc1 hF (rn_call1 (u := .agg (Ev.arr kw.e)) rfl rfl rfl Try.call23) (edP_mm M (ih ks[q].e kw.e _ _ (hdk _ hmem) M.fact.2 M.lts)) rfl rfl rfl rfl ?_; clear hF a
    rintro e W44 ⟨v9, rfl, M, hb⟩; replace hU := hU.nil hb; clear hb; refine ⟨_, rfl, fun _ => hU, ?_⟩; intro a hF
    revert a; refine qp 7 (.agg (Kv.arr ⟨kw.at_, v9⟩)) rfl (rn_build (cs := (Kv.arr ⟨kw.at_, v9⟩)) rfl (by kernel_rfl)) hU rfl (by kernel_rfl) ?_; intro a hF; refine g1 (i := 8) (by kernel_rfl) ?_
    obtain ⟨bk7, hbk7⟩ : ∃ g, W44.heap.size = g := ⟨_, rfl⟩
    refine wgal hF M hU hbk7 rfl rfl rfl rfl (rn_bs1 (cs := (Kv.arr ⟨kw.at_, v9⟩)) ti_lK (by decide) rfl rfl rfl hbk7) ?_; clear hF M hU a; intro W45 a M hU hgebk7 hF
    refine g1 (i := 9) (by kernel_rfl) ?_
    refine wgap hF M hU 0 rfl (rows_in (i := 0) rfl) ti_lK rfl rfl rfl rfl rfl rfl ((Kv.arr ⟨kw.at_, v9⟩).toList) rfl rfl (src_box (M.b 0 rfl)) (Kv.arr_one _) (by show (q + 1) * 208 ≤ _; omega) (by show q + 1 ≤ _; unfold maxLen; omega) ?_; clear hF M hU a; intro A46 c46 W46 a M hU hx46 hF
    obtain ⟨ga46, rfl⟩ : ∃ g, A46 = some ⟨g, 0, none⟩ := M.at0 0 rfl (pos_app _ _ (leb (a := 1) rfl))
    revert a; refine qo 10 go 8 fo_E4 hU rfl rfl (by kernel_rfl) ?_; intro a hF; refine g1 (i := 11) (by kernel_rfl) ?_
    refine wgst hF M 2 rfl (vs := #[.slice (some ⟨ga46, 0, none⟩) (q + 1) c46]) (by kernel_rfl) rfl rfl rfl rfl rfl rfl rfl rfl sz_lK (sl_one _ _ _) (leb rfl) ?_; clear hF M a; intro W47 a M hF
    refine wgd (by kernel_rfl) ?_ _; refine nm_block (nm_then ?_); refine wrg rfl ?_; revert a; refine qV (.int .i64 (↑(q + 1) : Int)) (rn_add (q := (↑(q + 1) : Int)) rfl rfl rfl (by omega) (by omega) (by omega)) rfl ?_; refine qm (.int .i64 (↑(q + 1) : Int)) rfl ?_; intro a hF; refine wl0 ?_
    replace M := M.tail.tail
    rw [kSnoc] at M
    refine nm_then ⟨v.kn - (q + 1), by omega, _, q + 1, (some ⟨ga46, 0, none⟩), c46, kvs ++ [⟨kw.at_, v9⟩], hF, rfl, rfl, rfl, hKe.symm ▸ rfl, rfl, rfl, by omega, ?_⟩
    rw [hmt]
    exact M.imp (((stable_parts _ _ _ _ _ _ _ _).and (stable_ws _ _ _ _)).and (stable_keds _ _)) fun h => ⟨h.1.1.1, h.1.1.2.app (KedsAt.one hat h.2)⟩
   ·skip
    have hqe : q = v.kn := by omega
    refine wrgs rfl ?_; revert a; refine qV (.bool false) (rn_lss rfl rfl rfl (decide_eq_false (show ¬ (↑q : Int) < ↑v.kn by omega))) rfl ?_; intro a hF; refine wl0 ?_
    refine wp_seq (cd_false hF rfl rfl (wp_exit (ex_then (ex_then (ex_here ?_)))))
    refine nm_then ?_
    subst hqe
    have M2 := M.done 0 (few := 676622540169) rfl hkf
    replace M := M2.unrow; clear M2
    replace M := M.imp (F' := fun W S => (EdParts W S old new ws ks ops v kv ov ∧ WsAt W S A1 v.wn c1 (ws.map WE.turned)) ∧ KsAt W S A v.kn c (ks.map turnK) kvs) (((stable_parts _ _ _ _ _ _ _ _).and (stable_ws _ _ _ _)).and (stable_ks _ _ _ _ _)) fun h => ⟨h.1.1, by
     have h5 := h.1.2
     rw [List.take_of_length_le (by rw [List.length_map]; omega)] at h5
     exact ⟨h5.1, h.2, fun i a b => (h5.2 i a b).1, fun i a b => (h5.2 i a b).2⟩⟩
    generalize A = A2 at *; generalize c = c2 at *
    replace M := M.nilRow 47 14
    replace M := M.imp (F' := fun W S => ((EdParts W S old new ws ks ops v kv ov ∧ WsAt W S A1 v.wn c1 (ws.map WE.turned)) ∧ KsAt W S A2 v.kn c2 (ks.map turnK) kvs) ∧ OpsAt W S ((ops.map turnS).take 0) []) ((((stable_parts _ _ _ _ _ _ _ _).and (stable_ws _ _ _ _)).and (stable_ks _ _ _ _ _)).and (stable_ops _ _)) fun h => ⟨h, OpsAt.nil⟩
    refine wp_seq ?_
    refine wrgs rfl ?_; revert a; refine qf gp 10 fo_E6 rfl rfl ?_; refine qV (.slice v.O v.on v.oc) (rn_load rfl rfl (ld_one one_lO ((M.b 2 rfl).cell 10))) rfl ?_; refine qV (.int .i64 (↑v.on)) (rn_len rfl rfl is_lO) rfl ?_; refine qm (.int .i64 0) rfl ?_; intro a hF; refine wl0 ?_
    refine wp_block (wlp (TuI3 S w gp gr go old new ws ks ops v kv ov A1 c1 A2 c2 kvs) v.on ⟨_, 0, none, 0, [], hF, rfl, rfl, rfl, rfl, rfl, by omega, M⟩ ?_)
    clear hF M a
    rintro n a W ⟨f, q, A, c, ovs, hF, hf2, hf3, hfa, hfb, hfc, hq, M⟩
    replace hF := (((((hF.same (d := 2) hf2).same (d := 3) hf3).same (d := 61) hfa).same (d := 62) hfb).same (d := 63) hfc)
    by_cases hlt : q < v.on
    ·skip
     have hqk : q < ops.length := by omega
     have hmem : ops[q] ∈ ops := List.getElem_mem hqk
     have hmt := take_map turnS ops q hqk
     refine wrgs rfl ?_; revert a; refine qV (.bool true) (rn_lss rfl rfl rfl (decide_eq_true (show (↑q : Int) < ↑v.on by omega))) rfl ?_; intro a hF; refine wl0 ?_
     refine wp_seq (cd_true hF rfl rfl (wp_skip (nm_then ?_)))
     refine wp_seq (wp_block ?_)
     obtain ⟨bo, oo, ow, hOe, hbo, hR, hT⟩ := M.fact.1.1.1.ops.rng hqk
     replace M := M.note (stable_op _ _) hT; clear hT hbo
     rw [hOe] at hF
     refine wrgs rfl ?_; revert a; refine qV (.pointer (some ⟨bo, oo + q * 14, none⟩)) (rn_index (b := bo) (of := oo) (q := oo + q * 14) rfl rfl rfl (by omega) es_lO (by rw [Int.toNat_natCast])) rfl ?_; refine qV (.agg (Ov.arr ow)) (rn_load rfl rfl (ld_O rfl hR)) rfl ?_; intro a hF
     obtain ⟨bk8, hbk8⟩ : ∃ g, W.heap.size = g := ⟨_, rfl⟩
     refine wlal hF M hbk8 rfl rfl rfl (rn_alloc rfl zc_O hbk8) ?_; clear hF M a; intro W61 a M hF
     refine wlst hF M 0 rfl (vs := (Ov.arr ow)) rfl rfl rfl rfl rfl rfl rfl sz_O (Ov.arr_one _) (leb rfl) ?_; clear hF M a; intro W62 a M hF
     refine wl0 ?_
     clear hR
     refine wdr (Un (rows (⟨47, 14, A, q, c, (oCellsL ovs)⟩ :: [])) W62.drew) (fun i => Nat.beq i 7) prog_mixed ?_
     have M0 := M.drew' _ rfl
     generalize W62.drew = W63 at *
     have M := M0; have hU := Un.refl (rows (⟨47, 14, A, q, c, (oCellsL ovs)⟩ :: [])) W63
     revert a; refine qo 0 go 10 fo_E6 hU rfl rfl (by kernel_rfl) ?_; refine qt 1 (.slice A q c) rfl (fun W' hw => (rn_load rfl rfl (ld_one one_lO ((M0.ub hw 1 rfl).cell 10)))) hU rfl (by kernel_rfl) ?_; refine qt 2 (.agg (Ov.arr ow)) rfl (fun W' hw => (rn_load rfl rfl (ld_O rfl (M0.ub hw 0 rfl).whole))) hU rfl (by kernel_rfl) ?_; intro a hF; refine g1 (i := 3) (by kernel_rfl) ?_
     refine gc1 hF (rn_call1 (u := .agg (Ov.arr ow)) rfl rfl rfl Try.call39) (opP_mm M (iop_any N ih ops[q] ow _ _ (hdo _ hmem) M.fact.2 M.lts)) rfl rfl rfl rfl ?_; clear hF a
     rintro e W64 ⟨v9, rfl, M, hb⟩; replace hU := hU.nil hb; clear hb; refine ⟨_, rfl, fun _ => hU, ?_⟩; intro a hF
     refine g1 (i := 4) (by kernel_rfl) ?_
     obtain ⟨bk9, hbk9⟩ : ∃ g, W64.heap.size = g := ⟨_, rfl⟩
     refine wgal hF M hU hbk9 rfl rfl rfl rfl (rn_bs1 (cs := (Ov.arr v9)) ti_lO (by decide) rfl rfl rfl hbk9) ?_; clear hF M hU a; intro W65 a M hU hgebk9 hF
     refine g1 (i := 5) (by kernel_rfl) ?_
     refine wgap hF M hU 0 rfl (rows_in (i := 0) rfl) ti_lO rfl rfl rfl rfl rfl rfl ((Ov.arr v9).toList) rfl rfl (src_box (M.b 0 rfl)) (Ov.arr_one _) (by show (q + 1) * 240 ≤ _; omega) (by show q + 1 ≤ _; unfold maxLen; omega) ?_; clear hF M hU a; intro A66 c66 W66 a M hU hx66 hF
     obtain ⟨ga66, rfl⟩ : ∃ g, A66 = some ⟨g, 0, none⟩ := M.at0 0 rfl (pos_app _ _ (leb (a := 1) rfl))
     revert a; refine qo 6 go 10 fo_E6 hU rfl rfl (by kernel_rfl) ?_; intro a hF; refine g1 (i := 7) (by kernel_rfl) ?_
     refine wgst hF M 2 rfl (vs := #[.slice (some ⟨ga66, 0, none⟩) (q + 1) c66]) (by kernel_rfl) rfl rfl rfl rfl rfl rfl rfl rfl sz_lO (sl_one _ _ _) (leb rfl) ?_; clear hF M a; intro W67 a M hF
     refine wgd (by kernel_rfl) ?_ _; refine nm_block (nm_then ?_); refine wrg rfl ?_; revert a; refine qV (.int .i64 (↑(q + 1) : Int)) (rn_add (q := (↑(q + 1) : Int)) rfl rfl rfl (by omega) (by omega) (by omega)) rfl ?_; refine qm (.int .i64 (↑(q + 1) : Int)) rfl ?_; intro a hF; refine wl0 ?_
     replace M := M.tail.tail
     rw [oSnoc] at M
     refine nm_then ⟨v.on - (q + 1), by omega, _, q + 1, (some ⟨ga66, 0, none⟩), c66, ovs ++ [v9], hF, rfl, rfl, hOe.symm ▸ rfl, rfl, rfl, by omega, ?_⟩
     rw [hmt]
     exact M.imp ((((stable_parts _ _ _ _ _ _ _ _).and (stable_ws _ _ _ _)).and (stable_ks _ _ _ _ _)).and (stable_ops _ _)) fun h => ⟨h.1.1.1, h.1.1.2.app (OpsAt.one h.2)⟩
    ·skip
     have hqe : q = v.on := by omega
     refine wrgs rfl ?_; revert a; refine qV (.bool false) (rn_lss rfl rfl rfl (decide_eq_false (show ¬ (↑q : Int) < ↑v.on by omega))) rfl ?_; intro a hF; refine wl0 ?_
     refine wp_seq (cd_false hF rfl rfl (wp_exit (ex_then (ex_then (ex_here ?_)))))
     refine nm_then ?_
     subst hqe
     have M2 := M.done 0 (few := 586406201480) rfl hof
     replace M := M2.unrow; clear M2
     replace M := M.imp (F' := fun W S => EdAt W S (turned (.mk kind old new ws ks lk ops)) ⟨v.k, v.new, v.old, A1, v.wn, c1, A2, v.kn, c2, v.lk, A, v.on, c⟩) (stable_ed _ _) fun h => by
      have h5 := h.1.2
      rw [List.take_of_length_le (by rw [List.length_map]; omega)] at h5
      rw [turned_parts, ← hk, ← hlk]
      exact EdAt.of h.1.1.1.1.new h.1.1.1.1.old h.1.1.1.2 h.1.1.2 ⟨h5.1, h.2, fun i a b => h5.2 i a b⟩
     refine wrgs rfl ?_; revert a; refine qV (.agg (Ev.arr ⟨v.k, v.new, v.old, A1, v.wn, c1, A2, v.kn, c2, v.lk, A, v.on, c⟩)) (rn_load rfl rfl (ld_E rfl (M.b 0 rfl).whole)) rfl ?_; intro a hF
     refine wlst hF M 1 rfl (vs := (Ev.arr ⟨v.k, v.new, v.old, A1, v.wn, c1, A2, v.kn, c2, v.lk, A, v.on, c⟩)) rfl rfl rfl rfl rfl rfl rfl sz_E (Ev.arr_one _) (leb rfl) ?_; clear hF M a; intro W68 a M hF
     refine wl0 ?_
     exact wp_ret (res_cell Try.results23 rfl hF rfl (ld_E rfl (M.b 1 rfl).whole) (EdP.ret M M.grown))
theorem invert_any (B : Nat) (hB : B ≤ 400000000000) (e : Ed) (v : Ev) (S : Nat → Prop) (w : World) (hnt : neatE e) (hbd : bdE B e) (h : EdAt w S e v) (hS : ∀ b, S b → b < w.heap.size) :
  Calls Try.prog 12 #[.agg v.arr] w (EdP (invertE e) S w) := by
 have M := Mm.begin hS (stable_ed _ _) h
 refine calls_fr (xs := [.agg v.arr]) Try.func12 rfl Try.ntmps12 rfl (fun a hF => ?_)
 refine wrgs rfl ?_
 obtain ⟨bk1, hbk1⟩ : ∃ g, w.heap.size = g := ⟨_, rfl⟩
 refine wlal hF M hbk1 rfl rfl rfl (rn_box (cs := (Ev.arr v)) rfl rfl hbk1) ?_; clear hF M a; intro W1 a M hF
 obtain ⟨bk2, hbk2⟩ : ∃ g, W1.heap.size = g := ⟨_, rfl⟩
 refine wlal hF M hbk2 rfl rfl rfl (rn_alloc rfl zc_E hbk2) ?_; clear hF M a; intro W2 a M hF
 refine wl0 ?_; refine wrgs rfl ?_; revert a; refine qV (.agg (Ev.arr v)) (rn_load rfl rfl (ld_E rfl (M.b 1 rfl).whole)) rfl ?_; intro a hF
 refine wlc hF (rn_call1 (u := .agg (Ev.arr v)) rfl rfl rfl Try.call23) (edP_mm M (turned_all _ e v _ _ (Nat.le_refl _) M.fact M.lts)) rfl rfl rfl ?_; clear hF a
 rintro e9 W7 ⟨v7, rfl, M, _⟩; refine ⟨_, rfl, ?_⟩; intro a hF
 refine wlc hF (rn_call1 (u := .agg (Ev.arr v7)) rfl rfl rfl Try.call19) (edP_mm M (normal_all B hB _ (turned e) v7 _ _ (Nat.le_refl _) (neat_turned hnt) (bdE_turned hbd) M.fact.2 M.lts)) rfl rfl rfl ?_; clear hF a
 rintro e9 W8 ⟨v8, rfl, M, _⟩; refine ⟨_, rfl, ?_⟩; intro a hF
 refine wlst hF M 0 rfl (vs := (Ev.arr v8)) rfl rfl rfl rfl rfl rfl rfl sz_E (Ev.arr_one _) (leb rfl) ?_; clear hF M a; intro W9 a M hF
 refine wl0 ?_
 exact wp_ret (res_cell Try.results12 rfl hF rfl (ld_E rfl (M.b 0 rfl).whole) (EdP.ret M M.grown.2))
end Go.Proofs.Ytbmjiokjigkdnaa
namespace Go.Proofs.Ytbmjiokjigkdnaa
open Go.RowKit Go.Proofs.Ytbmjiokjigkdnaa.Top
theorem stable_cell (b o : Nat) (u : Value) : Stable fun W S => S b ∧ W.cell? ⟨b, o, none⟩ = some u := ⟨fun h hk => ⟨h.1, (hk _ h.1).trans h.2⟩, fun h hS => ⟨hS _ h.1, h.2⟩⟩
theorem stable_range (b o : Nat) (vs : List Value) : Stable fun W S => S b ∧ W.rangeAt b o vs := ⟨fun h hk => ⟨h.1, fun j u hu => (hk ⟨b, o + j, none⟩ h.1).trans (h.2 j u hu)⟩, fun h hS => ⟨hS _ h.1, h.2⟩⟩
theorem range0 {W : World} {b o n : Nat} {vs : List Value} (h : W.rangeAt b (o + 0 * n) vs) : W.rangeAt b o vs := by rwa [Nat.zero_mul] at h
theorem rn_from {P : Program} {ρ : Operand → Value} {o : Oper} {w : World} {t s : Nat} {x y : Operand} {A : Option Addr} {n c k : Nat} {m d : Nat} (ho : o.op = .slice t x (some y) none none) (hx : ρ x = .slice A n c) (hy : ρ y = .int .i64 (k : Int)) (hs : esz P t = some s) (hk : k ≤ n) (hm : n - k = m) (hd : c - k = d) :
  (execOp ρ o).run P w = .ok (.value (.slice (fromA A c k s) m d)) w := by
 subst hm hd
 unfold esz at hs
 split at hs
 ·rename_i e hu
  have he : P.elem t = e := by unfold Program.elem; rw [hu]
  have hu' : P.underlying t = some (.slice (P.elem t)) := by rw [he]; exact hu
  cases hie : P.info? e with
  | none => simp [hie] at hs
  | some ie =>
   rw [hie] at hs
   injection hs with hs
   have h1 := run_slice_l (P := P) w t A n c hu' .i64 (k : Int) (by omega) (by omega)
   unfold execOp
   simp only [ho, hx, hy, Sem.run_bind, Option.map_some, Option.map_none]
   rw [run_sliceAt_slice w t _ _ _ _ hu', h1, he]
   simp [sizeOf, typeInfo, hie, hs, sliced, fromA]
 ·cases hs
theorem rn_upto {P : Program} {ρ : Operand → Value} {o : Oper} {w : World} {t s : Nat} {x y z : Operand} {A : Option Addr} {n c k : Nat} (ho : o.op = .slice t x none (some y) (some z)) (hx : ρ x = .slice A n c) (hy : ρ y = .int .i64 (k : Int)) (hz : ρ z = .int .i64 (k : Int)) (hs : esz P t = some s) (hk : k ≤ c) :
  (execOp ρ o).run P w = .ok (.value (.slice A k k)) w := by
 unfold esz at hs
 split at hs
 ·rename_i e hu
  have he : P.elem t = e := by unfold Program.elem; rw [hu]
  have hu' : P.underlying t = some (.slice (P.elem t)) := by rw [he]; exact hu
  cases hie : P.info? e with
  | none => simp [hie] at hs
  | some ie =>
   have h1 := run_slice_hm (P := P) w t A n c hu' .i64 .i64 (k : Int) (k : Int) (by omega) (Int.le_refl _) (by omega)
   unfold execOp
   simp only [ho, hx, hy, hz, Sem.run_bind, Option.map_some, Option.map_none]
   rw [run_sliceAt_slice w t _ _ _ _ hu', h1, he]
   have hA : (if k = 0 then A else A.map (·.add 0)) = A := by
    split
    ·rfl
    ·cases A with
     | none => rfl
     | some a => simp [Addr.add]
   simp [sizeOf, typeInfo, hie, sliced, hA]
 ·cases hs
theorem OsAt.tail {W : World} {S : Nat → Prop} {A : Option Addr} {n c : Nat} {o : Opn} {l : List Opn} {ov : List Ov} (h : OsAt W S A n c (o :: l) ov) : OsAt W S (fromA A c 1 14) l.length (c - 1) l (ov.drop 1) := by
 have hl := h.len
 rw [List.length_cons] at hl
 have hc := h.row.cap
 have hm := h.row.capM
 have hf := h.row.few
 have hov := h.ovl
 rw [List.length_cons] at hov
 refine ⟨by rw [List.length_drop]; omega, ⟨?_, by omega, by omega, by omega, ?_, ?_⟩, fun i a b => ?_⟩
 ·rw [oLen, List.length_drop, hov]; omega
 ·unfold fromA
  split
  ·intro _; omega
  ·intro hA
   have : A = none := by cases A with | none => rfl | some a => cases hA
   have := h.row.nil this
   omega
 ·have e : oCellsL (ov.drop 1) = (oCellsL ov).drop (1 * 14) := flat_drop Ov.cells 14 Ov.cells_len ov 1
  rw [e]
  unfold fromA
  split
  ·have e2 : (oCellsL ov).drop (1 * 14) = [] := List.drop_eq_nil_of_le (by rw [oLen]; omega)
   rw [e2]
   exact RdS.none_'
  ·exact h.row.read.drop _
 ·have := h.op (1 + i) (by rw [List.length_cons]; omega) (by rw [List.length_drop] at b; omega)
  rw [List.getElem_drop]
  have e : (o :: l)[1 + i]'(by rw [List.length_cons]; omega) = l[i] := by simp [Nat.add_comm 1 i]
  rw [e] at this
  exact this
def okN (o : Opn) : Prop := o.kindO ≠ 3 → 0 ≤ o.nO ∧ o.nO ≤ 2305843009213693952
theorem size_any (o : Opn) (v : Ov) (S : Nat → Prop) (w : World) (h : OpAt w S o v) (hn : okN o) :
  Calls Try.prog 68 #[.agg v.arr] w (fun e w' => e = .returned (.int .i64 (sizeS o : Int)) ∧ Below w.heap.size w w') := by
 obtain ⟨kind, n, l, e⟩ := o
 have hk : v.k = kind := h.k
 have hvn : v.n = n := h.n
 obtain ⟨lv, hl⟩ := h.l
 have hln : v.ln = l.length := hl.len
 have hlf : l.length ≤ 2513169434843 := hl.few
 have M := Mm.begin (S := fun _ => False) (w := w) (F := fun _ _ => True) (fun b hb => hb.elim) stable_true trivial
 refine calls_fr (xs := [.agg v.arr]) Try.func68 rfl Try.ntmps68 rfl (fun a hF => ?_)
 refine wrgs rfl ?_
 obtain ⟨bk1, hbk1⟩ : ∃ g, w.heap.size = g := ⟨_, rfl⟩
 refine wlal hF M hbk1 rfl rfl rfl (rn_box (cs := (Ov.arr v)) rfl rfl hbk1) ?_; clear hF M a; intro W1 a M hF
 revert a; refine qm (.int .i64 0) rfl ?_; intro a hF; refine wl0 ?_
 by_cases k3 : kind = 3
 ·skip
  refine wp_seq ?_
  refine wrgs rfl ?_; revert a; refine qf bk1 0 fo_O0 rfl rfl ?_; refine qV (.int .i64 v.k) (rn_load rfl rfl (ld_one one_int ((M.b 0 rfl).cell 0))) rfl ?_; refine qV (.bool true) (rn_eql rfl rfl rfl (by rw [hk, k3]; rfl)) rfl ?_; intro a hF; refine wl0 ?_; refine cd_true hF rfl rfl ?_; refine wrgs rfl ?_; revert a; refine qm (.int .i64 1) rfl ?_; intro a hF; refine wl0 ?_
  refine wp_ret (rt_then (res_slot Try.results68 rfl hF ⟨?_, M.bel⟩))
  show Ending.returned (.int .i64 1) = _
  have e2 : sizeS (.mk kind n l e) = 1 := by unfold sizeS; exact if_pos k3
  rw [e2]; rfl
 ·skip
  have hn' := hn k3
  simp only [Opn.nO] at hn'
  refine wp_seq ?_
  refine wrgs rfl ?_; revert a; refine qf bk1 0 fo_O0 rfl rfl ?_; refine qV (.int .i64 v.k) (rn_load rfl rfl (ld_one one_int ((M.b 0 rfl).cell 0))) rfl ?_; refine qV (.bool false) (rn_eql rfl rfl rfl (by rw [hk]; exact beq_false_of_ne k3)) rfl ?_; intro a hF; refine wl0 ?_; refine cd_false hF rfl rfl (wp_skip (nm_then ?_))
  have e2 : sizeS (.mk kind n l e) = n.toNat + l.length := by unfold sizeS; exact if_neg k3
  refine wrgs rfl ?_; revert a; refine qf bk1 1 fo_O1 rfl rfl ?_; refine qV (.int .i64 v.n) (rn_load rfl rfl (ld_one one_int ((M.b 0 rfl).cell 1))) rfl ?_; refine qf bk1 2 fo_O2 rfl rfl ?_; refine qV (.slice v.L v.ln v.lc) (rn_load rfl rfl (ld_one one_lT ((M.b 0 rfl).cell 2))) rfl ?_; refine qV (.int .i64 (↑v.ln)) (rn_len rfl rfl is_lT) rfl ?_; refine qV (.int .i64 (↑(n.toNat + l.length) : Int)) (rn_add (q := (↑(n.toNat + l.length) : Int)) rfl rfl rfl (by rw [hvn, hln]; omega) (by omega) (by omega)) rfl ?_; refine qm (.int .i64 (↑(n.toNat + l.length) : Int)) rfl ?_; intro a hF; refine wl0 ?_
  refine wp_ret (res_slot Try.results68 rfl hF ⟨?_, M.bel⟩)
  show Ending.returned (.int .i64 (↑(n.toNat + l.length) : Int)) = _
  rw [e2]
theorem done_any (gc : Nat) (A : Option Addr) (n c : Nat) (w : World) (hc : w.cell? ⟨gc, 0, none⟩ = some (.slice A n c)) :
  Calls Try.prog 69 #[.pointer (some ⟨gc, 0, none⟩)] w (fun e w' => e = .returned (.bool (decide (n = 0))) ∧ w' = w) := by
 refine calls_fr (xs := [.pointer (some ⟨gc, 0, none⟩)]) Try.func69 rfl Try.ntmps69 rfl (fun a hF => ?_)
 refine wrgs rfl ?_; revert a; refine qm (.bool false) rfl ?_; intro a hF; refine wl0 ?_; refine wrgs rfl ?_; revert a; refine qm (.pointer (some ⟨gc, 0, none⟩)) rfl ?_; refine qV (.pointer (some ⟨gc, 0, none⟩)) (rn_nil rfl rfl) rfl ?_; refine qf gc 0 fo_C0 rfl rfl ?_; refine qV (.slice A n c) (rn_load rfl rfl (ld_one one_lO hc)) rfl ?_; refine qV (.int .i64 (↑n)) (rn_len rfl rfl is_lO) rfl ?_; refine qV (.bool (decide (n = 0))) (rn_eql rfl rfl rfl (by rw [Bool.eq_iff_iff, beq_iff_eq, decide_eq_true_iff]; omega)) rfl ?_; refine qm (.bool (decide (n = 0))) rfl ?_; intro a hF; refine wl0 ?_
 exact wp_ret (res_slot Try.results69 rfl hF ⟨rfl, rfl⟩)
theorem single_any (gc : Nat) (A : Option Addr) (n c : Nat) (al : Int) (ops : List Opn) (ov : List Ov) (S : Nat → Prop) (w : World) (hc : w.cell? ⟨gc, 0, none⟩ = some (.slice A n c)) (hc1 : w.cell? ⟨gc, 1, none⟩ = some (.int .i64 al)) (h : OsAt w S A n c ops ov) (hS : ∀ b, S b → b < w.heap.size) (ha : 0 ≤ al) :
  Calls Try.prog 66 #[.pointer (some ⟨gc, 0, none⟩)] w (fun e w' => e = .returned (.bool (headK ops == al)) ∧ Below w.heap.size w w') := by
 have hg := block_lt_of_cell hc
 have st : Stable (fun W S => (((S gc ∧ W.cell? ⟨gc, 0, none⟩ = some (.slice A n c)) ∧ (S gc ∧ W.cell? ⟨gc, 1, none⟩ = some (.int .i64 al))) ∧ OsAt W S A n c ops ov)) := ((stable_cell _ _ _).and (stable_cell _ _ _)).and (stable_os _ _ _ _ _)
 have M := Mm.begin (S := fun b => S b ∨ b = gc) (F := (fun W S => (((S gc ∧ W.cell? ⟨gc, 0, none⟩ = some (.slice A n c)) ∧ (S gc ∧ W.cell? ⟨gc, 1, none⟩ = some (.int .i64 al))) ∧ OsAt W S A n c ops ov))) (w := w) (fun b hb => hb.elim (hS b) fun e => by rw [e]; exact hg) st ⟨⟨⟨.inr rfl, hc⟩, ⟨.inr rfl, hc1⟩⟩, h.mono fun b hb => .inl hb⟩
 refine calls_fr (xs := [.pointer (some ⟨gc, 0, none⟩)]) Try.func66 rfl Try.ntmps66 rfl (fun a hF => ?_)
 cases ops with
 | nil =>
  have hn0 : n = 0 := h.len
  refine wrgs rfl ?_; revert a; refine qm (.bool false) rfl ?_; intro a hF; refine wl0 ?_
  refine wdrs (Un (rows ([])) w.drew) (fun i => false) prog_mixed ?_
  have M0 := M.drew' _ rfl
  generalize w.drew = W1 at *
  have M := M0; have hU := Un.refl (rows ([])) W1
  revert a; refine qx 0 (.pointer (some ⟨gc, 0, none⟩)) hU rfl (by kernel_rfl) ?_; intro a hF; refine g1 (i := 1) (by kernel_rfl) ?_
  refine gc1 hF (rn_call1 (u := .pointer (some ⟨gc, 0, none⟩)) rfl rfl rfl Try.call69) (done_any gc A n c _ M.fact.1.1.2) rfl rfl rfl rfl ?_; clear hF a
  rintro e9 W9 ⟨rfl, rfl⟩; rw [decide_eq_true hn0]; refine ⟨_, rfl, fun _ => hU, ?_⟩; intro a hF
  revert a; refine qp 2 (.bool false) rfl (rn_not rfl rfl rfl) hU rfl (by kernel_rfl) ?_; refine qx 3 (.bool false) hU rfl (by kernel_rfl) ?_; refine qs 4 hU rfl (by kernel_rfl) ?_; refine qs 5 hU rfl (by kernel_rfl) ?_; refine qs 6 hU rfl (by kernel_rfl) ?_; refine qs 7 hU rfl (by kernel_rfl) ?_; refine qs 8 hU rfl (by kernel_rfl) ?_; refine qs 9 hU rfl (by kernel_rfl) ?_; refine qs 10 hU rfl (by kernel_rfl) ?_; refine qs 11 hU rfl (by kernel_rfl) ?_; refine qs 12 hU rfl (by kernel_rfl) ?_; refine qs 13 hU rfl (by kernel_rfl) ?_; refine qs 14 hU rfl (by kernel_rfl) ?_; refine qs 15 hU rfl (by kernel_rfl) ?_; refine qp 16 (.bool false) rfl (rn_pick rfl rfl rfl) hU rfl (by kernel_rfl) ?_; refine qx 17 (.bool false) hU rfl (by kernel_rfl) ?_; intro a hF; refine wgd (by kernel_rfl) ?_ _
  refine wp_ret (res_slot Try.results66 rfl hF ⟨?_, M.bel⟩)
  show Ending.returned (.bool false) = _
  have : (headK [] == al) = false := beq_false_of_ne (by show (-1 : Int) ≠ al; omega)
  rw [this]
 | cons o r =>
  refine wrgs rfl ?_; revert a; refine qm (.bool false) rfl ?_; intro a hF; refine wl0 ?_
  have hn0 : n = r.length + 1 := h.len
  obtain ⟨bo, oo, v, rfl, hbo, hR, hT⟩ := M.fact.2.rng (i := 0) (by simp)
  replace M := M.note (stable_range bo oo v.arr.toList) ⟨hbo, range0 hR⟩
  have hvk : v.k = o.kindO := hT.k
  clear hR hbo
  refine wdrs (Un (rows ([])) w.drew) (fun i => false) prog_mixed ?_
  have M0 := M.drew' _ rfl
  generalize w.drew = W1 at *
  have M := M0; have hU := Un.refl (rows ([])) W1
  revert a; refine qx 0 (.pointer (some ⟨gc, 0, none⟩)) hU rfl (by kernel_rfl) ?_; intro a hF; refine g1 (i := 1) (by kernel_rfl) ?_
  refine gc1 hF (rn_call1 (u := .pointer (some ⟨gc, 0, none⟩)) rfl rfl rfl Try.call69) (done_any gc (some ⟨bo, oo, none⟩) n c _ M.fact.1.1.1.2) rfl rfl rfl rfl ?_; clear hF a
  rintro e9 W9 ⟨rfl, rfl⟩; rw [decide_eq_false (show ¬ n = 0 by omega)]; refine ⟨_, rfl, fun _ => hU, ?_⟩; intro a hF
  revert a; refine qp 2 (.bool true) rfl (rn_not rfl rfl rfl) hU rfl (by kernel_rfl) ?_; refine qx 3 (.bool true) hU rfl (by kernel_rfl) ?_; refine qH 4 (.pointer (some ⟨gc, 0, none⟩)) hU rfl (by kernel_rfl) ?_; refine qG 5 (.pointer (some ⟨gc, 0, none⟩)) rfl (rn_nil rfl rfl) hU rfl (by kernel_rfl) ?_; refine qG 6 (.pointer (some ⟨gc, 0, none⟩)) rfl (rn_field (q := 0) rfl rfl fo_C0 rfl) hU rfl (by kernel_rfl) ?_; intro a hF; refine wgtg (i := 7) (v := .slice (some ⟨bo, oo, none⟩) n c) hF (fun W' hw => (rn_load rfl rfl (ld_one one_lO (M0.uf hw).1.1.1.2))) rfl (by kernel_rfl) rfl rfl rfl rfl rfl rfl hU ?_; clear hF a; intro a hF; revert a; refine qG 8 (.pointer (some ⟨bo, oo, none⟩)) rfl (rn_index (b := bo) (of := oo) (q := oo) rfl rfl rfl (by omega) es_lO (by rfl)) hU rfl (by kernel_rfl) ?_; refine qG 9 (.pointer (some ⟨bo, oo + 0, none⟩)) rfl (rn_field (q := oo + 0) rfl rfl fo_O0 rfl) hU rfl (by kernel_rfl) ?_; intro a hF; refine wgtg (i := 10) (v := .int .i64 v.k) hF (fun W' hw => (rn_load rfl rfl (ld_one one_int ((M0.uf hw).2.2 0 _ rfl)))) rfl (by kernel_rfl) rfl rfl rfl rfl rfl rfl hU ?_; clear hF a; intro a hF; revert a; refine qH 11 (.pointer (some ⟨gc, 0, none⟩)) hU rfl (by kernel_rfl) ?_; refine qG 12 (.pointer (some ⟨gc, 0, none⟩)) rfl (rn_nil rfl rfl) hU rfl (by kernel_rfl) ?_; refine qG 13 (.pointer (some ⟨gc, 1, none⟩)) rfl (rn_field (q := 1) rfl rfl fo_C1 rfl) hU rfl (by kernel_rfl) ?_; intro a hF; refine wgtg (i := 14) (v := .int .i64 al) hF (fun W' hw => (rn_load rfl rfl (ld_one one_int (M0.uf hw).1.1.2.2))) rfl (by kernel_rfl) rfl rfl rfl rfl rfl rfl hU ?_; clear hF a; intro a hF
  revert a; refine qG 15 (.bool (o.kindO == al)) rfl (rn_eql rfl rfl rfl (by rw [hvk])) hU rfl (by kernel_rfl) ?_; refine qp 16 (.bool (o.kindO == al)) rfl (rn_pick rfl rfl rfl) hU rfl (by kernel_rfl) ?_; refine qx 17 (.bool (o.kindO == al)) hU rfl (by kernel_rfl) ?_; intro a hF; refine wgd (by kernel_rfl) ?_ _
  refine wp_ret (res_slot Try.results66 rfl hF ⟨?_, M.bel⟩)
  rfl
inductive OpF (k : Nat) : Opn → List Opn → Ov → Ov → Ov → Prop
 | keep {kind on : Int} {ol : List T} {oe : Ed} {r : List Opn} {v : Ov} : kind = 0 → v.n = on → ¬ sizeS (.mk kind on ol oe) ≤ k → OpF k (.mk kind on ol oe) r v ⟨v.k, ↑k, v.L, v.ln, v.lc, v.e⟩ ⟨v.k, v.n - ↑k, v.L, v.ln, v.lc, v.e⟩
 | list {kind on : Int} {ol : List T} {oe : Ed} {r : List Opn} {v : Ov} : kind ≠ 0 → ¬ sizeS (.mk kind on ol oe) ≤ k → k ≤ v.ln → 1 ≤ k → OpF k (.mk kind on ol oe) r v ⟨v.k, v.n, v.L, k, k, v.e⟩ ⟨v.k, v.n, fromA v.L v.lc k 3, v.ln - k, v.lc - k, v.e⟩
theorem OpF.ops {k : Nat} {o : Opn} {r : List Opn} {v v1 v2 : Ov} (h : OpF k o r v v1 v2) : ∃ o1 o2, takeS k o r = (o1, o2 :: r) ∧ (∀ {W S lv}, OpAt W S o v → KidsAt W S v.L v.ln v.lc o.lO lv → OpAt W S o1 v1) ∧ (∀ {W S lv}, OpAt W S o v → KidsAt W S v.L v.ln v.lc o.lO lv → OpAt W S o2 v2) := by
 cases h with
 | @keep kind on ol oe _ _ k0 hn hs =>
  refine ⟨.mk kind k ol oe, .mk kind (on - k) ol oe, by rw [takeS, if_neg hs, if_pos k0], fun h hl => ⟨h.k, rfl, ⟨_, hl⟩, h.e⟩, fun h hl => ⟨h.k, by show v.n - ↑k = on - ↑k; rw [hn], ⟨_, hl⟩, h.e⟩⟩
 | @list kind on ol oe _ _ k0 hs hk h1 =>
  refine ⟨.mk kind on (ol.take k) oe, .mk kind on (ol.drop k) oe, by rw [takeS, if_neg hs, if_neg k0], fun {W S lv} h hl => ⟨h.k, h.n, ⟨lv.take k, ?_⟩, h.e⟩, fun h hl => ⟨h.k, h.n, ⟨_, hl.from k hk⟩, h.e⟩⟩
  have h5 := hl.take k hk
  exact ⟨h5.1, Nat.le_refl _, Nat.le_trans (Nat.le_trans hk hl.cap) hl.capM, h5.4, h5.5, h5.6, h5.7⟩
theorem os_cons {W : World} {S : Nat → Prop} {A A' : Option Addr} {n c m d : Nat} {o : Opn} {l : List Opn} {v : Ov} {vs : List Ov} (h : OpAt W S o v) (ht : OsAt W S A n c l vs) (hr : RowAt W S A' m d 14 586406201480 (v.arr.toList ++ oCellsL vs)) : OsAt W S A' m d (o :: l) (v :: vs) := by
 have e : oCellsL (v :: vs) = v.arr.toList ++ oCellsL vs := by simp [oCellsL, Ov.cells_arr]
 refine ⟨by rw [List.length_cons, List.length_cons, ht.ovl], by rw [e]; exact hr, fun i a b => ?_⟩
 cases i with
 | zero => exact h
 | succ i => exact ht.op i (by simpa using a) (by simpa using b)
def CurM (S : Nat → Prop) (w W : World) (gc : Nat) (l : List Box) (r : List Row) (F0 : World → (Nat → Prop) → Prop) (al : Int) (ops : List Opn) : Prop :=
 ∃ (A : Option Addr) (n c : Nat) (ovs : List Ov), Mm S w W (⟨gc, 106, #[.slice A n c, .int .i64 al]⟩ :: l) r (fun W S => F0 W S ∧ OsAt W S A n c ops ovs)
def TakeP (S : Nat → Prop) (w : World) (gc : Nat) (l : List Box) (r : List Row) (F0 : World → (Nat → Prop) → Prop) (al : Int) (x : Opn × List Opn) (e : Ending) (W' : World) : Prop :=
 ∃ v : Ov, e = .returned (.agg v.arr) ∧ CurM S w W' gc l r (fun W S => F0 W S ∧ OpAt W S x.1 v) al x.2
theorem takeS_all {k : Nat} {o : Opn} {r : List Opn} (h : sizeS o ≤ k) : takeS k o r = (o, r) := by obtain ⟨kind, n, l, e⟩ := o; rw [takeS, if_pos h]
def TkK (S : Nat → Prop) (w : World) (gc : Nat) (l : List Box) (r : List Row) (F : World → (Nat → Prop) → Prop) (A : Option Addr) (n c : Nat) (al : Int) (k g4 g5 : Nat) (v v1 v2 : Ov) (f : Nat → Value) (a : Act) (W : World) : Prop :=
 Fr a 62 f ∧ f 0 = .pointer (some ⟨gc, 0, none⟩) ∧ f 1 = .int .i64 (↑k : Int) ∧ f 4 = .pointer (some ⟨g4, 0, none⟩) ∧ f 5 = .pointer (some ⟨g5, 0, none⟩) ∧
  ∃ gf gb, f 6 = .pointer (some ⟨gf, 0, none⟩) ∧ f 7 = .pointer (some ⟨gb, 0, none⟩) ∧ Mm S w W (⟨gb, 47, v2.arr⟩ :: ⟨gf, 47, v1.arr⟩ :: ⟨g5, 47, v.arr⟩ :: ⟨g4, 47, Ov.nil.arr⟩ :: ⟨gc, 106, #[.slice A n c, .int .i64 al]⟩ :: l) r F
theorem take_any {S : Nat → Prop} {w W : World} {gc : Nat} {l : List Box} {rr : List Row} {F0 : World → (Nat → Prop) → Prop} {al : Int} (k : Nat) {o : Opn} {r : List Opn} (st0 : Stable F0) (h : CurM S w W gc l rr F0 al (o :: r)) (hk : 1 ≤ k) (hn : okN o) (hs : neatS o) :
  Calls Try.prog 67 #[.pointer (some ⟨gc, 0, none⟩), .int .i64 (↑k : Int)] W (TakeP S w gc l rr F0 al (takeS k o r)) := by
 obtain ⟨A, n, c, ovs, M⟩ := h
 have hln : n = r.length + 1 := M.fact.2.len
 have hcap := M.fact.2.row.cap
 have hfew := M.fact.2.row.few
 obtain ⟨bo, oo, v, rfl, hbo, hR, hT⟩ := M.fact.2.rng (i := 0) (by simp)
 replace hR := range0 hR
 have hT : OpAt W (mmS S w W _ _) o v := hT
 obtain ⟨lv, hl⟩ := hT.l
 replace M := (M.note (stable_op _ _) hT).note (stable_kids _ _ _ _ _) hl
 have hln2 : v.ln = o.lO.length := hl.len
 have hlc := hl.cap
 obtain ⟨kind, on, ol, oe⟩ := o
 have hvk : v.k = kind := hT.k
 have hvn : v.n = on := hT.n
 simp only [Opn.lO] at hln2 M
 replace M := M.note (stable_range bo oo v.arr.toList) ⟨hbo, hR⟩
 clear hT hl hbo hR
 refine calls_fr (xs := [.pointer (some ⟨gc, 0, none⟩), .int .i64 (↑k : Int)]) Try.func67 rfl Try.ntmps67 rfl (fun a hF => ?_)
 refine wrgs rfl ?_
 obtain ⟨bk1, hbk1⟩ : ∃ g, W.heap.size = g := ⟨_, rfl⟩
 refine wlal hF M hbk1 rfl rfl rfl (rn_alloc rfl zc_O hbk1) ?_; clear hF M a; intro W1 a M hF
 refine wl0 ?_; refine wrgs rfl ?_; revert a; refine qm (.pointer (some ⟨gc, 0, none⟩)) rfl ?_; refine qV (.pointer (some ⟨gc, 0, none⟩)) (rn_nil rfl rfl) rfl ?_; refine qf gc 0 fo_C0 rfl rfl ?_; refine qV (.slice (some ⟨bo, oo, none⟩) n c) (rn_load rfl rfl (ld_one one_lO ((M.b 1 rfl).cell 0))) rfl ?_; refine qV (.pointer (some ⟨bo, oo, none⟩)) (rn_index (b := bo) (of := oo) (q := oo) rfl rfl rfl (by omega) es_lO (by rfl)) rfl ?_; refine qV (.agg (Ov.arr v)) (rn_load rfl rfl (ld_O rfl M.fact.2.2)) rfl ?_; intro a hF
 obtain ⟨bk2, hbk2⟩ : ∃ g, W1.heap.size = g := ⟨_, rfl⟩
 refine wlal hF M hbk2 rfl rfl rfl (rn_alloc rfl zc_O hbk2) ?_; clear hF M a; intro W2 a M hF
 refine wlst hF M 0 rfl (vs := (Ov.arr v)) rfl rfl rfl rfl rfl rfl rfl sz_O (Ov.arr_one _) (leb rfl) ?_; clear hF M a; intro W3 a M hF
 replace M : Mm S w W3 (⟨bk2, 47, (Ov.arr v)⟩ :: ⟨bk1, 47, (Ov.arr Ov.nil)⟩ :: ⟨gc, 106, #[.slice (some ⟨bo, oo, none⟩) n c, .int .i64 al]⟩ :: l) (rr) (fun W S => ((((F0 W S ∧ OsAt W S (some ⟨bo, oo, none⟩) n c (Opn.mk kind on ol oe :: r) ovs) ∧ OpAt W S (.mk kind on ol oe) v) ∧ KidsAt W S v.L v.ln v.lc ol lv) ∧ (S bo ∧ W.rangeAt bo oo v.arr.toList))) := M
 refine wl0 ?_
 generalize bk1 = g4 at *; generalize bk2 = g5 at *
 refine wp_seq ?_
 by_cases hsz : sizeS (.mk kind on ol oe) ≤ k
 ·skip
  rw [takeS_all hsz]
  refine wrgs rfl ?_; revert a; refine qm (.int .i64 (↑k : Int)) rfl ?_; refine qV (.agg (Ov.arr v)) (rn_load rfl rfl (ld_O rfl (M.b 0 rfl).whole)) rfl ?_; intro a hF
  refine wlc hF (rn_call1 (u := .agg (Ov.arr v)) rfl rfl rfl Try.call68) (size_any _ v _ _ M.fact.1.1.2 hn) rfl rfl rfl ?_; clear hF a
  rintro e9 W8 ⟨rfl, hb⟩; replace M := M.step hb; clear hb; refine ⟨_, rfl, ?_⟩; intro a hF
  revert a; refine qV (.bool true) (rn_geq rfl rfl rfl (decide_eq_true (by omega))) rfl ?_; intro a hF; refine wl0 ?_; refine cd_true hF rfl rfl ?_; refine wrgs rfl ?_; revert a; refine qm (.pointer (some ⟨gc, 0, none⟩)) rfl ?_; refine qm (.pointer (some ⟨gc, 0, none⟩)) rfl ?_; refine qV (.pointer (some ⟨gc, 0, none⟩)) (rn_nil rfl rfl) rfl ?_; refine qf gc 0 fo_C0 rfl rfl ?_; refine qV (.slice (some ⟨bo, oo, none⟩) n c) (rn_load rfl rfl (ld_one one_lO ((M.b 2 rfl).cell 0))) rfl ?_; refine qV (.slice (fromA (some ⟨bo, oo, none⟩) c 1 14) r.length (c - 1)) (rn_from (k := 1) (m := r.length) (d := c - 1) rfl rfl rfl es_lO (by omega) (by omega) rfl) rfl ?_; refine qV (.pointer (some ⟨gc, 0, none⟩)) (rn_nil rfl rfl) rfl ?_; refine qf gc 0 fo_C0 rfl rfl ?_; intro a hF
  refine wlst hF M 2 rfl (vs := #[.slice (fromA (some ⟨bo, oo, none⟩) c 1 14) r.length (c - 1)]) rfl rfl rfl rfl rfl rfl rfl sz_lO (sl_one _ _ _) (leb rfl) ?_; clear hF M a; intro W9 a M hF
  replace M : Mm S w W9 (⟨g5, 47, (Ov.arr v)⟩ :: ⟨g4, 47, (Ov.arr Ov.nil)⟩ :: ⟨gc, 106, #[.slice (fromA (some ⟨bo, oo, none⟩) c 1 14) r.length (c - 1), .int .i64 al]⟩ :: l) (rr) (fun W S => ((((F0 W S ∧ OsAt W S (some ⟨bo, oo, none⟩) n c (Opn.mk kind on ol oe :: r) ovs) ∧ OpAt W S (.mk kind on ol oe) v) ∧ KidsAt W S v.L v.ln v.lc ol lv) ∧ (S bo ∧ W.rangeAt bo oo v.arr.toList))) := M
  refine wl0 ?_; refine wrgs rfl ?_; revert a; refine qV (.agg (Ov.arr v)) (rn_load rfl rfl (ld_O rfl (M.b 0 rfl).whole)) rfl ?_; intro a hF
  refine wlst hF M 1 rfl (vs := (Ov.arr v)) rfl rfl rfl rfl rfl rfl rfl sz_O (Ov.arr_one _) (leb rfl) ?_; clear hF M a; intro W10 a M hF
  replace M : Mm S w W10 (⟨g5, 47, (Ov.arr v)⟩ :: ⟨g4, 47, (Ov.arr v)⟩ :: ⟨gc, 106, #[.slice (fromA (some ⟨bo, oo, none⟩) c 1 14) r.length (c - 1), .int .i64 al]⟩ :: l) (rr) (fun W S => ((((F0 W S ∧ OsAt W S (some ⟨bo, oo, none⟩) n c (Opn.mk kind on ol oe :: r) ovs) ∧ OpAt W S (.mk kind on ol oe) v) ∧ KidsAt W S v.L v.ln v.lc ol lv) ∧ (S bo ∧ W.rangeAt bo oo v.arr.toList))) := M
  refine wl0 ?_
  refine wp_ret (rt_then (res_cell Try.results67 rfl hF rfl (ld_O rfl (M.b 1 rfl).whole) ⟨v, rfl, fromA (some ⟨bo, oo, none⟩) c 1 14, r.length, c - 1, ovs.drop 1, ?_⟩))
  exact M.tail.tail.imp ((st0.and (stable_op _ _)).and (stable_os _ _ _ _ _)) fun h => ⟨⟨h.1.1.1.1, h.1.1.2⟩, h.1.1.1.2.tail⟩
 ·skip
  refine wrgs rfl ?_; revert a; refine qm (.int .i64 (↑k : Int)) rfl ?_; refine qV (.agg (Ov.arr v)) (rn_load rfl rfl (ld_O rfl (M.b 0 rfl).whole)) rfl ?_; intro a hF
  refine wlc hF (rn_call1 (u := .agg (Ov.arr v)) rfl rfl rfl Try.call68) (size_any _ v _ _ M.fact.1.1.2 hn) rfl rfl rfl ?_; clear hF a
  rintro e9 W8 ⟨rfl, hb⟩; replace M := M.step hb; clear hb; refine ⟨_, rfl, ?_⟩; intro a hF
  revert a; refine qV (.bool false) (rn_geq rfl rfl rfl (decide_eq_false (by omega))) rfl ?_; intro a hF; refine wl0 ?_; refine cd_false hF rfl rfl (wp_skip (nm_then ?_))
  refine wp_seq (wp_cut (fun a W => ∃ f, TkK S w gc l rr (fun W S => ((((F0 W S ∧ OsAt W S (some ⟨bo, oo, none⟩) n c (Opn.mk kind on ol oe :: r) ovs) ∧ OpAt W S (.mk kind on ol oe) v) ∧ KidsAt W S v.L v.ln v.lc ol lv) ∧ (S bo ∧ W.rangeAt bo oo v.arr.toList))) (some ⟨bo, oo, none⟩) n c al k g4 g5 v v v f a W) ?_ ?_)
  ·skip
   refine wdr (Un (rows (rr)) W8.drew) (fun i => Nat.beq i 5) prog_mixed ?_
   have M0 := M.drew' _ rfl
   generalize W8.drew = W9 at *
   have M := M0; have hU := Un.refl (rows (rr)) W9
   revert a; refine qt 0 (.agg (Ov.arr v)) rfl (fun W' hw => (rn_load rfl rfl (ld_O rfl (M0.ub hw 0 rfl).whole))) hU rfl (by kernel_rfl) ?_; refine qt 1 (.agg (Ov.arr v)) rfl (fun W' hw => (rn_load rfl rfl (ld_O rfl (M0.ub hw 0 rfl).whole))) hU rfl (by kernel_rfl) ?_; intro a hF
   refine g2 (i := 2) (j := 3) (by kernel_rfl) ?_ ?_
   ·skip
    obtain ⟨bk3, hbk3⟩ : ∃ g, W9.heap.size = g := ⟨_, rfl⟩
    refine wgal hF M hU hbk3 rfl rfl rfl rfl (rn_alloc rfl zc_O hbk3) ?_; clear hF M hU a; intro W10 a M hU hgebk3 hF
    refine g1 (i := 3) (by kernel_rfl) ?_
    obtain ⟨bk4, hbk4⟩ : ∃ g, W10.heap.size = g := ⟨_, rfl⟩
    refine wgal hF M hU hbk4 rfl rfl rfl rfl (rn_alloc rfl zc_O hbk4) ?_; clear hF M hU a; intro W11 a M hU hgebk4 hF
    refine g1 (i := 4) (by kernel_rfl) ?_
    refine wgsn hF M hU 1 rfl hgebk3 (vs := (Ov.arr v)) rfl rfl rfl rfl rfl rfl rfl rfl sz_O (Ov.arr_one _) (leb rfl) ?_; clear hF M hU a; intro W12 a M hU hF
    replace M : Mm S w W12 (⟨bk4, 47, (Ov.arr Ov.nil)⟩ :: ⟨bk3, 47, (Ov.arr v)⟩ :: ⟨g5, 47, (Ov.arr v)⟩ :: ⟨g4, 47, (Ov.arr Ov.nil)⟩ :: ⟨gc, 106, #[.slice (some ⟨bo, oo, none⟩) n c, .int .i64 al]⟩ :: l) (rr) (fun W S => ((((F0 W S ∧ OsAt W S (some ⟨bo, oo, none⟩) n c (Opn.mk kind on ol oe :: r) ovs) ∧ OpAt W S (.mk kind on ol oe) v) ∧ KidsAt W S v.L v.ln v.lc ol lv) ∧ (S bo ∧ W.rangeAt bo oo v.arr.toList))) := M
    refine g1 (i := 5) (by kernel_rfl) ?_
    refine wgst hF M 0 rfl (vs := (Ov.arr v)) (by kernel_rfl) rfl rfl rfl rfl rfl rfl rfl rfl sz_O (Ov.arr_one _) (leb rfl) ?_; clear hF M a; intro W13 a M hF
    replace M : Mm S w W13 (⟨bk4, 47, (Ov.arr v)⟩ :: ⟨bk3, 47, (Ov.arr v)⟩ :: ⟨g5, 47, (Ov.arr v)⟩ :: ⟨g4, 47, (Ov.arr Ov.nil)⟩ :: ⟨gc, 106, #[.slice (some ⟨bo, oo, none⟩) n c, .int .i64 al]⟩ :: l) (rr) (fun W S => ((((F0 W S ∧ OsAt W S (some ⟨bo, oo, none⟩) n c (Opn.mk kind on ol oe :: r) ovs) ∧ OpAt W S (.mk kind on ol oe) v) ∧ KidsAt W S v.L v.ln v.lc ol lv) ∧ (S bo ∧ W.rangeAt bo oo v.arr.toList))) := M
    refine wgd (by kernel_rfl) ?_ _
    refine ⟨_, hF, rfl, rfl, rfl, rfl, bk3, bk4, rfl, rfl, M⟩
   ·skip
    obtain ⟨bk5, hbk5⟩ : ∃ g, W9.heap.size = g := ⟨_, rfl⟩
    refine wgal hF M hU hbk5 rfl rfl rfl rfl (rn_alloc rfl zc_O hbk5) ?_; clear hF M hU a; intro W14 a M hU hgebk5 hF
    refine g1 (i := 2) (by kernel_rfl) ?_
    obtain ⟨bk6, hbk6⟩ : ∃ g, W14.heap.size = g := ⟨_, rfl⟩
    refine wgal hF M hU hbk6 rfl rfl rfl rfl (rn_alloc rfl zc_O hbk6) ?_; clear hF M hU a; intro W15 a M hU hgebk6 hF
    refine g1 (i := 4) (by kernel_rfl) ?_
    refine wgsn hF M hU 0 rfl hgebk6 (vs := (Ov.arr v)) rfl rfl rfl rfl rfl rfl rfl rfl sz_O (Ov.arr_one _) (leb rfl) ?_; clear hF M hU a; intro W16 a M hU hF
    replace M : Mm S w W16 (⟨bk6, 47, (Ov.arr v)⟩ :: ⟨bk5, 47, (Ov.arr Ov.nil)⟩ :: ⟨g5, 47, (Ov.arr v)⟩ :: ⟨g4, 47, (Ov.arr Ov.nil)⟩ :: ⟨gc, 106, #[.slice (some ⟨bo, oo, none⟩) n c, .int .i64 al]⟩ :: l) (rr) (fun W S => ((((F0 W S ∧ OsAt W S (some ⟨bo, oo, none⟩) n c (Opn.mk kind on ol oe :: r) ovs) ∧ OpAt W S (.mk kind on ol oe) v) ∧ KidsAt W S v.L v.ln v.lc ol lv) ∧ (S bo ∧ W.rangeAt bo oo v.arr.toList))) := M
    refine g1 (i := 5) (by kernel_rfl) ?_
    refine wgst hF M 1 rfl (vs := (Ov.arr v)) (by kernel_rfl) rfl rfl rfl rfl rfl rfl rfl rfl sz_O (Ov.arr_one _) (leb rfl) ?_; clear hF M a; intro W17 a M hF
    replace M : Mm S w W17 (⟨bk6, 47, (Ov.arr v)⟩ :: ⟨bk5, 47, (Ov.arr v)⟩ :: ⟨g5, 47, (Ov.arr v)⟩ :: ⟨g4, 47, (Ov.arr Ov.nil)⟩ :: ⟨gc, 106, #[.slice (some ⟨bo, oo, none⟩) n c, .int .i64 al]⟩ :: l) (rr) (fun W S => ((((F0 W S ∧ OsAt W S (some ⟨bo, oo, none⟩) n c (Opn.mk kind on ol oe :: r) ovs) ∧ OpAt W S (.mk kind on ol oe) v) ∧ KidsAt W S v.L v.ln v.lc ol lv) ∧ (S bo ∧ W.rangeAt bo oo v.arr.toList))) := M
    refine wgd (by kernel_rfl) ?_ _
    refine ⟨_, hF, rfl, rfl, rfl, rfl, bk6, bk5, rfl, rfl, M.swap⟩
  ·rintro a W2 ⟨f, hF, hf0, hf1, hf4, hf5, gf, gb, hf6, hf7, M⟩
   replace hF := ((((((hF.same (d := 0) hf0).same (d := 1) hf1).same (d := 4) hf4).same (d := 5) hf5).same (d := 6) hf6).same (d := 7) hf7)
   refine nm_then ?_
   have hlt : k < sizeS (.mk kind on ol oe) := by omega
   have h3 : kind ≠ 3 := fun e => by
    have : sizeS (.mk kind on ol oe) = 1 := by unfold sizeS; exact if_pos e
    omega
   have hsz2 : sizeS (.mk kind on ol oe) = on.toNat + ol.length := by unfold sizeS; exact if_neg h3
   have hn' := hn h3
   simp only [Opn.nO] at hn'
   rw [neatS] at hs
   refine wp_seq (wp_cut (fun a W => ∃ f v1 v2, OpF k (.mk kind on ol oe) r v v1 v2 ∧ TkK S w gc l rr (fun W S => ((((F0 W S ∧ OsAt W S (some ⟨bo, oo, none⟩) n c (Opn.mk kind on ol oe :: r) ovs) ∧ OpAt W S (.mk kind on ol oe) v) ∧ KidsAt W S v.L v.ln v.lc ol lv) ∧ (S bo ∧ W.rangeAt bo oo v.arr.toList))) (some ⟨bo, oo, none⟩) n c al k g4 g5 v v1 v2 f a W) ?_ ?_)
   ·skip
    by_cases k0 : kind = 0
    ·skip
     obtain ⟨hon, hol⟩ := hs.2.2.1 k0
     have hlo : ol.length = 0 := by rw [hol]; rfl
     refine wrgs rfl ?_; revert a; refine qf g5 0 fo_O0 rfl rfl ?_; refine qV (.int .i64 v.k) (rn_load rfl rfl (ld_one one_int ((M.b 2 rfl).cell 0))) rfl ?_; refine qV (.bool true) (rn_eql rfl rfl rfl (by rw [hvk, k0]; rfl)) rfl ?_; intro a hF; refine wl0 ?_; refine cd_true hF rfl rfl ?_
     refine wdr (Un (gf :: rows (rr)) W2.drew) (fun i => Nat.beq i 8) prog_mixed ?_
     have M0 := M.drew' _ rfl
     generalize W2.drew = W3 at *
     have M := M0; have hU := Un.refl (gf :: rows (rr)) W3
     revert a; refine qx 0 (.int .i64 (↑k : Int)) hU rfl (by kernel_rfl) ?_; refine qo 1 g5 1 fo_O1 hU rfl rfl (by kernel_rfl) ?_; refine qt 2 (.int .i64 v.n) rfl (fun W' hw => (rn_load rfl rfl (ld_one one_int ((M0.ubx hw 2 rfl 1 rfl rfl rfl).cell 1)))) hU rfl (by kernel_rfl) ?_; refine qx 3 (.int .i64 (↑k : Int)) hU rfl (by kernel_rfl) ?_; refine qp 4 (.int .i64 (v.n - ↑k)) rfl (rn_sub (q := (v.n - ↑k)) rfl rfl rfl rfl (by omega) (by omega)) hU rfl (by kernel_rfl) ?_; refine qo 5 gf 1 fo_O1 hU rfl rfl (by kernel_rfl) ?_; intro a hF; refine g1 (i := 6) (by kernel_rfl) ?_
     refine wgsx hF M hU 1 rfl List.mem_cons_self (vs := #[.int .i64 (↑k : Int)]) rfl rfl rfl rfl rfl rfl rfl rfl sz_int (int_one _ _) (leb rfl) ?_; clear hF M hU a; intro W4 a M hU hF
     replace M : Mm S w W4 (⟨gb, 47, (Ov.arr v)⟩ :: ⟨gf, 47, (Ov.arr ⟨v.k, (↑k : Int), v.L, v.ln, v.lc, v.e⟩)⟩ :: ⟨g5, 47, (Ov.arr v)⟩ :: ⟨g4, 47, (Ov.arr Ov.nil)⟩ :: ⟨gc, 106, #[.slice (some ⟨bo, oo, none⟩) n c, .int .i64 al]⟩ :: l) (rr) (fun W S => ((((F0 W S ∧ OsAt W S (some ⟨bo, oo, none⟩) n c (Opn.mk kind on ol oe :: r) ovs) ∧ OpAt W S (.mk kind on ol oe) v) ∧ KidsAt W S v.L v.ln v.lc ol lv) ∧ (S bo ∧ W.rangeAt bo oo v.arr.toList))) := M
     revert a; refine qo 7 gb 1 fo_O1 hU rfl rfl (by kernel_rfl) ?_; intro a hF; refine g1 (i := 8) (by kernel_rfl) ?_
     refine wgst hF M 0 rfl (vs := #[.int .i64 (v.n - ↑k)]) (by kernel_rfl) rfl rfl rfl rfl rfl rfl rfl rfl sz_int (int_one _ _) (leb rfl) ?_; clear hF M a; intro W5 a M hF
     replace M : Mm S w W5 (⟨gb, 47, (Ov.arr ⟨v.k, (v.n - ↑k), v.L, v.ln, v.lc, v.e⟩)⟩ :: ⟨gf, 47, (Ov.arr ⟨v.k, (↑k : Int), v.L, v.ln, v.lc, v.e⟩)⟩ :: ⟨g5, 47, (Ov.arr v)⟩ :: ⟨g4, 47, (Ov.arr Ov.nil)⟩ :: ⟨gc, 106, #[.slice (some ⟨bo, oo, none⟩) n c, .int .i64 al]⟩ :: l) (rr) (fun W S => ((((F0 W S ∧ OsAt W S (some ⟨bo, oo, none⟩) n c (Opn.mk kind on ol oe :: r) ovs) ∧ OpAt W S (.mk kind on ol oe) v) ∧ KidsAt W S v.L v.ln v.lc ol lv) ∧ (S bo ∧ W.rangeAt bo oo v.arr.toList))) := M
     refine wgd (by kernel_rfl) ?_ _
     refine ⟨_, ⟨v.k, ↑k, v.L, v.ln, v.lc, v.e⟩, ⟨v.k, v.n - ↑k, v.L, v.ln, v.lc, v.e⟩, .keep k0 hvn hsz, hF, rfl, rfl, rfl, rfl, gf, gb, rfl, rfl, M⟩
    ·skip
     have hon : on = 0 := (hs.2.2.2 (by omega)).1
     have hkl : k < ol.length := by rw [hsz2, hon] at hlt; simpa using hlt
     refine wrgs rfl ?_; revert a; refine qf g5 0 fo_O0 rfl rfl ?_; refine qV (.int .i64 v.k) (rn_load rfl rfl (ld_one one_int ((M.b 2 rfl).cell 0))) rfl ?_; refine qV (.bool false) (rn_eql rfl rfl rfl (by rw [hvk]; exact beq_false_of_ne k0)) rfl ?_; intro a hF; refine wl0 ?_; refine cd_false hF rfl rfl ?_
     refine wdr (Un (gf :: rows (rr)) W2.drew) (fun i => Nat.beq i 12) prog_mixed ?_
     have M0 := M.drew' _ rfl
     generalize W2.drew = W6 at *
     have M := M0; have hU := Un.refl (gf :: rows (rr)) W6
     revert a; refine qo 0 g5 2 fo_O2 hU rfl rfl (by kernel_rfl) ?_; refine qt 1 (.slice v.L v.ln v.lc) rfl (fun W' hw => (rn_load rfl rfl (ld_one one_lT ((M0.ubx hw 2 rfl 1 rfl rfl rfl).cell 2)))) hU rfl (by kernel_rfl) ?_; refine qx 2 (.int .i64 (↑k : Int)) hU rfl (by kernel_rfl) ?_; refine qx 3 (.int .i64 (↑k : Int)) hU rfl (by kernel_rfl) ?_; refine qp 4 (.slice v.L k k) rfl (rn_upto rfl rfl rfl rfl es_lT (by omega)) hU rfl (by kernel_rfl) ?_; refine qo 5 g5 2 fo_O2 hU rfl rfl (by kernel_rfl) ?_; refine qt 6 (.slice v.L v.ln v.lc) rfl (fun W' hw => (rn_load rfl rfl (ld_one one_lT ((M0.ubx hw 2 rfl 1 rfl rfl rfl).cell 2)))) hU rfl (by kernel_rfl) ?_; refine qx 7 (.int .i64 (↑k : Int)) hU rfl (by kernel_rfl) ?_; refine qp 8 (.slice (fromA v.L v.lc k 3) (v.ln - k) (v.lc - k)) rfl (rn_from (k := k) rfl rfl rfl es_lT (by omega) rfl rfl) hU rfl (by kernel_rfl) ?_; refine qo 9 gf 2 fo_O2 hU rfl rfl (by kernel_rfl) ?_; intro a hF; refine g1 (i := 10) (by kernel_rfl) ?_
     refine wgsx hF M hU 1 rfl List.mem_cons_self (vs := #[.slice v.L k k]) rfl rfl rfl rfl rfl rfl rfl rfl sz_lT (sl_one _ _ _) (leb rfl) ?_; clear hF M hU a; intro W7 a M hU hF
     replace M : Mm S w W7 (⟨gb, 47, (Ov.arr v)⟩ :: ⟨gf, 47, (Ov.arr ⟨v.k, v.n, v.L, k, k, v.e⟩)⟩ :: ⟨g5, 47, (Ov.arr v)⟩ :: ⟨g4, 47, (Ov.arr Ov.nil)⟩ :: ⟨gc, 106, #[.slice (some ⟨bo, oo, none⟩) n c, .int .i64 al]⟩ :: l) (rr) (fun W S => ((((F0 W S ∧ OsAt W S (some ⟨bo, oo, none⟩) n c (Opn.mk kind on ol oe :: r) ovs) ∧ OpAt W S (.mk kind on ol oe) v) ∧ KidsAt W S v.L v.ln v.lc ol lv) ∧ (S bo ∧ W.rangeAt bo oo v.arr.toList))) := M
     revert a; refine qo 11 gb 2 fo_O2 hU rfl rfl (by kernel_rfl) ?_; intro a hF; refine g1 (i := 12) (by kernel_rfl) ?_
     refine wgst hF M 0 rfl (vs := #[.slice (fromA v.L v.lc k 3) (v.ln - k) (v.lc - k)]) (by kernel_rfl) rfl rfl rfl rfl rfl rfl rfl rfl sz_lT (sl_one _ _ _) (leb rfl) ?_; clear hF M a; intro W8 a M hF
     replace M : Mm S w W8 (⟨gb, 47, (Ov.arr ⟨v.k, v.n, (fromA v.L v.lc k 3), (v.ln - k), (v.lc - k), v.e⟩)⟩ :: ⟨gf, 47, (Ov.arr ⟨v.k, v.n, v.L, k, k, v.e⟩)⟩ :: ⟨g5, 47, (Ov.arr v)⟩ :: ⟨g4, 47, (Ov.arr Ov.nil)⟩ :: ⟨gc, 106, #[.slice (some ⟨bo, oo, none⟩) n c, .int .i64 al]⟩ :: l) (rr) (fun W S => ((((F0 W S ∧ OsAt W S (some ⟨bo, oo, none⟩) n c (Opn.mk kind on ol oe :: r) ovs) ∧ OpAt W S (.mk kind on ol oe) v) ∧ KidsAt W S v.L v.ln v.lc ol lv) ∧ (S bo ∧ W.rangeAt bo oo v.arr.toList))) := M
     refine wgd (by kernel_rfl) ?_ _
     refine ⟨_, ⟨v.k, v.n, v.L, k, k, v.e⟩, ⟨v.k, v.n, fromA v.L v.lc k 3, v.ln - k, v.lc - k, v.e⟩, .list k0 hsz (by omega) (by omega), hF, rfl, rfl, rfl, rfl, gf, gb, rfl, rfl, M⟩
   ·rintro a W3 ⟨f, v1, v2, hO, hF, hf0, hf1, hf4, hf5, gf, gb, hf6, hf7, M⟩
    replace hF := ((((((hF.same (d := 0) hf0).same (d := 1) hf1).same (d := 4) hf4).same (d := 5) hf5).same (d := 6) hf6).same (d := 7) hf7)
    refine nm_then ?_
    obtain ⟨o1, o2, htk, hO1, hO2⟩ := hO.ops
    rw [htk]
    replace M := M.imp (F' := fun W S => ((F0 W S ∧ OsAt W S (some ⟨bo, oo, none⟩) n c (Opn.mk kind on ol oe :: r) ovs) ∧ OpAt W S o1 v1) ∧ OpAt W S o2 v2) (((st0.and (stable_os _ _ _ _ _)).and (stable_op _ _)).and (stable_op _ _)) fun h => ⟨⟨h.1.1.1, hO1 h.1.1.2 h.1.2⟩, hO2 h.1.1.2 h.1.2⟩
    refine wdrs (Un (rows (rr)) W3.drew) (fun i => Nat.beq i 11) prog_mixed ?_
    have M0 := M.drew' _ rfl
    generalize W3.drew = W4 at *
    have M := M0; have hU := Un.refl (rows (rr)) W4
    revert a; refine qx 0 (.pointer (some ⟨gc, 0, none⟩)) hU rfl (by kernel_rfl) ?_; refine qt 1 (.agg (Ov.arr v2)) rfl (fun W' hw => (rn_load rfl rfl (ld_O rfl (M0.ub hw 0 rfl).whole))) hU rfl (by kernel_rfl) ?_; refine qx 3 (.pointer (some ⟨gc, 0, none⟩)) hU rfl (by kernel_rfl) ?_; refine qp 4 (.pointer (some ⟨gc, 0, none⟩)) rfl (rn_nil rfl rfl) hU rfl (by kernel_rfl) ?_; refine qo 5 gc 0 fo_C0 hU rfl rfl (by kernel_rfl) ?_; refine qt 6 (.slice (some ⟨bo, oo, none⟩) n c) rfl (fun W' hw => (rn_load rfl rfl (ld_one one_lO ((M0.ub hw 4 rfl).cell 0)))) hU rfl (by kernel_rfl) ?_; refine qp 7 (.slice (fromA (some ⟨bo, oo, none⟩) c 1 14) r.length (c - 1)) rfl (rn_from (k := 1) (m := r.length) (d := c - 1) rfl rfl rfl es_lO (by omega) (by omega) rfl) hU rfl (by kernel_rfl) ?_; intro a hF; refine g1 (i := 2) (by kernel_rfl) ?_
    obtain ⟨bk7, hbk7⟩ : ∃ g, W4.heap.size = g := ⟨_, rfl⟩
    refine wgal hF M hU hbk7 rfl rfl rfl rfl (rn_bs1 (cs := (Ov.arr v2)) ti_lO (by decide) rfl rfl rfl hbk7) ?_; clear hF M hU a; intro W5 a M hU hgebk7 hF
    replace M := M.boxRow (size := 14) rfl (by decide) (by decide)
    refine g1 (i := 8) (by kernel_rfl) ?_
    have hTl := M.fact.1.1.2.tail
    have hdl : (oCellsL (ovs.drop 1)).length = r.length * 14 := by rw [oLen, hTl.ovl]
    refine wgap hF M hU 0 rfl (fun b hb => .inr (by rw [List.mem_singleton.1 hb]; exact hgebk7)) ti_lO rfl rfl rfl rfl rfl rfl (oCellsL (ovs.drop 1)) rfl hdl hTl.row.read.src (flat_one Ov.cells Ov.cells_one _) (by show (1 + r.length) * 240 ≤ _; omega) (by show 1 + r.length ≤ _; unfold maxLen; omega) ?_; clear hF M hU a; intro A6 c6 W6 a M hU hx6 hF
    obtain ⟨ga6, rfl⟩ : ∃ g, A6 = some ⟨g, 0, none⟩ := M.at0 0 rfl (by show 0 < ((Ov.arr v2).toList ++ oCellsL (ovs.drop 1)).length; rw [List.length_append]; exact Nat.lt_of_lt_of_le (leb (a := 1) (b := (Ov.arr v2).toList.length) rfl) (Nat.le_add_right _ _))
    replace M : Mm S w W6 (⟨gb, 47, (Ov.arr v2)⟩ :: ⟨gf, 47, (Ov.arr v1)⟩ :: ⟨g5, 47, (Ov.arr v)⟩ :: ⟨g4, 47, (Ov.arr Ov.nil)⟩ :: ⟨gc, 106, #[.slice (some ⟨bo, oo, none⟩) n c, .int .i64 al]⟩ :: l) (⟨47, 14, (some ⟨ga6, 0, none⟩), (1 + r.length), c6, ((Ov.arr v2).toList ++ oCellsL (ovs.drop 1))⟩ :: rr) (fun W S => ((F0 W S ∧ OsAt W S (some ⟨bo, oo, none⟩) n c (Opn.mk kind on ol oe :: r) ovs) ∧ OpAt W S o1 v1) ∧ OpAt W S o2 v2) := M
    revert a; refine qp 9 (.pointer (some ⟨gc, 0, none⟩)) rfl (rn_nil rfl rfl) hU rfl (by kernel_rfl) ?_; refine qo 10 gc 0 fo_C0 hU rfl rfl (by kernel_rfl) ?_; intro a hF; refine g1 (i := 11) (by kernel_rfl) ?_
    refine wgst hF M 4 rfl (vs := #[.slice (some ⟨ga6, 0, none⟩) (1 + r.length) c6]) (by kernel_rfl) rfl rfl rfl rfl rfl rfl rfl rfl sz_lO (sl_one _ _ _) (leb rfl) ?_; clear hF M a; intro W7 a M hF
    replace M : Mm S w W7 (⟨gb, 47, (Ov.arr v2)⟩ :: ⟨gf, 47, (Ov.arr v1)⟩ :: ⟨g5, 47, (Ov.arr v)⟩ :: ⟨g4, 47, (Ov.arr Ov.nil)⟩ :: ⟨gc, 106, #[.slice (some ⟨ga6, 0, none⟩) (1 + r.length) c6, .int .i64 al]⟩ :: l) (⟨47, 14, (some ⟨ga6, 0, none⟩), (1 + r.length), c6, ((Ov.arr v2).toList ++ oCellsL (ovs.drop 1))⟩ :: rr) (fun W S => ((F0 W S ∧ OsAt W S (some ⟨bo, oo, none⟩) n c (Opn.mk kind on ol oe :: r) ovs) ∧ OpAt W S o1 v1) ∧ OpAt W S o2 v2) := M
    refine wgd (by kernel_rfl) ?_ _; refine wrgs rfl ?_; revert a; refine qV (.agg (Ov.arr v1)) (rn_load rfl rfl (ld_O rfl (M.b 1 rfl).whole)) rfl ?_; intro a hF
    refine wlst hF M 3 rfl (vs := (Ov.arr v1)) rfl rfl rfl rfl rfl rfl rfl sz_O (Ov.arr_one _) (leb rfl) ?_; clear hF M a; intro W8 a M hF
    replace M : Mm S w W8 (⟨gb, 47, (Ov.arr v2)⟩ :: ⟨gf, 47, (Ov.arr v1)⟩ :: ⟨g5, 47, (Ov.arr v)⟩ :: ⟨g4, 47, (Ov.arr v1)⟩ :: ⟨gc, 106, #[.slice (some ⟨ga6, 0, none⟩) (1 + r.length) c6, .int .i64 al]⟩ :: l) (⟨47, 14, (some ⟨ga6, 0, none⟩), (1 + r.length), c6, ((Ov.arr v2).toList ++ oCellsL (ovs.drop 1))⟩ :: rr) (fun W S => ((F0 W S ∧ OsAt W S (some ⟨bo, oo, none⟩) n c (Opn.mk kind on ol oe :: r) ovs) ∧ OpAt W S o1 v1) ∧ OpAt W S o2 v2) := M
    refine wl0 ?_
    have M2 := M.done 0 (few := 586406201480) rfl (by show 1 + r.length ≤ _; omega)
    replace M := M2.unrow.tail.tail.tail; clear M2
    refine wp_ret (res_cell Try.results67 rfl hF rfl (ld_O rfl (M.b 0 rfl).whole) ⟨v1, rfl, (some ⟨ga6, 0, none⟩), 1 + r.length, c6, v2 :: ovs.drop 1, ?_⟩)
    refine M.tail.imp ((st0.and (stable_op _ _)).and (stable_os _ _ _ _ _)) fun h => ⟨⟨h.1.1.1.1, h.1.1.2⟩, ?_⟩
    exact os_cons h.1.2 h.1.1.1.2.tail h.2
end Go.Proofs.Ytbmjiokjigkdnaa
namespace Go.Proofs.Ytbmjiokjigkdnaa
open Go.RowKit Go.Proofs.Ytbmjiokjigkdnaa.Top
def PcAt (W : World) (S : Nat → Prop) : Top.Piece → Pv → Prop
 | .first p, v => v.of = 1 ∧ OpAt W S p v.p
 | .second q, v => v.of = 2 ∧ OpAt W S q v.q
 | .both p q, v => v.of = 0 ∧ OpAt W S p v.p ∧ OpAt W S q v.q
def PcsAt (W : World) (S : Nat → Prop) (l : List Top.Piece) (pv : List Pv) : Prop := pv.length = l.length ∧ ∀ i (h : i < l.length) (h' : i < pv.length), PcAt W S l[i] pv[i]
theorem PcAt.one {W : World} {S : Nat → Prop} {p : Opn} {v q : Ov} (h : OpAt W S p v) : PcAt W S (.first p) ⟨1, v, q⟩ := ⟨rfl, h⟩
theorem PcAt.two {W : World} {S : Nat → Prop} {p : Opn} {v q : Ov} (h : OpAt W S p v) : PcAt W S (.second p) ⟨2, q, v⟩ := ⟨rfl, h⟩
theorem PcAt.twain {W : World} {S : Nat → Prop} {p q : Opn} {v u : Ov} (h : OpAt W S p v) (k : OpAt W S q u) : PcAt W S (.both p q) ⟨0, v, u⟩ := ⟨rfl, h, k⟩
theorem stable_pc (x : Top.Piece) (v : Pv) : Stable fun W S => PcAt W S x v := by
 cases x with
 | first p => exact ⟨fun h hk => ⟨h.1, h.2.keep hk⟩, fun h hS => ⟨h.1, h.2.mono hS⟩⟩
 | second q => exact ⟨fun h hk => ⟨h.1, h.2.keep hk⟩, fun h hS => ⟨h.1, h.2.mono hS⟩⟩
 | both p q => exact ⟨fun h hk => ⟨h.1, h.2.1.keep hk, h.2.2.keep hk⟩, fun h hS => ⟨h.1, h.2.1.mono hS, h.2.2.mono hS⟩⟩
theorem stable_pcs (l : List Top.Piece) (pv : List Pv) : Stable fun W S => PcsAt W S l pv := ⟨fun h hk => ⟨h.1, fun i a b => (stable_pc _ _).keep (h.2 i a b) hk⟩, fun h hS => ⟨h.1, fun i a b => (stable_pc _ _).mono (h.2 i a b) hS⟩⟩
theorem PcsAt.nil {W : World} {S : Nat → Prop} : PcsAt W S [] [] := ⟨rfl, fun i h => by simp at h⟩
theorem PcsAt.snoc {W : World} {S : Nat → Prop} {l : List Top.Piece} {pv : List Pv} {x : Top.Piece} {v : Pv} (h : PcsAt W S l pv) (hx : PcAt W S x v) : PcsAt W S (l ++ [x]) (pv ++ [v]) := by
 refine ⟨by rw [List.length_append, List.length_append, h.1]; rfl, fun i a b => ?_⟩
 by_cases hi : i < l.length
 ·rw [List.getElem_append_left hi, List.getElem_append_left (by rw [h.1]; exact hi)]
  exact h.2 i hi _
 ·have e : i = l.length := by rw [List.length_append, List.length_singleton] at a; omega
  subst e
  have e2 : (pv ++ [v])[l.length]'b = v := by
   rw [List.getElem_append_right (by rw [h.1]; exact Nat.le_refl _)]
   simp [h.1]
  have e3 : (l ++ [x])[l.length]'a = x := by rw [List.getElem_append_right (Nat.le_refl _)]; simp
  rw [e2, e3]
  exact hx
def pCellsL (l : List Pv) : List Value := l.flatMap fun v => v.arr.toList
theorem pLen (l : List Pv) : (pCellsL l).length = l.length * 29 := flat_len (fun v : Pv => v.arr.toList) 29 (fun _ => rfl) l
theorem pSnoc (pv : List Pv) (v : Pv) : pCellsL pv ++ v.arr.toList = pCellsL (pv ++ [v]) := by simp [pCellsL]
structure PsAt (W : World) (S : Nat → Prop) (A : Option Addr) (n c : Nat) (l : List Top.Piece) (pv : List Pv) : Prop where
 pcs : PcsAt W S l pv
 row : RowAt W S A n c 29 288396492531 (pCellsL pv)
theorem stable_ps (A : Option Addr) (n c : Nat) (l : List Top.Piece) (pv : List Pv) : Stable fun W S => PsAt W S A n c l pv := ⟨fun h hk => ⟨(stable_pcs _ _).keep h.1 hk, h.2.keep hk⟩, fun h hS => ⟨(stable_pcs _ _).mono h.1 hS, h.2.mono hS⟩⟩
def PsO (W : World) (S : Nat → Prop) (A : Option Addr) (n c : Nat) (pv : List Pv) (res : Option (List Top.Piece)) : Prop := ∀ x, res = some x → PsAt W S A n c x pv
theorem stable_pso (A : Option Addr) (n c : Nat) (pv : List Pv) (res : Option (List Top.Piece)) : Stable fun W S => PsO W S A n c pv res := ⟨fun h hk x e => (stable_ps _ _ _ _ _).keep (h x e) hk, fun h hS x e => (stable_ps _ _ _ _ _).mono (h x e) hS⟩
theorem okN_of {l : List Opn} (h : ∀ o ∈ l, neatS o) {B : Nat} (hB : (units l).length ≤ B) (hb : B ≤ 2305843009213693952) : ∀ o ∈ l, okN o := by
 induction l with
 | nil => intro o ho; cases ho
 | cons x r ih =>
  rw [units, List.length_append] at hB
  intro o ho
  rcases List.mem_cons.1 ho with e | e
  ·subst e
   intro k3
   have hs := h o List.mem_cons_self
   have h1 := unitsOf_len hs
   obtain ⟨kind, n, l, e⟩ := o
   rw [neatS] at hs
   have k3 : kind ≠ 3 := k3
   have h2 : sizeS (.mk kind n l e) = n.toNat + l.length := by rw [sizeS, if_neg k3]
   show 0 ≤ n ∧ n ≤ _
   by_cases k0 : kind = 0
   ·have := hs.2.2.1 k0
    omega
   ·have := (hs.2.2.2 (by omega)).1
    omega
  ·exact ih (fun o ho => h o (List.mem_cons_of_mem _ ho)) (by omega) o e
theorem take_len {n : Nat} (hn : 1 ≤ n) {o : Opn} {r : List Opn} (h : neatS o) (hr : ∀ x ∈ r, neatS x) : (units (o :: r)).length = min n (sizeS o) + (units (takeS n o r).2).length := by
 have h1 := take_neat hn h hr
 rw [take_units hn h, List.length_append, unitsOf_len h1.1, h1.2.2]
theorem behindS_both {f : Nat} {o o' : Opn} {p q : List Opn} (h1 : o.kindO ≠ 1) (h2 : o'.kindO ≠ 2) : behindS (f + 1) (o :: p) (o' :: q) = (behindS f (takeS (min (sizeS o) (sizeS o')) o p).2 (takeS (min (sizeS o) (sizeS o')) o' q).2).map (.both (takeS (min (sizeS o) (sizeS o')) o p).1 (takeS (min (sizeS o) (sizeS o')) o' q).1 :: ·) := by
 rw [behindS, if_neg h1, if_neg h2]
theorem behindS_first {f : Nat} {o : Opn} {p q : List Opn} (h1 : o.kindO = 1) : behindS (f + 1) (o :: p) q = (behindS f p q).map (.first o :: ·) := by cases q <;> rw [behindS, if_pos h1]
theorem behindS_second {f : Nat} {o' : Opn} {p q : List Opn} (h1 : headK p ≠ 1) (h2 : o'.kindO = 2) : behindS (f + 1) p (o' :: q) = (behindS f p q).map (.second o' :: ·) := by
 cases p with
 | nil => rw [behindS, if_pos h2]
 | cons o p =>
  rw [behindS, if_neg (show ¬ o.kindO = 1 from h1), if_pos h2]
theorem behindS_end {f : Nat} : behindS (f + 1) [] [] = some [] := by rw [behindS]
theorem behindS_noL {f : Nat} {o' : Opn} {q : List Opn} (h : o'.kindO ≠ 2) : behindS (f + 1) [] (o' :: q) = none := by rw [behindS, if_neg h]
theorem behindS_noR {f : Nat} {o : Opn} {p : List Opn} (h : o.kindO ≠ 1) : behindS (f + 1) (o :: p) [] = none := by rw [behindS, if_neg h]
theorem map_map_app (b : Option (List Top.Piece)) (acc : List Top.Piece) (x : Top.Piece) : (b.map (x :: ·)).map (acc ++ ·) = b.map ((acc ++ [x]) ++ ·) := by cases b <;> simp
structure PrI (B : Nat) (res : Option (List Top.Piece)) (P Q : List Opn) (acc : List Top.Piece) (n : Nat) : Prop where
 hlen : (units P).length + (units Q).length = n
 hacc : acc.length + n ≤ B
 hnp : ∀ o ∈ P, neatS o
 hnq : ∀ o ∈ Q, neatS o
 hres : ∃ fu, n < fu ∧ res = (behindS fu P Q).map (acc ++ ·)
def PrL (S : Nat → Prop) (w : World) (gp gq : Nat) (l : List Box) (r : List Row) (F0 : World → (Nat → Prop) → Prop) (B : Nat) (res : Option (List Top.Piece)) (n : Nat) (a : Act) (W : World) : Prop :=
 ∃ (f : Nat → Value) (P Q : List Opn) (acc : List Top.Piece) (Ap : Option Addr) (np cp : Nat) (ovp : List Ov) (Aq : Option Addr) (nq cq : Nat) (ovq : List Ov) (A : Option Addr) (c : Nat) (pvs : List Pv), PrI B res P Q acc n ∧
  Fr a 78 f ∧ f 0 = .pointer (some ⟨gp, 0, none⟩) ∧ f 1 = .pointer (some ⟨gq, 0, none⟩) ∧ f 6 = .slice A acc.length c ∧
  Mm S w W (⟨gp, 106, #[.slice Ap np cp, .int .i64 1]⟩ :: ⟨gq, 106, #[.slice Aq nq cq, .int .i64 2]⟩ :: l) (⟨82, 29, A, acc.length, c, pCellsL pvs⟩ :: r) (fun W S => (((F0 W S ∧ PcsAt W S acc pvs) ∧ OsAt W S Aq nq cq Q ovq) ∧ OsAt W S Ap np cp P ovp))
def PairP (S : Nat → Prop) (w : World) (gp gq : Nat) (l : List Box) (r : List Row) (F0 : World → (Nat → Prop) → Prop) (res : Option (List Top.Piece)) (e : Ending) (W' : World) : Prop :=
 ∃ (A : Option Addr) (n c : Nat) (pvs : List Pv) (c1 c2 : Array Value), e = .returned (.tuple #[.slice A n c, .bool res.isSome]) ∧ Mm S w W' (⟨gp, 106, c1⟩ :: ⟨gq, 106, c2⟩ :: l) r (fun W S => F0 W S ∧ PsO W S A n c pvs res)
theorem pair_any {S : Nat → Prop} {w W : World} {gp gq : Nat} {l : List Box} {r : List Row} {F0 : World → (Nat → Prop) → Prop} {P0 Q0 : List Opn} {Ap Aq : Option Addr} {np cp nq cq : Nat} {ovp ovq : List Ov} {B fu : Nat} (st0 : Stable F0)
  (M : Mm S w W (⟨gp, 106, #[.slice Ap np cp, .int .i64 1]⟩ :: ⟨gq, 106, #[.slice Aq nq cq, .int .i64 2]⟩ :: l) r (fun W S => (F0 W S ∧ OsAt W S Aq nq cq Q0 ovq) ∧ OsAt W S Ap np cp P0 ovp))
  (h1 : ∀ o ∈ P0, neatS o) (h2 : ∀ o ∈ Q0, neatS o) (hB : (units P0).length + (units Q0).length ≤ B) (hb : B + 1 ≤ 288396492531) (hf : (units P0).length + (units Q0).length < fu) :
  Calls Try.prog 64 #[.pointer (some ⟨gp, 0, none⟩), .pointer (some ⟨gq, 0, none⟩)] W (PairP S w gp gq l r F0 (behindS fu P0 Q0)) := by
 refine calls_fr (xs := [.pointer (some ⟨gp, 0, none⟩), .pointer (some ⟨gq, 0, none⟩)]) Try.func64 rfl Try.ntmps64 rfl (fun a hF => ?_)
 generalize hres : behindS fu P0 Q0 = res
 have hI : PrI B res P0 Q0 [] ((units P0).length + (units Q0).length) := ⟨rfl, by simpa using hB, h1, h2, fu, hf, by rw [hres]; simp⟩
 refine wrgs rfl ?_; revert a; refine qm (.slice none 0 0) rfl ?_; refine qm (.bool false) rfl ?_; intro a hF; refine wl0 ?_; refine wrgs rfl ?_; revert a; refine qm (.slice none 0 0) rfl ?_; intro a hF; refine wl0 ?_
 replace M := M.nilRow 82 29
 replace M := M.imp (F' := fun W S => (((F0 W S ∧ PcsAt W S [] []) ∧ OsAt W S Aq nq cq Q0 ovq) ∧ OsAt W S Ap np cp P0 ovp)) (((st0.and (stable_pcs _ _)).and (stable_os _ _ _ _ _)).and (stable_os _ _ _ _ _)) fun h => ⟨⟨⟨h.1.1, PcsAt.nil⟩, h.1.2⟩, h.2⟩
 refine wp_block (wlp (PrL S w gp gq l r F0 B res) _ ⟨_, P0, Q0, [], Ap, np, cp, ovp, Aq, nq, cq, ovq, none, 0, [], hI, hF, rfl, rfl, rfl, M⟩ ?_)
 clear hI hres hf hB h1 h2 M hF a W ovp ovq Ap np cp Aq nq cq P0 Q0
 rintro n a W ⟨f, P, Q, acc, Ap, np, cp, ovp, Aq, nq, cq, ovq, A, c, pvs, hI, hF, hf0, hf1, hf6, M⟩
 replace hF := ((hF.same (d := 0) hf0).same (d := 1) hf1).same (d := 6) hf6
 obtain ⟨hI1, hI2, hnp, hnq, fu, hfu, hres⟩ := hI
 obtain ⟨fu, rfl⟩ : ∃ k, fu = k + 1 := ⟨fu - 1, by omega⟩
 have hokp := okN_of hnp (B := B) (by omega) (by omega)
 have hokq := okN_of hnq (B := B) (by omega) (by omega)
 have hrl : acc.length = pvs.length := by have := M.len 0 rfl; simp only at this; rw [pLen] at this; omega
 refine wp_block (wp_block ?_)
 by_cases c1 : headK P = 1
 ·skip
  cases P with
  | nil => cases c1
  | cons o P1 =>
   have c1 : o.kindO = 1 := c1
   refine wrgs rfl ?_; revert a; refine qm (.pointer (some ⟨gp, 0, none⟩)) rfl ?_; intro a hF
   refine wlc hF (rn_call1 (u := .pointer (some ⟨gp, 0, none⟩)) rfl rfl rfl Try.call66) (single_any gp Ap np cp 1 (o :: P1) _ _ _ ((M.b 0 rfl).cell 0) ((M.b 0 rfl).cell 1) M.fact.2 M.lts (by decide)) rfl rfl rfl ?_; clear hF a
   rintro e9 W1 ⟨rfl, hb⟩; replace M := M.step hb; clear hb; rw [beq_iff_eq.2 (show headK (o :: P1) = 1 from c1)]; refine ⟨_, rfl, ?_⟩; intro a hF
   revert a; refine qm (.bool true) rfl ?_; intro a hF; refine wl0 ?_; refine cd_true hF rfl rfl ?_
   have hs := hnp o List.mem_cons_self
   have hok := hokp o List.mem_cons_self
   have hz := size_pos hs
   have hul : (units (o :: P1)).length = sizeS o + (units P1).length := by rw [units, List.length_append, unitsOf_len hs]
   obtain ⟨bp, op, vp, rfl, hbo, hR, hT⟩ := M.fact.2.rng (i := 0) (by simp)
   replace M := (M.note (stable_op _ _) hT).note (stable_range bp op vp.arr.toList) ⟨hbo, range0 hR⟩; clear hT hR hbo
   have hln : np = P1.length + 1 := M.fact.1.1.2.len
   refine wrg rfl ?_; revert a; refine qm (.slice A acc.length c) rfl ?_; refine qm (.pointer (some ⟨gp, 0, none⟩)) rfl ?_; refine qm (.pointer (some ⟨gp, 0, none⟩)) rfl ?_; refine qV (.pointer (some ⟨gp, 0, none⟩)) (rn_nil rfl rfl) rfl ?_; refine qf gp 0 fo_C0 rfl rfl ?_; refine qV (.slice (some ⟨bp, op, none⟩) np cp) (rn_load rfl rfl (ld_one one_lO ((M.b 0 rfl).cell 0))) rfl ?_; refine qV (.pointer (some ⟨bp, op, none⟩)) (rn_index (b := bp) (of := op) (q := op) rfl rfl rfl (by omega) es_lO (by rfl)) rfl ?_; refine qV (.agg (Ov.arr vp)) (rn_load rfl rfl (ld_O rfl M.fact.2.2)) rfl ?_; intro a hF
   refine wlc hF (rn_call1 (u := .agg (Ov.arr vp)) rfl rfl rfl Try.call68) (size_any o vp _ _ M.fact.1.2 hok) rfl rfl rfl ?_; clear hF a
   rintro e9 W8 ⟨rfl, hb⟩; replace M := M.step hb; clear hb; refine ⟨_, rfl, ?_⟩; intro a hF
   have hC : CurM S w W8 gp (⟨gq, 106, #[.slice Aq nq cq, .int .i64 2]⟩ :: l) (⟨82, 29, A, acc.length, c, (pCellsL pvs)⟩ :: r) (fun W S => (F0 W S ∧ PcsAt W S acc pvs) ∧ OsAt W S Aq nq cq Q ovq) 1 (o :: P1) := ⟨_, _, _, _, M.imp (((st0.and (stable_pcs _ _)).and (stable_os _ _ _ _ _)).and (stable_os _ _ _ _ _)) fun h => ⟨⟨h.1.1.1.1, h.1.1.1.2⟩, h.1.1.2⟩⟩
   refine wlc hF (rn_call2 (u := .pointer (some ⟨gp, 0, none⟩)) (u' := .int .i64 (↑(sizeS o) : Int)) rfl rfl rfl rfl Try.call67) (take_any (sizeS o) ((st0.and (stable_pcs _ _)).and (stable_os _ _ _ _ _)) hC hz hok hs) rfl rfl rfl ?_; clear hF a
   clear hC; rintro e9 W9 ⟨v7, rfl, A9, n9, c9, ov9, M⟩; rw [takeS_all (Nat.le_refl _)] at M; refine ⟨_, rfl, ?_⟩; intro a hF
   replace M := M.imp (F' := fun W S => ((F0 W S ∧ PcsAt W S (acc ++ [.first o]) (pvs ++ [⟨1, v7, Ov.nil⟩])) ∧ OsAt W S Aq nq cq Q ovq) ∧ OsAt W S A9 n9 c9 P1 ov9) (((st0.and (stable_pcs _ _)).and (stable_os _ _ _ _ _)).and (stable_os _ _ _ _ _)) fun h => ⟨⟨⟨h.1.1.1.1, h.1.1.1.2.snoc (PcAt.one h.1.2)⟩, h.1.1.2⟩, h.2⟩
   revert a; refine qV (.agg (Pv.arr ⟨1, v7, Ov.nil⟩)) (rn_build (cs := (Pv.arr ⟨1, v7, Ov.nil⟩)) rfl (by kernel_rfl)) rfl ?_; intro a hF
   obtain ⟨bk1, hbk1⟩ : ∃ g, W9.heap.size = g := ⟨_, rfl⟩
   refine wlal hF M hbk1 rfl rfl rfl (rn_bs1 (cs := (Pv.arr ⟨1, v7, Ov.nil⟩)) ti_lP (by decide) rfl rfl rfl hbk1) ?_; clear hF M a; intro W10 a M hF
   refine wlap hF M 0 rfl ti_lP rfl rfl rfl rfl rfl ((Pv.arr ⟨1, v7, Ov.nil⟩).toList) rfl rfl (src_box (M.b 0 rfl)) (Pv.arr_one _) (by show (acc.length + 1) * 488 ≤ _; omega) (by show acc.length + 1 ≤ _; unfold maxLen; omega) ?_; clear hF M a; intro A11 c11 W11 a M hF
   revert a; refine qm (.slice A11 (acc.length + 1) c11) rfl ?_; intro a hF; refine wl0 ?_
   replace M := M.tail
   rw [pSnoc] at M
   refine nm_block (nm_block (nm_then ?_))
   refine ⟨(units P1).length + (units Q).length, by omega, _, P1, Q, acc ++ [.first o], A9, n9, c9, ov9, Aq, nq, cq, ovq, A11, c11, pvs ++ [⟨1, v7, Ov.nil⟩], ⟨rfl, by rw [List.length_append, List.length_singleton]; omega, ?_, ?_, fu, by omega, ?_⟩, hF, rfl, rfl, ?_, ?_⟩
   ·exact fun y hy => hnp y (List.mem_cons_of_mem _ hy)
   ·exact hnq
   ·rw [hres, behindS_first c1, map_map_app]
   ·rw [List.length_append]; rfl
   ·rw [List.length_append]; exact M
 ·skip
  refine wrgs rfl ?_; revert a; refine qm (.pointer (some ⟨gp, 0, none⟩)) rfl ?_; intro a hF
  refine wlc hF (rn_call1 (u := .pointer (some ⟨gp, 0, none⟩)) rfl rfl rfl Try.call66) (single_any gp Ap np cp 1 P _ _ _ ((M.b 0 rfl).cell 0) ((M.b 0 rfl).cell 1) M.fact.2 M.lts (by decide)) rfl rfl rfl ?_; clear hF a
  rintro e9 W1 ⟨rfl, hb⟩; replace M := M.step hb; clear hb; rw [beq_false_of_ne c1]; refine ⟨_, rfl, ?_⟩; intro a hF
  revert a; refine qm (.bool false) rfl ?_; intro a hF; refine wl0 ?_; refine cd_false hF rfl rfl ?_
  by_cases c2 : headK Q = 2
  ·skip
   cases Q with
   | nil => cases c2
   | cons o' Q1 =>
    have c2 : o'.kindO = 2 := c2
    refine wrgs rfl ?_; revert a; refine qm (.pointer (some ⟨gq, 0, none⟩)) rfl ?_; intro a hF
    refine wlc hF (rn_call1 (u := .pointer (some ⟨gq, 0, none⟩)) rfl rfl rfl Try.call66) (single_any gq Aq nq cq 2 (o' :: Q1) _ _ _ ((M.b 1 rfl).cell 0) ((M.b 1 rfl).cell 1) M.fact.1.2 M.lts (by decide)) rfl rfl rfl ?_; clear hF a
    rintro e9 W2 ⟨rfl, hb⟩; replace M := M.step hb; clear hb; rw [beq_iff_eq.2 (show headK (o' :: Q1) = 2 from c2)]; refine ⟨_, rfl, ?_⟩; intro a hF
    revert a; refine qm (.bool true) rfl ?_; intro a hF; refine wl0 ?_; refine cd_true hF rfl rfl ?_
    have hs := hnq o' List.mem_cons_self
    have hok := hokq o' List.mem_cons_self
    have hz := size_pos hs
    have hul : (units (o' :: Q1)).length = sizeS o' + (units Q1).length := by rw [units, List.length_append, unitsOf_len hs]
    obtain ⟨bq, oq, vq, rfl, hbo, hR, hT⟩ := M.fact.1.2.rng (i := 0) (by simp)
    replace M := (M.note (stable_op _ _) hT).note (stable_range bq oq vq.arr.toList) ⟨hbo, range0 hR⟩; clear hT hR hbo
    have hln : nq = Q1.length + 1 := M.fact.1.1.1.2.len
    refine wrg rfl ?_; revert a; refine qm (.slice A acc.length c) rfl ?_; refine qm (.pointer (some ⟨gq, 0, none⟩)) rfl ?_; refine qm (.pointer (some ⟨gq, 0, none⟩)) rfl ?_; refine qV (.pointer (some ⟨gq, 0, none⟩)) (rn_nil rfl rfl) rfl ?_; refine qf gq 0 fo_C0 rfl rfl ?_; refine qV (.slice (some ⟨bq, oq, none⟩) nq cq) (rn_load rfl rfl (ld_one one_lO ((M.b 1 rfl).cell 0))) rfl ?_; refine qV (.pointer (some ⟨bq, oq, none⟩)) (rn_index (b := bq) (of := oq) (q := oq) rfl rfl rfl (by omega) es_lO (by rfl)) rfl ?_; refine qV (.agg (Ov.arr vq)) (rn_load rfl rfl (ld_O rfl M.fact.2.2)) rfl ?_; intro a hF
    refine wlc hF (rn_call1 (u := .agg (Ov.arr vq)) rfl rfl rfl Try.call68) (size_any o' vq _ _ M.fact.1.2 hok) rfl rfl rfl ?_; clear hF a
    rintro e9 W8 ⟨rfl, hb⟩; replace M := M.step hb; clear hb; refine ⟨_, rfl, ?_⟩; intro a hF
    have hC : CurM S w W8 gq (⟨gp, 106, #[.slice Ap np cp, .int .i64 1]⟩ :: l) (⟨82, 29, A, acc.length, c, (pCellsL pvs)⟩ :: r) (fun W S => (F0 W S ∧ PcsAt W S acc pvs) ∧ OsAt W S Ap np cp P ovp) 2 (o' :: Q1) := ⟨_, _, _, _, M.swap.imp (((st0.and (stable_pcs _ _)).and (stable_os _ _ _ _ _)).and (stable_os _ _ _ _ _)) fun h => ⟨⟨h.1.1.1.1, h.1.1.2⟩, h.1.1.1.2⟩⟩
    refine wlc hF (rn_call2 (u := .pointer (some ⟨gq, 0, none⟩)) (u' := .int .i64 (↑(sizeS o') : Int)) rfl rfl rfl rfl Try.call67) (take_any (sizeS o') ((st0.and (stable_pcs _ _)).and (stable_os _ _ _ _ _)) hC hz hok hs) rfl rfl rfl ?_; clear hF a
    clear hC; rintro e9 W9 ⟨v7, rfl, A9, n9, c9, ov9, M⟩; rw [takeS_all (Nat.le_refl _)] at M; refine ⟨_, rfl, ?_⟩; intro a hF
    replace M := M.swap.imp (F' := fun W S => ((F0 W S ∧ PcsAt W S (acc ++ [.second o']) (pvs ++ [⟨2, Ov.nil, v7⟩])) ∧ OsAt W S A9 n9 c9 Q1 ov9) ∧ OsAt W S Ap np cp P ovp) (((st0.and (stable_pcs _ _)).and (stable_os _ _ _ _ _)).and (stable_os _ _ _ _ _)) fun h => ⟨⟨⟨h.1.1.1.1, h.1.1.1.2.snoc (PcAt.two h.1.2)⟩, h.2⟩, h.1.1.2⟩
    revert a; refine qV (.agg (Pv.arr ⟨2, Ov.nil, v7⟩)) (rn_build (cs := (Pv.arr ⟨2, Ov.nil, v7⟩)) rfl (by kernel_rfl)) rfl ?_; intro a hF
    obtain ⟨bk2, hbk2⟩ : ∃ g, W9.heap.size = g := ⟨_, rfl⟩
    refine wlal hF M hbk2 rfl rfl rfl (rn_bs1 (cs := (Pv.arr ⟨2, Ov.nil, v7⟩)) ti_lP (by decide) rfl rfl rfl hbk2) ?_; clear hF M a; intro W10 a M hF
    refine wlap hF M 0 rfl ti_lP rfl rfl rfl rfl rfl ((Pv.arr ⟨2, Ov.nil, v7⟩).toList) rfl rfl (src_box (M.b 0 rfl)) (Pv.arr_one _) (by show (acc.length + 1) * 488 ≤ _; omega) (by show acc.length + 1 ≤ _; unfold maxLen; omega) ?_; clear hF M a; intro A11 c11 W11 a M hF
    revert a; refine qm (.slice A11 (acc.length + 1) c11) rfl ?_; intro a hF; refine wl0 ?_
    replace M := M.tail
    rw [pSnoc] at M
    refine nm_block (nm_block (nm_then ?_))
    refine ⟨(units P).length + (units Q1).length, by omega, _, P, Q1, acc ++ [.second o'], Ap, np, cp, ovp, A9, n9, c9, ov9, A11, c11, pvs ++ [⟨2, Ov.nil, v7⟩], ⟨rfl, by rw [List.length_append, List.length_singleton]; omega, ?_, ?_, fu, by omega, ?_⟩, hF, rfl, rfl, ?_, ?_⟩
    ·exact hnp
    ·exact fun y hy => hnq y (List.mem_cons_of_mem _ hy)
    ·rw [hres, behindS_second c1 c2, map_map_app]
    ·rw [List.length_append]; rfl
    ·rw [List.length_append]; exact M
  ·skip
   refine wrgs rfl ?_; revert a; refine qm (.pointer (some ⟨gq, 0, none⟩)) rfl ?_; intro a hF
   refine wlc hF (rn_call1 (u := .pointer (some ⟨gq, 0, none⟩)) rfl rfl rfl Try.call66) (single_any gq Aq nq cq 2 Q _ _ _ ((M.b 1 rfl).cell 0) ((M.b 1 rfl).cell 1) M.fact.1.2 M.lts (by decide)) rfl rfl rfl ?_; clear hF a
   rintro e9 W2 ⟨rfl, hb⟩; replace M := M.step hb; clear hb; rw [beq_false_of_ne c2]; refine ⟨_, rfl, ?_⟩; intro a hF
   revert a; refine qm (.bool false) rfl ?_; intro a hF; refine wl0 ?_; refine cd_false hF rfl rfl ?_
   have hlp : np = P.length := M.fact.2.len
   have hlq : nq = Q.length := M.fact.1.2.len
   cases P with
   | nil =>
    have hz1 : np = 0 := hlp
    refine wrgs rfl ?_; revert a; refine qm (.pointer (some ⟨gp, 0, none⟩)) rfl ?_; intro a hF
    refine wlc hF (rn_call1 (u := .pointer (some ⟨gp, 0, none⟩)) rfl rfl rfl Try.call69) (done_any gp Ap np cp _ ((M.b 0 rfl).cell 0)) rfl rfl rfl ?_; clear hF a
    rintro e9 W9 ⟨rfl, hw⟩; replace hw := hw.symm; subst hw; rw [decide_eq_true hz1]; refine ⟨_, rfl, ?_⟩; intro a hF
    revert a; refine qm (.bool true) rfl ?_; refine qi rfl ?_; refine qi rfl ?_; refine qV (.bool true) (rn_pick rfl rfl rfl) rfl ?_; refine qm (.bool true) rfl ?_; intro a hF; refine wl0 ?_; refine cd_true hF rfl rfl ?_
    cases Q with
    | nil =>
     have hz2 : nq = 0 := hlq
     have hres2 : res = some acc := by rw [hres, behindS_end]; simp
     refine wp_seq ?_
     refine wrgs rfl ?_; revert a; refine qm (.pointer (some ⟨gp, 0, none⟩)) rfl ?_; intro a hF
     refine wlc hF (rn_call1 (u := .pointer (some ⟨gp, 0, none⟩)) rfl rfl rfl Try.call69) (done_any gp Ap np cp _ ((M.b 0 rfl).cell 0)) rfl rfl rfl ?_; clear hF a
     rintro e9 W9 ⟨rfl, hw⟩; replace hw := hw.symm; subst hw; rw [decide_eq_true hz1]; refine ⟨_, rfl, ?_⟩; intro a hF
     revert a; refine qm (.pointer (some ⟨gq, 0, none⟩)) rfl ?_; intro a hF
     refine wlc hF (rn_call1 (u := .pointer (some ⟨gq, 0, none⟩)) rfl rfl rfl Try.call69) (done_any gq Aq nq cq _ ((M.b 1 rfl).cell 0)) rfl rfl rfl ?_; clear hF a
     rintro e9 W9 ⟨rfl, hw⟩; replace hw := hw.symm; subst hw; rw [decide_eq_true hz2]; refine ⟨_, rfl, ?_⟩; intro a hF
     revert a; refine qV (.bool false) (rn_neqB rfl rfl rfl Try.underlying4 rfl) rfl ?_; intro a hF; refine wl0 ?_; refine cd_false hF rfl rfl (wp_skip (nm_then ?_)); refine wrgs rfl ?_; revert a; refine qm (.slice A acc.length c) rfl ?_; refine qm (.slice A acc.length c) rfl ?_; refine qm (.bool true) rfl ?_; intro a hF; refine wl0 ?_
     refine wp_ret (?_ : bodyPost _ _ _ .ret _ _)
     have M2 := M.done 0 (few := 288396492531) rfl (by show acc.length ≤ _; omega)
     replace M := M2.unrow; clear M2
     refine res_slots Try.results64 rfl rfl hF ⟨A, acc.length, c, pvs, _, _, by rw [hres2]; rfl, M.imp (st0.and (stable_pso _ _ _ _ _)) fun h => ⟨h.1.1.1.1, fun x hx => ?_⟩⟩
     rw [hres2] at hx; injection hx with hx; subst hx
     exact ⟨h.1.1.1.2, h.2⟩
    | cons o' Q1 =>
     have hz2 : ¬ nq = 0 := by rw [hlq, List.length_cons]; omega
     have hres2 : res = none := by rw [hres, behindS_noL c2]; rfl
     refine wp_seq ?_
     refine wrgs rfl ?_; revert a; refine qm (.pointer (some ⟨gp, 0, none⟩)) rfl ?_; intro a hF
     refine wlc hF (rn_call1 (u := .pointer (some ⟨gp, 0, none⟩)) rfl rfl rfl Try.call69) (done_any gp Ap np cp _ ((M.b 0 rfl).cell 0)) rfl rfl rfl ?_; clear hF a
     rintro e9 W9 ⟨rfl, hw⟩; replace hw := hw.symm; subst hw; rw [decide_eq_true hz1]; refine ⟨_, rfl, ?_⟩; intro a hF
     revert a; refine qm (.pointer (some ⟨gq, 0, none⟩)) rfl ?_; intro a hF
     refine wlc hF (rn_call1 (u := .pointer (some ⟨gq, 0, none⟩)) rfl rfl rfl Try.call69) (done_any gq Aq nq cq _ ((M.b 1 rfl).cell 0)) rfl rfl rfl ?_; clear hF a
     rintro e9 W9 ⟨rfl, hw⟩; replace hw := hw.symm; subst hw; rw [decide_eq_false hz2]; refine ⟨_, rfl, ?_⟩; intro a hF
     revert a; refine qV (.bool true) (rn_neqB rfl rfl rfl Try.underlying4 rfl) rfl ?_; intro a hF; refine wl0 ?_; refine cd_true hF rfl rfl ?_; refine wrgs rfl ?_; revert a; refine qm (.slice none 0 0) rfl ?_; refine qm (.bool false) rfl ?_; intro a hF; refine wl0 ?_
     refine wp_ret (?_ : bodyPost _ _ _ .ret _ _)
     have M2 := M.done 0 (few := 288396492531) rfl (by show acc.length ≤ _; omega)
     replace M := M2.unrow; clear M2
     refine res_slots Try.results64 rfl rfl hF ⟨none, 0, 0, [], _, _, by rw [hres2]; rfl, M.imp (st0.and (stable_pso _ _ _ _ _)) fun h => ⟨h.1.1.1.1, fun x hx => ?_⟩⟩
     rw [hres2] at hx; cases hx
   | cons o P1 =>
    have hz1 : ¬ np = 0 := by rw [hlp, List.length_cons]; omega
    have c1 : o.kindO ≠ 1 := c1
    cases Q with
    | nil =>
     have hz2 : nq = 0 := hlq
     refine wrgs rfl ?_; revert a; refine qm (.pointer (some ⟨gp, 0, none⟩)) rfl ?_; intro a hF
     refine wlc hF (rn_call1 (u := .pointer (some ⟨gp, 0, none⟩)) rfl rfl rfl Try.call69) (done_any gp Ap np cp _ ((M.b 0 rfl).cell 0)) rfl rfl rfl ?_; clear hF a
     rintro e9 W9 ⟨rfl, hw⟩; replace hw := hw.symm; subst hw; rw [decide_eq_false hz1]; refine ⟨_, rfl, ?_⟩; intro a hF
     revert a; refine qm (.bool false) rfl ?_; refine qn (.pointer (some ⟨gq, 0, none⟩)) rfl ?_; intro a hF
     refine lgc hF (rn_call1 (u := .pointer (some ⟨gq, 0, none⟩)) rfl rfl rfl Try.call69) (done_any gq Aq nq cq _ ((M.b 1 rfl).cell 0)) rfl rfl rfl rfl rfl rfl ?_; clear hF a
     rintro e9 W9 ⟨rfl, hw⟩; replace hw := hw.symm; subst hw; rw [decide_eq_true hz2]; refine ⟨_, rfl, ?_⟩; intro a hF
     revert a; refine qV (.bool true) (rn_pick rfl rfl rfl) rfl ?_; refine qm (.bool true) rfl ?_; intro a hF; refine wl0 ?_; refine cd_true hF rfl rfl ?_
     have hres2 : res = none := by rw [hres, behindS_noR c1]; rfl
     refine wp_seq ?_
     refine wrgs rfl ?_; revert a; refine qm (.pointer (some ⟨gp, 0, none⟩)) rfl ?_; intro a hF
     refine wlc hF (rn_call1 (u := .pointer (some ⟨gp, 0, none⟩)) rfl rfl rfl Try.call69) (done_any gp Ap np cp _ ((M.b 0 rfl).cell 0)) rfl rfl rfl ?_; clear hF a
     rintro e9 W9 ⟨rfl, hw⟩; replace hw := hw.symm; subst hw; rw [decide_eq_false hz1]; refine ⟨_, rfl, ?_⟩; intro a hF
     revert a; refine qm (.pointer (some ⟨gq, 0, none⟩)) rfl ?_; intro a hF
     refine wlc hF (rn_call1 (u := .pointer (some ⟨gq, 0, none⟩)) rfl rfl rfl Try.call69) (done_any gq Aq nq cq _ ((M.b 1 rfl).cell 0)) rfl rfl rfl ?_; clear hF a
     rintro e9 W9 ⟨rfl, hw⟩; replace hw := hw.symm; subst hw; rw [decide_eq_true hz2]; refine ⟨_, rfl, ?_⟩; intro a hF
     revert a; refine qV (.bool true) (rn_neqB rfl rfl rfl Try.underlying4 rfl) rfl ?_; intro a hF; refine wl0 ?_; refine cd_true hF rfl rfl ?_; refine wrgs rfl ?_; revert a; refine qm (.slice none 0 0) rfl ?_; refine qm (.bool false) rfl ?_; intro a hF; refine wl0 ?_
     refine wp_ret (?_ : bodyPost _ _ _ .ret _ _)
     have M2 := M.done 0 (few := 288396492531) rfl (by show acc.length ≤ _; omega)
     replace M := M2.unrow; clear M2
     refine res_slots Try.results64 rfl rfl hF ⟨none, 0, 0, [], _, _, by rw [hres2]; rfl, M.imp (st0.and (stable_pso _ _ _ _ _)) fun h => ⟨h.1.1.1.1, fun x hx => ?_⟩⟩
     rw [hres2] at hx; cases hx
    | cons o' Q1 =>
     have hz2 : ¬ nq = 0 := by rw [hlq, List.length_cons]; omega
     have c2 : o'.kindO ≠ 2 := c2
     refine wrgs rfl ?_; revert a; refine qm (.pointer (some ⟨gp, 0, none⟩)) rfl ?_; intro a hF
     refine wlc hF (rn_call1 (u := .pointer (some ⟨gp, 0, none⟩)) rfl rfl rfl Try.call69) (done_any gp Ap np cp _ ((M.b 0 rfl).cell 0)) rfl rfl rfl ?_; clear hF a
     rintro e9 W9 ⟨rfl, hw⟩; replace hw := hw.symm; subst hw; rw [decide_eq_false hz1]; refine ⟨_, rfl, ?_⟩; intro a hF
     revert a; refine qm (.bool false) rfl ?_; refine qn (.pointer (some ⟨gq, 0, none⟩)) rfl ?_; intro a hF
     refine lgc hF (rn_call1 (u := .pointer (some ⟨gq, 0, none⟩)) rfl rfl rfl Try.call69) (done_any gq Aq nq cq _ ((M.b 1 rfl).cell 0)) rfl rfl rfl rfl rfl rfl ?_; clear hF a
     rintro e9 W9 ⟨rfl, hw⟩; replace hw := hw.symm; subst hw; rw [decide_eq_false hz2]; refine ⟨_, rfl, ?_⟩; intro a hF
     revert a; refine qV (.bool false) (rn_pick rfl rfl rfl) rfl ?_; refine qm (.bool false) rfl ?_; intro a hF; refine wl0 ?_; refine cd_false hF rfl rfl ?_
     have hs := hnp o List.mem_cons_self; have hs' := hnq o' List.mem_cons_self
     have hok := hokp o List.mem_cons_self; have hok' := hokq o' List.mem_cons_self
     have hz := size_pos hs; have hz' := size_pos hs'
     have hnp1 : ∀ y ∈ P1, neatS y := fun y hy => hnp y (List.mem_cons_of_mem _ hy)
     have hnq1 : ∀ y ∈ Q1, neatS y := fun y hy => hnq y (List.mem_cons_of_mem _ hy)
     have hmin : 1 ≤ min (sizeS o) (sizeS o') := by omega
     have hul := take_len hmin hs hnp1; have hul' := take_len hmin hs' hnq1
     have htn := take_neat hmin hs hnp1; have htn' := take_neat hmin hs' hnq1
     have hbs := behindS_both (f := fu) (p := P1) (q := Q1) c1 c2
     have hmi : (if (↑(sizeS o') : Int) < ↑(sizeS o) then (↑(sizeS o') : Int) else ↑(sizeS o)) = (↑(min (sizeS o) (sizeS o')) : Int) := by split <;> omega
     obtain ⟨bp, op, vp, rfl, hbo, hR, hT⟩ := M.fact.2.rng (i := 0) (by simp)
     replace M := (M.note (stable_op _ _) hT).note (stable_range bp op vp.arr.toList) ⟨hbo, range0 hR⟩; clear hT hR hbo
     obtain ⟨bq, oq, vq, rfl, hbo, hR, hT⟩ := M.fact.1.1.1.2.rng (i := 0) (by simp)
     replace M := (M.note (stable_op _ _) hT).note (stable_range bq oq vq.arr.toList) ⟨hbo, range0 hR⟩; clear hT hR hbo
     refine wdrs (Un (rows (⟨82, 29, A, acc.length, c, (pCellsL pvs)⟩ :: r)) W2.drew) (fun i => false) prog_mixed ?_
     have M0 := M.drew' _ rfl
     generalize W2.drew = W3 at *
     have M := M0; have hU := Un.refl (rows (⟨82, 29, A, acc.length, c, (pCellsL pvs)⟩ :: r)) W3
     revert a; refine qx 0 (.pointer (some ⟨gp, 0, none⟩)) hU rfl (by kernel_rfl) ?_; refine qp 1 (.pointer (some ⟨gp, 0, none⟩)) rfl (rn_nil rfl rfl) hU rfl (by kernel_rfl) ?_; refine qo 2 gp 0 fo_C0 hU rfl rfl (by kernel_rfl) ?_; refine qt 3 (.slice (some ⟨bp, op, none⟩) np cp) rfl (fun W' hw => (rn_load rfl rfl (ld_one one_lO ((M0.ub hw 0 rfl).cell 0)))) hU rfl (by kernel_rfl) ?_; refine qp 4 (.pointer (some ⟨bp, op, none⟩)) rfl (rn_index (b := bp) (of := op) (q := op) rfl rfl rfl (by omega) es_lO (by rfl)) hU rfl (by kernel_rfl) ?_; refine qt 5 (.agg (Ov.arr vp)) rfl (fun W' hw => (rn_load rfl rfl (ld_O rfl (M0.uf hw).1.1.2.2))) hU rfl (by kernel_rfl) ?_; refine qx 7 (.pointer (some ⟨gq, 0, none⟩)) hU rfl (by kernel_rfl) ?_; refine qp 8 (.pointer (some ⟨gq, 0, none⟩)) rfl (rn_nil rfl rfl) hU rfl (by kernel_rfl) ?_; refine qo 9 gq 0 fo_C0 hU rfl rfl (by kernel_rfl) ?_; refine qt 10 (.slice (some ⟨bq, oq, none⟩) nq cq) rfl (fun W' hw => (rn_load rfl rfl (ld_one one_lO ((M0.ub hw 1 rfl).cell 0)))) hU rfl (by kernel_rfl) ?_; refine qp 11 (.pointer (some ⟨bq, oq, none⟩)) rfl (rn_index (b := bq) (of := oq) (q := oq) rfl rfl rfl (by omega) es_lO (by rfl)) hU rfl (by kernel_rfl) ?_; refine qt 12 (.agg (Ov.arr vq)) rfl (fun W' hw => (rn_load rfl rfl (ld_O rfl (M0.uf hw).2.2))) hU rfl (by kernel_rfl) ?_; intro a hF; refine g1 (i := 6) (by kernel_rfl) ?_
     refine gc1 hF (rn_call1 (u := .agg (Ov.arr vp)) rfl rfl rfl Try.call68) (size_any o vp _ _ M.fact.1.1.1.2 hok) rfl rfl rfl rfl ?_; clear hF a
     rintro e9 W11 ⟨rfl, hb⟩; replace M := M.step hb; replace hU := hU.below hb; clear hb; refine ⟨_, rfl, fun _ => hU, ?_⟩; intro a hF
     refine g1 (i := 13) (by kernel_rfl) ?_
     refine gc1 hF (rn_call1 (u := .agg (Ov.arr vq)) rfl rfl rfl Try.call68) (size_any o' vq _ _ M.fact.1.2 hok') rfl rfl rfl rfl ?_; clear hF a
     rintro e9 W12 ⟨rfl, hb⟩; replace M := M.step hb; replace hU := hU.below hb; clear hb; refine ⟨_, rfl, fun _ => hU, ?_⟩; intro a hF
     revert a; refine qp 14 (.int .i64 (↑(min (sizeS o) (sizeS o')) : Int)) rfl (rn_min rfl rfl rfl hmi) hU rfl (by kernel_rfl) ?_; refine qx 15 (.int .i64 (↑(min (sizeS o) (sizeS o')) : Int)) hU rfl (by kernel_rfl) ?_; intro a hF; refine wgd (by kernel_rfl) ?_ _
     generalize min (sizeS o) (sizeS o') = k at *
     refine wrg rfl ?_; revert a; refine qm (.slice A acc.length c) rfl ?_; refine qm (.pointer (some ⟨gp, 0, none⟩)) rfl ?_; refine qm (.int .i64 (↑k : Int)) rfl ?_; intro a hF
     have hC : CurM S w W12 gp (⟨gq, 106, #[.slice (some ⟨bq, oq, none⟩) nq cq, .int .i64 2]⟩ :: l) (⟨82, 29, A, acc.length, c, (pCellsL pvs)⟩ :: r) (fun W S => (F0 W S ∧ PcsAt W S acc pvs) ∧ OsAt W S (some ⟨bq, oq, none⟩) nq cq (o' :: Q1) ovq) 1 (o :: P1) := ⟨_, _, _, _, M.imp (((st0.and (stable_pcs _ _)).and (stable_os _ _ _ _ _)).and (stable_os _ _ _ _ _)) fun h => ⟨⟨h.1.1.1.1.1.1, h.1.1.1.1.1.2⟩, h.1.1.1.1.2⟩⟩
     refine wlc hF (rn_call2 (u := .pointer (some ⟨gp, 0, none⟩)) (u' := .int .i64 (↑k : Int)) rfl rfl rfl rfl Try.call67) (take_any k ((st0.and (stable_pcs _ _)).and (stable_os _ _ _ _ _)) hC hmin hok hs) rfl rfl rfl ?_; clear hF a
     clear hC; rintro e9 W13 ⟨v7, rfl, A7, n7, c7, ov7, M⟩; refine ⟨_, rfl, ?_⟩; intro a hF
     revert a; refine qm (.pointer (some ⟨gq, 0, none⟩)) rfl ?_; refine qm (.int .i64 (↑k : Int)) rfl ?_; intro a hF
     have hC : CurM S w W13 gq (⟨gp, 106, #[.slice A7 n7 c7, .int .i64 1]⟩ :: l) (⟨82, 29, A, acc.length, c, (pCellsL pvs)⟩ :: r) (fun W S => ((F0 W S ∧ PcsAt W S acc pvs) ∧ OsAt W S A7 n7 c7 (takeS k o P1).2 ov7) ∧ OpAt W S (takeS k o P1).1 v7) 2 (o' :: Q1) := ⟨_, _, _, _, M.swap.imp ((((st0.and (stable_pcs _ _)).and (stable_os _ _ _ _ _)).and (stable_op _ _)).and (stable_os _ _ _ _ _)) fun h => ⟨⟨⟨h.1.1.1, h.2⟩, h.1.2⟩, h.1.1.2⟩⟩
     refine wlc hF (rn_call2 (u := .pointer (some ⟨gq, 0, none⟩)) (u' := .int .i64 (↑k : Int)) rfl rfl rfl rfl Try.call67) (take_any k (((st0.and (stable_pcs _ _)).and (stable_os _ _ _ _ _)).and (stable_op _ _)) hC hmin hok' hs') rfl rfl rfl ?_; clear hF a
     clear hC; rintro e9 W14 ⟨v8, rfl, A8, n8, c8, ov8, M⟩; refine ⟨_, rfl, ?_⟩; intro a hF
     replace M := M.swap.imp (F' := fun W S => ((F0 W S ∧ PcsAt W S (acc ++ [.both (takeS k o P1).1 (takeS k o' Q1).1]) (pvs ++ [⟨0, v7, v8⟩])) ∧ OsAt W S A8 n8 c8 (takeS k o' Q1).2 ov8) ∧ OsAt W S A7 n7 c7 (takeS k o P1).2 ov7) (((st0.and (stable_pcs _ _)).and (stable_os _ _ _ _ _)).and (stable_os _ _ _ _ _)) fun h => ⟨⟨⟨h.1.1.1.1.1, h.1.1.1.1.2.snoc (PcAt.twain h.1.1.2 h.1.2)⟩, h.2⟩, h.1.1.1.2⟩
     revert a; refine qV (.agg (Pv.arr ⟨0, v7, v8⟩)) (rn_build (cs := (Pv.arr ⟨0, v7, v8⟩)) rfl (by kernel_rfl)) rfl ?_; intro a hF
     obtain ⟨bk3, hbk3⟩ : ∃ g, W14.heap.size = g := ⟨_, rfl⟩
     refine wlal hF M hbk3 rfl rfl rfl (rn_bs1 (cs := (Pv.arr ⟨0, v7, v8⟩)) ti_lP (by decide) rfl rfl rfl hbk3) ?_; clear hF M a; intro W15 a M hF
     refine wlap hF M 0 rfl ti_lP rfl rfl rfl rfl rfl ((Pv.arr ⟨0, v7, v8⟩).toList) rfl rfl (src_box (M.b 0 rfl)) (Pv.arr_one _) (by show (acc.length + 1) * 488 ≤ _; omega) (by show acc.length + 1 ≤ _; unfold maxLen; omega) ?_; clear hF M a; intro A16 c16 W16 a M hF
     revert a; refine qm (.slice A16 (acc.length + 1) c16) rfl ?_; intro a hF; refine wl0 ?_
     replace M := M.tail
     rw [pSnoc] at M
     refine nm_block (nm_block (nm_then ?_))
     refine ⟨(units (takeS k o P1).2).length + (units (takeS k o' Q1).2).length, by omega, _, (takeS k o P1).2, (takeS k o' Q1).2, acc ++ [.both (takeS k o P1).1 (takeS k o' Q1).1], A7, n7, c7, ov7, A8, n8, c8, ov8, A16, c16, pvs ++ [⟨0, v7, v8⟩], ⟨rfl, by rw [List.length_append, List.length_singleton]; omega, htn.2.1, htn'.2.1, fu, by omega, by rw [hres, hbs, map_map_app]⟩, hF, rfl, rfl, ?_, ?_⟩
     ·rw [List.length_append]; rfl
     ·rw [List.length_append]; exact M
def BehP (res : Option (List Top.Piece)) (S : Nat → Prop) (w : World) (e : Ending) (w' : World) : Prop :=
 ∃ (A : Option Addr) (n c : Nat) (pvs : List Pv), e = .returned (.tuple #[.slice A n c, .bool res.isSome]) ∧ Below w.heap.size w w' ∧ PsO w' (Grow S w w') A n c pvs res
theorem behind_any (S : Nat → Prop) (w : World) (Ap : Option Addr) (np cp : Nat) (P Q : List Opn) (ovp : List Ov) (Aq : Option Addr) (nq cq : Nat) (ovq : List Ov) (hP : OsAt w S Ap np cp P ovp) (hQ : OsAt w S Aq nq cq Q ovq) (h1 : ∀ o ∈ P, neatS o) (h2 : ∀ o ∈ Q, neatS o) (hB : (units P).length + (units Q).length + 1 ≤ 288396492531) (hS : ∀ b, S b → b < w.heap.size) :
  Calls Try.prog 49 #[.slice Ap np cp, .slice Aq nq cq] w (BehP (behindS ((units P).length + (units Q).length + 1) P Q) S w) := by
 have M := Mm.begin hS ((stable_os Ap np cp P ovp).and (stable_os Aq nq cq Q ovq)) ⟨hP, hQ⟩
 refine calls_fr (xs := [.slice Ap np cp, .slice Aq nq cq]) Try.func49 rfl Try.ntmps49 rfl (fun a hF => ?_)
 refine wrgs rfl ?_; revert a; refine qm (.slice none 0 0) rfl ?_; refine qm (.bool false) rfl ?_; intro a hF; refine wl0 ?_; refine wrgs rfl ?_; revert a; refine qm (.slice Ap np cp) rfl ?_; refine qV (.agg #[.slice Ap np cp, .int .i64 1]) (rn_build (cs := #[.slice Ap np cp, .int .i64 1]) rfl (by kernel_rfl)) rfl ?_; intro a hF
 obtain ⟨bk1, hbk1⟩ : ∃ g, w.heap.size = g := ⟨_, rfl⟩
 refine wlal hF M hbk1 rfl rfl rfl (rn_box (cs := #[.slice Ap np cp, .int .i64 1]) rfl rfl hbk1) ?_; clear hF M a; intro W1 a M hF
 revert a; refine qm (.slice Aq nq cq) rfl ?_; refine qV (.agg #[.slice Aq nq cq, .int .i64 2]) (rn_build (cs := #[.slice Aq nq cq, .int .i64 2]) rfl (by kernel_rfl)) rfl ?_; intro a hF
 obtain ⟨bk2, hbk2⟩ : ∃ g, W1.heap.size = g := ⟨_, rfl⟩
 refine wlal hF M hbk2 rfl rfl rfl (rn_box (cs := #[.slice Aq nq cq, .int .i64 2]) rfl rfl hbk2) ?_; clear hF M a; intro W2 a M hF
 generalize bk2 = gq at *; generalize bk1 = gp at *
 have M2 := M.swap.imp (F' := fun W S => ((True ∧ True) ∧ OsAt W S Aq nq cq Q ovq) ∧ OsAt W S Ap np cp P ovp) (((stable_true.and stable_true).and (stable_os _ _ _ _ _)).and (stable_os _ _ _ _ _)) fun h => ⟨⟨⟨trivial, trivial⟩, h.2⟩, h.1⟩
 refine wlc hF (rn_call2 (u := .pointer (some ⟨gp, 0, none⟩)) (u' := .pointer (some ⟨gq, 0, none⟩)) rfl rfl rfl rfl Try.call64) (pair_any (stable_true.and stable_true) M2 h1 h2 (Nat.le_refl _) hB (Nat.lt_succ_self _)) rfl rfl rfl ?_; clear hF a
 clear M2; rintro e9 W9 ⟨A9, n9, c9, pvs, x1, x2, rfl, M⟩; refine ⟨_, rfl, ?_⟩; intro a hF
 revert a; refine qV (.slice A9 n9 c9) (rn_extract rfl rfl rfl) rfl ?_; refine qV (.bool ((behindS ((units P).length + (units Q).length + 1) P Q).isSome)) (rn_extract rfl rfl rfl) rfl ?_; refine qm (.slice A9 n9 c9) rfl ?_; refine qm (.bool ((behindS ((units P).length + (units Q).length + 1) P Q).isSome)) rfl ?_; intro a hF; refine wl0 ?_
 exact wp_ret (res_slots Try.results49 rfl rfl hF ⟨A9, n9, c9, pvs, rfl, M.bel, M.grown.2⟩)
end Go.Proofs.Ytbmjiokjigkdnaa
