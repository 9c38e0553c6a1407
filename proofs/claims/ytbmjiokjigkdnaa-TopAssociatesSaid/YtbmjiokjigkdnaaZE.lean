/-
  Part E of the proofs of TopAssociates and TopConverse.
-/
import Derived.Deep.CutBlock
import Derived.Deep.DeepCutAuto
import Derived.BigQuiet
import Derived.IntWalk
import Derived.Deep.RegionHeld3
import Derived.Test.YtbmjiokjigkdnaaZB
import Derived.Test.YtbmjiokjigkdnaaZC
set_option linter.unusedVariables false
set_option linter.unusedSimpArgs false
namespace Go.Proofs.Ytbmjiokjigkdnaa
open Go.RowKit Go.Proofs.Ytbmjiokjigkdnaa.Top
theorem EdAt.lens {w : World} {S : Nat → Prop} {e : Ed} {v : Ev} (h : EdAt w S e v) : ∃ k old new ws ks lk ops, e = .mk k old new ws ks lk ops ∧ v.k = k ∧ v.lk = lk ∧ v.wn = ws.length ∧ v.kn = ks.length ∧ v.on = ops.length ∧ v.wn ≤ 4398046511104 ∧ v.kn ≤ 676622540169 ∧ v.on ≤ 586406201480 ∧ TreeAt w S old v.old ∧ TreeAt w S new v.new := by
 obtain ⟨k, old, new, ws, ks, lk, ops⟩ := e
 obtain ⟨h1, h2, kv, ov, P⟩ := h.parts
 exact ⟨k, old, new, ws, ks, lk, ops, rfl, h1, h2, P.ws.len, P.ks.len, P.ops.len, P.ws.row.few, P.ks.row.few, P.ops.row.few, P.old, P.new⟩
set_option maxHeartbeats 1000000 in
theorem same_any (e : Ed) (v : Ev) (S : Nat → Prop) (w : World) (h : EdAt w S e v) (hS : ∀ b, S b → b < w.heap.size) :
  Calls Try.prog 41 #[.agg #[.int .i64 v.k, .int .i64 v.old.k, .slice v.old.A v.old.n v.old.c, .slice v.old.K v.old.m v.old.d, .int .i64 v.new.k, .slice v.new.A v.new.n v.new.c, .slice v.new.K v.new.m v.new.d, .slice v.W v.wn v.wc, .slice v.K v.kn v.kc, .int .i64 v.lk, .slice v.O v.on v.oc]] w (BoolP (e = nilE) w) := by
 obtain ⟨k, old, new, ws, ks, lk, ops, rfl, h1, h2, h3, h4, h5, b1, b2, b3, hO, hN⟩ := h.lens
 have HE : Hid (v.k = 0 → old = nilT → new = nilT → v.wn + v.kn + v.on = 0 → v.lk = 0 → Ed.mk k old new ws ks lk ops = nilE) := fun e1 e2 e3 e4 e5 => by
  have z1 : ws = [] := List.eq_nil_of_length_eq_zero (by omega)
  have z2 : ks = [] := List.eq_nil_of_length_eq_zero (by omega)
  have z3 : ops = [] := List.eq_nil_of_length_eq_zero (by omega)
  rw [← h1, ← h2, e1, e2, e3, z1, z2, z3, e5]
  rfl
 have HB : Hid (v.wn ≤ 4398046511104 ∧ v.kn ≤ 676622540169 ∧ v.on ≤ 586406201480) := ⟨b1, b2, b3⟩
 have HS := hide hS
 have HO := hide hO
 have HNW := hide hN
 clear h h1 h2 h3 h4 h5 hO hN hS b1 b2 b3
 have R := (Bx.nil w).box 30 #[.int .i64 v.k, .int .i64 v.old.k, .slice v.old.A v.old.n v.old.c, .slice v.old.K v.old.m v.old.d, .int .i64 v.new.k, .slice v.new.A v.new.n v.new.c, .slice v.new.K v.new.m v.new.d, .slice v.W v.wn v.wc, .slice v.K v.kn v.kc, .int .i64 v.lk, .slice v.O v.on v.oc] rfl
 have HC1 : Hid (∀ W, Below w.heap.size w W → Calls Try.prog 25 #[.agg #[.int .i64 v.old.k, .slice v.old.A v.old.n v.old.c, .slice v.old.K v.old.m v.old.d]] W (BoolP (old = nilT) W)) := fun W hW => none_any old v.old S W (HO.out.bel hW HS.out)
 have HC2 : Hid (∀ W, Below w.heap.size w W → Calls Try.prog 25 #[.agg #[.int .i64 v.new.k, .slice v.new.A v.new.n v.new.c, .slice v.new.K v.new.m v.new.d]] W (BoolP (new = nilT) W)) := fun W hW => none_any new v.new S W (HNW.out.bel hW HS.out)
 by_cases hk : v.k = 0
 ·have fk : (v.k == 0) = true := by simpa using hk
  replace hk := hide hk
  go_enter Try.func41, Try.ntmps41
  go_wp2_with fail
  refine (HC1.out _ R.bel).mono ?_
  rintro e w2 ⟨b1, rfl, h1, hb1⟩
  replace R := R.step hb1
  cases b1
  ·go_wp2_with fail
   go_ret
   exact BoolP.no R.bel
  ·have H1 := hide (h1 rfl)
   clear h1
   have c0 : w2.cell? ⟨w.heap.size, 4, none⟩ = some (.int .i64 v.new.k) := (R.b 0 rfl).cell 4
   have c1 : w2.cell? ⟨w.heap.size, 5, none⟩ = some (.slice v.new.A v.new.n v.new.c) := (R.b 0 rfl).cell 5
   have c2 : w2.cell? ⟨w.heap.size, 6, none⟩ = some (.slice v.new.K v.new.m v.new.d) := (R.b 0 rfl).cell 6
   go_wp2_with fail
   refine (HC2.out _ R.bel).mono ?_
   rintro e w3 ⟨b1, rfl, h1, hb2⟩
   clear c0 c1 c2
   replace R := R.step hb2
   cases b1
   ·go_wp2_with fail
    go_ret
    exact BoolP.no R.bel
   ·have H2 := hide (h1 rfl)
    clear h1
    have d0 : w3.cell? ⟨w.heap.size, 7, none⟩ = some (.slice v.W v.wn v.wc) := (R.b 0 rfl).cell 7
    have d1 : w3.cell? ⟨w.heap.size, 8, none⟩ = some (.slice v.K v.kn v.kc) := (R.b 0 rfl).cell 8
    have d2 : w3.cell? ⟨w.heap.size, 10, none⟩ = some (.slice v.O v.on v.oc) := (R.b 0 rfl).cell 10
    have d3 : w3.cell? ⟨w.heap.size, 9, none⟩ = some (.int .i64 v.lk) := (R.b 0 rfl).cell 9
    have g1 := HB.out.1
    have g2 := HB.out.2.1
    have g3 := HB.out.2.2
    by_cases hz : v.wn + v.kn + v.on = 0
    ·have fz : ((v.wn : Int) + (v.kn : Int) + (v.on : Int) == 0) = true := by simp; omega
     by_cases hl : v.lk = 0
     ·have fl : (v.lk == 0) = true := by simpa using hl
      replace hl := hide hl
      go_wp2_with fail
      go_ret
      exact BoolP.yes (HE.out hk.out H1.out H2.out hz hl.out) R.bel
     ·have fl : (v.lk == 0) = false := by simpa using hl
      clear hl
      go_wp2_with fail
      go_ret
      exact BoolP.no R.bel
    ·have fz : ((v.wn : Int) + (v.kn : Int) + (v.on : Int) == 0) = false := by simp; omega
     go_wp2_with fail
     go_ret
     exact BoolP.no R.bel
 ·have fk : (v.k == 0) = false := by simpa using hk
  clear hk
  go_enter Try.func41, Try.ntmps41
  go_wp2_with fail
  go_ret
  exact BoolP.no R.bel
def lenA : List Opn → Nat
 | [] => 0
 | o :: r => (if o.kindO = 2 then 0 else sizeS o) + lenA r
def lenB : List Opn → Nat
 | [] => 0
 | o :: r => (if o.kindO = 1 then 0 else sizeS o) + lenB r
theorem lenA_app : ∀ (p q : List Opn), lenA (p ++ q) = lenA p + lenA q
 | [], q => by simp [lenA]
 | o :: p, q => by rw [List.cons_append, lenA, lenA, lenA_app p q]; omega
theorem lenB_app : ∀ (p q : List Opn), lenB (p ++ q) = lenB p + lenB q
 | [], q => by simp [lenB]
 | o :: p, q => by rw [List.cons_append, lenB, lenB, lenB_app p q]; omega
theorem units_lens : ∀ (l : List Opn), (∀ o ∈ l, neatS o) → (units l).length ≤ lenA l + lenB l
 | [], _ => by simp [units]
 | .mk kind n l e :: r, h => by
  have h1 := units_lens r fun o ho => h o (List.mem_cons_of_mem _ ho)
  have h2 := h _ (List.mem_cons_self ..)
  rw [neatS] at h2
  rw [units, List.length_append, lenA, lenB]
  have : (unitsOf (.mk kind n l e)).length ≤ sizeS (.mk kind n l e) := by
   rw [sizeS]
   by_cases k3 : kind = 3
   ·subst k3; simp [unitsOf]
   ·rw [if_neg k3]
    by_cases k0 : kind = 0
    ·subst k0; simp [unitsOf]
    ·by_cases k1 : kind = 1
     ·subst k1; simp [unitsOf]
     ·have k2 : kind = 2 := by omega
      subst k2; simp [unitsOf]
  show _ + _ ≤ (if kind = 2 then 0 else _) + _ + ((if kind = 1 then 0 else _) + _)
  split <;> split <;> omega
end Go.Proofs.Ytbmjiokjigkdnaa
namespace Go.Proofs.Ytbmjiokjigkdnaa
open Go.RowKit Go.Proofs.Ytbmjiokjigkdnaa.Top
def capO (o : Opn) : Prop := 0 ≤ o.kindO ∧ o.kindO ≤ 3 ∧ 0 ≤ o.nO ∧ o.nO ≤ 1048576
inductive CapE : Ed → Prop
 | mk (k : Int) (old new : T) (ws : List WE) (ks : List KEd) (lk : Int) (ops : List Opn) : (∀ w ∈ ws, w.at_ ≤ 65534) → (∀ x ∈ ks, x.at_ ≤ 65534) → (∀ x ∈ ks, CapE x.e) → (∀ o ∈ ops, capO o) → (∀ o ∈ ops, CapE o.eO) → CapE (.mk k old new ws ks lk ops)
def LenPost (ops : List Opn) (w : World) (e : Ending) (w' : World) : Prop := ∃ a b : Nat, e = .returned (.tuple #[.int .i64 a, .int .i64 b]) ∧ a = min 1048576 (lenA ops) ∧ b = min 1048576 (lenB ops) ∧ Below w.heap.size w w'
theorem sizeS_cap {o : Opn} (h : capO o) : (sizeS o : Int) = if o.kindO = 3 then 1 else o.nO + (o.lO.length : Int) := by
 obtain ⟨kind, n, l, e⟩ := o
 have h3 : 0 ≤ n := h.2.2.1
 show ((if kind = 3 then 1 else n.toNat + l.length : Nat) : Int) = if kind = 3 then 1 else n + (l.length : Int)
 split
 ·rfl
 ·omega
set_option maxRecDepth 100000 in
set_option maxHeartbeats 8000000 in
theorem lengths_any (k : Int) (old new : T) (ws : List WE) (ks : List KEd) (lk : Int) (ops : List Opn) (v : Ev) (S : Nat → Prop) (w : World) (h : EdAt w S (.mk k old new ws ks lk ops) v) (hS : ∀ b, S b → b < w.heap.size) (hc : ∀ o ∈ ops, capO o) :
  Calls Try.prog 28 #[.agg #[.int .i64 v.k, .int .i64 v.old.k, .slice v.old.A v.old.n v.old.c, .slice v.old.K v.old.m v.old.d, .int .i64 v.new.k, .slice v.new.A v.new.n v.new.c, .slice v.new.K v.new.m v.new.d, .slice v.W v.wn v.wc, .slice v.K v.kn v.kc, .int .i64 v.lk, .slice v.O v.on v.oc]] w (LenPost ops w) := by
 obtain ⟨hk, hlk, kv, ov, P⟩ := h.parts
 have HOS := hide P.ops
 have HON : Hid (v.on = ops.length) := P.ops.len
 have hon : v.on ≤ 586406201480 := P.ops.row.few
 have HC := hide hc
 have HS := hide hS
 clear h P hc hS hk hlk
 have R := (Bx.nil w).box 30 #[.int .i64 v.k, .int .i64 v.old.k, .slice v.old.A v.old.n v.old.c, .slice v.old.K v.old.m v.old.d, .int .i64 v.new.k, .slice v.new.A v.new.n v.new.c, .slice v.new.K v.new.m v.new.d, .slice v.W v.wn v.wc, .slice v.K v.kn v.kc, .int .i64 v.lk, .slice v.O v.on v.oc] rfl
 go_enter Try.func28, Try.ntmps28
 go_upto_region 3 with fail
 generalize w.alloc (.cells #[.int .i64 v.k, .int .i64 v.old.k, .slice v.old.A v.old.n v.old.c, .slice v.old.K v.old.m v.old.d, .int .i64 v.new.k, .slice v.new.A v.new.n v.new.c, .slice v.new.K v.new.m v.new.d, .slice v.W v.wn v.wc, .slice v.K v.kn v.kc, .int .i64 v.lk, .slice v.O v.on v.oc] 30) = w1 at *
 go_loopw [4, 5, 6] (fun s4 s5 ix wr => ∃ (a b q : Nat), s4 = .int .i64 a ∧ s5 = .int .i64 b ∧ ix = .int .i64 q ∧ q ≤ v.on ∧ a ≤ 1048576 ∧ b ≤ 1048576 ∧ Hid (a = min 1048576 (lenA (ops.take q)) ∧ b = min 1048576 (lenB (ops.take q))) ∧ Bx w wr [⟨w.heap.size, 30, #[.int .i64 v.k, .int .i64 v.old.k, .slice v.old.A v.old.n v.old.c, .slice v.old.K v.old.m v.old.d, .int .i64 v.new.k, .slice v.new.A v.new.n v.new.c, .slice v.new.K v.new.m v.new.d, .slice v.W v.wn v.wc, .slice v.K v.kn v.kc, .int .i64 v.lk, .slice v.O v.on v.oc]⟩]) (fun _ _ ix _ => v.on - (intOf ix).toNat)
 case atStart => exact ⟨0, 0, 0, rfl, rfl, rfl, by omega, by omega, by omega, ⟨by simp [lenA], by simp [lenB]⟩, R⟩
 case round =>
  obtain ⟨a, b, q, rfl, rfl, rfl, hq, ha, hb, HL, R⟩ := hrel
  have c0 : wr.cell? ⟨w.heap.size, 10, none⟩ = some (.slice v.O v.on v.oc) := (R.b 0 rfl).cell 10
  by_cases hlt : q < v.on
  ·have hl1 : q < ops.length := by rw [← HON.out]; exact hlt
   obtain ⟨bo, oo, o, hO, hbo, HOC, HOA⟩ := HOS.out.at hl1
   have hcap := HC.out ops[q] (List.getElem_mem hl1)
   have hsz := sizeS_cap hcap
   rw [← HOA.k, ← HOA.n] at hsz
   obtain ⟨lv, hlv⟩ := HOA.l
   have hll : o.ln = ops[q].lO.length := hlv.len
   rw [← hll] at hsz
   have hlf : o.ln ≤ 2513169434843 := by rw [hlv.len]; exact hlv.few
   have hcap2 : 0 ≤ o.k ∧ o.k ≤ 3 ∧ 0 ≤ o.n ∧ o.n ≤ 1048576 := by rw [HOA.k, HOA.n]; exact hcap
   have HST : Hid (lenA (ops.take (q + 1)) = lenA (ops.take q) + (if o.k = 2 then 0 else sizeS ops[q]) ∧ lenB (ops.take (q + 1)) = lenB (ops.take q) + (if o.k = 1 then 0 else sizeS ops[q])) := by
    rw [List.take_succ_eq_append_getElem hl1, lenA_app, lenB_app, HOA.k]
    exact ⟨rfl, rfl⟩
   obtain ⟨x0, x1, x2, x3, x4, x5, x6, x7, x8, x9, x10, x11, x12, x13⟩ := HOC.keep (w' := wr) (fun p hp => R.bel.cell (by rw [hp]; exact HS.out _ hbo))
   have hbw : bo < wr.heap.size := by have := HS.out _ hbo; have := R.size; omega
   generalize sizeS ops[q] = sz at *
   obtain ⟨h0, h3, hn0, hn1⟩ := hcap2
   clear HOC HOA hcap hll hlv
   rw [hO] at c0
   clear hO
   go_upto_region 7 with fail
   replace R := R.other (.cells #[.int .i64 o.k, .int .i64 o.n, .slice o.L o.ln o.lc, .int .i64 o.e.k, .int .i64 o.e.old.k, .slice o.e.old.A o.e.old.n o.e.old.c, .slice o.e.old.K o.e.old.m o.e.old.d, .int .i64 o.e.new.k, .slice o.e.new.A o.e.new.n o.e.new.c, .slice o.e.new.K o.e.new.m o.e.new.d, .slice o.e.W o.e.wn o.e.wc, .slice o.e.K o.e.kn o.e.kc, .int .i64 o.e.lk, .slice o.e.O o.e.on o.e.oc] 47)
   have hB := Blk.new wr 47 #[.int .i64 o.k, .int .i64 o.n, .slice o.L o.ln o.lc, .int .i64 o.e.k, .int .i64 o.e.old.k, .slice o.e.old.A o.e.old.n o.e.old.c, .slice o.e.old.K o.e.old.m o.e.old.d, .int .i64 o.e.new.k, .slice o.e.new.A o.e.new.n o.e.new.c, .slice o.e.new.K o.e.new.m o.e.new.d, .slice o.e.W o.e.wn o.e.wc, .slice o.e.K o.e.kn o.e.kc, .int .i64 o.e.lk, .slice o.e.O o.e.on o.e.oc]
   clear x0 x1 x2 x3 x4 x5 x6 x7 x8 x9 x10 x11 x12 x13 c0
   generalize wr.alloc (.cells #[.int .i64 o.k, .int .i64 o.n, .slice o.L o.ln o.lc, .int .i64 o.e.k, .int .i64 o.e.old.k, .slice o.e.old.A o.e.old.n o.e.old.c, .slice o.e.old.K o.e.old.m o.e.old.d, .int .i64 o.e.new.k, .slice o.e.new.A o.e.new.n o.e.new.c, .slice o.e.new.K o.e.new.m o.e.new.d, .slice o.e.W o.e.wn o.e.wc, .slice o.e.K o.e.kn o.e.kc, .int .i64 o.e.lk, .slice o.e.O o.e.on o.e.oc] 47) = w3 at *
   generalize wr.heap.size = g3 at *
   have y0 : w3.cell? ⟨g3, 0, none⟩ = some (.int .i64 o.k) := hB.cell 0
   generalize o.k = kk at *
   have hcs : kk = 0 ∨ kk = 1 ∨ kk = 2 ∨ kk = 3 := by omega
   rcases hcs with e | e | e | e
   ·subst e
    have hst := HST.out
    simp at hst hsz
    replace hst := hide hst
    replace hsz := hide hsz
    have hz1 : Hid ((sz : Int) = o.n + (o.ln : Int)) := hsz.out
    clear HST hsz
    have hbnd : o.n + (o.ln : Int) ≤ 2513170483419 := by omega
    go_wp2_with fail
    all_goals
     go_roundw
     case rel => exact ⟨min 1048576 (a + sz), min 1048576 (b + sz), q + 1, congrArg (Value.int .i64) (by have := hz1.out; omega), congrArg (Value.int .i64) (by have := hz1.out; omega), by go_num, by omega, by omega, by omega, ⟨by have h1 := HL.out.1; have h2 := hst.out.1; omega, by have h1 := HL.out.2; have h2 := hst.out.2; omega⟩, R⟩
     case measure => simp [intOf]; omega
   ·subst e
    have hst := HST.out
    simp at hst hsz
    replace hst := hide hst
    replace hsz := hide hsz
    have hz1 : Hid ((sz : Int) = o.n + (o.ln : Int)) := hsz.out
    clear HST hsz
    have hbnd : o.n + (o.ln : Int) ≤ 2513170483419 := by omega
    go_wp2_with fail
    all_goals
     go_roundw
     case rel => exact ⟨min 1048576 (a + sz), min 1048576 (b + 0), q + 1, congrArg (Value.int .i64) (by have := hz1.out; omega), congrArg (Value.int .i64) (by have := hz1.out; omega), by go_num, by omega, by omega, by omega, ⟨by have h1 := HL.out.1; have h2 := hst.out.1; omega, by have h1 := HL.out.2; have h2 := hst.out.2; omega⟩, R⟩
     case measure => simp [intOf]; omega
   ·subst e
    have hst := HST.out
    simp at hst hsz
    replace hst := hide hst
    replace hsz := hide hsz
    have hz1 : Hid ((sz : Int) = o.n + (o.ln : Int)) := hsz.out
    clear HST hsz
    have hbnd : o.n + (o.ln : Int) ≤ 2513170483419 := by omega
    go_wp2_with fail
    all_goals
     go_roundw
     case rel => exact ⟨min 1048576 (a + 0), min 1048576 (b + sz), q + 1, congrArg (Value.int .i64) (by have := hz1.out; omega), congrArg (Value.int .i64) (by have := hz1.out; omega), by go_num, by omega, by omega, by omega, ⟨by have h1 := HL.out.1; have h2 := hst.out.1; omega, by have h1 := HL.out.2; have h2 := hst.out.2; omega⟩, R⟩
     case measure => simp [intOf]; omega
   ·subst e
    have hst := HST.out
    simp at hst hsz
    replace hst := hide hst
    replace hsz := hide hsz
    have hz1 : Hid ((sz : Int) = 1) := by show _ = _; have := hsz.out; omega
    clear HST hsz
    have hbnd : o.n + (o.ln : Int) ≤ 2513170483419 := by omega
    by_cases ha1 : a = 1048576
    ·have fa : decide ((1048576 : Int) < (a : Int) + 1) = true := by simp; omega
     replace ha1 := hide ha1
     by_cases hb1 : b = 1048576
     ·have fb : decide ((1048576 : Int) < (b : Int) + 1) = true := by simp; omega
      replace hb1 := hide hb1
      go_wp2_with fail
      go_roundw
      case rel => exact ⟨min 1048576 (a + sz), min 1048576 (b + sz), q + 1, congrArg (Value.int .i64) (by have := hz1.out; have := ha1.out; have := hb1.out; omega), congrArg (Value.int .i64) (by have := hz1.out; have := ha1.out; have := hb1.out; omega), by go_num, by omega, by omega, by omega, ⟨by have h1 := HL.out.1; have h2 := hst.out.1; omega, by have h1 := HL.out.2; have h2 := hst.out.2; omega⟩, R⟩
      case measure => simp [intOf]; omega
     ·have fb : decide ((1048576 : Int) < (b : Int) + 1) = false := by simp; omega
      replace hb1 := hide hb1
      go_wp2_with fail
      go_roundw
      case rel => exact ⟨min 1048576 (a + sz), min 1048576 (b + sz), q + 1, congrArg (Value.int .i64) (by have := hz1.out; have := ha1.out; have := hb1.out; omega), congrArg (Value.int .i64) (by have := hz1.out; have := ha1.out; have := hb1.out; omega), by go_num, by omega, by omega, by omega, ⟨by have h1 := HL.out.1; have h2 := hst.out.1; omega, by have h1 := HL.out.2; have h2 := hst.out.2; omega⟩, R⟩
      case measure => simp [intOf]; omega
    ·have fa : decide ((1048576 : Int) < (a : Int) + 1) = false := by simp; omega
     replace ha1 := hide ha1
     by_cases hb1 : b = 1048576
     ·have fb : decide ((1048576 : Int) < (b : Int) + 1) = true := by simp; omega
      replace hb1 := hide hb1
      go_wp2_with fail
      go_roundw
      case rel => exact ⟨min 1048576 (a + sz), min 1048576 (b + sz), q + 1, congrArg (Value.int .i64) (by have := hz1.out; have := ha1.out; have := hb1.out; omega), congrArg (Value.int .i64) (by have := hz1.out; have := ha1.out; have := hb1.out; omega), by go_num, by omega, by omega, by omega, ⟨by have h1 := HL.out.1; have h2 := hst.out.1; omega, by have h1 := HL.out.2; have h2 := hst.out.2; omega⟩, R⟩
      case measure => simp [intOf]; omega
     ·have fb : decide ((1048576 : Int) < (b : Int) + 1) = false := by simp; omega
      replace hb1 := hide hb1
      go_wp2_with fail
      go_roundw
      case rel => exact ⟨min 1048576 (a + sz), min 1048576 (b + sz), q + 1, congrArg (Value.int .i64) (by have := hz1.out; have := ha1.out; have := hb1.out; omega), congrArg (Value.int .i64) (by have := hz1.out; have := ha1.out; have := hb1.out; omega), by go_num, by omega, by omega, by omega, ⟨by have h1 := HL.out.1; have h2 := hst.out.1; omega, by have h1 := HL.out.2; have h2 := hst.out.2; omega⟩, R⟩
      case measure => simp [intOf]; omega
  ·go_wp2_with fail
   (try simp only [Exit.inBlock, Exit.then])
   refine bodyPost_ret (v := .tuple #[.int .i64 a, .int .i64 b]) (by simp [results, Try.results28, go_sem]; try rfl) rfl ?_
   refine ⟨a, b, rfl, ?_, ?_, R.bel⟩
   ·have h1 := HL.out.1
    rw [List.take_of_length_le (by have := HON.out; omega)] at h1
    exact h1
   ·have h1 := HL.out.2
    rw [List.take_of_length_le (by have := HON.out; omega)] at h1
    exact h1
inductive LightE : Ed → Prop
 | mk (k : Int) (old new : T) (ws : List WE) (ks : List KEd) (lk : Int) (ops : List Opn) : lenA ops ≤ 2000 → lenB ops ≤ 2000 → (∀ x ∈ ks, LightE x.e) → (∀ o ∈ ops, LightE o.eO) → LightE (.mk k old new ws ks lk ops)
theorem CapE.parts {k : Int} {old new : T} {ws : List WE} {ks : List KEd} {lk : Int} {ops : List Opn} (h : CapE (.mk k old new ws ks lk ops)) : (∀ w ∈ ws, w.at_ ≤ 65534) ∧ (∀ x ∈ ks, x.at_ ≤ 65534) ∧ (∀ x ∈ ks, CapE x.e) ∧ (∀ o ∈ ops, capO o) ∧ ∀ o ∈ ops, CapE o.eO := by
 cases h with
 | mk _ _ _ _ _ _ _ h1 h2 h3 h4 h5 => exact ⟨h1, h2, h3, h4, h5⟩
theorem dE_kid {k : Int} {old new : T} {ws : List WE} {ks : List KEd} {lk : Int} {ops : List Opn} {N : Nat} (h : dE (.mk k old new ws ks lk ops) ≤ N + 1) : (∀ x ∈ ks, dE x.e ≤ N) ∧ ∀ o ∈ ops, dE o.eO ≤ N := by
 rw [dE] at h
 exact ⟨fun x hx => by have := dK_mem (l := ks) x hx; omega, fun o ho => by have := dO_mem (l := ops) o ho; omega⟩
set_option maxRecDepth 100000 in
set_option maxHeartbeats 8000000 in
theorem light_any (N : Nat) : ∀ (e : Ed) (v : Ev) (S : Nat → Prop) (w : World), dE e ≤ N → EdAt w S e v → (∀ b, S b → b < w.heap.size) → CapE e →
  Calls Try.prog 15 #[.agg #[.int .i64 v.k, .int .i64 v.old.k, .slice v.old.A v.old.n v.old.c, .slice v.old.K v.old.m v.old.d, .int .i64 v.new.k, .slice v.new.A v.new.n v.new.c, .slice v.new.K v.new.m v.new.d, .slice v.W v.wn v.wc, .slice v.K v.kn v.kc, .int .i64 v.lk, .slice v.O v.on v.oc]] w (BoolP (LightE e) w) := by
 induction N with
 | zero =>
  intro e v S w hN
  obtain ⟨k, old, new, ws, ks, lk, ops⟩ := e
  rw [dE] at hN
  omega
 | succ N ih =>
  intro e v S w hN h hS hc
  obtain ⟨k, old, new, ws, ks, lk, ops⟩ := e
  obtain ⟨hk, hlk, kv, ov, P⟩ := h.parts
  obtain ⟨_, _, hck, hco, hce⟩ := hc.parts
  obtain ⟨hdk, hdo⟩ := dE_kid hN
  have HEd := hide h
  have HOS := hide P.ops
  have HKS := hide P.ks
  have HON : Hid (v.on = ops.length) := P.ops.len
  have HKN : Hid (v.kn = ks.length) := P.ks.len
  have hon : v.on ≤ 586406201480 := P.ops.row.few
  have hkn : v.kn ≤ 676622540169 := P.ks.row.few
  have HC := hide hco
  have HS := hide hS
  have HIK : Hid (∀ x ∈ ks, dE x.e ≤ N ∧ CapE x.e) := fun x hx => ⟨hdk x hx, hck x hx⟩
  have HIO : Hid (∀ o ∈ ops, dE o.eO ≤ N ∧ CapE o.eO) := fun o ho => ⟨hdo o ho, hce o ho⟩
  have HIH := hide ih
  clear h P hc hS hk hlk hck hco hce hdk hdo ih hN
  have R := (Bx.nil w).box 30 #[.int .i64 v.k, .int .i64 v.old.k, .slice v.old.A v.old.n v.old.c, .slice v.old.K v.old.m v.old.d, .int .i64 v.new.k, .slice v.new.A v.new.n v.new.c, .slice v.new.K v.new.m v.new.d, .slice v.W v.wn v.wc, .slice v.K v.kn v.kc, .int .i64 v.lk, .slice v.O v.on v.oc] rfl
  have HLC := hide (lengths_any k old new ws ks lk ops v S (w.alloc (.cells #[.int .i64 v.k, .int .i64 v.old.k, .slice v.old.A v.old.n v.old.c, .slice v.old.K v.old.m v.old.d, .int .i64 v.new.k, .slice v.new.A v.new.n v.new.c, .slice v.new.K v.new.m v.new.d, .slice v.W v.wn v.wc, .slice v.K v.kn v.kc, .int .i64 v.lk, .slice v.O v.on v.oc] 30)) (HEd.out.bel R.bel HS.out) (fun b hb => by have := HS.out b hb; have := R.size; omega) HC.out)
  go_enter Try.func15, Try.ntmps15
  go_wp2_with fail
  refine HLC.out.mono ?_
  rintro e w1 ⟨a, b, rfl, ha, hb, hb1⟩
  replace R := R.step hb1
  have HA := hide ha
  have HB := hide hb
  have ha2 : a ≤ 1048576 := by omega
  have hb2 : b ≤ 1048576 := by omega
  clear ha hb hb1 HLC
  generalize w.alloc (.cells #[.int .i64 v.k, .int .i64 v.old.k, .slice v.old.A v.old.n v.old.c, .slice v.old.K v.old.m v.old.d, .int .i64 v.new.k, .slice v.new.A v.new.n v.new.c, .slice v.new.K v.new.m v.new.d, .slice v.W v.wn v.wc, .slice v.K v.kn v.kc, .int .i64 v.lk, .slice v.O v.on v.oc] 30) = w0 at *
  by_cases h1 : 2000 < a
  ·have f1 : decide ((2000 : Int) < (a : Int)) = true := by simp; omega
   go_wp2_with fail
   go_ret
   exact BoolP.no R.bel
  ·have f1 : decide ((2000 : Int) < (a : Int)) = false := by simp; omega
   by_cases h2 : 2000 < b
   ·have f2 : decide ((2000 : Int) < (b : Int)) = true := by simp; omega
    go_wp2_with fail
    go_ret
    exact BoolP.no R.bel
   ·have f2 : decide ((2000 : Int) < (b : Int)) = false := by simp; omega
    have HLL : Hid (lenA ops ≤ 2000 ∧ lenB ops ≤ 2000) := ⟨by have := HA.out; omega, by have := HB.out; omega⟩
    go_wp2_with fail
    clear h1 h2 f1 f2 HA HB ha2 hb2
    go_loopw [5] (fun ix wr => ∃ (q : Nat), ix = .int .i64 q ∧ q ≤ v.kn ∧ Hid (∀ i (h : i < ks.length), i < q → LightE ks[i].e) ∧ Bx w wr [⟨w.heap.size, 30, #[.int .i64 v.k, .int .i64 v.old.k, .slice v.old.A v.old.n v.old.c, .slice v.old.K v.old.m v.old.d, .int .i64 v.new.k, .slice v.new.A v.new.n v.new.c, .slice v.new.K v.new.m v.new.d, .slice v.W v.wn v.wc, .slice v.K v.kn v.kc, .int .i64 v.lk, .slice v.O v.on v.oc]⟩]) (fun ix _ => v.kn - (intOf ix).toNat)
    case atStart => exact ⟨0, rfl, by omega, fun i h1 h2 => by omega, R⟩
    case round =>
     obtain ⟨q, rfl, hq, HQ, R2⟩ := hrel
     clear R
     have c0 : wr.cell? ⟨w.heap.size, 8, none⟩ = some (.slice v.K v.kn v.kc) := (R2.b 0 rfl).cell 8
     by_cases hlt : q < v.kn
     ·have hl1 : q < ks.length := by rw [← HKN.out]; exact hlt
      obtain ⟨bo, oo, o, hO, hbo, hat, HEC, HEA⟩ := HKS.out.at hl1
      obtain ⟨x0, x1, x2, x3, x4, x5, x6, x7, x8, x9, x10⟩ := HEC.keep (w' := wr) (fun p hp => R2.bel.cell (by rw [hp]; exact HS.out _ hbo))
      have HCL : Hid (Calls Try.prog 15 #[.agg #[.int .i64 o.k, .int .i64 o.old.k, .slice o.old.A o.old.n o.old.c, .slice o.old.K o.old.m o.old.d, .int .i64 o.new.k, .slice o.new.A o.new.n o.new.c, .slice o.new.K o.new.m o.new.d, .slice o.W o.wn o.wc, .slice o.K o.kn o.kc, .int .i64 o.lk, .slice o.O o.on o.oc]] wr (BoolP (LightE ks[q].e) wr)) :=
       HIH.out _ o S wr (HIK.out _ (List.getElem_mem hl1)).1 (HEA.bel R2.bel HS.out) (fun b hb => by have := HS.out b hb; have := R2.size; omega) (HIK.out _ (List.getElem_mem hl1)).2
      clear HEC HEA hat
      rw [hO] at c0
      clear hO
      go_wp2_with fail
      refine HCL.out.mono ?_
      rintro e w3 ⟨b, rfl, hb, hb3⟩
      replace R2 := R2.step hb3
      clear x0 x1 x2 x3 x4 x5 x6 x7 x8 x9 x10 c0
      cases b
      ·go_wp2_with fail
       go_ret
       exact BoolP.no R2.bel
      ·have HBB := hide (hb rfl)
       clear hb
       go_wp2_with fail
       go_roundw
       case rel => exact ⟨q + 1, by go_num, by omega, fun i h1 h2 => by
        by_cases e : i = q
        ·subst e; exact HBB.out
        ·exact HQ.out i h1 (by omega), R2⟩
       case measure => simp [intOf]; omega
     ·have HKD : Hid (∀ x ∈ ks, LightE x.e) := fun x hx => by
       obtain ⟨i, hi, rfl⟩ := List.mem_iff_getElem.1 hx
       exact HQ.out i hi (by have := HKN.out; omega)
      clear HQ
      go_wp2_with fail
      go_loopw [6] (fun ix wr => ∃ (q : Nat), ix = .int .i64 q ∧ q ≤ v.on ∧ Hid (∀ i (h : i < ops.length), i < q → LightE ops[i].eO) ∧ Bx w wr [⟨w.heap.size, 30, #[.int .i64 v.k, .int .i64 v.old.k, .slice v.old.A v.old.n v.old.c, .slice v.old.K v.old.m v.old.d, .int .i64 v.new.k, .slice v.new.A v.new.n v.new.c, .slice v.new.K v.new.m v.new.d, .slice v.W v.wn v.wc, .slice v.K v.kn v.kc, .int .i64 v.lk, .slice v.O v.on v.oc]⟩]) (fun ix _ => v.on - (intOf ix).toNat)
      case atStart => exact ⟨0, rfl, by omega, fun i h1 h2 => by omega, R2⟩
      case round =>
       obtain ⟨p, rfl, hp, HQ, R3⟩ := hrel
       clear R2 c0 hlt
       rename World => wz
       have c0 : wz.cell? ⟨w.heap.size, 10, none⟩ = some (.slice v.O v.on v.oc) := (R3.b 0 rfl).cell 10
       by_cases hlt : p < v.on
       ·have hl1 : p < ops.length := by rw [← HON.out]; exact hlt
        obtain ⟨bo, oo, o, hO, hbo, HEC, HEA⟩ := HOS.out.at hl1
        obtain ⟨y0, y1, y2, x0, x1, x2, x3, x4, x5, x6, x7, x8, x9, x10⟩ := HEC.keep (w' := wz) (fun p hp => R3.bel.cell (by rw [hp]; exact HS.out _ hbo))
        have HCL : Hid (Calls Try.prog 15 #[.agg #[.int .i64 o.e.k, .int .i64 o.e.old.k, .slice o.e.old.A o.e.old.n o.e.old.c, .slice o.e.old.K o.e.old.m o.e.old.d, .int .i64 o.e.new.k, .slice o.e.new.A o.e.new.n o.e.new.c, .slice o.e.new.K o.e.new.m o.e.new.d, .slice o.e.W o.e.wn o.e.wc, .slice o.e.K o.e.kn o.e.kc, .int .i64 o.e.lk, .slice o.e.O o.e.on o.e.oc]] wz (BoolP (LightE ops[p].eO) wz)) :=
         HIH.out _ o.e S wz (HIO.out _ (List.getElem_mem hl1)).1 (HEA.e.bel R3.bel HS.out) (fun b hb => by have := HS.out b hb; have := R3.size; omega) (HIO.out _ (List.getElem_mem hl1)).2
        clear HEC HEA y0 y1 y2
        rw [hO] at c0
        clear hO
        go_wp2_with fail
        refine HCL.out.mono ?_
        rintro e w3 ⟨b, rfl, hb, hb3⟩
        replace R3 := R3.step hb3
        clear x0 x1 x2 x3 x4 x5 x6 x7 x8 x9 x10 c0
        cases b
        ·go_wp2_with fail
         go_ret
         exact BoolP.no R3.bel
        ·have HBB := hide (hb rfl)
         clear hb
         go_wp2_with fail
         go_roundw
         case rel => exact ⟨p + 1, by go_num, by omega, fun i h1 h2 => by
          by_cases e : i = p
          ·subst e; exact HBB.out
          ·exact HQ.out i h1 (by omega), R3⟩
         case measure => simp [intOf]; omega
       ·have HOD : Hid (∀ x ∈ ops, LightE x.eO) := fun x hx => by
         obtain ⟨i, hi, rfl⟩ := List.mem_iff_getElem.1 hx
         exact HQ.out i hi (by have := HON.out; omega)
        go_wp2_with fail
        go_ret
        exact BoolP.yes (.mk _ _ _ _ _ _ _ HLL.out.1 HLL.out.2 HKD.out HOD.out) R3.bel
end Go.Proofs.Ytbmjiokjigkdnaa
namespace Go.Proofs.Ytbmjiokjigkdnaa
open Go.RowKit Go.Proofs.Ytbmjiokjigkdnaa.Top
def ShB (P : Prop) (left : Int) (w : World) (e : Ending) (w' : World) : Prop := ∃ r : Int, e = .returned (.int .i64 r) ∧ -20000000000000 ≤ r ∧ r ≤ 3000 ∧ (0 ≤ r → r + 1 ≤ left ∧ P) ∧ Below w.heap.size w w'
set_option maxRecDepth 100000 in
set_option maxHeartbeats 8000000 in
theorem shallowB_any (N : Nat) : ∀ (t : T) (v : Tv) (S : Nat → Prop) (deep left : Int) (w : World), SizeOf.sizeOf t ≤ N → TreeAt w S t v → (∀ b, S b → b < w.heap.size) → 0 ≤ deep → deep ≤ 80 → 0 ≤ left → left ≤ 3000 →
  Calls Try.prog 29 #[v.val, .int .i64 deep, .int .i64 left] w (ShB (bdT 3000 t) left w) := by
 induction N with
 | zero =>
  intro t v S deep left w hN
  obtain ⟨k, ws, ks⟩ := t
  rw [T.node.sizeOf_spec] at hN
  omega
 | succ N ih =>
  intro t v S deep left w hN h hS hd0 hd1 hl0 hl1
  obtain ⟨k, ws, ks⟩ := t
  have hW := h.words
  obtain ⟨kv, hK⟩ := h.kids
  have hkk : k = v.k := h.kind
  obtain ⟨k', A, n, c, K, m, d⟩ := v
  simp only at hW hK hkk
  subst hkk
  have HIH : Hid (∀ i (hi : i < ks.length), SizeOf.sizeOf ks[i] ≤ N) := fun i hi => by have := T.size_kid (k := k) (ws := ws) hi; omega
  have HM : Hid (m = ks.length) := hK.len
  have HNW : Hid (n = ws.length) := hW.len
  have hmb : m ≤ 2513169434843 := by rw [hK.len]; exact hK.few
  have hnb : n ≤ 17592186043904 := by rw [hW.len]; exact hW.few
  have HK := hide hK
  have HS := hide hS
  clear h hN hW hK hS
  show Calls _ _ #[.agg #[.int .i64 k, .slice A n c, .slice K m d], _, _] _ _
  have hB1 := Blk.new w 25 #[.int .i64 k, .slice A n c, .slice K m d]
  have hb1 : Below w.heap.size w (w.alloc (.cells #[.int .i64 k, .slice A n c, .slice K m d] 25)) := (Below.refl _ _).alloc (Nat.le_refl _) _
  by_cases hd : deep = 0
  ·have fd : (deep == 0) = true := by simpa using hd
   replace hd := hide hd
   go_enter Try.func29, Try.ntmps29
   go_wp2_with fail
   go_ret
   exact ⟨-1, rfl, by decide, by decide, fun h => by omega, hb1⟩
  ·have fd : (deep == 0) = false := by simpa using hd
   by_cases hlt : left - 1 - (n : Int) < 0
   ·have fl : decide (left - 1 - (n : Int) < 0) = true := by simpa using hlt
    go_enter Try.func29, Try.ntmps29
    go_wp2_with fail
    go_ret
    exact ⟨-1, rfl, by decide, by decide, fun h => by omega, hb1⟩
   ·have fl : decide (left - 1 - (n : Int) < 0) = false := by simpa using hlt
    have HN3 : Hid (ws.length ≤ 3000) := by show _ ≤ _; have := HNW.out; omega
    go_enter Try.func29, Try.ntmps29
    go_wp2_with fail
    go_loopw [2, 7] (fun s2 s7 wr => ∃ (r : Int) (i : Nat), s2 = .int .i64 r ∧ -20000000000000 ≤ r ∧ r ≤ 3000 ∧ s7 = .int .i64 i ∧ i ≤ m ∧ Blk wr w.heap.size 25 #[.int .i64 k, .slice A n c, .slice K m d] ∧ Below w.heap.size w wr ∧ Hid (0 ≤ r → r + i + 1 ≤ left ∧ ∀ j (h : j < ks.length), j < i → bdT 3000 ks[j])) (fun _ s7 _ => m - (intOf s7).toNat)
    case atStart => exact ⟨left - 1 - n, 0, rfl, by omega, by omega, rfl, by omega, hB1, hb1, fun h => ⟨by omega, fun j h1 h2 => by omega⟩⟩
    case round =>
     obtain ⟨r, i, rfl, hr0, hr1, rfl, hi, hB1r, hbr, HJ⟩ := hrel
     clear hB1 hb1 hlt fl
     have c2 := hB1r.cell 2
     simp at c2
     by_cases him : i < m
     ·have hl1 : i < ks.length := by rw [← HM.out]; exact him
      have fi : decide ((i : Int) < (m : Int)) = true := by simp; omega
      by_cases hr : 0 ≤ r
      ·have fr : decide (0 ≤ r) = true := by simpa using hr
       obtain ⟨bK, oK, v, rfl, hbK, x0, x1, x2, hkt⟩ := HK.out.at hl1
       obtain ⟨k3, A3, n3, c3, K3, m3, d3⟩ := v
       simp only at x0 x1 x2
       have hbK' := HS.out bK hbK
       have y0 := (hbr.cell (p := ⟨bK, oK + i * 3, none⟩) hbK').trans x0
       have y1 := (hbr.cell (p := ⟨bK, oK + i * 3 + 1, none⟩) hbK').trans x1
       have y2 := (hbr.cell (p := ⟨bK, oK + i * 3 + 2, none⟩) hbK').trans x2
       (try simp only at y0 y1 y2)
       clear x0 x1 x2
       have HIHC : Hid (Calls Try.prog 29 #[.agg #[.int .i64 k3, .slice A3 n3 c3, .slice K3 m3 d3], .int .i64 (deep - 1), .int .i64 r] wr (ShB (bdT 3000 ks[i]) r wr)) :=
        ih _ ⟨k3, A3, n3, c3, K3, m3, d3⟩ S (deep - 1) r wr (HIH.out i hl1) (hkt.keep (fun p hp => hbr.cell (HS.out _ hp))) (fun b hb => Nat.lt_of_lt_of_le (HS.out b hb) hbr.size) (by omega) (by omega) hr (by omega)
       clear hkt
       go_wp2_with fail
       refine HIHC.out.mono ?_
       rintro e w3 ⟨r3, rfl, h0, h1, hp3, hb3⟩
       have HP3 := hide hp3
       have HR0 := hide hr
       clear hp3
       have hB1t := hB1r.below hb3 hB1r.lt
       have hbt := hbr.trans (hb3.mono hbr.size)
       clear y0 y1 y2 c2
       go_wp2_with fail
       go_roundw
       case rel => exact ⟨r3, i + 1, rfl, h0, h1, by go_num, by omega, hB1t, hbt, fun h => by
        have h2 := HP3.out h
        have h3 := HJ.out HR0.out
        refine ⟨by omega, fun j x y => ?_⟩
        by_cases e : j = i
        ·subst e; exact h2.2
        ·exact h3.2 j x (by omega)⟩
       case measure => simp [intOf]; omega
      ·have fr : decide (0 ≤ r) = false := by simpa using hr
       go_wp2_with fail
       go_ret
       exact ⟨r, rfl, hr0, hr1, fun h => by omega, hbr⟩
     ·have fi : decide ((i : Int) < (m : Int)) = false := by simp; omega
      go_wp2_with fail
      go_ret
      exact ⟨r, rfl, hr0, hr1, fun h => by
       have h1 := HJ.out h
       have h2 := HM.out
       refine ⟨by omega, bdT_iff.2 ⟨HN3.out, by omega, fun x hx => ?_⟩⟩
       obtain ⟨j, hj, rfl⟩ := List.mem_iff_getElem.1 hx
       exact h1.2 j hj (by omega), hbr⟩
theorem fewB_any (t : T) (v : Tv) (S : Nat → Prop) (w : World) (h : TreeAt w S t v) (hS : ∀ b, S b → b < w.heap.size) :
  Calls Try.prog 16 #[.agg #[.int .i64 v.k, .slice v.A v.n v.c, .slice v.K v.m v.d]] w (BoolP (bdT 3000 t) w) := by
 have R := (Bx.nil w).box 25 #[.int .i64 v.k, .slice v.A v.n v.c, .slice v.K v.m v.d] rfl
 have HC : Hid (Calls Try.prog 29 #[.agg #[.int .i64 v.k, .slice v.A v.n v.c, .slice v.K v.m v.d], .int .i64 80, .int .i64 3000] (w.alloc (.cells #[.int .i64 v.k, .slice v.A v.n v.c, .slice v.K v.m v.d] 25)) (ShB (bdT 3000 t) 3000 (w.alloc (.cells #[.int .i64 v.k, .slice v.A v.n v.c, .slice v.K v.m v.d] 25)))) :=
  shallowB_any _ t v S 80 3000 _ (Nat.le_refl _) (h.bel R.bel hS) (fun b hb => Nat.lt_of_lt_of_le (hS b hb) R.size) (by decide) (by decide) (by decide) (by decide)
 clear h hS
 go_enter Try.func16, Try.ntmps16
 go_wp2_with fail
 refine HC.out.mono ?_
 rintro e w3 ⟨r3, rfl, h0, h1, hp, hb3⟩
 replace R := R.step hb3
 have HP := hide hp
 clear hp
 go_wp2_with fail
 go_ret
 exact BoolP.of (fun h => (HP.out (by simpa using h)).2) R.bel
inductive FewE : Ed → Prop
 | mk (k : Int) (old new : T) (ws : List WE) (ks : List KEd) (lk : Int) (ops : List Opn) : bdT 3000 old → bdT 3000 new → ws.length ≤ 3000 → ks.length ≤ 3000 → ops.length ≤ 3000 → (∀ x ∈ ks, FewE x.e) →
   (∀ o ∈ ops, o.lO.length ≤ 3000 ∧ ∀ x ∈ o.lO, bdT 3000 x) → (∀ o ∈ ops, FewE o.eO) → FewE (.mk k old new ws ks lk ops)
set_option maxRecDepth 100000 in
set_option maxHeartbeats 16000000 in
theorem left_any (D : Nat) : ∀ (e : Ed) (v : Ev) (S : Nat → Prop) (deep left : Int) (w : World), deep = D → D ≤ 80 → EdAt w S e v → (∀ b, S b → b < w.heap.size) → 0 ≤ left → left ≤ 3000 →
  Calls Try.prog 24 #[.agg #[.int .i64 v.k, .int .i64 v.old.k, .slice v.old.A v.old.n v.old.c, .slice v.old.K v.old.m v.old.d, .int .i64 v.new.k, .slice v.new.A v.new.n v.new.c, .slice v.new.K v.new.m v.new.d, .slice v.W v.wn v.wc, .slice v.K v.kn v.kc, .int .i64 v.lk, .slice v.O v.on v.oc], .int .i64 deep, .int .i64 left] w (ShB (FewE e) left w) := by
 induction D with
 | zero =>
  intro e v S deep left w hdp hD h hS hl0 hl1
  obtain ⟨k, old, new, ws, ks, lk, ops, rfl, h1, h2, h3, h4, h5, b1, b2, b3, hO, hN⟩ := h.lens
  clear h hS h1 h2 h3 h4 h5 hO hN
  subst hdp
  have R := (Bx.nil w).box 30 #[.int .i64 v.k, .int .i64 v.old.k, .slice v.old.A v.old.n v.old.c, .slice v.old.K v.old.m v.old.d, .int .i64 v.new.k, .slice v.new.A v.new.n v.new.c, .slice v.new.K v.new.m v.new.d, .slice v.W v.wn v.wc, .slice v.K v.kn v.kc, .int .i64 v.lk, .slice v.O v.on v.oc] rfl
  go_enter Try.func24, Try.ntmps24
  go_wp2_with fail
  go_ret
  exact ⟨-1, rfl, by decide, by decide, fun h => by omega, R.bel⟩
 | succ D ih =>
  intro e v S deep left w hdp hD h hS hl0 hl1
  obtain ⟨k, old, new, ws, ks, lk, ops, rfl, h1, h2, h3, h4, h5, b1, b2, b3, hO, hN⟩ := h.lens
  obtain ⟨hk, hlk, kv, ov, P⟩ := h.parts
  have HOS := hide P.ops
  have HKS := hide P.ks
  have HWN := hide h3
  have HKN := hide h4
  have HON := hide h5
  have HOL := hide hO
  have HNW := hide hN
  have HS := hide hS
  have HIH := hide ih
  clear h P hS hk hlk h1 h2 h3 h4 h5 hO hN ih
  have R := (Bx.nil w).box 30 #[.int .i64 v.k, .int .i64 v.old.k, .slice v.old.A v.old.n v.old.c, .slice v.old.K v.old.m v.old.d, .int .i64 v.new.k, .slice v.new.A v.new.n v.new.c, .slice v.new.K v.new.m v.new.d, .slice v.W v.wn v.wc, .slice v.K v.kn v.kc, .int .i64 v.lk, .slice v.O v.on v.oc] rfl
  have fd : (deep == 0) = false := by simp; omega
  have HDP : Hid (deep - 1 = (D : Int) ∧ D ≤ 80) := ⟨by omega, by omega⟩
  have hdp1 : 1 ≤ deep := by omega
  have hdp2 : deep ≤ 80 := by omega
  clear hdp hD
  have HT1 : Hid (∀ (W : World) (l : Int), Below w.heap.size w W → 0 ≤ l → l ≤ 3000 → Calls Try.prog 29 #[.agg #[.int .i64 v.old.k, .slice v.old.A v.old.n v.old.c, .slice v.old.K v.old.m v.old.d], .int .i64 80, .int .i64 l] W (ShB (bdT 3000 old) l W)) := fun W l hW h0 h1 =>
   shallowB_any _ old v.old S 80 l W (Nat.le_refl _) (HOL.out.bel hW HS.out) (fun b hb => Nat.lt_of_lt_of_le (HS.out b hb) hW.size) (by decide) (by decide) h0 h1
  have HT2 : Hid (∀ (W : World) (l : Int), Below w.heap.size w W → 0 ≤ l → l ≤ 3000 → Calls Try.prog 29 #[.agg #[.int .i64 v.new.k, .slice v.new.A v.new.n v.new.c, .slice v.new.K v.new.m v.new.d], .int .i64 80, .int .i64 l] W (ShB (bdT 3000 new) l W)) := fun W l hW h0 h1 =>
   shallowB_any _ new v.new S 80 l W (Nat.le_refl _) (HNW.out.bel hW HS.out) (fun b hb => Nat.lt_of_lt_of_le (HS.out b hb) hW.size) (by decide) (by decide) h0 h1
  by_cases hlt : left - 1 - (v.wn : Int) - (v.on : Int) < 0
  ·have fl : decide (left - 1 - (v.wn : Int) - (v.on : Int) < 0) = true := by simpa using hlt
   go_enter Try.func24, Try.ntmps24
   go_wp2_with fail
   go_ret
   exact ⟨-1, rfl, by decide, by decide, fun h => by omega, R.bel⟩
  ·have fl : decide (left - 1 - (v.wn : Int) - (v.on : Int) < 0) = false := by simpa using hlt
   have HLN : Hid (ws.length ≤ 3000 ∧ ops.length ≤ 3000) := ⟨by have := HWN.out; omega, by have := HON.out; omega⟩
   go_enter Try.func24, Try.ntmps24
   go_wp2_with fail
   refine (HT1.out _ (left - 1 - (v.wn : Int) - (v.on : Int)) R.bel (by omega) (by omega)).mono ?_
   rintro e w1 ⟨r1, rfl, r10, r11, hp1, hb1⟩
   replace R := R.step hb1
   have HP1 := hide hp1
   clear hp1 hb1 hlt fl
   generalize w.alloc (.cells #[.int .i64 v.k, .int .i64 v.old.k, .slice v.old.A v.old.n v.old.c, .slice v.old.K v.old.m v.old.d, .int .i64 v.new.k, .slice v.new.A v.new.n v.new.c, .slice v.new.K v.new.m v.new.d, .slice v.W v.wn v.wc, .slice v.K v.kn v.kc, .int .i64 v.lk, .slice v.O v.on v.oc] 30) = w0 at *
   have hlim : left - 1 - (v.wn : Int) - (v.on : Int) ≤ 3000 := by omega
   have HLIM : Hid (left - 1 - (v.wn : Int) - (v.on : Int) + 1 ≤ left) := by show _ ≤ _; omega
   generalize left - 1 - (v.wn : Int) - (v.on : Int) = L0 at *
   go_upto_if 31 with (fail)
   go_cut [2] (fun s wx => ∃ r : Int, s = .int .i64 r ∧ -20000000000000 ≤ r ∧ r ≤ 3000 ∧ Hid (0 ≤ r → r + 1 ≤ L0 ∧ bdT 3000 old ∧ bdT 3000 new) ∧ Bx w wx [⟨w.heap.size, 30, #[.int .i64 v.k, .int .i64 v.old.k, .slice v.old.A v.old.n v.old.c, .slice v.old.K v.old.m v.old.d, .int .i64 v.new.k, .slice v.new.A v.new.n v.new.c, .slice v.new.K v.new.m v.new.d, .slice v.W v.wn v.wc, .slice v.K v.kn v.kc, .int .i64 v.lk, .slice v.O v.on v.oc]⟩])
   case first =>
    by_cases hr : 0 ≤ r1
    ·have fr : decide (0 ≤ r1) = true := by simpa using hr
     have c0 : w1.cell? ⟨w.heap.size, 4, none⟩ = some (.int .i64 v.new.k) := (R.b 0 rfl).cell 4
     have c1 : w1.cell? ⟨w.heap.size, 5, none⟩ = some (.slice v.new.A v.new.n v.new.c) := (R.b 0 rfl).cell 5
     have c2 : w1.cell? ⟨w.heap.size, 6, none⟩ = some (.slice v.new.K v.new.m v.new.d) := (R.b 0 rfl).cell 6
     go_wp2_with fail
     refine (HT2.out _ r1 R.bel hr r11).mono ?_
     rintro e w2 ⟨r2, rfl, r20, r21, hp2, hb2⟩
     replace R := R.step hb2
     have HP2 := hide hp2
     clear hp2 hb2 c0 c1 c2
     have HR1 := hide hr
     clear hr fr
     go_wp2_with fail
     go_meet
     case rel => exact ⟨r2, rfl, r20, r21, fun h => by
      have h1 := HP1.out HR1.out
      have h2 := HP2.out h
      exact ⟨by omega, h1.2, h2.2⟩, R⟩
    ·have fr : decide (0 ≤ r1) = false := by simpa using hr
     go_wp2_with fail
     go_meet
     case rel => exact ⟨r1, rfl, r10, r11, fun h => absurd h (by omega), R⟩
   case rest =>
    obtain ⟨r, rfl, r0, r3, HJ, R2⟩ := hcut
    clear R HP1 r10 r11
    go_upto_block 0 with fail
    go_cut [2] (fun s wx => ∃ r : Int, s = .int .i64 r ∧ -20000000000000 ≤ r ∧ r ≤ 3000 ∧ Bx w wx [⟨w.heap.size, 30, #[.int .i64 v.k, .int .i64 v.old.k, .slice v.old.A v.old.n v.old.c, .slice v.old.K v.old.m v.old.d, .int .i64 v.new.k, .slice v.new.A v.new.n v.new.c, .slice v.new.K v.new.m v.new.d, .slice v.W v.wn v.wc, .slice v.K v.kn v.kc, .int .i64 v.lk, .slice v.O v.on v.oc]⟩] ∧ Hid (0 ≤ r → r + 1 ≤ L0 ∧ bdT 3000 old ∧ bdT 3000 new ∧ (ks.length ≤ 3000) ∧ ∀ x ∈ ks, FewE x.e))
    case first =>
     go_wp2_with fail
     go_loopw [2, 7] (fun s2 s7 wr => ∃ (r : Int) (i : Nat), s2 = .int .i64 r ∧ -20000000000000 ≤ r ∧ r ≤ 3000 ∧ s7 = .int .i64 i ∧ i ≤ v.kn ∧ Bx w wr [⟨w.heap.size, 30, #[.int .i64 v.k, .int .i64 v.old.k, .slice v.old.A v.old.n v.old.c, .slice v.old.K v.old.m v.old.d, .int .i64 v.new.k, .slice v.new.A v.new.n v.new.c, .slice v.new.K v.new.m v.new.d, .slice v.W v.wn v.wc, .slice v.K v.kn v.kc, .int .i64 v.lk, .slice v.O v.on v.oc]⟩] ∧ Hid (0 ≤ r → r + i + 1 ≤ L0 ∧ bdT 3000 old ∧ bdT 3000 new ∧ ∀ j (h : j < ks.length), j < i → FewE ks[j].e)) (fun _ s7 _ => v.kn - (intOf s7).toNat)
     case atStart => exact ⟨r, 0, rfl, r0, r3, rfl, by omega, R2, fun h => ⟨by have := HJ.out h; omega, (HJ.out h).2.1, (HJ.out h).2.2, fun j h1 h2 => by omega⟩⟩
     case round =>
      clear HJ R2 r0 r3
      rename Int => rz
      obtain ⟨r, i, rfl, hr0, hr1, rfl, hi, R3, HJ⟩ := hrel
      have c0 : wr.cell? ⟨w.heap.size, 8, none⟩ = some (.slice v.K v.kn v.kc) := (R3.b 0 rfl).cell 8
      by_cases hb : i < v.kn ∧ 0 ≤ r
      ·obtain ⟨him, hr⟩ := hb
       have hl1 : i < ks.length := by rw [← HKN.out]; exact him
       have fi : decide ((i : Int) < (v.kn : Int)) = true := by simp; omega
       have fr : decide (0 ≤ r) = true := by simpa using hr
       obtain ⟨bo, oo, o, hO, hbo, hat, HEC, HEA⟩ := HKS.out.at hl1
       obtain ⟨x0, x1, x2, x3, x4, x5, x6, x7, x8, x9, x10⟩ := HEC.keep (w' := wr) (fun p hp => R3.bel.cell (by rw [hp]; exact HS.out _ hbo))
       have HCL : Hid (Calls Try.prog 24 #[.agg #[.int .i64 o.k, .int .i64 o.old.k, .slice o.old.A o.old.n o.old.c, .slice o.old.K o.old.m o.old.d, .int .i64 o.new.k, .slice o.new.A o.new.n o.new.c, .slice o.new.K o.new.m o.new.d, .slice o.W o.wn o.wc, .slice o.K o.kn o.kc, .int .i64 o.lk, .slice o.O o.on o.oc], .int .i64 (deep - 1), .int .i64 r] wr (ShB (FewE ks[i].e) r wr)) :=
        HIH.out _ o S (deep - 1) r wr HDP.out.1 HDP.out.2 (HEA.bel R3.bel HS.out) (fun b hb => by have := HS.out b hb; have := R3.size; omega) hr hr1
       clear HEC HEA hat
       rw [hO] at c0
       clear hO
       go_wp2_with fail
       refine HCL.out.mono ?_
       rintro e w3 ⟨r4, rfl, r40, r41, hp, hb3⟩
       replace R3 := R3.step hb3
       have HP := hide hp
       have HR := hide hr
       clear x0 x1 x2 x3 x4 x5 x6 x7 x8 x9 x10 c0 hp hr fr fi
       go_wp2_with fail
       go_roundw
       case rel => exact ⟨r4, i + 1, rfl, r40, r41, by go_num, by omega, R3, fun h => by
        have h1 := HP.out h
        have h2 := HJ.out HR.out
        refine ⟨by omega, h2.2.1, h2.2.2.1, fun j x y => ?_⟩
        by_cases e : j = i
        ·subst e; exact h1.2
        ·exact h2.2.2.2 j x (by omega)⟩
       case measure => simp [intOf]; omega
      ·have HKD : Hid (0 ≤ r → r + 1 ≤ L0 ∧ bdT 3000 old ∧ bdT 3000 new ∧ (ks.length ≤ 3000) ∧ ∀ x ∈ ks, FewE x.e) := fun h => by
        obtain ⟨h1, h2, h3, h4⟩ := HJ.out h
        have h5 := HKN.out
        have h6 : ¬ i < v.kn := fun x => hb ⟨x, h⟩
        refine ⟨by omega, h2, h3, by omega, fun x hx => ?_⟩
        obtain ⟨j, hj, rfl⟩ := List.mem_iff_getElem.1 hx
        exact h4 j hj (by omega)
       by_cases him : i < v.kn
       ·have fi : decide ((i : Int) < (v.kn : Int)) = true := by simp; omega
        have fr : decide (0 ≤ r) = false := by simp; omega
        go_wp2_with fail
        go_meet
        case rel => exact ⟨r, rfl, hr0, hr1, R3, HKD.out⟩
       ·have fi : decide ((i : Int) < (v.kn : Int)) = false := by simp; omega
        go_wp2_with fail
        go_meet
        case rel => exact ⟨r, rfl, hr0, hr1, R3, HKD.out⟩
    case rest =>
     clear HJ R2 r0 r3
     rename Int => rz
     obtain ⟨r, rfl, hr0, hr1, R, HKD⟩ := hcut
     go_wp2_with fail
     go_loopw [2, 8] (fun s2 s7 wr => ∃ (r : Int) (i : Nat), s2 = .int .i64 r ∧ -20000000000000 ≤ r ∧ r ≤ 3000 ∧ s7 = .int .i64 i ∧ i ≤ v.on ∧ Bx w wr [⟨w.heap.size, 30, #[.int .i64 v.k, .int .i64 v.old.k, .slice v.old.A v.old.n v.old.c, .slice v.old.K v.old.m v.old.d, .int .i64 v.new.k, .slice v.new.A v.new.n v.new.c, .slice v.new.K v.new.m v.new.d, .slice v.W v.wn v.wc, .slice v.K v.kn v.kc, .int .i64 v.lk, .slice v.O v.on v.oc]⟩] ∧ Hid (0 ≤ r → r + 1 ≤ L0 ∧ bdT 3000 old ∧ bdT 3000 new ∧ (ks.length ≤ 3000) ∧ (∀ x ∈ ks, FewE x.e) ∧ ∀ j (h : j < ops.length), j < i → (ops[j].lO.length ≤ 3000 ∧ ∀ x ∈ ops[j].lO, bdT 3000 x) ∧ FewE ops[j].eO)) (fun _ s7 _ => v.on - (intOf s7).toNat)
     case atStart => exact ⟨r, 0, rfl, hr0, hr1, rfl, by omega, R, fun h => ⟨(HKD.out h).1, (HKD.out h).2.1, (HKD.out h).2.2.1, (HKD.out h).2.2.2.1, (HKD.out h).2.2.2.2, fun j h1 h2 => by omega⟩⟩
     case round =>
      clear HKD R hr0 hr1
      rename Int => rz2
      obtain ⟨r, i, rfl, hr0, hr1, rfl, hi, R3, HJ⟩ := hrel
      have c0 : wr.cell? ⟨w.heap.size, 10, none⟩ = some (.slice v.O v.on v.oc) := (R3.b 0 rfl).cell 10
      by_cases him : i < v.on
      ·have hl1 : i < ops.length := by rw [← HON.out]; exact him
       have fi : decide ((i : Int) < (v.on : Int)) = true := by simp; omega
       by_cases hr : 0 ≤ r
       ·have fr : decide (0 ≤ r) = true := by simpa using hr
        have HR := hide hr
        obtain ⟨bo, oo, o, hO, hbo, HEC, HEA⟩ := HOS.out.at hl1
        obtain ⟨lv, hlv⟩ := HEA.l
        have HOC : Hid (∀ W, Below w.heap.size w W → OCells W bo (oo + i * 14) o) := fun W hW => HEC.keep (fun p hp => hW.cell (by rw [hp]; exact HS.out _ hbo))
        have HLV := hide hlv
        have HLL : Hid (o.ln = ops[i].lO.length) := hlv.len
        have hlf : o.ln ≤ 2513169434843 := by rw [hlv.len]; exact hlv.few
        have HCL : Hid (∀ W (l : Int), Below w.heap.size w W → 0 ≤ l → l ≤ 3000 → Calls Try.prog 24 #[.agg #[.int .i64 o.e.k, .int .i64 o.e.old.k, .slice o.e.old.A o.e.old.n o.e.old.c, .slice o.e.old.K o.e.old.m o.e.old.d, .int .i64 o.e.new.k, .slice o.e.new.A o.e.new.n o.e.new.c, .slice o.e.new.K o.e.new.m o.e.new.d, .slice o.e.W o.e.wn o.e.wc, .slice o.e.K o.e.kn o.e.kc, .int .i64 o.e.lk, .slice o.e.O o.e.on o.e.oc], .int .i64 (deep - 1), .int .i64 l] W (ShB (FewE ops[i].eO) l W)) := fun W l hW h0 h1 =>
         HIH.out _ o.e S (deep - 1) l W HDP.out.1 HDP.out.2 (HEA.e.bel hW HS.out) (fun b hb => by have := HS.out b hb; have := hW.size; omega) h0 h1
        have HHO := hide hO
        clear HEC HEA hlv hO
        go_upto_block 4 with fail
        go_cut [2] (fun s wx => ∃ r2 : Int, s = .int .i64 r2 ∧ -20000000000000 ≤ r2 ∧ r2 ≤ 3000 ∧ Bx w wx [⟨w.heap.size, 30, #[.int .i64 v.k, .int .i64 v.old.k, .slice v.old.A v.old.n v.old.c, .slice v.old.K v.old.m v.old.d, .int .i64 v.new.k, .slice v.new.A v.new.n v.new.c, .slice v.new.K v.new.m v.new.d, .slice v.W v.wn v.wc, .slice v.K v.kn v.kc, .int .i64 v.lk, .slice v.O v.on v.oc]⟩] ∧ Hid (0 ≤ r2 → r2 ≤ r ∧ ops[i].lO.length ≤ 3000 ∧ ∀ x ∈ ops[i].lO, bdT 3000 x))
        case first =>
         clear c0 fi fr hr
         go_wp2_with fail
         go_loopw [2, 9] (fun s2 s7 wr => ∃ (r2 : Int) (j : Nat), s2 = .int .i64 r2 ∧ -20000000000000 ≤ r2 ∧ r2 ≤ 3000 ∧ s7 = .int .i64 j ∧ j ≤ o.ln ∧ Bx w wr [⟨w.heap.size, 30, #[.int .i64 v.k, .int .i64 v.old.k, .slice v.old.A v.old.n v.old.c, .slice v.old.K v.old.m v.old.d, .int .i64 v.new.k, .slice v.new.A v.new.n v.new.c, .slice v.new.K v.new.m v.new.d, .slice v.W v.wn v.wc, .slice v.K v.kn v.kc, .int .i64 v.lk, .slice v.O v.on v.oc]⟩] ∧ Hid (0 ≤ r2 → r2 + j ≤ r ∧ ∀ z (h : z < ops[i].lO.length), z < j → bdT 3000 ops[i].lO[z])) (fun _ s7 _ => o.ln - (intOf s7).toNat)
         case atStart => exact ⟨r, 0, rfl, hr0, hr1, rfl, by omega, R3, fun h => ⟨by omega, fun z h1 h2 => by omega⟩⟩
         case round =>
          obtain ⟨r2, j, rfl, h20, h21, rfl, hj, R4, HZ⟩ := hrel
          clear R3 hr0 hr1
          rename World => wq
          have c0 : wq.cell? ⟨w.heap.size, 10, none⟩ = some (.slice v.O v.on v.oc) := (R4.b 0 rfl).cell 10
          rw [HHO.out] at c0
          obtain ⟨y0, y1, y2, _, _, _, _, _, _, _, _, _, _, _⟩ := HOC.out wq R4.bel
          by_cases hjm : j < o.ln
          ·have hl2 : j < ops[i].lO.length := by rw [← HLL.out]; exact hjm
           have fj : decide ((j : Int) < (o.ln : Int)) = true := by simp; omega
           by_cases hr2 : 0 ≤ r2
           ·have fr2 : decide (0 ≤ r2) = true := by simpa using hr2
            obtain ⟨bt, ot, tv, hL, hbt, x0, x1, x2, hkt⟩ := HLV.out.at hl2
            have hbt' := HS.out _ hbt
            have z0 := (R4.bel.cell (p := ⟨bt, ot + j * 3, none⟩) hbt').trans x0
            have z1 := (R4.bel.cell (p := ⟨bt, ot + j * 3 + 1, none⟩) hbt').trans x1
            have z2 := (R4.bel.cell (p := ⟨bt, ot + j * 3 + 2, none⟩) hbt').trans x2
            have HSC : Hid (Calls Try.prog 29 #[.agg #[.int .i64 tv.k, .slice tv.A tv.n tv.c, .slice tv.K tv.m tv.d], .int .i64 80, .int .i64 r2] wq (ShB (bdT 3000 ops[i].lO[j]) r2 wq)) :=
             shallowB_any _ _ tv S 80 r2 wq (Nat.le_refl _) (hkt.bel R4.bel HS.out) (fun b hb => by have := HS.out b hb; have := R4.size; omega) (by decide) (by decide) hr2 h21
            rw [hL] at y2
            clear hL x0 x1 x2 hkt
            go_wp2_with fail
            refine HSC.out.mono ?_
            rintro e w3 ⟨r4, rfl, r40, r41, hp, hb3⟩
            replace R4 := R4.step hb3
            have HP := hide hp
            have HR2 := hide hr2
            clear z0 z1 z2 y0 y1 y2 c0 hp hr2 fr2 fj
            go_wp2_with fail
            go_roundw
            case rel => exact ⟨r4, j + 1, rfl, r40, r41, by go_num, by omega, R4, fun h => by
             have h1 := HP.out h
             have h2 := HZ.out HR2.out
             refine ⟨by omega, fun z x y => ?_⟩
             by_cases e : z = j
             ·subst e; exact h1.2
             ·exact h2.2 z x (by omega)⟩
            case measure => simp [intOf]; omega
           ·have fr2 : decide (0 ≤ r2) = false := by simpa using hr2
            go_wp2_with fail
            go_meet
            case rel => exact ⟨r2, rfl, h20, h21, R4, fun h => absurd h (by omega)⟩
          ·have fj : decide ((j : Int) < (o.ln : Int)) = false := by simp; omega
           go_wp2_with fail
           go_meet
           case rel => exact ⟨r2, rfl, h20, h21, R4, fun h => by
            have h1 := HZ.out h
            have h2 := HLL.out
            have h3 := HJ.out HR.out
            have h4 := HLIM.out
            refine ⟨by omega, by omega, fun x hx => ?_⟩
            obtain ⟨z, hz, rfl⟩ := List.mem_iff_getElem.1 hx
            exact h1.2 z hz (by omega)⟩
        case rest =>
         obtain ⟨r2, rfl, h20, h21, R4, HZ⟩ := hcut
         clear R3 c0 hr fr fi
         rename World => wq
         have c0 : wq.cell? ⟨w.heap.size, 10, none⟩ = some (.slice v.O v.on v.oc) := (R4.b 0 rfl).cell 10
         rw [HHO.out] at c0
         by_cases hr2 : 0 ≤ r2
         ·have fr2 : decide (0 ≤ r2) = true := by simpa using hr2
          obtain ⟨y0, y1, y2, x0, x1, x2, x3, x4, x5, x6, x7, x8, x9, x10⟩ := HOC.out wq R4.bel
          have HCC := hide (HCL.out wq r2 R4.bel hr2 h21)
          go_wp2_with fail
          refine HCC.out.mono ?_
          rintro e w3 ⟨r4, rfl, r40, r41, hp, hb3⟩
          replace R4 := R4.step hb3
          have HP := hide hp
          have HR2 := hide hr2
          clear y0 y1 y2 x0 x1 x2 x3 x4 x5 x6 x7 x8 x9 x10 c0 hp hr2 fr2
          go_wp2_with fail
          go_roundw
          case rel => exact ⟨r4, i + 1, rfl, r40, r41, by go_num, by omega, R4, fun h => by
           have h1 := HP.out h
           have h2 := HZ.out HR2.out
           obtain ⟨h3, h4, h5, h6, h7, h8⟩ := HJ.out HR.out
           refine ⟨by omega, h4, h5, h6, h7, fun j x y => ?_⟩
           by_cases e : j = i
           ·subst e; exact ⟨h2.2, h1.2⟩
           ·exact h8 j x (by omega)⟩
          case measure => simp [intOf]; omega
         ·have fr2 : decide (0 ≤ r2) = false := by simpa using hr2
          go_wp2_with fail
          go_roundw
          case rel => exact ⟨r2, i + 1, rfl, h20, h21, by go_num, by omega, R4, fun h => absurd h (by omega)⟩
          case measure => simp [intOf]; omega
       ·have fr : decide (0 ≤ r) = false := by simpa using hr
        go_wp2_with fail
        go_ret
        exact ⟨r, rfl, hr0, hr1, fun h => absurd h (by omega), R3.bel⟩
      ·have fi : decide ((i : Int) < (v.on : Int)) = false := by simp; omega
       go_wp2_with fail
       go_ret
       exact ⟨r, rfl, hr0, hr1, fun h => by
        obtain ⟨h1, h2, h3, h4, h5, h6⟩ := HJ.out h
        have h7 := HLIM.out
        refine ⟨by omega, .mk _ _ _ _ _ _ _ h2 h3 HLN.out.1 h4 HLN.out.2 h5 (fun o ho => ?_) (fun o ho => ?_)⟩
        ·obtain ⟨j, hj, rfl⟩ := List.mem_iff_getElem.1 ho
         exact (h6 j hj (by have := HON.out; omega)).1
        ·obtain ⟨j, hj, rfl⟩ := List.mem_iff_getElem.1 ho
         exact (h6 j hj (by have := HON.out; omega)).2, R3.bel⟩
theorem eFew_any (e : Ed) (v : Ev) (S : Nat → Prop) (w : World) (h : EdAt w S e v) (hS : ∀ b, S b → b < w.heap.size) :
  Calls Try.prog 13 #[.agg #[.int .i64 v.k, .int .i64 v.old.k, .slice v.old.A v.old.n v.old.c, .slice v.old.K v.old.m v.old.d, .int .i64 v.new.k, .slice v.new.A v.new.n v.new.c, .slice v.new.K v.new.m v.new.d, .slice v.W v.wn v.wc, .slice v.K v.kn v.kc, .int .i64 v.lk, .slice v.O v.on v.oc]] w (BoolP (FewE e) w) := by
 have R := (Bx.nil w).box 30 #[.int .i64 v.k, .int .i64 v.old.k, .slice v.old.A v.old.n v.old.c, .slice v.old.K v.old.m v.old.d, .int .i64 v.new.k, .slice v.new.A v.new.n v.new.c, .slice v.new.K v.new.m v.new.d, .slice v.W v.wn v.wc, .slice v.K v.kn v.kc, .int .i64 v.lk, .slice v.O v.on v.oc] rfl
 have HC : Hid (Calls Try.prog 24 #[.agg #[.int .i64 v.k, .int .i64 v.old.k, .slice v.old.A v.old.n v.old.c, .slice v.old.K v.old.m v.old.d, .int .i64 v.new.k, .slice v.new.A v.new.n v.new.c, .slice v.new.K v.new.m v.new.d, .slice v.W v.wn v.wc, .slice v.K v.kn v.kc, .int .i64 v.lk, .slice v.O v.on v.oc], .int .i64 80, .int .i64 3000] (w.alloc (.cells #[.int .i64 v.k, .int .i64 v.old.k, .slice v.old.A v.old.n v.old.c, .slice v.old.K v.old.m v.old.d, .int .i64 v.new.k, .slice v.new.A v.new.n v.new.c, .slice v.new.K v.new.m v.new.d, .slice v.W v.wn v.wc, .slice v.K v.kn v.kc, .int .i64 v.lk, .slice v.O v.on v.oc] 30)) (ShB (FewE e) 3000 (w.alloc (.cells #[.int .i64 v.k, .int .i64 v.old.k, .slice v.old.A v.old.n v.old.c, .slice v.old.K v.old.m v.old.d, .int .i64 v.new.k, .slice v.new.A v.new.n v.new.c, .slice v.new.K v.new.m v.new.d, .slice v.W v.wn v.wc, .slice v.K v.kn v.kc, .int .i64 v.lk, .slice v.O v.on v.oc] 30)))) :=
  left_any 80 e v S 80 3000 _ rfl (Nat.le_refl _) (h.bel R.bel hS) (fun b hb => Nat.lt_of_lt_of_le (hS b hb) R.size) (by decide) (by decide)
 clear h hS
 go_enter Try.func13, Try.ntmps13
 go_wp2_with fail
 refine HC.out.mono ?_
 rintro e w3 ⟨r3, rfl, h0, h1, hp, hb3⟩
 replace R := R.step hb3
 have HP := hide hp
 clear hp
 go_wp2_with fail
 go_ret
 exact BoolP.of (fun h => (HP.out (by simpa using h)).2) R.bel
end Go.Proofs.Ytbmjiokjigkdnaa
namespace Go.Proofs.Ytbmjiokjigkdnaa
open Go.RowKit
def widthS (k : Int) : Int := if k = 0 then 0 else if k = 1 then 1 else if k = 2 then 8 else if k = 3 then 16 else if k = 4 then 32 else if k = 5 then 64 else -1
theorem widthS_bd (k : Int) : -1 ≤ widthS k ∧ widthS k ≤ 64 := by
 unfold widthS
 repeat' split
 all_goals omega
theorem width_any (k : Int) (w : World) : Calls Try.prog 42 #[.int .i64 k] w fun e w' => e = .returned (.int .i64 (widthS k)) ∧ w = w' := by
 unfold widthS
 by_cases h0 : k = 0
 ·have f0 : (k == 0) = true := by simpa using h0
  rw [if_pos h0]
  replace h0 := hide h0
  go_enter Try.func42, Try.ntmps42
  go_wp2_with fail
  go_ret
  exact ⟨rfl, rfl⟩
 ·have f0 : (k == 0) = false := by simpa using h0
  rw [if_neg h0]
  by_cases h1 : k = 1
  ·have f1 : (k == 1) = true := by simpa using h1
   rw [if_pos h1]
   replace h1 := hide h1
   go_enter Try.func42, Try.ntmps42
   go_wp2_with fail
   go_ret
   exact ⟨rfl, rfl⟩
  ·have f1 : (k == 1) = false := by simpa using h1
   rw [if_neg h1]
   by_cases h2 : k = 2
   ·have f2 : (k == 2) = true := by simpa using h2
    rw [if_pos h2]
    replace h2 := hide h2
    go_enter Try.func42, Try.ntmps42
    go_wp2_with fail
    go_ret
    exact ⟨rfl, rfl⟩
   ·have f2 : (k == 2) = false := by simpa using h2
    rw [if_neg h2]
    by_cases h3 : k = 3
    ·have f3 : (k == 3) = true := by simpa using h3
     rw [if_pos h3]
     replace h3 := hide h3
     go_enter Try.func42, Try.ntmps42
     go_wp2_with fail
     go_ret
     exact ⟨rfl, rfl⟩
    ·have f3 : (k == 3) = false := by simpa using h3
     rw [if_neg h3]
     by_cases h4 : k = 4
     ·have f4 : (k == 4) = true := by simpa using h4
      rw [if_pos h4]
      replace h4 := hide h4
      go_enter Try.func42, Try.ntmps42
      go_wp2_with fail
      go_ret
      exact ⟨rfl, rfl⟩
     ·have f4 : (k == 4) = false := by simpa using h4
      rw [if_neg h4]
      by_cases h5 : k = 5
      ·have f5 : (k == 5) = true := by simpa using h5
       rw [if_pos h5]
       replace h5 := hide h5
       go_enter Try.func42, Try.ntmps42
       go_wp2_with fail
       go_ret
       exact ⟨rfl, rfl⟩
      ·have f5 : (k == 5) = false := by simpa using h5
       rw [if_neg h5]
       go_enter Try.func42, Try.ntmps42
       go_wp2_with fail
       go_ret
       exact ⟨rfl, rfl⟩
def fitsS (k x : Int) : Bool := decide (0 ≤ widthS k) && decide (x / 2 ^ (widthS k).toNat = 0)
theorem fits_any (k x : Int) (hx : 0 ≤ x ∧ x ≤ 18446744073709551615) (w : World) : Calls Try.prog 30 #[.int .i64 k, .int .u64 x] w fun e w' => e = .returned (.bool (fitsS k x)) ∧ w = w' := by
 have HB := hide (widthS_bd k)
 have HR : Hid (∀ r, widthS k = r → fitsS k x = (decide (0 ≤ r) && decide (x / 2 ^ r.toNat = 0))) := fun r h => by unfold fitsS; rw [h]
 go_enter Try.func30, Try.ntmps30
 go_wp2_with fail
 refine (width_any k _).mono ?_
 rintro e w1 ⟨rfl, rfl⟩
 have h1 := HB.out.1
 have h2 := HB.out.2
 have HRR := hide (HR.out _ rfl)
 clear HR HB
 generalize widthS k = r at *
 by_cases hr : r < 0
 ·have g0 : decide (r < 0) = true := by simpa using hr
  have HF : Hid (fitsS k x = false) := by show _ = _; rw [HRR.out]; simp; omega
  go_wp2_with fail
  go_ret
  exact ⟨by rw [HF.out]; (try rfl), rfl⟩
 ·have g0 : decide (r < 0) = false := by simpa using hr
  obtain ⟨m, rfl⟩ := Int.eq_ofNat_of_zero_le (show 0 ≤ r by omega)
  go_wp2_with fail
  go_loopw [1, 6] (fun xv iv wr => ∃ (y : Int) (i : Nat), xv = .int .u64 y ∧ iv = .int .i64 i ∧ 0 ≤ y ∧ y ≤ 18446744073709551615 ∧ i ≤ m ∧ Hid (y = x / 2 ^ i) ∧ w = wr) (fun _ iv _ => 64 - (intOf iv).toNat)
  case atStart => exact ⟨x, 0, rfl, rfl, hx.1, hx.2, by omega, (by show _ = _; simp), by first | rfl | trivial⟩
  case round =>
   obtain ⟨y, i, rfl, rfl, hy0, hy1, hi, HY, rfl⟩ := hrel
   by_cases hlt : (i : Int) < (m : Int)
   ·have g1 : decide ((i : Int) < (m : Int)) = true := by simpa using hlt
    have hq : y.tdiv 2 = y / 2 := by rw [Int.tdiv_eq_ediv_of_nonneg hy0]
    go_wp2_with fail
    go_roundw
    case rel =>
     refine ⟨y / 2, i + 1, by first | rfl | (rw [hq]), by go_num, by omega, by omega, by omega, ?_, by first | rfl | trivial⟩
     show _ = _
     rw [HY.out, Int.ediv_ediv_of_nonneg (Int.pow_nonneg (by decide)), Int.pow_succ]
    case measure => simp [intOf]; omega
   ·have g1 : decide ((i : Int) < (m : Int)) = false := by simpa using hlt
    have him : i = m := by omega
    subst him
    have HF : Hid (fitsS k x = (y == 0)) := by
     show _ = _
     rw [HRR.out, HY.out]
     simp
     rfl
    go_wp2_with fail
    go_ret
    exact ⟨by rw [HF.out]; (try rfl), rfl⟩
end Go.Proofs.Ytbmjiokjigkdnaa
namespace Go.Proofs.Ytbmjiokjigkdnaa
open Go.RowKit Go.Proofs.Ytbmjiokjigkdnaa.Top
def kidR (k kk : Int) : Prop := ((2 ≤ k ∧ k ≤ 7) ↔ kk = 10) ∧ (k = 9 → kk = 1)
inductive Rt2 : T → Prop
 | mk (k : Int) (ws : List Int) (ks : List T) : 0 ≤ k → k ≤ 10 → (k = 0 → ks = []) → (k = 10 → ks = []) → (k = 10 → ws.length = 1) → (k ≠ 1 → k ≠ 10 → ws = []) → u64L ws → (∀ i (h : i < ks.length), Rt2 ks[i]) → (∀ i (h : i < ks.length), kidR k ks[i].kind) → Rt2 (.node k ws ks)
theorem Rt2.ok {t : T} (h : Rt2 t) : okT t := by
 induction h with
 | mk k ws ks h0 h1 h2 h3 h4 h5 h6 _ h8 ih =>
  have kd : ∀ x ∈ ks, kidR k x.kind := fun x hx => by
   obtain ⟨i, hi, rfl⟩ := List.mem_iff_getElem.1 hx
   exact h8 i hi
  rw [okT]
  refine ⟨h0, h1, fun x hx => h6 x hx, h5, h4, h2, h3, fun e x hx => ?_, fun e e' x hx => ?_, fun e x hx => ?_, fun e x hx => (kd x hx).2 e, (okTL_iff _).2 fun x hx => ?_⟩
  ·have := (kd x hx).1; intro h; have := this.2 h; omega
  ·exact (kd x hx).1.1 ⟨e, e'⟩
  ·have := (kd x hx).1; intro h; have := this.2 h; omega
  ·obtain ⟨i, hi, rfl⟩ := List.mem_iff_getElem.1 hx
   exact ih i hi
def RightQ (t : T) (w : World) (e : Ending) (w' : World) : Prop := ∃ b, e = .returned (.bool b) ∧ (b = true → Rt2 t) ∧ Below w.heap.size w w'
set_option maxRecDepth 100000 in
set_option maxHeartbeats 16000000 in
theorem right2_any (N : Nat) : ∀ (t : T) (v : Tv) (S : Nat → Prop) (deep : Int) (w : World), SizeOf.sizeOf t ≤ N → TreeAt w S t v → (∀ b, S b → b < w.heap.size) → 0 ≤ deep → deep ≤ 64 →
  Calls Try.prog 17 #[v.val, .int .i64 deep] w (RightQ t w) := by
 induction N with
 | zero =>
  intro t v S deep w hN
  obtain ⟨k, ws, ks⟩ := t
  rw [T.node.sizeOf_spec] at hN
  omega
 | succ N ih =>
  intro t v S deep w hN h hS hd0 hd1
  obtain ⟨k, ws, ks⟩ := t
  have hW := h.words
  obtain ⟨kv, hK⟩ := h.kids
  have hkk : k = v.k := h.kind
  obtain ⟨k', A, n, c, K, m, d⟩ := v
  simp only at hW hK hkk
  subst hkk
  have HIH : Hid (∀ i (hi : i < ks.length), SizeOf.sizeOf ks[i] ≤ N) := fun i hi => by have := T.size_kid (k := k) (ws := ws) hi; omega
  have HM : Hid (m = ks.length) := hK.len
  have HN : Hid (n = ws.length) := hW.len
  have HU : Hid (u64L ws) := hW.u64
  have hmb : m ≤ 2513169434843 := by rw [hK.len]; exact hK.few
  have hnb : n ≤ 17592186043904 := by rw [hW.len]; exact hW.few
  have HK := hide hK
  have HS := hide hS
  clear h hN hW hK hS
  show Calls _ _ #[.agg #[.int .i64 k, .slice A n c, .slice K m d], _] _ _
  have hB1 := Blk.new w 25 #[.int .i64 k, .slice A n c, .slice K m d]
  have hb1 : Below w.heap.size w (w.alloc (.cells #[.int .i64 k, .slice A n c, .slice K m d] 25)) := (Below.refl _ _).alloc (Nat.le_refl _) _
  go_enter Try.func17, Try.ntmps17
  go_upto_region 1 with fail
  generalize w.alloc (.cells #[.int .i64 k, .slice A n c, .slice K m d] 25) = w1 at *
  have c0 := hB1.cell 0
  have c1 := hB1.cell 1
  have c2 := hB1.cell 2
  simp at c0 c1 c2
  by_cases d0 : k = 0
  ·have f0 : (k == 0) = true := by simp; omega
   replace d0 := hide d0
   by_cases dn : n = 0
   ·have g1 : ((n : Int) == 0) = true := by simp; omega
    replace dn := hide dn
    by_cases dm : m = 0
    ·have g2 : ((m : Int) == 0) = true := by simp; omega
     replace dm := hide dm
     go_wp2_with fail
     go_ret
     exact ⟨true, rfl, fun _ => by
      have e0 := d0.out
      subst e0
      have e1 : ks = [] := List.eq_nil_of_length_eq_zero (by rw [← HM.out]; exact dm.out)
      subst e1
      exact .mk 0 ws [] (by decide) (by decide) (fun _ => rfl) (fun _ => rfl) (fun h => absurd h (by decide)) (fun _ _ => List.eq_nil_of_length_eq_zero (by rw [← HN.out]; have := dn.out; omega)) HU.out (fun i h => by simp at h) (fun i h => by simp at h), hb1⟩
    ·have g2 : ((m : Int) == 0) = false := by simp; omega
     go_wp2_with fail
     go_ret
     exact ⟨false, rfl, (fun h => by cases h), hb1⟩
   ·have g1 : ((n : Int) == 0) = false := by simp; omega
    go_wp2_with fail
    go_ret
    exact ⟨false, rfl, (fun h => by cases h), hb1⟩
  ·have f0 : (k == 0) = false := by simp; omega
   by_cases d10 : k = 10
   ·have ft : (k == 10) = true := by simp; omega
    replace d10 := hide d10
    by_cases dn : n = 1
    ·have g1 : ((n : Int) == 1) = true := by simp; omega
     replace dn := hide dn
     by_cases dm : m = 0
     ·have g2 : ((m : Int) == 0) = true := by simp; omega
      replace dm := hide dm
      go_wp2_with fail
      go_ret
      exact ⟨true, rfl, fun _ => by
       have e0 := d10.out
       subst e0
       have e1 : ks = [] := List.eq_nil_of_length_eq_zero (by rw [← HM.out]; exact dm.out)
       subst e1
       exact .mk 10 ws [] (by decide) (by decide) (fun _ => rfl) (fun _ => rfl) (fun _ => by rw [← HN.out]; exact dn.out) (fun _ h => absurd rfl h) HU.out (fun i h => by simp at h) (fun i h => by simp at h), hb1⟩
     ·have g2 : ((m : Int) == 0) = false := by simp; omega
      go_wp2_with fail
      go_ret
      exact ⟨false, rfl, (fun h => by cases h), hb1⟩
    ·have g1 : ((n : Int) == 1) = false := by simp; omega
     go_wp2_with fail
     go_ret
     exact ⟨false, rfl, (fun h => by cases h), hb1⟩
   ·have ft : (k == 10) = false := by simp; omega
    by_cases dk0 : k < 0
    ·have g0 : decide (k < 0) = true := by simpa using dk0
     go_wp2_with fail
     go_ret
     exact ⟨false, rfl, (fun h => by cases h), hb1⟩
    ·have g0 : decide (k < 0) = false := by simpa using dk0
     by_cases dk1 : 10 < k
     ·have ga : decide (10 < k) = true := by simpa using dk1
      go_wp2_with fail
      go_ret
      exact ⟨false, rfl, (fun h => by cases h), hb1⟩
     ·have ga : decide (10 < k) = false := by simpa using dk1
      by_cases dd : deep = 0
      ·have gd : (deep == 0) = true := by simp; omega
       replace dd := hide dd
       go_wp2_with fail
       go_ret
       exact ⟨false, rfl, (fun h => by cases h), hb1⟩
      ·have gd : (deep == 0) = false := by simp; omega
       by_cases dn6 : 65536 ≤ n
       ·have gn6 : decide (65536 ≤ (n : Int)) = true := by simp; omega
        go_wp2_with fail
        go_ret
        exact ⟨false, rfl, (fun h => by cases h), hb1⟩
       ·have gn6 : decide (65536 ≤ (n : Int)) = false := by simp; omega
        by_cases dm6 : 1048576 ≤ m
        ·have gm : decide (1048576 ≤ (m : Int)) = true := by simp; omega
         by_cases ek : k = 1
         ·have f1 : (k == 1) = true := by simp; omega
          have fm : decide (65536 ≤ (m : Int)) = true := by simp; omega
          replace ek := hide ek
          go_wp2_with fail
          go_ret
          exact ⟨false, rfl, (fun h => by cases h), hb1⟩
         ·have f1 : (k == 1) = false := by simp; omega
          go_wp2_with fail
          go_ret
          exact ⟨false, rfl, (fun h => by cases h), hb1⟩
        ·have gm : decide (1048576 ≤ (m : Int)) = false := by simp; omega
         by_cases ek : k = 1
         ·have f1 : (k == 1) = true := by simp; omega
          have g1 : decide (1 < k) = false := by simp; omega
          replace ek := hide ek
          by_cases dm5 : 65536 ≤ m
          ·have gm5 : decide (65536 ≤ (m : Int)) = true := by simp; omega
           go_wp2_with fail
           go_ret
           exact ⟨false, rfl, (fun h => by cases h), hb1⟩
          ·have gm5 : decide (65536 ≤ (m : Int)) = false := by simp; omega
           have HWE : Hid (k ≠ 1 → ws = []) := fun h => by
            first
             | exact absurd ek.out h
             | exact List.eq_nil_of_length_eq_zero (by rw [← HN.out]; omega)
           go_wp2_with fail
           go_loopw [5] (fun ix wr => ∃ i : Nat, i ≤ m ∧ ix = .int .i64 i ∧ Blk wr w.heap.size 25 #[.int .i64 k, .slice A n c, .slice K m d] ∧ Hid (∀ j (hj : j < ks.length), j < i → Rt2 ks[j] ∧ kidR k ks[j].kind) ∧ Below w.heap.size w wr) (fun ix _ => m - (intOf ix).toNat)
           case atStart => exact ⟨0, by omega, rfl, hB1, (fun j hj h => by omega), hb1⟩
           case round =>
            obtain ⟨i, hi, rfl, hB1r, HR, hbr⟩ := hrel
            clear c0 c1 c2 hB1 hb1
            have c0 := hB1r.cell 0
            have c1 := hB1r.cell 1
            have c2 := hB1r.cell 2
            simp at c0 c1 c2
            by_cases hlt : i < m
            ·have hl1 : i < ks.length := by rw [← HM.out]; exact hlt
             obtain ⟨bK, oK, v, rfl, hbK, x0, x1, x2, hkt⟩ := HK.out.at hl1
             obtain ⟨k3, A3, n3, c3, K3, m3, d3⟩ := v
             simp only at x0 x1 x2
             have hbK' := HS.out bK hbK
             have y0 := (hbr.cell (p := ⟨bK, oK + i * 3, none⟩) hbK').trans x0
             have y1 := (hbr.cell (p := ⟨bK, oK + i * 3 + 1, none⟩) hbK').trans x1
             have y2 := (hbr.cell (p := ⟨bK, oK + i * 3 + 2, none⟩) hbK').trans x2
             (try simp only at y0 y1 y2)
             clear x0 x1 x2
             have g1r := hB1r.lt
             have HIHC : Hid (∀ W, Below w.heap.size w W → Calls Try.prog 17 #[.agg #[.int .i64 k3, .slice A3 n3 c3, .slice K3 m3 d3], .int .i64 (deep - 1)] W (RightQ ks[i] W)) := fun W hW =>
              ih _ ⟨k3, A3, n3, c3, K3, m3, d3⟩ S (deep - 1) W (HIH.out i hl1) (hkt.keep (fun p hp => hW.cell (HS.out _ hp))) (fun b hb => Nat.lt_of_lt_of_le (HS.out b hb) hW.size) (by omega) (by omega)
             have HKT := hide hkt
             clear hkt
             go_upto_region 13 with fail
             have hB6 := Blk.new wr 25 #[.int .i64 k3, .slice A3 n3 c3, .slice K3 m3 d3]
             have hB1s := hB1r.alloc (.cells #[.int .i64 k3, .slice A3 n3 c3, .slice K3 m3 d3] 25)
             have hbs : Below w.heap.size w (wr.alloc (.cells #[.int .i64 k3, .slice A3 n3 c3, .slice K3 m3 d3] 25)) := hbr.alloc hbr.size _
             generalize wr.alloc (.cells #[.int .i64 k3, .slice A3 n3 c3, .slice K3 m3 d3] 25) = w2 at *
             generalize wr.heap.size = g6 at *
             have e0 := hB6.cell 0
             have e1 := hB6.cell 1
             have e2 := hB6.cell 2
             simp at e0 e1 e2
             clear y0 y1 y2 c0 c1 c2
             go_wp2_with fail
             refine (HIHC.out w2 hbs).mono ?_
             rintro e w3 ⟨b, rfl, hbR, hb3⟩
             have hbt : Below w.heap.size w w3 := hbs.trans (hb3.mono hbs.size)
             cases b
             ·go_wp2_with fail
              go_ret
              exact ⟨false, rfl, fun h => (by cases h), hbt⟩
             ·have HRK : Hid (Rt2 ks[i]) := hbR rfl
              clear hbR e0 e1 e2
              have hB1t := hB1s.below hb3 hB1s.lt
              have hB6t := hB6.below hb3 hB6.lt
              have g1t := hB1t.lt
              have g6t := hB6t.lt
              have c0 := hB1t.cell 0
              have e0 := hB6t.cell 0
              have e1 := hB6t.cell 1
              simp at c0 e0 e1
              have g2 : decide (2 ≤ k) = false := by have := ek.out; simp; omega
              by_cases d3a : k3 = 10
              ·have f3a : (k3 == 10) = true := by simpa using d3a
               replace d3a := hide d3a
               go_wp2_with fail
               go_quiet (fail)
               go_wp2_with fail
               go_ret
               exact ⟨false, rfl, (fun h => by cases h), below_drewN hbt _⟩
              ·have f3a : (k3 == 10) = false := by simpa using d3a
               by_cases d9 : k = 9
               ·have f9 : (k == 9) = true := by simpa using d9
                replace d9 := hide d9
                by_cases d31 : k3 = 1
                ·have f31 : (k3 != 1) = false := by simpa using d31
                 replace d31 := hide d31
                 go_wp2_with fail
                 go_quiet (fail)
                 have hB1W := hB1t.drewN nq
                 have hbW := below_drewN hbt nq
                 have HKD : Hid (kidR k k3) := by
                  show kidR k k3
                  unfold kidR
                  (try have e1 := d3a.out)
                  (try have e2 := d9.out)
                  (try have e3 := d31.out)
                  (try have e4 := ek.out)
                  exact ⟨⟨fun _ => by omega, fun _ => by omega⟩, fun _ => by omega⟩
                 go_wp2_with fail
                 go_roundw
                 case rel =>
                  exact ⟨i + 1, by omega, by go_num, hB1W, (fun j hj h => by
                   by_cases hji : j < i
                   ·exact HR.out j hj hji
                   ·have hj2 : j = i := by omega
                    subst hj2
                    exact ⟨HRK.out, by rw [HKT.out.kind]; exact HKD.out⟩), hbW⟩
                 case measure => simp [intOf]; omega
                ·have f31 : (k3 != 1) = true := by simpa using d31
                 go_wp2_with fail
                 go_quiet (fail)
                 go_wp2_with fail
                 go_ret
                 exact ⟨false, rfl, (fun h => by cases h), below_drewN hbt _⟩
               ·have f9 : (k == 9) = false := by simpa using d9
                go_wp2_with fail
                go_quiet (fail)
                have hB1W := hB1t.drewN nq
                have hbW := below_drewN hbt nq
                have HKD : Hid (kidR k k3) := by
                 show kidR k k3
                 unfold kidR
                 (try have e1 := d3a.out)
                 (try have e2 := d9.out)
                 (try have e3 := d31.out)
                 (try have e4 := ek.out)
                 exact ⟨⟨fun _ => by omega, fun _ => by omega⟩, fun _ => by omega⟩
                go_wp2_with fail
                go_roundw
                case rel =>
                 exact ⟨i + 1, by omega, by go_num, hB1W, (fun j hj h => by
                  by_cases hji : j < i
                  ·exact HR.out j hj hji
                  ·have hj2 : j = i := by omega
                   subst hj2
                   exact ⟨HRK.out, by rw [HKT.out.kind]; exact HKD.out⟩), hbW⟩
                case measure => simp [intOf]; omega
            ·have g8 : decide ((i : Int) < (m : Int)) = false := by simp; omega
             go_wp2_with fail
             go_ret
             exact ⟨true, rfl, fun _ => .mk k ws ks (by omega) (by omega) (fun h => absurd h d0) (fun h => absurd h d10) (fun h => absurd h d10) (fun h _ => HWE.out h) HU.out (fun j hj => (HR.out j hj (by rw [← HM.out] at hj; omega)).1) (fun j hj => (HR.out j hj (by rw [← HM.out] at hj; omega)).2), hbr⟩
         ·have f1 : (k == 1) = false := by simp; omega
          have g1 : decide (1 < k) = true := by simp; omega
          by_cases dw : 0 < n
          ·have gw : decide (0 < (n : Int)) = true := by simpa using dw
           go_wp2_with fail
           go_ret
           exact ⟨false, rfl, (fun h => by cases h), hb1⟩
          ·have gw : decide (0 < (n : Int)) = false := by simp; omega
           have HWE : Hid (k ≠ 1 → ws = []) := fun h => by
            first
             | exact absurd ek.out h
             | exact List.eq_nil_of_length_eq_zero (by rw [← HN.out]; omega)
           go_wp2_with fail
           go_loopw [5] (fun ix wr => ∃ i : Nat, i ≤ m ∧ ix = .int .i64 i ∧ Blk wr w.heap.size 25 #[.int .i64 k, .slice A n c, .slice K m d] ∧ Hid (∀ j (hj : j < ks.length), j < i → Rt2 ks[j] ∧ kidR k ks[j].kind) ∧ Below w.heap.size w wr) (fun ix _ => m - (intOf ix).toNat)
           case atStart => exact ⟨0, by omega, rfl, hB1, (fun j hj h => by omega), hb1⟩
           case round =>
            obtain ⟨i, hi, rfl, hB1r, HR, hbr⟩ := hrel
            clear c0 c1 c2 hB1 hb1
            have c0 := hB1r.cell 0
            have c1 := hB1r.cell 1
            have c2 := hB1r.cell 2
            simp at c0 c1 c2
            by_cases hlt : i < m
            ·have hl1 : i < ks.length := by rw [← HM.out]; exact hlt
             obtain ⟨bK, oK, v, rfl, hbK, x0, x1, x2, hkt⟩ := HK.out.at hl1
             obtain ⟨k3, A3, n3, c3, K3, m3, d3⟩ := v
             simp only at x0 x1 x2
             have hbK' := HS.out bK hbK
             have y0 := (hbr.cell (p := ⟨bK, oK + i * 3, none⟩) hbK').trans x0
             have y1 := (hbr.cell (p := ⟨bK, oK + i * 3 + 1, none⟩) hbK').trans x1
             have y2 := (hbr.cell (p := ⟨bK, oK + i * 3 + 2, none⟩) hbK').trans x2
             (try simp only at y0 y1 y2)
             clear x0 x1 x2
             have g1r := hB1r.lt
             have HIHC : Hid (∀ W, Below w.heap.size w W → Calls Try.prog 17 #[.agg #[.int .i64 k3, .slice A3 n3 c3, .slice K3 m3 d3], .int .i64 (deep - 1)] W (RightQ ks[i] W)) := fun W hW =>
              ih _ ⟨k3, A3, n3, c3, K3, m3, d3⟩ S (deep - 1) W (HIH.out i hl1) (hkt.keep (fun p hp => hW.cell (HS.out _ hp))) (fun b hb => Nat.lt_of_lt_of_le (HS.out b hb) hW.size) (by omega) (by omega)
             have HKT := hide hkt
             clear hkt
             go_upto_region 13 with fail
             have hB6 := Blk.new wr 25 #[.int .i64 k3, .slice A3 n3 c3, .slice K3 m3 d3]
             have hB1s := hB1r.alloc (.cells #[.int .i64 k3, .slice A3 n3 c3, .slice K3 m3 d3] 25)
             have hbs : Below w.heap.size w (wr.alloc (.cells #[.int .i64 k3, .slice A3 n3 c3, .slice K3 m3 d3] 25)) := hbr.alloc hbr.size _
             generalize wr.alloc (.cells #[.int .i64 k3, .slice A3 n3 c3, .slice K3 m3 d3] 25) = w2 at *
             generalize wr.heap.size = g6 at *
             have e0 := hB6.cell 0
             have e1 := hB6.cell 1
             have e2 := hB6.cell 2
             simp at e0 e1 e2
             clear y0 y1 y2 c0 c1 c2
             go_wp2_with fail
             refine (HIHC.out w2 hbs).mono ?_
             rintro e w3 ⟨b, rfl, hbR, hb3⟩
             have hbt : Below w.heap.size w w3 := hbs.trans (hb3.mono hbs.size)
             cases b
             ·go_wp2_with fail
              go_ret
              exact ⟨false, rfl, fun h => (by cases h), hbt⟩
             ·have HRK : Hid (Rt2 ks[i]) := hbR rfl
              clear hbR e0 e1 e2
              have hB1t := hB1s.below hb3 hB1s.lt
              have hB6t := hB6.below hb3 hB6.lt
              have g1t := hB1t.lt
              have g6t := hB6t.lt
              have c0 := hB1t.cell 0
              have e0 := hB6t.cell 0
              have e1 := hB6t.cell 1
              simp at c0 e0 e1
              have g2 : decide (2 ≤ k) = true := by simp; omega
              by_cases d7 : k ≤ 7
              ·have g7 : decide (k ≤ 7) = true := by simpa using d7
               have f9 : (k == 9) = false := by simp; omega
               by_cases d3a : k3 = 10
               ·have f3a : (k3 == 10) = true := by simpa using d3a
                replace d3a := hide d3a
                have HKT3 : Hid (TreeAt w3 S ks[i] ⟨k3, A3, n3, c3, K3, m3, d3⟩) := HKT.out.keep (fun p hp => hbt.cell (HS.out _ hp))
                have HX : Hid (n3 = 1 ∧ ∃ b o x, A3 = some ⟨b, o, none⟩ ∧ b < w.heap.size ∧ w3.cell? ⟨b, o, none⟩ = some (.int .u64 x) ∧ 0 ≤ x ∧ x ≤ 18446744073709551615) := by
                 have hw := HRK.out
                 have ht := HKT3.out
                 generalize ks[i] = tk at *
                 obtain ⟨kk, ww, kss⟩ := tk
                 have hkd : kk = k3 := ht.kind
                 have hww := ht.words
                 cases hw with
                 | mk _ _ _ _ _ _ _ h10 _ _ _ _ =>
                  have hl : ww.length = 1 := h10 (by rw [hkd]; exact d3a.out)
                  obtain ⟨b, o, e, hb, hc⟩ := hww.at (i := 0) (by omega)
                  exact ⟨by have := hww.len; simp only at this; omega, b, o, ww[0], e, HS.out b hb, hc, hww.u64 _ (List.getElem_mem _)⟩
                obtain ⟨hn3, bx, ox, x, hA3, hbx, hcx, hx0, hx1⟩ := HX.out
                subst hn3 hA3
                clear HX HKT3
                have hwk : IntKind.i64.wrap (k - 2) = k - 2 := IntWalk.i64_in _ (by omega)
                have HFT : Hid (∀ W, Calls Try.prog 30 #[.int .i64 (k - 2), .int .u64 x] W fun e w' => e = .returned (.bool (fitsS (k - 2) x)) ∧ W = w') := fun W => fits_any (k - 2) x ⟨hx0, hx1⟩ W
                generalize fitsS (k - 2) x = b9 at *
                go_wp2_with fail
                go_quiet ((go_at_call 30; exact Calls.quiet_of_same ((HFT.out _).mono (fun _ _ h => ⟨h.1, h.2.symm⟩))))
                have hB1W := hB1t.drewN nq
                have hbW := below_drewN hbt nq
                cases b9
                ·go_wp2_with fail
                 go_ret
                 exact ⟨false, rfl, fun h => (by cases h), hbW⟩
                ·skip
                 have HKD : Hid (kidR k k3) := by
                  show kidR k k3
                  unfold kidR
                  (try have e1 := d3a.out)
                  (try have e2 := d9.out)
                  (try have e3 := d31.out)
                  (try have e4 := ek.out)
                  exact ⟨⟨fun _ => by omega, fun _ => by omega⟩, fun _ => by omega⟩
                 go_wp2_with fail
                 go_roundw
                 case rel =>
                  exact ⟨i + 1, by omega, by go_num, hB1W, (fun j hj h => by
                   by_cases hji : j < i
                   ·exact HR.out j hj hji
                   ·have hj2 : j = i := by omega
                    subst hj2
                    exact ⟨HRK.out, by rw [HKT.out.kind]; exact HKD.out⟩), hbW⟩
                 case measure => simp [intOf]; omega
               ·have f3a : (k3 == 10) = false := by simpa using d3a
                go_wp2_with fail
                go_quiet (fail)
                go_wp2_with fail
                go_ret
                exact ⟨false, rfl, (fun h => by cases h), below_drewN hbt _⟩
              ·have g7 : decide (k ≤ 7) = false := by simpa using d7
               by_cases d3a : k3 = 10
               ·have f3a : (k3 == 10) = true := by simpa using d3a
                replace d3a := hide d3a
                go_wp2_with fail
                go_quiet (fail)
                go_wp2_with fail
                go_ret
                exact ⟨false, rfl, (fun h => by cases h), below_drewN hbt _⟩
               ·have f3a : (k3 == 10) = false := by simpa using d3a
                by_cases d9 : k = 9
                ·have f9 : (k == 9) = true := by simpa using d9
                 replace d9 := hide d9
                 by_cases d31 : k3 = 1
                 ·have f31 : (k3 != 1) = false := by simpa using d31
                  replace d31 := hide d31
                  go_wp2_with fail
                  go_quiet (fail)
                  have hB1W := hB1t.drewN nq
                  have hbW := below_drewN hbt nq
                  have HKD : Hid (kidR k k3) := by
                   show kidR k k3
                   unfold kidR
                   (try have e1 := d3a.out)
                   (try have e2 := d9.out)
                   (try have e3 := d31.out)
                   (try have e4 := ek.out)
                   exact ⟨⟨fun _ => by omega, fun _ => by omega⟩, fun _ => by omega⟩
                  go_wp2_with fail
                  go_roundw
                  case rel =>
                   exact ⟨i + 1, by omega, by go_num, hB1W, (fun j hj h => by
                    by_cases hji : j < i
                    ·exact HR.out j hj hji
                    ·have hj2 : j = i := by omega
                     subst hj2
                     exact ⟨HRK.out, by rw [HKT.out.kind]; exact HKD.out⟩), hbW⟩
                  case measure => simp [intOf]; omega
                 ·have f31 : (k3 != 1) = true := by simpa using d31
                  go_wp2_with fail
                  go_quiet (fail)
                  go_wp2_with fail
                  go_ret
                  exact ⟨false, rfl, (fun h => by cases h), below_drewN hbt _⟩
                ·have f9 : (k == 9) = false := by simpa using d9
                 go_wp2_with fail
                 go_quiet (fail)
                 have hB1W := hB1t.drewN nq
                 have hbW := below_drewN hbt nq
                 have HKD : Hid (kidR k k3) := by
                  show kidR k k3
                  unfold kidR
                  (try have e1 := d3a.out)
                  (try have e2 := d9.out)
                  (try have e3 := d31.out)
                  (try have e4 := ek.out)
                  exact ⟨⟨fun _ => by omega, fun _ => by omega⟩, fun _ => by omega⟩
                 go_wp2_with fail
                 go_roundw
                 case rel =>
                  exact ⟨i + 1, by omega, by go_num, hB1W, (fun j hj h => by
                   by_cases hji : j < i
                   ·exact HR.out j hj hji
                   ·have hj2 : j = i := by omega
                    subst hj2
                    exact ⟨HRK.out, by rw [HKT.out.kind]; exact HKD.out⟩), hbW⟩
                 case measure => simp [intOf]; omega
            ·have g8 : decide ((i : Int) < (m : Int)) = false := by simp; omega
             go_wp2_with fail
             go_ret
             exact ⟨true, rfl, fun _ => .mk k ws ks (by omega) (by omega) (fun h => absurd h d0) (fun h => absurd h d10) (fun h => absurd h d10) (fun h _ => HWE.out h) HU.out (fun j hj => (HR.out j hj (by rw [← HM.out] at hj; omega)).1) (fun j hj => (HR.out j hj (by rw [← HM.out] at hj; omega)).2), hbr⟩
end Go.Proofs.Ytbmjiokjigkdnaa
namespace Go.Proofs.Ytbmjiokjigkdnaa
open Go.RowKit Go.Proofs.Ytbmjiokjigkdnaa.Top
def rightD (e : Ed) : Prop := okE e ∧ neatE e ∧ CapE e
def opR (lk : Int) (o : Opn) : Prop := okO lk o ∧ neatS o ∧ capO o ∧ neatE o.eO ∧ CapE o.eO
def RightH (D : Nat) : Prop := ∀ (e : Ed) (v : Ev) (S : Nat → Prop) (deep : Int) (w : World), deep = D → D ≤ 64 → EdAt w S e v → (∀ b, S b → b < w.heap.size) →
  Calls Try.prog 14 #[.agg #[.int .i64 v.k, .int .i64 v.old.k, .slice v.old.A v.old.n v.old.c, .slice v.old.K v.old.m v.old.d, .int .i64 v.new.k, .slice v.new.A v.new.n v.new.c, .slice v.new.K v.new.m v.new.d, .slice v.W v.wn v.wc, .slice v.K v.kn v.kc, .int .i64 v.lk, .slice v.O v.on v.oc], .int .i64 deep] w (BoolP (rightD e) w)
theorem cap_nilE : CapE nilE := .mk _ _ _ _ _ _ _ (fun x hx => by cases hx) (fun x hx => by cases hx) (fun x hx => by cases hx) (fun x hx => by cases hx) (fun x hx => by cases hx)
theorem okT_join {lk : Int} {l : List T} (hn : l ≠ []) (h : ∀ x ∈ l, okT (.node lk [] [x])) : okT (.node lk [] l) := by
 have one : ∀ x ∈ l, (0 ≤ lk ∧ lk ≤ 10 ∧ lk ≠ 10 ∧ lk ≠ 0 ∧ (lk = 1 → x.kind ≠ 10) ∧ (2 ≤ lk → lk ≤ 7 → x.kind = 10) ∧ (lk = 8 → x.kind ≠ 10) ∧ (lk = 9 → x.kind = 1)) ∧ okT x := fun x hx => by
  have := h x hx
  rw [okT, okTL_iff] at this
  obtain ⟨h0, h1, _, _, h4, h5, h6, h7, h8, h9, h10, h11⟩ := this
  exact ⟨⟨h0, h1, fun e => by have := h4 e; simp at this, fun e => by have := h5 e; simp at this, fun e => h7 e x (List.mem_singleton.2 rfl), fun e e' => h8 e e' x (List.mem_singleton.2 rfl), fun e => h9 e x (List.mem_singleton.2 rfl), fun e => h10 e x (List.mem_singleton.2 rfl)⟩, h11 x (List.mem_singleton.2 rfl)⟩
 obtain ⟨y, hy⟩ := List.exists_mem_of_ne_nil l hn
 have hy := (one y hy).1
 rw [okT, okTL_iff]
 exact ⟨hy.1, hy.2.1, fun x hx => (by cases hx), fun _ _ => rfl, fun e => absurd e hy.2.2.1, fun e => absurd e hy.2.2.2.1, fun e => absurd e hy.2.2.1, fun e x hx => (one x hx).1.2.2.2.2.1 e, fun e e' x hx => (one x hx).1.2.2.2.2.2.1 e e', fun e x hx => (one x hx).1.2.2.2.2.2.2.1 e, fun e x hx => (one x hx).1.2.2.2.2.2.2.2 e, fun x hx => (one x hx).2⟩
theorem within_any (x m : Int) (h0 : 0 ≤ x) (h1 : x ≤ 18446744073709551615) (m0 : 0 ≤ m) (m1 : m ≤ 255) (w : World) :
  Calls Try.prog 26 #[.int .u64 x, .int .u8 m] w (BoolP (mixT x 0 m = 0) w) := by
 go_enter Try.func26, Try.ntmps26
 go_wp2_with fail
 refine (refMix_top x 0 m h0 h1 (by decide) (by decide) m0 m1 _).mono ?_
 rintro e w1 ⟨rfl, hb⟩
 go_wp2_with fail
 go_ret
 exact BoolP.of (fun h => by simpa using h) hb
section
variable {P : Program} {t e : TypeId} {i : TypeInfo} {size : Nat}
theorem run_mid (ht : P.underlying t = some (.slice e)) (hi : P.info? e = some i) (hs : i.size = size) (K : Option Addr) (m d a : Nat) (h : a < m) (hm : m ≤ d) (W : World) :
  (Instr.sliceAt t (.slice K m d) (some (.int .i64 (a : Int))) (some (.int .i64 ((a : Int) + 1))) none).run P W = .ok (.slice (fromA K d a size) 1 (d - a)) W := by
 have h1 : a + 1 ≤ d := by omega
 have e1 : ((a : Int) + 1).toNat = a + 1 := by omega
 have e2 : (0 : Int) ≤ (a : Int) + 1 := by omega
 simp [Instr.sliceAt, Instr.slice, Instr.sliceBounds, Instr.sliceBound, asIntOf, run_underlying ht, sizeOf, typeInfo, hi, hs, go_sem, h1, e1, e2, fromA]
 intro hx
 omega
end
set_option maxRecDepth 100000 in
set_option maxHeartbeats 16000000 in
theorem op_any (D : Nat) (hR : RightH D) (lk : Int) (o : Opn) (v : Ov) (S : Nat → Prop) (deep : Int) (w : World) (hd : deep = D) (hD : D ≤ 64) (h : OpAt w S o v) (hS : ∀ b, S b → b < w.heap.size) :
  Calls Try.prog 27 #[.int .i64 lk, .agg #[.int .i64 v.k, .int .i64 v.n, .slice v.L v.ln v.lc, .int .i64 v.e.k, .int .i64 v.e.old.k, .slice v.e.old.A v.e.old.n v.e.old.c, .slice v.e.old.K v.e.old.m v.e.old.d, .int .i64 v.e.new.k, .slice v.e.new.A v.e.new.n v.e.new.c, .slice v.e.new.K v.e.new.m v.e.new.d, .slice v.e.W v.e.wn v.e.wc, .slice v.e.K v.e.kn v.e.kc, .int .i64 v.e.lk, .slice v.e.O v.e.on v.e.oc], .int .i64 deep] w (BoolP (opR lk o) w) := by
 obtain ⟨kind, n, l, e⟩ := o
 have hk : v.k = kind := h.k
 have hn : v.n = n := h.n
 obtain ⟨lv, hlv⟩ := h.l
 have hlv : KidsAt w S v.L v.ln v.lc l lv := hlv
 have hE : EdAt w S e v.e := h.e
 have HLL : Hid (v.ln = l.length) := hlv.len
 have hlf : v.ln ≤ 2513169434843 := by rw [hlv.len]; exact hlv.few
 have hcap := hlv.cap
 have HLV := hide hlv
 have HE := hide hE
 have HS := hide hS
 have hek : Hid (v.e.k = e.kind) := hE.kind.symm
 have hEK : Hid (e.kind = 1 → v.e.old.k = 1 → v.e.new.k = 1 → ∀ old new ws ks k o, e = .mk 1 old new ws ks k o → old.kind = 1 ∧ new.kind = 1) := fun _ h1 h2 old new ws ks k o e1 => by
  subst e1
  obtain ⟨_, _, kv, ov, P⟩ := hE.parts
  exact ⟨by rw [P.old.kind]; exact h1, by rw [P.new.kind]; exact h2⟩
 have R := (Bx.nil w).box 47 #[.int .i64 v.k, .int .i64 v.n, .slice v.L v.ln v.lc, .int .i64 v.e.k, .int .i64 v.e.old.k, .slice v.e.old.A v.e.old.n v.e.old.c, .slice v.e.old.K v.e.old.m v.e.old.d, .int .i64 v.e.new.k, .slice v.e.new.A v.e.new.n v.e.new.c, .slice v.e.new.K v.e.new.m v.e.new.d, .slice v.e.W v.e.wn v.e.wc, .slice v.e.K v.e.kn v.e.kc, .int .i64 v.e.lk, .slice v.e.O v.e.on v.e.oc] rfl
 have HSM : Hid (∀ W, Below w.heap.size w W → Calls Try.prog 41 #[.agg #[.int .i64 v.e.k, .int .i64 v.e.old.k, .slice v.e.old.A v.e.old.n v.e.old.c, .slice v.e.old.K v.e.old.m v.e.old.d, .int .i64 v.e.new.k, .slice v.e.new.A v.e.new.n v.e.new.c, .slice v.e.new.K v.e.new.m v.e.new.d, .slice v.e.W v.e.wn v.e.wc, .slice v.e.K v.e.kn v.e.kc, .int .i64 v.e.lk, .slice v.e.O v.e.on v.e.oc]] W (BoolP (e = nilE) W)) := fun W hW =>
  same_any e v.e S W (HE.out.bel hW HS.out) (fun b hb => by have := HS.out b hb; have := hW.size; omega)
 have HRT : Hid (∀ W, Below w.heap.size w W → Calls Try.prog 14 #[.agg #[.int .i64 v.e.k, .int .i64 v.e.old.k, .slice v.e.old.A v.e.old.n v.e.old.c, .slice v.e.old.K v.e.old.m v.e.old.d, .int .i64 v.e.new.k, .slice v.e.new.A v.e.new.n v.e.new.c, .slice v.e.new.K v.e.new.m v.e.new.d, .slice v.e.W v.e.wn v.e.wc, .slice v.e.K v.e.kn v.e.kc, .int .i64 v.e.lk, .slice v.e.O v.e.on v.e.oc], .int .i64 deep] W (BoolP (rightD e) W)) := fun W hW =>
  hR e v.e S deep W hd hD (HE.out.bel hW HS.out) (fun b hb => by have := HS.out b hb; have := hW.size; omega)
 subst hk hn
 clear h hlv hE hS hR hd hD
 go_enter Try.func27, Try.ntmps27
 go_upto_region 1 with fail
 generalize w.alloc (.cells #[.int .i64 v.k, .int .i64 v.n, .slice v.L v.ln v.lc, .int .i64 v.e.k, .int .i64 v.e.old.k, .slice v.e.old.A v.e.old.n v.e.old.c, .slice v.e.old.K v.e.old.m v.e.old.d, .int .i64 v.e.new.k, .slice v.e.new.A v.e.new.n v.e.new.c, .slice v.e.new.K v.e.new.m v.e.new.d, .slice v.e.W v.e.wn v.e.wc, .slice v.e.K v.e.kn v.e.kc, .int .i64 v.e.lk, .slice v.e.O v.e.on v.e.oc] 47) = w1 at *
 have c0 : w1.cell? ⟨w.heap.size, 0, none⟩ = some (.int .i64 v.k) := (R.b 0 rfl).cell 0
 have c1 : w1.cell? ⟨w.heap.size, 1, none⟩ = some (.int .i64 v.n) := (R.b 0 rfl).cell 1
 have c2 : w1.cell? ⟨w.heap.size, 2, none⟩ = some (.slice v.L v.ln v.lc) := (R.b 0 rfl).cell 2
 have c3 : w1.cell? ⟨w.heap.size, 3, none⟩ = some (.int .i64 v.e.k) := (R.b 0 rfl).cell 3
 have c4 : w1.cell? ⟨w.heap.size, 4, none⟩ = some (.int .i64 v.e.old.k) := (R.b 0 rfl).cell 4
 have c5 : w1.cell? ⟨w.heap.size, 5, none⟩ = some (.slice v.e.old.A v.e.old.n v.e.old.c) := (R.b 0 rfl).cell 5
 have c6 : w1.cell? ⟨w.heap.size, 6, none⟩ = some (.slice v.e.old.K v.e.old.m v.e.old.d) := (R.b 0 rfl).cell 6
 have c7 : w1.cell? ⟨w.heap.size, 7, none⟩ = some (.int .i64 v.e.new.k) := (R.b 0 rfl).cell 7
 have c8 : w1.cell? ⟨w.heap.size, 8, none⟩ = some (.slice v.e.new.A v.e.new.n v.e.new.c) := (R.b 0 rfl).cell 8
 have c9 : w1.cell? ⟨w.heap.size, 9, none⟩ = some (.slice v.e.new.K v.e.new.m v.e.new.d) := (R.b 0 rfl).cell 9
 have c10 : w1.cell? ⟨w.heap.size, 10, none⟩ = some (.slice v.e.W v.e.wn v.e.wc) := (R.b 0 rfl).cell 10
 have c11 : w1.cell? ⟨w.heap.size, 11, none⟩ = some (.slice v.e.K v.e.kn v.e.kc) := (R.b 0 rfl).cell 11
 have c12 : w1.cell? ⟨w.heap.size, 12, none⟩ = some (.int .i64 v.e.lk) := (R.b 0 rfl).cell 12
 have c13 : w1.cell? ⟨w.heap.size, 13, none⟩ = some (.slice v.e.O v.e.on v.e.oc) := (R.b 0 rfl).cell 13
 by_cases hk0 : v.k = 0
 ·have f0 : (v.k == 0) = true := by simpa using hk0
  replace hk0 := hide hk0
  by_cases h1 : 1 ≤ v.n ∧ v.n ≤ 1048576 ∧ v.ln = 0
  ·obtain ⟨a1, a2, a3⟩ := h1
   have g1 : decide (1 ≤ v.n) = true := by simpa using a1
   have g2 : decide (v.n ≤ 1048576) = true := by simpa using a2
   have g3 : ((v.ln : Int) == 0) = true := by simp; omega
   have A1 := hide a1
   have A2 := hide a2
   have A3 := hide a3
   clear a1 a2 a3
   go_wp2_with fail
   refine (HSM.out _ R.bel).mono ?_
   rintro e w2 ⟨b, rfl, hb, hb2⟩
   replace R := R.step hb2
   have HB := hide hb
   clear hb
   go_wp2_with fail
   go_ret
   refine BoolP.of (fun h => ?_) R.bel
   have he := HB.out h
   have hl : l = [] := List.eq_nil_of_length_eq_zero (by have := HLL.out; have := A3.out; omega)
   have k0 := hk0.out
   have a1 := A1.out
   have a2 := A2.out
   refine ⟨⟨by omega, by omega, fun _ => a1, fun h => by omega, fun h => by omega⟩, ⟨by omega, by omega, fun _ => ⟨a1, hl⟩, fun h => by omega⟩, ⟨show 0 ≤ v.k by omega, show v.k ≤ 3 by omega, show 0 ≤ v.n by omega, a2⟩, ?_, ?_⟩
   ·show neatE e; rw [he]; exact neat_nilE
   ·show CapE e; rw [he]; exact cap_nilE
  ·have HF : Hid (¬ (1 ≤ v.n ∧ v.n ≤ 1048576 ∧ v.ln = 0)) := h1
   by_cases a1 : 1 ≤ v.n
   ·have g1 : decide (1 ≤ v.n) = true := by simpa using a1
    by_cases a2 : v.n ≤ 1048576
    ·have g2 : decide (v.n ≤ 1048576) = true := by simpa using a2
     have g3 : ((v.ln : Int) == 0) = false := by simp; omega
     clear h1 a1 a2
     go_wp2_with fail
     go_ret
     exact BoolP.no R.bel
    ·have g2 : decide (v.n ≤ 1048576) = false := by simpa using a2
     clear h1 a1 a2
     go_wp2_with fail
     go_ret
     exact BoolP.no R.bel
   ·have g1 : decide (1 ≤ v.n) = false := by simpa using a1
    clear h1 a1
    go_wp2_with fail
    go_ret
    exact BoolP.no R.bel
 ·have f0 : (v.k == 0) = false := by simpa using hk0
  by_cases hn0 : v.n = 0
  ·have f1 : (v.n != 0) = false := by simpa using hn0
   have HN0 := hide hn0
   by_cases hkn : v.k < 0
   ·have f2 : decide (v.k < 0) = true := by simpa using hkn
    clear hn0 hk0 hkn
    go_wp2_with fail
    go_ret
    exact BoolP.no R.bel
   ·have f2 : decide (v.k < 0) = false := by simpa using hkn
    by_cases hk3 : 3 < v.k
    ·have f3 : decide (3 < v.k) = true := by simpa using hk3
     clear hn0 hk0 hkn hk3
     go_wp2_with fail
     go_ret
     exact BoolP.no R.bel
    ·have f3 : decide (3 < v.k) = false := by simpa using hk3
     have HKB : Hid (1 ≤ v.k ∧ v.k ≤ 3) := by constructor <;> omega
     by_cases h3 : v.k < 3
     ·have f4 : decide (v.k < 3) = true := by simpa using h3
      have HK3 := hide h3
      clear hn0 hk0 hkn hk3 h3
      have hmid : ∀ a : Nat, a < v.ln → ∀ W, (Instr.sliceAt 23 (.slice v.L v.ln v.lc) (some (.int .i64 (a : Int))) (some (.int .i64 ((a : Int) + 1))) none).run Try.prog W = .ok (.slice (fromA v.L v.lc a 3) 1 (v.lc - a)) W := fun a ha W => by
       obtain ⟨i0, hi, hz0, hz1, hz2⟩ := info_parts infoTree
       exact run_mid Try.underlying23 hi hz1 v.L v.ln v.lc a ha hcap W
      have HMID := hide hmid
      clear hmid
      go_wp2_with fail
      go_loopw [7] (fun ix wr => ∃ (q : Nat), ix = .int .i64 q ∧ q ≤ v.ln ∧ Hid (∀ i (h : i < l.length), i < q → okT (.node lk [] [l[i]])) ∧ Bx w wr [⟨w.heap.size, 47, #[.int .i64 v.k, .int .i64 v.n, .slice v.L v.ln v.lc, .int .i64 v.e.k, .int .i64 v.e.old.k, .slice v.e.old.A v.e.old.n v.e.old.c, .slice v.e.old.K v.e.old.m v.e.old.d, .int .i64 v.e.new.k, .slice v.e.new.A v.e.new.n v.e.new.c, .slice v.e.new.K v.e.new.m v.e.new.d, .slice v.e.W v.e.wn v.e.wc, .slice v.e.K v.e.kn v.e.kc, .int .i64 v.e.lk, .slice v.e.O v.e.on v.e.oc]⟩]) (fun ix _ => v.ln - (intOf ix).toNat)
      case atStart => exact ⟨0, rfl, by omega, fun i h1 h2 => by omega, R⟩
      case round =>
       obtain ⟨q, rfl, hq, HQ, R2⟩ := hrel
       clear R c0 c1 c2 c3 c4 c5 c6 c7 c8 c9 c10 c11 c12 c13
       have c2 : wr.cell? ⟨w.heap.size, 2, none⟩ = some (.slice v.L v.ln v.lc) := (R2.b 0 rfl).cell 2
       by_cases hlt : q < v.ln
       ·have hl1 : q < l.length := by rw [← HLL.out]; exact hlt
        have hm1 := HMID.out q hlt
        have HT : Hid (TreeAt w S (.node lk [] [l[q]]) ⟨lk, none, 0, 0, fromA v.L v.lc q 3, 1, v.lc - q⟩) := by
         have h1 := (HLV.out.from q (by omega)).take 1 (by omega)
         have e1 : (l.drop q).take 1 = [l[q]] := by rw [List.drop_eq_getElem_cons hl1]; rfl
         rw [e1] at h1
         exact TreeAt.of WordsAt.none_ h1
        have HCL : Hid (Calls Try.prog 17 #[.agg #[.int .i64 lk, .slice none 0 0, .slice (fromA v.L v.lc q 3) 1 (v.lc - q)], .int .i64 64] wr (RightQ (.node lk [] [l[q]]) wr)) :=
         right2_any _ _ ⟨lk, none, 0, 0, fromA v.L v.lc q 3, 1, v.lc - q⟩ S 64 wr (Nat.le_refl _) (HT.out.bel R2.bel HS.out) (fun b hb => by have := HS.out b hb; have := R2.size; omega) (by decide) (by decide)
        go_wp2_with fail
        refine HCL.out.mono ?_
        rintro e w3 ⟨b, rfl, hb, hb3⟩
        replace R2 := R2.step hb3
        clear c2 hm1
        cases b
        ·go_wp2_with fail
         go_ret
         exact BoolP.no R2.bel
        ·have HBB := hide (hb rfl).ok
         clear hb
         go_wp2_with fail
         go_roundw
         case rel => exact ⟨q + 1, by go_num, by omega, fun i h1 h2 => by
          by_cases e : i = q
          ·subst e; exact HBB.out
          ·exact HQ.out i h1 (by omega), R2⟩
         case measure => simp [intOf]; omega
       ·have HKD : Hid (∀ x ∈ l, okT (.node lk [] [x])) := fun x hx => by
         obtain ⟨i, hi, rfl⟩ := List.mem_iff_getElem.1 hx
         exact HQ.out i hi (by have := HLL.out; omega)
        have fi : decide ((q : Int) < (v.ln : Int)) = false := by simp; omega
        clear HQ
        by_cases hz : 0 < v.ln
        ·have fz : decide (0 < (v.ln : Int)) = true := by simp; omega
         have HZ := hide hz
         have c3 : wr.cell? ⟨w.heap.size, 3, none⟩ = some (.int .i64 v.e.k) := (R2.b 0 rfl).cell 3
         have c4 : wr.cell? ⟨w.heap.size, 4, none⟩ = some (.int .i64 v.e.old.k) := (R2.b 0 rfl).cell 4
         have c5 : wr.cell? ⟨w.heap.size, 5, none⟩ = some (.slice v.e.old.A v.e.old.n v.e.old.c) := (R2.b 0 rfl).cell 5
         have c6 : wr.cell? ⟨w.heap.size, 6, none⟩ = some (.slice v.e.old.K v.e.old.m v.e.old.d) := (R2.b 0 rfl).cell 6
         have c7 : wr.cell? ⟨w.heap.size, 7, none⟩ = some (.int .i64 v.e.new.k) := (R2.b 0 rfl).cell 7
         have c8 : wr.cell? ⟨w.heap.size, 8, none⟩ = some (.slice v.e.new.A v.e.new.n v.e.new.c) := (R2.b 0 rfl).cell 8
         have c9 : wr.cell? ⟨w.heap.size, 9, none⟩ = some (.slice v.e.new.K v.e.new.m v.e.new.d) := (R2.b 0 rfl).cell 9
         have c10 : wr.cell? ⟨w.heap.size, 10, none⟩ = some (.slice v.e.W v.e.wn v.e.wc) := (R2.b 0 rfl).cell 10
         have c11 : wr.cell? ⟨w.heap.size, 11, none⟩ = some (.slice v.e.K v.e.kn v.e.kc) := (R2.b 0 rfl).cell 11
         have c12 : wr.cell? ⟨w.heap.size, 12, none⟩ = some (.int .i64 v.e.lk) := (R2.b 0 rfl).cell 12
         have c13 : wr.cell? ⟨w.heap.size, 13, none⟩ = some (.slice v.e.O v.e.on v.e.oc) := (R2.b 0 rfl).cell 13
         go_wp2_with fail
         refine (HSM.out _ R2.bel).mono ?_
         rintro e w2 ⟨b, rfl, hb, hb2⟩
         replace R2 := R2.step hb2
         have HB := hide hb
         clear hb
         go_wp2_with fail
         go_ret
         refine BoolP.of (fun h => ?_) R2.bel
         have he := HB.out h
         have hl : l ≠ [] := fun e => by have h1 := HLL.out; have h2 := HZ.out; rw [e] at h1; simp at h1; omega
         have kb := HKB.out
         have k3 := HK3.out
         have n0 := HN0.out
         refine ⟨⟨by omega, by omega, fun h => by omega, fun _ => okT_join hl HKD.out, fun h => by omega⟩, ⟨by omega, by omega, fun h => by omega, fun _ => ⟨n0, hl⟩⟩, ⟨show 0 ≤ v.k by omega, show v.k ≤ 3 by omega, show 0 ≤ v.n by omega, show v.n ≤ 1048576 by omega⟩, ?_, ?_⟩
         ·show neatE e; rw [he]; exact neat_nilE
         ·show CapE e; rw [he]; exact cap_nilE
        ·have fz : decide (0 < (v.ln : Int)) = false := by simp; omega
         go_wp2_with fail
         go_ret
         exact BoolP.no R2.bel
     ·have f4 : decide (v.k < 3) = false := by simpa using h3
      have HK3 : Hid (v.k = 3) := by show _ = _; omega
      clear hn0 hk0 hkn hk3 h3
      by_cases hz : 0 < v.ln
      ·have fz : decide (0 < (v.ln : Int)) = true := by simp; omega
       go_wp2_with fail
       go_ret
       exact BoolP.no R.bel
      ·have fz : decide (0 < (v.ln : Int)) = false := by simp; omega
       have HZ : Hid (v.ln = 0) := by show _ = _; omega
       by_cases he0 : v.e.k = 0
       ·have fe : (v.e.k == 0) = true := by simpa using he0
        clear he0
        go_wp2_with fail
        go_ret
        exact BoolP.no R.bel
       ·have fe : (v.e.k == 0) = false := by simpa using he0
        have HE0 := hide he0
        clear he0
        by_cases hl7 : lk ≤ 7
        ·have fl : decide (lk ≤ 7) = true := by simpa using hl7
         clear hl7
         go_wp2_with fail
         go_ret
         exact BoolP.no R.bel
        ·have fl : decide (lk ≤ 7) = false := by simpa using hl7
         have HL7 := hide hl7
         clear hl7
         go_wp2_with fail
         refine (HRT.out _ R.bel).mono ?_
         rintro e w2 ⟨b, rfl, hb, hb2⟩
         replace R := R.step hb2
         clear c0 c1 c2 c3 c4 c5 c6 c7 c8 c9 c10 c11 c12 c13
         cases b
         ·go_wp2_with fail
          go_ret
          exact BoolP.no R.bel
         ·have HB := hide (hb rfl)
          clear hb
          have c3 : w2.cell? ⟨w.heap.size, 3, none⟩ = some (.int .i64 v.e.k) := (R.b 0 rfl).cell 3
          have c4 : w2.cell? ⟨w.heap.size, 4, none⟩ = some (.int .i64 v.e.old.k) := (R.b 0 rfl).cell 4
          have c7 : w2.cell? ⟨w.heap.size, 7, none⟩ = some (.int .i64 v.e.new.k) := (R.b 0 rfl).cell 7
          have HDONE : Hid (lk = 8 ∨ v.e.k = 2 ∨ (v.e.k = 1 ∧ v.e.old.k = 1 ∧ v.e.new.k = 1) → opR lk (.mk v.k v.n l e)) := fun hc => by
           obtain ⟨b1, b2, b3⟩ := HB.out
           have k3 := HK3.out
           have n0 := HN0.out
           have l7 := HL7.out
           have e0 := HE0.out
           have hek := hek.out
           refine ⟨⟨by omega, by omega, fun h => by omega, fun h => by omega, fun _ => ⟨by omega, by omega, b1, fun h9 => ?_⟩⟩, ⟨by omega, by omega, fun h => by omega, fun h => by omega⟩, ⟨show 0 ≤ v.k by omega, show v.k ≤ 3 by omega, show 0 ≤ v.n by omega, show v.n ≤ 1048576 by omega⟩, b2, b3⟩
           rcases hc with hc | hc | hc
           ·omega
           ·exact .inl (by omega)
           ·exact .inr ⟨by omega, hEK.out (by omega) hc.2.1 hc.2.2⟩
          by_cases h8 : lk = 8
          ·have g8 : (lk == 8) = true := by simpa using h8
           replace h8 := hide h8
           go_wp2_with fail
           go_ret
           exact BoolP.yes (HDONE.out (.inl h8.out)) R.bel
          ·have g8 : (lk == 8) = false := by simpa using h8
           clear h8
           by_cases h2 : v.e.k = 2
           ·have g2 : (v.e.k == 2) = true := by simpa using h2
            replace h2 := hide h2
            go_wp2_with fail
            go_ret
            exact BoolP.yes (HDONE.out (.inr (.inl h2.out))) R.bel
           ·have g2 : (v.e.k == 2) = false := by simpa using h2
            clear h2
            by_cases h1 : v.e.k = 1
            ·have g1 : (v.e.k == 1) = true := by simpa using h1
             replace h1 := hide h1
             by_cases ho : v.e.old.k = 1
             ·have go : (v.e.old.k == 1) = true := by simpa using ho
              replace ho := hide ho
              by_cases hw : v.e.new.k = 1
              ·have gw : (v.e.new.k == 1) = true := by simpa using hw
               replace hw := hide hw
               go_wp2_with fail
               go_ret
               exact BoolP.yes (HDONE.out (.inr (.inr ⟨h1.out, ho.out, hw.out⟩))) R.bel
              ·have gw : (v.e.new.k == 1) = false := by simpa using hw
               clear hw
               go_wp2_with fail
               go_ret
               exact BoolP.no R.bel
             ·have go : (v.e.old.k == 1) = false := by simpa using ho
              clear ho
              go_wp2_with fail
              go_ret
              exact BoolP.no R.bel
            ·have g1 : (v.e.k == 1) = false := by simpa using h1
             clear h1
             go_wp2_with fail
             go_ret
             exact BoolP.no R.bel
  ·have f1 : (v.n != 0) = true := by simpa using hn0
   clear hn0 hk0
   go_wp2_with fail
   go_ret
   exact BoolP.no R.bel
end Go.Proofs.Ytbmjiokjigkdnaa
namespace Go.Proofs.Ytbmjiokjigkdnaa
open Go.RowKit Go.Proofs.Ytbmjiokjigkdnaa.Top
def shapeF (k : Int) (old new : T) (wn kn : Nat) (lk : Int) (on : Nat) : Prop := (k ≠ 1 → old = nilT ∧ new = nilT) ∧ (k ≠ 2 → wn + kn = 0) ∧ (k ≠ 3 → lk = 0 ∧ on = 0)
set_option maxRecDepth 100000 in
set_option maxHeartbeats 32000000 in
theorem rightE_any (D : Nat) : RightH D := by
 induction D with
 | zero =>
  intro e v S deep w hdp hD h hS
  clear h hS
  subst hdp
  have R := (Bx.nil w).box 30 #[.int .i64 v.k, .int .i64 v.old.k, .slice v.old.A v.old.n v.old.c, .slice v.old.K v.old.m v.old.d, .int .i64 v.new.k, .slice v.new.A v.new.n v.new.c, .slice v.new.K v.new.m v.new.d, .slice v.W v.wn v.wc, .slice v.K v.kn v.kc, .int .i64 v.lk, .slice v.O v.on v.oc] rfl
  go_enter Try.func14, Try.ntmps14
  go_wp2_with fail
  go_ret
  exact BoolP.no R.bel
 | succ D ih =>
  intro e v S deep w hdp hD h hS
  obtain ⟨k, old, new, ws, ks, lk, ops, rfl, h1, h2, h3, h4, h5, b1, b2, b3, hO, hN⟩ := h.lens
  obtain ⟨_, _, kv, ov, P⟩ := h.parts
  have HEd := hide h
  have HWS := hide P.ws
  have HOS := hide P.ops
  have HKS := hide P.ks
  have HWN := hide h3
  have HKN := hide h4
  have HON := hide h5
  have HOL := hide hO
  have HNW := hide hN
  have HS := hide hS
  have HIH := hide ih
  have fd : (deep == 0) = false := by simp; omega
  have HDP : Hid (deep - 1 = (D : Int) ∧ D ≤ 64) := ⟨by omega, by omega⟩
  have hdp1 : 1 ≤ deep := by omega
  have hdp2 : deep ≤ 65 := by omega
  subst h1 h2
  clear hdp hD h P hS h3 h4 h5 hO hN ih
  have R := (Bx.nil w).box 30 #[.int .i64 v.k, .int .i64 v.old.k, .slice v.old.A v.old.n v.old.c, .slice v.old.K v.old.m v.old.d, .int .i64 v.new.k, .slice v.new.A v.new.n v.new.c, .slice v.new.K v.new.m v.new.d, .slice v.W v.wn v.wc, .slice v.K v.kn v.kc, .int .i64 v.lk, .slice v.O v.on v.oc] rfl
  have HT1 : Hid (∀ W, Below w.heap.size w W → Calls Try.prog 25 #[.agg #[.int .i64 v.old.k, .slice v.old.A v.old.n v.old.c, .slice v.old.K v.old.m v.old.d]] W (BoolP (old = nilT) W)) := fun W hW => none_any old v.old S W (HOL.out.bel hW HS.out)
  have HT2 : Hid (∀ W, Below w.heap.size w W → Calls Try.prog 25 #[.agg #[.int .i64 v.new.k, .slice v.new.A v.new.n v.new.c, .slice v.new.K v.new.m v.new.d]] W (BoolP (new = nilT) W)) := fun W hW => none_any new v.new S W (HNW.out.bel hW HS.out)
  have HR1 : Hid (∀ W, Below w.heap.size w W → Calls Try.prog 17 #[.agg #[.int .i64 v.old.k, .slice v.old.A v.old.n v.old.c, .slice v.old.K v.old.m v.old.d], .int .i64 64] W (RightQ old W)) := fun W hW =>
   right2_any _ old v.old S 64 W (Nat.le_refl _) (HOL.out.bel hW HS.out) (fun b hb => Nat.lt_of_lt_of_le (HS.out b hb) hW.size) (by decide) (by decide)
  have HR2 : Hid (∀ W, Below w.heap.size w W → Calls Try.prog 17 #[.agg #[.int .i64 v.new.k, .slice v.new.A v.new.n v.new.c, .slice v.new.K v.new.m v.new.d], .int .i64 64] W (RightQ new W)) := fun W hW =>
   right2_any _ new v.new S 64 W (Nat.le_refl _) (HNW.out.bel hW HS.out) (fun b hb => Nat.lt_of_lt_of_le (HS.out b hb) hW.size) (by decide) (by decide)
  by_cases hk0 : v.k < 0
  ·have fk0 : decide (v.k < 0) = true := by simpa using hk0
   clear hk0
   go_enter Try.func14, Try.ntmps14
   go_wp2_with fail
   go_ret
   exact BoolP.no R.bel
  ·have fk0 : decide (v.k < 0) = false := by simpa using hk0
   by_cases hk3 : 3 < v.k
   ·have fk3 : decide (3 < v.k) = true := by simpa using hk3
    clear hk0 hk3
    go_enter Try.func14, Try.ntmps14
    go_wp2_with fail
    go_ret
    exact BoolP.no R.bel
   ·have fk3 : decide (3 < v.k) = false := by simpa using hk3
    have HKB : Hid (0 ≤ v.k ∧ v.k ≤ 3) := by constructor <;> omega
    clear hk0 hk3
    go_enter Try.func14, Try.ntmps14
    go_upto_region 3 with fail
    generalize w.alloc (.cells #[.int .i64 v.k, .int .i64 v.old.k, .slice v.old.A v.old.n v.old.c, .slice v.old.K v.old.m v.old.d, .int .i64 v.new.k, .slice v.new.A v.new.n v.new.c, .slice v.new.K v.new.m v.new.d, .slice v.W v.wn v.wc, .slice v.K v.kn v.kc, .int .i64 v.lk, .slice v.O v.on v.oc] 30) = w0 at *
    go_cut [69] (fun s wx => ∃ b, s = .bool b ∧ Bx w wx [⟨w.heap.size, 30, #[.int .i64 v.k, .int .i64 v.old.k, .slice v.old.A v.old.n v.old.c, .slice v.old.K v.old.m v.old.d, .int .i64 v.new.k, .slice v.new.A v.new.n v.new.c, .slice v.new.K v.new.m v.new.d, .slice v.W v.wn v.wc, .slice v.K v.kn v.kc, .int .i64 v.lk, .slice v.O v.on v.oc]⟩] ∧ Hid (b = false → shapeF v.k old new v.wn v.kn v.lk v.on))
    case first =>
     have hcs : v.k = 0 ∨ v.k = 1 ∨ v.k = 2 ∨ v.k = 3 := by have := HKB.out; omega
     rcases hcs with hk | hk | hk | hk
     ·as_aux_lemma =>
       have HK := hide hk
       have f1 : (v.k != 1) = true := by simp [hk]
       have f2 : (v.k != 2) = true := by simp [hk]
       have f3 : (v.k != 3) = true := by simp [hk]
       clear hk
       have c0 : w0.cell? ⟨w.heap.size, 0, none⟩ = some (.int .i64 v.k) := (R.b 0 rfl).cell 0
       have c1 : w0.cell? ⟨w.heap.size, 1, none⟩ = some (.int .i64 v.old.k) := (R.b 0 rfl).cell 1
       have c2 : w0.cell? ⟨w.heap.size, 2, none⟩ = some (.slice v.old.A v.old.n v.old.c) := (R.b 0 rfl).cell 2
       have c3 : w0.cell? ⟨w.heap.size, 3, none⟩ = some (.slice v.old.K v.old.m v.old.d) := (R.b 0 rfl).cell 3
       have c4 : w0.cell? ⟨w.heap.size, 4, none⟩ = some (.int .i64 v.new.k) := (R.b 0 rfl).cell 4
       have c5 : w0.cell? ⟨w.heap.size, 5, none⟩ = some (.slice v.new.A v.new.n v.new.c) := (R.b 0 rfl).cell 5
       have c6 : w0.cell? ⟨w.heap.size, 6, none⟩ = some (.slice v.new.K v.new.m v.new.d) := (R.b 0 rfl).cell 6
       have c7 : w0.cell? ⟨w.heap.size, 7, none⟩ = some (.slice v.W v.wn v.wc) := (R.b 0 rfl).cell 7
       have c8 : w0.cell? ⟨w.heap.size, 8, none⟩ = some (.slice v.K v.kn v.kc) := (R.b 0 rfl).cell 8
       have c9 : w0.cell? ⟨w.heap.size, 9, none⟩ = some (.int .i64 v.lk) := (R.b 0 rfl).cell 9
       have c10 : w0.cell? ⟨w.heap.size, 10, none⟩ = some (.slice v.O v.on v.oc) := (R.b 0 rfl).cell 10
       go_wp2_with fail
       refine (HT1.out _ R.bel).mono ?_
       rintro e w1 ⟨b, rfl, hb, hb1⟩
       replace R := R.step hb1
       clear c0 c1 c2 c3 c4 c5 c6 c7 c8 c9 c10
       cases b
       ·skip
        have c0 : w1.cell? ⟨w.heap.size, 0, none⟩ = some (.int .i64 v.k) := (R.b 0 rfl).cell 0
        have c1 : w1.cell? ⟨w.heap.size, 1, none⟩ = some (.int .i64 v.old.k) := (R.b 0 rfl).cell 1
        have c2 : w1.cell? ⟨w.heap.size, 2, none⟩ = some (.slice v.old.A v.old.n v.old.c) := (R.b 0 rfl).cell 2
        have c3 : w1.cell? ⟨w.heap.size, 3, none⟩ = some (.slice v.old.K v.old.m v.old.d) := (R.b 0 rfl).cell 3
        have c4 : w1.cell? ⟨w.heap.size, 4, none⟩ = some (.int .i64 v.new.k) := (R.b 0 rfl).cell 4
        have c5 : w1.cell? ⟨w.heap.size, 5, none⟩ = some (.slice v.new.A v.new.n v.new.c) := (R.b 0 rfl).cell 5
        have c6 : w1.cell? ⟨w.heap.size, 6, none⟩ = some (.slice v.new.K v.new.m v.new.d) := (R.b 0 rfl).cell 6
        have c7 : w1.cell? ⟨w.heap.size, 7, none⟩ = some (.slice v.W v.wn v.wc) := (R.b 0 rfl).cell 7
        have c8 : w1.cell? ⟨w.heap.size, 8, none⟩ = some (.slice v.K v.kn v.kc) := (R.b 0 rfl).cell 8
        have c9 : w1.cell? ⟨w.heap.size, 9, none⟩ = some (.int .i64 v.lk) := (R.b 0 rfl).cell 9
        have c10 : w1.cell? ⟨w.heap.size, 10, none⟩ = some (.slice v.O v.on v.oc) := (R.b 0 rfl).cell 10
        go_wp2_with fail
        go_meet
        case rel => exact ⟨true, rfl, R, fun h => (by cases h)⟩
       ·have H1 := hide (hb rfl)
        clear hb
        have c0 : w1.cell? ⟨w.heap.size, 0, none⟩ = some (.int .i64 v.k) := (R.b 0 rfl).cell 0
        have c1 : w1.cell? ⟨w.heap.size, 1, none⟩ = some (.int .i64 v.old.k) := (R.b 0 rfl).cell 1
        have c2 : w1.cell? ⟨w.heap.size, 2, none⟩ = some (.slice v.old.A v.old.n v.old.c) := (R.b 0 rfl).cell 2
        have c3 : w1.cell? ⟨w.heap.size, 3, none⟩ = some (.slice v.old.K v.old.m v.old.d) := (R.b 0 rfl).cell 3
        have c4 : w1.cell? ⟨w.heap.size, 4, none⟩ = some (.int .i64 v.new.k) := (R.b 0 rfl).cell 4
        have c5 : w1.cell? ⟨w.heap.size, 5, none⟩ = some (.slice v.new.A v.new.n v.new.c) := (R.b 0 rfl).cell 5
        have c6 : w1.cell? ⟨w.heap.size, 6, none⟩ = some (.slice v.new.K v.new.m v.new.d) := (R.b 0 rfl).cell 6
        have c7 : w1.cell? ⟨w.heap.size, 7, none⟩ = some (.slice v.W v.wn v.wc) := (R.b 0 rfl).cell 7
        have c8 : w1.cell? ⟨w.heap.size, 8, none⟩ = some (.slice v.K v.kn v.kc) := (R.b 0 rfl).cell 8
        have c9 : w1.cell? ⟨w.heap.size, 9, none⟩ = some (.int .i64 v.lk) := (R.b 0 rfl).cell 9
        have c10 : w1.cell? ⟨w.heap.size, 10, none⟩ = some (.slice v.O v.on v.oc) := (R.b 0 rfl).cell 10
        go_wp2_with fail
        refine (HT2.out _ R.bel).mono ?_
        rintro e w2 ⟨b, rfl, hb, hb1⟩
        replace R := R.step hb1
        clear c0 c1 c2 c3 c4 c5 c6 c7 c8 c9 c10
        cases b
        ·skip
         have c0 : w2.cell? ⟨w.heap.size, 0, none⟩ = some (.int .i64 v.k) := (R.b 0 rfl).cell 0
         have c1 : w2.cell? ⟨w.heap.size, 1, none⟩ = some (.int .i64 v.old.k) := (R.b 0 rfl).cell 1
         have c2 : w2.cell? ⟨w.heap.size, 2, none⟩ = some (.slice v.old.A v.old.n v.old.c) := (R.b 0 rfl).cell 2
         have c3 : w2.cell? ⟨w.heap.size, 3, none⟩ = some (.slice v.old.K v.old.m v.old.d) := (R.b 0 rfl).cell 3
         have c4 : w2.cell? ⟨w.heap.size, 4, none⟩ = some (.int .i64 v.new.k) := (R.b 0 rfl).cell 4
         have c5 : w2.cell? ⟨w.heap.size, 5, none⟩ = some (.slice v.new.A v.new.n v.new.c) := (R.b 0 rfl).cell 5
         have c6 : w2.cell? ⟨w.heap.size, 6, none⟩ = some (.slice v.new.K v.new.m v.new.d) := (R.b 0 rfl).cell 6
         have c7 : w2.cell? ⟨w.heap.size, 7, none⟩ = some (.slice v.W v.wn v.wc) := (R.b 0 rfl).cell 7
         have c8 : w2.cell? ⟨w.heap.size, 8, none⟩ = some (.slice v.K v.kn v.kc) := (R.b 0 rfl).cell 8
         have c9 : w2.cell? ⟨w.heap.size, 9, none⟩ = some (.int .i64 v.lk) := (R.b 0 rfl).cell 9
         have c10 : w2.cell? ⟨w.heap.size, 10, none⟩ = some (.slice v.O v.on v.oc) := (R.b 0 rfl).cell 10
         go_wp2_with fail
         go_meet
         case rel => exact ⟨true, rfl, R, fun h => (by cases h)⟩
        ·have H2 := hide (hb rfl)
         clear hb
         have c0 : w2.cell? ⟨w.heap.size, 0, none⟩ = some (.int .i64 v.k) := (R.b 0 rfl).cell 0
         have c1 : w2.cell? ⟨w.heap.size, 1, none⟩ = some (.int .i64 v.old.k) := (R.b 0 rfl).cell 1
         have c2 : w2.cell? ⟨w.heap.size, 2, none⟩ = some (.slice v.old.A v.old.n v.old.c) := (R.b 0 rfl).cell 2
         have c3 : w2.cell? ⟨w.heap.size, 3, none⟩ = some (.slice v.old.K v.old.m v.old.d) := (R.b 0 rfl).cell 3
         have c4 : w2.cell? ⟨w.heap.size, 4, none⟩ = some (.int .i64 v.new.k) := (R.b 0 rfl).cell 4
         have c5 : w2.cell? ⟨w.heap.size, 5, none⟩ = some (.slice v.new.A v.new.n v.new.c) := (R.b 0 rfl).cell 5
         have c6 : w2.cell? ⟨w.heap.size, 6, none⟩ = some (.slice v.new.K v.new.m v.new.d) := (R.b 0 rfl).cell 6
         have c7 : w2.cell? ⟨w.heap.size, 7, none⟩ = some (.slice v.W v.wn v.wc) := (R.b 0 rfl).cell 7
         have c8 : w2.cell? ⟨w.heap.size, 8, none⟩ = some (.slice v.K v.kn v.kc) := (R.b 0 rfl).cell 8
         have c9 : w2.cell? ⟨w.heap.size, 9, none⟩ = some (.int .i64 v.lk) := (R.b 0 rfl).cell 9
         have c10 : w2.cell? ⟨w.heap.size, 10, none⟩ = some (.slice v.O v.on v.oc) := (R.b 0 rfl).cell 10
         by_cases hz : v.wn + v.kn = 0
         ·have fz : decide (0 < (v.wn : Int) + (v.kn : Int)) = false := by simp; omega
          have fz2 : decide (0 < v.wn + v.kn) = false := by simp; omega
          have HZ := hide hz
          clear hz
          by_cases hl : v.lk = 0
          ·have fl : (v.lk != 0) = false := by simpa using hl
           replace hl := hide hl
           by_cases ho : v.on = 0
           ·have fo : decide (0 < (v.on : Int)) = false := by simp; omega
            have fo2 : decide (0 < v.on) = false := by simp; omega
            have HO0 := hide ho
            clear ho
            go_wp2_with fail
            go_meet
            case rel => exact ⟨false, rfl, R, fun _ => ⟨fun _ => ⟨H1.out, H2.out⟩, fun _ => HZ.out, fun _ => ⟨hl.out, HO0.out⟩⟩⟩
           ·have fo : decide (0 < (v.on : Int)) = true := by simp; omega
            have fo2 : decide (0 < v.on) = true := by simp; omega
            clear ho
            go_wp2_with fail
            go_meet
            case rel => exact ⟨true, rfl, R, fun h => (by cases h)⟩
          ·have fl : (v.lk != 0) = true := by simpa using hl
           clear hl
           go_wp2_with fail
           go_meet
           case rel => exact ⟨true, rfl, R, fun h => (by cases h)⟩
         ·have fz : decide (0 < (v.wn : Int) + (v.kn : Int)) = true := by simp; omega
          have fz2 : decide (0 < v.wn + v.kn) = true := by simp; omega
          clear hz
          go_wp2_with fail
          go_meet
          case rel => exact ⟨true, rfl, R, fun h => (by cases h)⟩
     ·as_aux_lemma =>
       have HK := hide hk
       have f1 : (v.k != 1) = false := by simp [hk]
       have f2 : (v.k != 2) = true := by simp [hk]
       have f3 : (v.k != 3) = true := by simp [hk]
       clear hk
       have c0 : w0.cell? ⟨w.heap.size, 0, none⟩ = some (.int .i64 v.k) := (R.b 0 rfl).cell 0
       have c1 : w0.cell? ⟨w.heap.size, 1, none⟩ = some (.int .i64 v.old.k) := (R.b 0 rfl).cell 1
       have c2 : w0.cell? ⟨w.heap.size, 2, none⟩ = some (.slice v.old.A v.old.n v.old.c) := (R.b 0 rfl).cell 2
       have c3 : w0.cell? ⟨w.heap.size, 3, none⟩ = some (.slice v.old.K v.old.m v.old.d) := (R.b 0 rfl).cell 3
       have c4 : w0.cell? ⟨w.heap.size, 4, none⟩ = some (.int .i64 v.new.k) := (R.b 0 rfl).cell 4
       have c5 : w0.cell? ⟨w.heap.size, 5, none⟩ = some (.slice v.new.A v.new.n v.new.c) := (R.b 0 rfl).cell 5
       have c6 : w0.cell? ⟨w.heap.size, 6, none⟩ = some (.slice v.new.K v.new.m v.new.d) := (R.b 0 rfl).cell 6
       have c7 : w0.cell? ⟨w.heap.size, 7, none⟩ = some (.slice v.W v.wn v.wc) := (R.b 0 rfl).cell 7
       have c8 : w0.cell? ⟨w.heap.size, 8, none⟩ = some (.slice v.K v.kn v.kc) := (R.b 0 rfl).cell 8
       have c9 : w0.cell? ⟨w.heap.size, 9, none⟩ = some (.int .i64 v.lk) := (R.b 0 rfl).cell 9
       have c10 : w0.cell? ⟨w.heap.size, 10, none⟩ = some (.slice v.O v.on v.oc) := (R.b 0 rfl).cell 10
       by_cases hz : v.wn + v.kn = 0
       ·have fz : decide (0 < (v.wn : Int) + (v.kn : Int)) = false := by simp; omega
        have fz2 : decide (0 < v.wn + v.kn) = false := by simp; omega
        have HZ := hide hz
        clear hz
        by_cases hl : v.lk = 0
        ·have fl : (v.lk != 0) = false := by simpa using hl
         replace hl := hide hl
         by_cases ho : v.on = 0
         ·have fo : decide (0 < (v.on : Int)) = false := by simp; omega
          have fo2 : decide (0 < v.on) = false := by simp; omega
          have HO0 := hide ho
          clear ho
          go_wp2_with fail
          go_meet
          case rel => exact ⟨false, rfl, R, fun _ => ⟨fun h => absurd HK.out h, fun _ => HZ.out, fun _ => ⟨hl.out, HO0.out⟩⟩⟩
         ·have fo : decide (0 < (v.on : Int)) = true := by simp; omega
          have fo2 : decide (0 < v.on) = true := by simp; omega
          clear ho
          go_wp2_with fail
          go_meet
          case rel => exact ⟨true, rfl, R, fun h => (by cases h)⟩
        ·have fl : (v.lk != 0) = true := by simpa using hl
         clear hl
         go_wp2_with fail
         go_meet
         case rel => exact ⟨true, rfl, R, fun h => (by cases h)⟩
       ·have fz : decide (0 < (v.wn : Int) + (v.kn : Int)) = true := by simp; omega
        have fz2 : decide (0 < v.wn + v.kn) = true := by simp; omega
        clear hz
        go_wp2_with fail
        go_meet
        case rel => exact ⟨true, rfl, R, fun h => (by cases h)⟩
     ·as_aux_lemma =>
       have HK := hide hk
       have f1 : (v.k != 1) = true := by simp [hk]
       have f2 : (v.k != 2) = false := by simp [hk]
       have f3 : (v.k != 3) = true := by simp [hk]
       clear hk
       have c0 : w0.cell? ⟨w.heap.size, 0, none⟩ = some (.int .i64 v.k) := (R.b 0 rfl).cell 0
       have c1 : w0.cell? ⟨w.heap.size, 1, none⟩ = some (.int .i64 v.old.k) := (R.b 0 rfl).cell 1
       have c2 : w0.cell? ⟨w.heap.size, 2, none⟩ = some (.slice v.old.A v.old.n v.old.c) := (R.b 0 rfl).cell 2
       have c3 : w0.cell? ⟨w.heap.size, 3, none⟩ = some (.slice v.old.K v.old.m v.old.d) := (R.b 0 rfl).cell 3
       have c4 : w0.cell? ⟨w.heap.size, 4, none⟩ = some (.int .i64 v.new.k) := (R.b 0 rfl).cell 4
       have c5 : w0.cell? ⟨w.heap.size, 5, none⟩ = some (.slice v.new.A v.new.n v.new.c) := (R.b 0 rfl).cell 5
       have c6 : w0.cell? ⟨w.heap.size, 6, none⟩ = some (.slice v.new.K v.new.m v.new.d) := (R.b 0 rfl).cell 6
       have c7 : w0.cell? ⟨w.heap.size, 7, none⟩ = some (.slice v.W v.wn v.wc) := (R.b 0 rfl).cell 7
       have c8 : w0.cell? ⟨w.heap.size, 8, none⟩ = some (.slice v.K v.kn v.kc) := (R.b 0 rfl).cell 8
       have c9 : w0.cell? ⟨w.heap.size, 9, none⟩ = some (.int .i64 v.lk) := (R.b 0 rfl).cell 9
       have c10 : w0.cell? ⟨w.heap.size, 10, none⟩ = some (.slice v.O v.on v.oc) := (R.b 0 rfl).cell 10
       go_wp2_with fail
       refine (HT1.out _ R.bel).mono ?_
       rintro e w1 ⟨b, rfl, hb, hb1⟩
       replace R := R.step hb1
       clear c0 c1 c2 c3 c4 c5 c6 c7 c8 c9 c10
       cases b
       ·skip
        have c0 : w1.cell? ⟨w.heap.size, 0, none⟩ = some (.int .i64 v.k) := (R.b 0 rfl).cell 0
        have c1 : w1.cell? ⟨w.heap.size, 1, none⟩ = some (.int .i64 v.old.k) := (R.b 0 rfl).cell 1
        have c2 : w1.cell? ⟨w.heap.size, 2, none⟩ = some (.slice v.old.A v.old.n v.old.c) := (R.b 0 rfl).cell 2
        have c3 : w1.cell? ⟨w.heap.size, 3, none⟩ = some (.slice v.old.K v.old.m v.old.d) := (R.b 0 rfl).cell 3
        have c4 : w1.cell? ⟨w.heap.size, 4, none⟩ = some (.int .i64 v.new.k) := (R.b 0 rfl).cell 4
        have c5 : w1.cell? ⟨w.heap.size, 5, none⟩ = some (.slice v.new.A v.new.n v.new.c) := (R.b 0 rfl).cell 5
        have c6 : w1.cell? ⟨w.heap.size, 6, none⟩ = some (.slice v.new.K v.new.m v.new.d) := (R.b 0 rfl).cell 6
        have c7 : w1.cell? ⟨w.heap.size, 7, none⟩ = some (.slice v.W v.wn v.wc) := (R.b 0 rfl).cell 7
        have c8 : w1.cell? ⟨w.heap.size, 8, none⟩ = some (.slice v.K v.kn v.kc) := (R.b 0 rfl).cell 8
        have c9 : w1.cell? ⟨w.heap.size, 9, none⟩ = some (.int .i64 v.lk) := (R.b 0 rfl).cell 9
        have c10 : w1.cell? ⟨w.heap.size, 10, none⟩ = some (.slice v.O v.on v.oc) := (R.b 0 rfl).cell 10
        go_wp2_with fail
        go_meet
        case rel => exact ⟨true, rfl, R, fun h => (by cases h)⟩
       ·have H1 := hide (hb rfl)
        clear hb
        have c0 : w1.cell? ⟨w.heap.size, 0, none⟩ = some (.int .i64 v.k) := (R.b 0 rfl).cell 0
        have c1 : w1.cell? ⟨w.heap.size, 1, none⟩ = some (.int .i64 v.old.k) := (R.b 0 rfl).cell 1
        have c2 : w1.cell? ⟨w.heap.size, 2, none⟩ = some (.slice v.old.A v.old.n v.old.c) := (R.b 0 rfl).cell 2
        have c3 : w1.cell? ⟨w.heap.size, 3, none⟩ = some (.slice v.old.K v.old.m v.old.d) := (R.b 0 rfl).cell 3
        have c4 : w1.cell? ⟨w.heap.size, 4, none⟩ = some (.int .i64 v.new.k) := (R.b 0 rfl).cell 4
        have c5 : w1.cell? ⟨w.heap.size, 5, none⟩ = some (.slice v.new.A v.new.n v.new.c) := (R.b 0 rfl).cell 5
        have c6 : w1.cell? ⟨w.heap.size, 6, none⟩ = some (.slice v.new.K v.new.m v.new.d) := (R.b 0 rfl).cell 6
        have c7 : w1.cell? ⟨w.heap.size, 7, none⟩ = some (.slice v.W v.wn v.wc) := (R.b 0 rfl).cell 7
        have c8 : w1.cell? ⟨w.heap.size, 8, none⟩ = some (.slice v.K v.kn v.kc) := (R.b 0 rfl).cell 8
        have c9 : w1.cell? ⟨w.heap.size, 9, none⟩ = some (.int .i64 v.lk) := (R.b 0 rfl).cell 9
        have c10 : w1.cell? ⟨w.heap.size, 10, none⟩ = some (.slice v.O v.on v.oc) := (R.b 0 rfl).cell 10
        go_wp2_with fail
        refine (HT2.out _ R.bel).mono ?_
        rintro e w2 ⟨b, rfl, hb, hb1⟩
        replace R := R.step hb1
        clear c0 c1 c2 c3 c4 c5 c6 c7 c8 c9 c10
        cases b
        ·skip
         have c0 : w2.cell? ⟨w.heap.size, 0, none⟩ = some (.int .i64 v.k) := (R.b 0 rfl).cell 0
         have c1 : w2.cell? ⟨w.heap.size, 1, none⟩ = some (.int .i64 v.old.k) := (R.b 0 rfl).cell 1
         have c2 : w2.cell? ⟨w.heap.size, 2, none⟩ = some (.slice v.old.A v.old.n v.old.c) := (R.b 0 rfl).cell 2
         have c3 : w2.cell? ⟨w.heap.size, 3, none⟩ = some (.slice v.old.K v.old.m v.old.d) := (R.b 0 rfl).cell 3
         have c4 : w2.cell? ⟨w.heap.size, 4, none⟩ = some (.int .i64 v.new.k) := (R.b 0 rfl).cell 4
         have c5 : w2.cell? ⟨w.heap.size, 5, none⟩ = some (.slice v.new.A v.new.n v.new.c) := (R.b 0 rfl).cell 5
         have c6 : w2.cell? ⟨w.heap.size, 6, none⟩ = some (.slice v.new.K v.new.m v.new.d) := (R.b 0 rfl).cell 6
         have c7 : w2.cell? ⟨w.heap.size, 7, none⟩ = some (.slice v.W v.wn v.wc) := (R.b 0 rfl).cell 7
         have c8 : w2.cell? ⟨w.heap.size, 8, none⟩ = some (.slice v.K v.kn v.kc) := (R.b 0 rfl).cell 8
         have c9 : w2.cell? ⟨w.heap.size, 9, none⟩ = some (.int .i64 v.lk) := (R.b 0 rfl).cell 9
         have c10 : w2.cell? ⟨w.heap.size, 10, none⟩ = some (.slice v.O v.on v.oc) := (R.b 0 rfl).cell 10
         go_wp2_with fail
         go_meet
         case rel => exact ⟨true, rfl, R, fun h => (by cases h)⟩
        ·have H2 := hide (hb rfl)
         clear hb
         have c0 : w2.cell? ⟨w.heap.size, 0, none⟩ = some (.int .i64 v.k) := (R.b 0 rfl).cell 0
         have c1 : w2.cell? ⟨w.heap.size, 1, none⟩ = some (.int .i64 v.old.k) := (R.b 0 rfl).cell 1
         have c2 : w2.cell? ⟨w.heap.size, 2, none⟩ = some (.slice v.old.A v.old.n v.old.c) := (R.b 0 rfl).cell 2
         have c3 : w2.cell? ⟨w.heap.size, 3, none⟩ = some (.slice v.old.K v.old.m v.old.d) := (R.b 0 rfl).cell 3
         have c4 : w2.cell? ⟨w.heap.size, 4, none⟩ = some (.int .i64 v.new.k) := (R.b 0 rfl).cell 4
         have c5 : w2.cell? ⟨w.heap.size, 5, none⟩ = some (.slice v.new.A v.new.n v.new.c) := (R.b 0 rfl).cell 5
         have c6 : w2.cell? ⟨w.heap.size, 6, none⟩ = some (.slice v.new.K v.new.m v.new.d) := (R.b 0 rfl).cell 6
         have c7 : w2.cell? ⟨w.heap.size, 7, none⟩ = some (.slice v.W v.wn v.wc) := (R.b 0 rfl).cell 7
         have c8 : w2.cell? ⟨w.heap.size, 8, none⟩ = some (.slice v.K v.kn v.kc) := (R.b 0 rfl).cell 8
         have c9 : w2.cell? ⟨w.heap.size, 9, none⟩ = some (.int .i64 v.lk) := (R.b 0 rfl).cell 9
         have c10 : w2.cell? ⟨w.heap.size, 10, none⟩ = some (.slice v.O v.on v.oc) := (R.b 0 rfl).cell 10
         by_cases hl : v.lk = 0
         ·have fl : (v.lk != 0) = false := by simpa using hl
          replace hl := hide hl
          by_cases ho : v.on = 0
          ·have fo : decide (0 < (v.on : Int)) = false := by simp; omega
           have fo2 : decide (0 < v.on) = false := by simp; omega
           have HO0 := hide ho
           clear ho
           go_wp2_with fail
           go_meet
           case rel => exact ⟨false, rfl, R, fun _ => ⟨fun _ => ⟨H1.out, H2.out⟩, fun h => absurd HK.out h, fun _ => ⟨hl.out, HO0.out⟩⟩⟩
          ·have fo : decide (0 < (v.on : Int)) = true := by simp; omega
           have fo2 : decide (0 < v.on) = true := by simp; omega
           clear ho
           go_wp2_with fail
           go_meet
           case rel => exact ⟨true, rfl, R, fun h => (by cases h)⟩
         ·have fl : (v.lk != 0) = true := by simpa using hl
          clear hl
          go_wp2_with fail
          go_meet
          case rel => exact ⟨true, rfl, R, fun h => (by cases h)⟩
     ·as_aux_lemma =>
       have HK := hide hk
       have f1 : (v.k != 1) = true := by simp [hk]
       have f2 : (v.k != 2) = true := by simp [hk]
       have f3 : (v.k != 3) = false := by simp [hk]
       clear hk
       have c0 : w0.cell? ⟨w.heap.size, 0, none⟩ = some (.int .i64 v.k) := (R.b 0 rfl).cell 0
       have c1 : w0.cell? ⟨w.heap.size, 1, none⟩ = some (.int .i64 v.old.k) := (R.b 0 rfl).cell 1
       have c2 : w0.cell? ⟨w.heap.size, 2, none⟩ = some (.slice v.old.A v.old.n v.old.c) := (R.b 0 rfl).cell 2
       have c3 : w0.cell? ⟨w.heap.size, 3, none⟩ = some (.slice v.old.K v.old.m v.old.d) := (R.b 0 rfl).cell 3
       have c4 : w0.cell? ⟨w.heap.size, 4, none⟩ = some (.int .i64 v.new.k) := (R.b 0 rfl).cell 4
       have c5 : w0.cell? ⟨w.heap.size, 5, none⟩ = some (.slice v.new.A v.new.n v.new.c) := (R.b 0 rfl).cell 5
       have c6 : w0.cell? ⟨w.heap.size, 6, none⟩ = some (.slice v.new.K v.new.m v.new.d) := (R.b 0 rfl).cell 6
       have c7 : w0.cell? ⟨w.heap.size, 7, none⟩ = some (.slice v.W v.wn v.wc) := (R.b 0 rfl).cell 7
       have c8 : w0.cell? ⟨w.heap.size, 8, none⟩ = some (.slice v.K v.kn v.kc) := (R.b 0 rfl).cell 8
       have c9 : w0.cell? ⟨w.heap.size, 9, none⟩ = some (.int .i64 v.lk) := (R.b 0 rfl).cell 9
       have c10 : w0.cell? ⟨w.heap.size, 10, none⟩ = some (.slice v.O v.on v.oc) := (R.b 0 rfl).cell 10
       go_wp2_with fail
       refine (HT1.out _ R.bel).mono ?_
       rintro e w1 ⟨b, rfl, hb, hb1⟩
       replace R := R.step hb1
       clear c0 c1 c2 c3 c4 c5 c6 c7 c8 c9 c10
       cases b
       ·skip
        have c0 : w1.cell? ⟨w.heap.size, 0, none⟩ = some (.int .i64 v.k) := (R.b 0 rfl).cell 0
        have c1 : w1.cell? ⟨w.heap.size, 1, none⟩ = some (.int .i64 v.old.k) := (R.b 0 rfl).cell 1
        have c2 : w1.cell? ⟨w.heap.size, 2, none⟩ = some (.slice v.old.A v.old.n v.old.c) := (R.b 0 rfl).cell 2
        have c3 : w1.cell? ⟨w.heap.size, 3, none⟩ = some (.slice v.old.K v.old.m v.old.d) := (R.b 0 rfl).cell 3
        have c4 : w1.cell? ⟨w.heap.size, 4, none⟩ = some (.int .i64 v.new.k) := (R.b 0 rfl).cell 4
        have c5 : w1.cell? ⟨w.heap.size, 5, none⟩ = some (.slice v.new.A v.new.n v.new.c) := (R.b 0 rfl).cell 5
        have c6 : w1.cell? ⟨w.heap.size, 6, none⟩ = some (.slice v.new.K v.new.m v.new.d) := (R.b 0 rfl).cell 6
        have c7 : w1.cell? ⟨w.heap.size, 7, none⟩ = some (.slice v.W v.wn v.wc) := (R.b 0 rfl).cell 7
        have c8 : w1.cell? ⟨w.heap.size, 8, none⟩ = some (.slice v.K v.kn v.kc) := (R.b 0 rfl).cell 8
        have c9 : w1.cell? ⟨w.heap.size, 9, none⟩ = some (.int .i64 v.lk) := (R.b 0 rfl).cell 9
        have c10 : w1.cell? ⟨w.heap.size, 10, none⟩ = some (.slice v.O v.on v.oc) := (R.b 0 rfl).cell 10
        go_wp2_with fail
        go_meet
        case rel => exact ⟨true, rfl, R, fun h => (by cases h)⟩
       ·have H1 := hide (hb rfl)
        clear hb
        have c0 : w1.cell? ⟨w.heap.size, 0, none⟩ = some (.int .i64 v.k) := (R.b 0 rfl).cell 0
        have c1 : w1.cell? ⟨w.heap.size, 1, none⟩ = some (.int .i64 v.old.k) := (R.b 0 rfl).cell 1
        have c2 : w1.cell? ⟨w.heap.size, 2, none⟩ = some (.slice v.old.A v.old.n v.old.c) := (R.b 0 rfl).cell 2
        have c3 : w1.cell? ⟨w.heap.size, 3, none⟩ = some (.slice v.old.K v.old.m v.old.d) := (R.b 0 rfl).cell 3
        have c4 : w1.cell? ⟨w.heap.size, 4, none⟩ = some (.int .i64 v.new.k) := (R.b 0 rfl).cell 4
        have c5 : w1.cell? ⟨w.heap.size, 5, none⟩ = some (.slice v.new.A v.new.n v.new.c) := (R.b 0 rfl).cell 5
        have c6 : w1.cell? ⟨w.heap.size, 6, none⟩ = some (.slice v.new.K v.new.m v.new.d) := (R.b 0 rfl).cell 6
        have c7 : w1.cell? ⟨w.heap.size, 7, none⟩ = some (.slice v.W v.wn v.wc) := (R.b 0 rfl).cell 7
        have c8 : w1.cell? ⟨w.heap.size, 8, none⟩ = some (.slice v.K v.kn v.kc) := (R.b 0 rfl).cell 8
        have c9 : w1.cell? ⟨w.heap.size, 9, none⟩ = some (.int .i64 v.lk) := (R.b 0 rfl).cell 9
        have c10 : w1.cell? ⟨w.heap.size, 10, none⟩ = some (.slice v.O v.on v.oc) := (R.b 0 rfl).cell 10
        go_wp2_with fail
        refine (HT2.out _ R.bel).mono ?_
        rintro e w2 ⟨b, rfl, hb, hb1⟩
        replace R := R.step hb1
        clear c0 c1 c2 c3 c4 c5 c6 c7 c8 c9 c10
        cases b
        ·skip
         have c0 : w2.cell? ⟨w.heap.size, 0, none⟩ = some (.int .i64 v.k) := (R.b 0 rfl).cell 0
         have c1 : w2.cell? ⟨w.heap.size, 1, none⟩ = some (.int .i64 v.old.k) := (R.b 0 rfl).cell 1
         have c2 : w2.cell? ⟨w.heap.size, 2, none⟩ = some (.slice v.old.A v.old.n v.old.c) := (R.b 0 rfl).cell 2
         have c3 : w2.cell? ⟨w.heap.size, 3, none⟩ = some (.slice v.old.K v.old.m v.old.d) := (R.b 0 rfl).cell 3
         have c4 : w2.cell? ⟨w.heap.size, 4, none⟩ = some (.int .i64 v.new.k) := (R.b 0 rfl).cell 4
         have c5 : w2.cell? ⟨w.heap.size, 5, none⟩ = some (.slice v.new.A v.new.n v.new.c) := (R.b 0 rfl).cell 5
         have c6 : w2.cell? ⟨w.heap.size, 6, none⟩ = some (.slice v.new.K v.new.m v.new.d) := (R.b 0 rfl).cell 6
         have c7 : w2.cell? ⟨w.heap.size, 7, none⟩ = some (.slice v.W v.wn v.wc) := (R.b 0 rfl).cell 7
         have c8 : w2.cell? ⟨w.heap.size, 8, none⟩ = some (.slice v.K v.kn v.kc) := (R.b 0 rfl).cell 8
         have c9 : w2.cell? ⟨w.heap.size, 9, none⟩ = some (.int .i64 v.lk) := (R.b 0 rfl).cell 9
         have c10 : w2.cell? ⟨w.heap.size, 10, none⟩ = some (.slice v.O v.on v.oc) := (R.b 0 rfl).cell 10
         go_wp2_with fail
         go_meet
         case rel => exact ⟨true, rfl, R, fun h => (by cases h)⟩
        ·have H2 := hide (hb rfl)
         clear hb
         have c0 : w2.cell? ⟨w.heap.size, 0, none⟩ = some (.int .i64 v.k) := (R.b 0 rfl).cell 0
         have c1 : w2.cell? ⟨w.heap.size, 1, none⟩ = some (.int .i64 v.old.k) := (R.b 0 rfl).cell 1
         have c2 : w2.cell? ⟨w.heap.size, 2, none⟩ = some (.slice v.old.A v.old.n v.old.c) := (R.b 0 rfl).cell 2
         have c3 : w2.cell? ⟨w.heap.size, 3, none⟩ = some (.slice v.old.K v.old.m v.old.d) := (R.b 0 rfl).cell 3
         have c4 : w2.cell? ⟨w.heap.size, 4, none⟩ = some (.int .i64 v.new.k) := (R.b 0 rfl).cell 4
         have c5 : w2.cell? ⟨w.heap.size, 5, none⟩ = some (.slice v.new.A v.new.n v.new.c) := (R.b 0 rfl).cell 5
         have c6 : w2.cell? ⟨w.heap.size, 6, none⟩ = some (.slice v.new.K v.new.m v.new.d) := (R.b 0 rfl).cell 6
         have c7 : w2.cell? ⟨w.heap.size, 7, none⟩ = some (.slice v.W v.wn v.wc) := (R.b 0 rfl).cell 7
         have c8 : w2.cell? ⟨w.heap.size, 8, none⟩ = some (.slice v.K v.kn v.kc) := (R.b 0 rfl).cell 8
         have c9 : w2.cell? ⟨w.heap.size, 9, none⟩ = some (.int .i64 v.lk) := (R.b 0 rfl).cell 9
         have c10 : w2.cell? ⟨w.heap.size, 10, none⟩ = some (.slice v.O v.on v.oc) := (R.b 0 rfl).cell 10
         by_cases hz : v.wn + v.kn = 0
         ·have fz : decide (0 < (v.wn : Int) + (v.kn : Int)) = false := by simp; omega
          have fz2 : decide (0 < v.wn + v.kn) = false := by simp; omega
          have HZ := hide hz
          clear hz
          go_wp2_with fail
          go_meet
          case rel => exact ⟨false, rfl, R, fun _ => ⟨fun _ => ⟨H1.out, H2.out⟩, fun _ => HZ.out, fun h => absurd HK.out h⟩⟩
         ·have fz : decide (0 < (v.wn : Int) + (v.kn : Int)) = true := by simp; omega
          have fz2 : decide (0 < v.wn + v.kn) = true := by simp; omega
          clear hz
          go_wp2_with fail
          go_meet
          case rel => exact ⟨true, rfl, R, fun h => (by cases h)⟩
    case rest =>
     obtain ⟨b, rfl, R3, HB⟩ := hcut
     clear R
     rename World => wz
     cases b
     rotate_left
     ·go_wp2_with fail
      go_ret
      exact BoolP.no R3.bel
     have HSH := hide (HB.out rfl)
     clear HB
     have c0 : wz.cell? ⟨w.heap.size, 0, none⟩ = some (.int .i64 v.k) := (R3.b 0 rfl).cell 0
     have c1 : wz.cell? ⟨w.heap.size, 1, none⟩ = some (.int .i64 v.old.k) := (R3.b 0 rfl).cell 1
     have c2 : wz.cell? ⟨w.heap.size, 2, none⟩ = some (.slice v.old.A v.old.n v.old.c) := (R3.b 0 rfl).cell 2
     have c3 : wz.cell? ⟨w.heap.size, 3, none⟩ = some (.slice v.old.K v.old.m v.old.d) := (R3.b 0 rfl).cell 3
     have c4 : wz.cell? ⟨w.heap.size, 4, none⟩ = some (.int .i64 v.new.k) := (R3.b 0 rfl).cell 4
     have c5 : wz.cell? ⟨w.heap.size, 5, none⟩ = some (.slice v.new.A v.new.n v.new.c) := (R3.b 0 rfl).cell 5
     have c6 : wz.cell? ⟨w.heap.size, 6, none⟩ = some (.slice v.new.K v.new.m v.new.d) := (R3.b 0 rfl).cell 6
     have c7 : wz.cell? ⟨w.heap.size, 7, none⟩ = some (.slice v.W v.wn v.wc) := (R3.b 0 rfl).cell 7
     have c8 : wz.cell? ⟨w.heap.size, 8, none⟩ = some (.slice v.K v.kn v.kc) := (R3.b 0 rfl).cell 8
     have c9 : wz.cell? ⟨w.heap.size, 9, none⟩ = some (.int .i64 v.lk) := (R3.b 0 rfl).cell 9
     have c10 : wz.cell? ⟨w.heap.size, 10, none⟩ = some (.slice v.O v.on v.oc) := (R3.b 0 rfl).cell 10
     by_cases hk1 : v.k = 1
     ·have f1 : (v.k == 1) = true := by simpa using hk1
      replace hk1 := hide hk1
      go_wp2_with fail
      refine (HR1.out _ R3.bel).mono ?_
      rintro e w1 ⟨b, rfl, hb, hb1⟩
      replace R3 := R3.step hb1
      clear c0 c1 c2 c3 c4 c5 c6 c7 c8 c9 c10
      cases b
      ·go_wp2_with fail
       go_ret
       exact BoolP.no R3.bel
      ·have H1 := hide (hb rfl).ok
       clear hb
       have c4 : w1.cell? ⟨w.heap.size, 4, none⟩ = some (.int .i64 v.new.k) := (R3.b 0 rfl).cell 4
       have c5 : w1.cell? ⟨w.heap.size, 5, none⟩ = some (.slice v.new.A v.new.n v.new.c) := (R3.b 0 rfl).cell 5
       have c6 : w1.cell? ⟨w.heap.size, 6, none⟩ = some (.slice v.new.K v.new.m v.new.d) := (R3.b 0 rfl).cell 6
       go_wp2_with fail
       refine (HR2.out _ R3.bel).mono ?_
       rintro e w2 ⟨b, rfl, hb, hb1⟩
       replace R3 := R3.step hb1
       clear c4 c5 c6
       cases b
       ·go_wp2_with fail
        go_ret
        exact BoolP.no R3.bel
       ·have H2 := hide (hb rfl).ok
        clear hb
        have c1 : w2.cell? ⟨w.heap.size, 1, none⟩ = some (.int .i64 v.old.k) := (R3.b 0 rfl).cell 1
        have c4 : w2.cell? ⟨w.heap.size, 4, none⟩ = some (.int .i64 v.new.k) := (R3.b 0 rfl).cell 4
        by_cases ho : v.old.k = 10
        ·have fo : (v.old.k != 10) = false := by simpa using ho
         clear ho
         go_wp2_with fail
         go_ret
         exact BoolP.no R3.bel
        ·have fo : (v.old.k != 10) = true := by simpa using ho
         replace ho := hide ho
         by_cases hw : v.new.k = 10
         ·have fw : (v.new.k != 10) = false := by simpa using hw
          clear hw
          go_wp2_with fail
          go_ret
          exact BoolP.no R3.bel
         ·have fw : (v.new.k != 10) = true := by simpa using hw
          replace hw := hide hw
          go_wp2_with fail
          go_ret
          refine BoolP.yes ?_ R3.bel
          obtain ⟨s1, s2, s3⟩ := HSH.out
          have k1 := hk1.out
          have z2 := s2 (by omega)
          have z3 := s3 (by omega)
          have n1 := HWN.out
          have n2 := HKN.out
          have n3 := HON.out
          have e1 : ws = [] := List.eq_nil_of_length_eq_zero (by omega)
          have e2 : ks = [] := List.eq_nil_of_length_eq_zero (by omega)
          have e3 : ops = [] := List.eq_nil_of_length_eq_zero (by omega)
          subst e1 e2 e3
          have ko : old.kind = v.old.k := HOL.out.kind
          have kn : new.kind = v.new.k := HNW.out.kind
          refine ⟨?_, ?_, .mk _ _ _ _ _ _ _ (fun x hx => by cases hx) (fun x hx => by cases hx) (fun x hx => by cases hx) (fun x hx => by cases hx) (fun x hx => by cases hx)⟩
          ·rw [okE]
           exact ⟨by omega, by omega, fun _ => ⟨H1.out, H2.out, by rw [ko]; exact ho.out, by rw [kn]; exact hw.out⟩, fun h => by omega, fun h => by omega⟩
          ·rw [neatE, neatK, neatO]
           exact ⟨fun _ => ⟨z3.1, rfl⟩, fun _ => ⟨rfl, rfl⟩, trivial, trivial⟩
     ·have f1 : (v.k == 1) = false := by simpa using hk1
      have HK1 := hide hk1
      clear hk1
      go_wp2_with fail
      go_loopw [5, 6] (fun s5 ix wr => ∃ (a : Int) (q : Nat), s5 = .int .i64 a ∧ ix = .int .i64 q ∧ q ≤ v.wn ∧ Hid ((okWs a (ws.drop q) → okWs (-1) ws) ∧ ∀ x ∈ ws.take q, x.ok ∧ x.at_ ≤ 65534) ∧ Bx w wr [⟨w.heap.size, 30, #[.int .i64 v.k, .int .i64 v.old.k, .slice v.old.A v.old.n v.old.c, .slice v.old.K v.old.m v.old.d, .int .i64 v.new.k, .slice v.new.A v.new.n v.new.c, .slice v.new.K v.new.m v.new.d, .slice v.W v.wn v.wc, .slice v.K v.kn v.kc, .int .i64 v.lk, .slice v.O v.on v.oc]⟩]) (fun _ ix _ => v.wn - (intOf ix).toNat)
      case atStart => exact ⟨-1, 0, rfl, rfl, by omega, ⟨fun h => h, fun x hx => by simp at hx⟩, R3⟩
      case round =>
       obtain ⟨a, q, rfl, rfl, hq, HQ, R4⟩ := hrel
       clear R3 c0 c1 c2 c3 c4 c5 c6 c7 c8 c9 c10
       have c7 : wr.cell? ⟨w.heap.size, 7, none⟩ = some (.slice v.W v.wn v.wc) := (R4.b 0 rfl).cell 7
       by_cases hlt : q < v.wn
       ·as_aux_lemma =>
         have hl1 : q < ws.length := by rw [← HWN.out]; exact hlt
         obtain ⟨bo, oo, hO, hbo, HWC⟩ := HWS.out.at hl1
         obtain ⟨i1, i2, i3, i4⟩ := HWS.out.in_ _ (List.getElem_mem hl1)
         obtain ⟨x0, x1, x2, x3⟩ := HWC.keep (w' := wr) (fun p hp => R4.bel.cell (by rw [hp]; exact HS.out _ hbo))
         have hbw : bo < wr.heap.size := by have := HS.out _ hbo; have := R4.size; omega
         have HGO : Hid (a < ws[q].at_ → ws[q].at_ ≤ 65534 → mixT ws[q].old 0 ws[q].mask = 0 → mixT ws[q].new 0 ws[q].mask = 0 → (okWs ws[q].at_ (ws.drop (q + 1)) → okWs (-1) ws) ∧ ∀ x ∈ ws.take (q + 1), x.ok ∧ x.at_ ≤ 65534) := fun g1 g2 g3 g4 => by
          refine ⟨fun h => HQ.out.1 ?_, fun x hx => ?_⟩
          ·rw [List.drop_eq_getElem_cons hl1, okWs]; exact ⟨g1, h⟩
          ·rw [List.take_succ_eq_append_getElem hl1] at hx
           rcases List.mem_append.1 hx with hx | hx
           ·exact HQ.out.2 x hx
           ·rw [List.mem_singleton.1 hx]; exact ⟨⟨i3, i4, g3, g4⟩, g2⟩
         generalize ws[q] = x at *
         have HW1 : Hid (∀ W, Calls Try.prog 26 #[.int .u64 x.old, .int .u8 x.mask] W (BoolP (mixT x.old 0 x.mask = 0) W)) := fun W => within_any x.old x.mask i3.1 i3.2 i1 i2 W
         have HW2 : Hid (∀ W, Calls Try.prog 26 #[.int .u64 x.new, .int .u8 x.mask] W (BoolP (mixT x.new 0 x.mask = 0) W)) := fun W => within_any x.new x.mask i4.1 i4.2 i1 i2 W
         clear HWC i3 i4 HQ
         rw [hO] at c7
         clear hO
         go_upto_region 12 with fail
         have R5 := R4.box 52 #[.int .i64 x.at_, .int .u8 x.mask, .int .u64 x.old, .int .u64 x.new] rfl
         clear R4 x0 x1 x2 x3 c7
         generalize wr.alloc (.cells #[.int .i64 x.at_, .int .u8 x.mask, .int .u64 x.old, .int .u64 x.new] 52) = w3 at *
         generalize wr.heap.size = g3 at *
         have y0 : w3.cell? ⟨g3, 0, none⟩ = some (.int .i64 x.at_) := (R5.b 0 rfl).cell 0
         have y1 : w3.cell? ⟨g3, 1, none⟩ = some (.int .u8 x.mask) := (R5.b 0 rfl).cell 1
         have y2 : w3.cell? ⟨g3, 2, none⟩ = some (.int .u64 x.old) := (R5.b 0 rfl).cell 2
         have y3 : w3.cell? ⟨g3, 3, none⟩ = some (.int .u64 x.new) := (R5.b 0 rfl).cell 3
         by_cases ha : x.at_ ≤ a
         ·have fa : decide (x.at_ ≤ a) = true := by simpa using ha
          clear ha
          go_wp2_with fail
          go_ret
          exact BoolP.no R5.bel
         ·have fa : decide (x.at_ ≤ a) = false := by simpa using ha
          by_cases h6 : 65534 < x.at_
          ·have f6 : decide (65534 < x.at_) = true := by simpa using h6
           clear ha h6
           go_wp2_with fail
           go_ret
           exact BoolP.no R5.bel
          ·have f6 : decide (65534 < x.at_) = false := by simpa using h6
           have HA : Hid (a < x.at_ ∧ x.at_ ≤ 65534) := ⟨by omega, by omega⟩
           clear ha h6
           by_cases hm : x.mask = 0
           ·have fm : (x.mask == 0) = true := by simpa using hm
            clear hm
            go_wp2_with fail
            go_ret
            exact BoolP.no R5.bel
           ·have fm : (x.mask == 0) = false := by simpa using hm
            clear hm
            go_wp2_with fail
            refine (HW1.out _).mono ?_
            rintro e w5 ⟨b, rfl, hb, hb1⟩
            replace R5 := R5.step hb1
            clear y0 y1 y2 y3
            cases b
            ·go_wp2_with fail
             go_ret
             exact BoolP.no R5.bel
            ·have H1 := hide (hb rfl)
             clear hb
             have y1 : w5.cell? ⟨g3, 1, none⟩ = some (.int .u8 x.mask) := (R5.b 0 rfl).cell 1
             have y3 : w5.cell? ⟨g3, 3, none⟩ = some (.int .u64 x.new) := (R5.b 0 rfl).cell 3
             go_wp2_with fail
             refine (HW2.out _).mono ?_
             rintro e w6 ⟨b, rfl, hb, hb1⟩
             replace R5 := R5.step hb1
             clear y1 y3
             cases b
             ·go_wp2_with fail
              go_ret
              exact BoolP.no R5.bel
             ·have H2 := hide (hb rfl)
              clear hb
              have y0 : w6.cell? ⟨g3, 0, none⟩ = some (.int .i64 x.at_) := (R5.b 0 rfl).cell 0
              go_wp2_with fail
              go_roundw
              case rel => exact ⟨x.at_, q + 1, rfl, by go_num, by omega, HGO.out HA.out.1 HA.out.2 H1.out H2.out, R5.tail⟩
              case measure => simp [intOf]; omega
       ·have HWD : Hid (okWs (-1) ws ∧ ∀ x ∈ ws, x.ok ∧ x.at_ ≤ 65534) := by
         have hn := HWN.out
         have h1 := HQ.out
         rw [List.drop_of_length_le (by omega), List.take_of_length_le (by omega)] at h1
         exact ⟨h1.1 (by rw [okWs]; trivial), h1.2⟩
        clear HQ
        go_wp2_with fail
        go_loopw [5, 8] (fun s5 ix wr => ∃ (a : Int) (q : Nat), s5 = .int .i64 a ∧ ix = .int .i64 q ∧ q ≤ v.kn ∧ Hid ((okKs a (ks.drop q) → okKs (-1) ks) ∧ ∀ x ∈ ks.take q, (x.at_ ≤ 65534 ∧ neatE x.e) ∧ CapE x.e) ∧ Bx w wr [⟨w.heap.size, 30, #[.int .i64 v.k, .int .i64 v.old.k, .slice v.old.A v.old.n v.old.c, .slice v.old.K v.old.m v.old.d, .int .i64 v.new.k, .slice v.new.A v.new.n v.new.c, .slice v.new.K v.new.m v.new.d, .slice v.W v.wn v.wc, .slice v.K v.kn v.kc, .int .i64 v.lk, .slice v.O v.on v.oc]⟩]) (fun _ ix _ => v.kn - (intOf ix).toNat)
        case atStart => exact ⟨-1, 0, rfl, rfl, by omega, ⟨fun h => h, fun x hx => by simp at hx⟩, R4⟩
        case round =>
         obtain ⟨a, q2, rfl, rfl, hq2, HQ, R5⟩ := hrel
         clear R4 hlt c7
         rename World => wy
         have c8 : wy.cell? ⟨w.heap.size, 8, none⟩ = some (.slice v.K v.kn v.kc) := (R5.b 0 rfl).cell 8
         by_cases hlt : q2 < v.kn
         ·as_aux_lemma =>
           have hl1 : q2 < ks.length := by rw [← HKN.out]; exact hlt
           obtain ⟨bo, oo, o, hO, hbo, hat, HEC, HEA⟩ := HKS.out.at hl1
           obtain ⟨x0, x1, x2, x3, x4, x5, x6, x7, x8, x9, x10⟩ := HEC.keep (w' := wy) (fun p hp => R5.bel.cell (by rw [hp]; exact HS.out _ hbo))
           have xa := (R5.bel.cell (p := ⟨bo, oo + q2 * 12, none⟩) (HS.out _ hbo)).trans hat
           have hbw : bo < wy.heap.size := by have := HS.out _ hbo; have := R5.size; omega
           have hke : Hid (ks[q2].e.kind = o.k) := HEA.kind
           have HCL : Hid (∀ W, Below w.heap.size w W → Calls Try.prog 14 #[.agg #[.int .i64 o.k, .int .i64 o.old.k, .slice o.old.A o.old.n o.old.c, .slice o.old.K o.old.m o.old.d, .int .i64 o.new.k, .slice o.new.A o.new.n o.new.c, .slice o.new.K o.new.m o.new.d, .slice o.W o.wn o.wc, .slice o.K o.kn o.kc, .int .i64 o.lk, .slice o.O o.on o.oc], .int .i64 (deep - 1)] W (BoolP (rightD ks[q2].e) W)) := fun W hW =>
            HIH.out _ o S (deep - 1) W HDP.out.1 HDP.out.2 (HEA.bel hW HS.out) (fun b hb => by have := HS.out b hb; have := hW.size; omega)
           have HGO : Hid (a < ks[q2].at_ → ks[q2].at_ ≤ 65534 → ks[q2].e.kind ≠ 0 → rightD ks[q2].e → (okKs ks[q2].at_ (ks.drop (q2 + 1)) → okKs (-1) ks) ∧ ∀ x ∈ ks.take (q2 + 1), (x.at_ ≤ 65534 ∧ neatE x.e) ∧ CapE x.e) := fun g1 g2 g3 g4 => by
            refine ⟨fun h => HQ.out.1 ?_, fun x hx => ?_⟩
            ·rw [List.drop_eq_getElem_cons hl1]
             generalize ks[q2] = kk at *
             obtain ⟨b, e⟩ := kk
             rw [okKs]
             exact ⟨g1, g3, g4.1, h⟩
            ·rw [List.take_succ_eq_append_getElem hl1] at hx
             rcases List.mem_append.1 hx with hx | hx
             ·exact HQ.out.2 x hx
             ·rw [List.mem_singleton.1 hx]; exact ⟨⟨g2, g4.2.1⟩, g4.2.2⟩
           clear HEC HEA hat HQ
           generalize ks[q2] = x at *
           rw [hO] at c8
           clear hO
           go_upto_region 20 with fail
           have R6 := R5.box 55 #[.int .i64 x.at_, .int .i64 o.k, .int .i64 o.old.k, .slice o.old.A o.old.n o.old.c, .slice o.old.K o.old.m o.old.d, .int .i64 o.new.k, .slice o.new.A o.new.n o.new.c, .slice o.new.K o.new.m o.new.d, .slice o.W o.wn o.wc, .slice o.K o.kn o.kc, .int .i64 o.lk, .slice o.O o.on o.oc] rfl
           clear R5 x0 x1 x2 x3 x4 x5 x6 x7 x8 x9 x10 c8 xa
           generalize wy.alloc (.cells #[.int .i64 x.at_, .int .i64 o.k, .int .i64 o.old.k, .slice o.old.A o.old.n o.old.c, .slice o.old.K o.old.m o.old.d, .int .i64 o.new.k, .slice o.new.A o.new.n o.new.c, .slice o.new.K o.new.m o.new.d, .slice o.W o.wn o.wc, .slice o.K o.kn o.kc, .int .i64 o.lk, .slice o.O o.on o.oc] 55) = w3 at *
           generalize wy.heap.size = g3 at *
           have y0 : w3.cell? ⟨g3, 0, none⟩ = some (.int .i64 x.at_) := (R6.b 0 rfl).cell 0
           have y1 : w3.cell? ⟨g3, 1, none⟩ = some (.int .i64 o.k) := (R6.b 0 rfl).cell 1
           have y2 : w3.cell? ⟨g3, 2, none⟩ = some (.int .i64 o.old.k) := (R6.b 0 rfl).cell 2
           have y3 : w3.cell? ⟨g3, 3, none⟩ = some (.slice o.old.A o.old.n o.old.c) := (R6.b 0 rfl).cell 3
           have y4 : w3.cell? ⟨g3, 4, none⟩ = some (.slice o.old.K o.old.m o.old.d) := (R6.b 0 rfl).cell 4
           have y5 : w3.cell? ⟨g3, 5, none⟩ = some (.int .i64 o.new.k) := (R6.b 0 rfl).cell 5
           have y6 : w3.cell? ⟨g3, 6, none⟩ = some (.slice o.new.A o.new.n o.new.c) := (R6.b 0 rfl).cell 6
           have y7 : w3.cell? ⟨g3, 7, none⟩ = some (.slice o.new.K o.new.m o.new.d) := (R6.b 0 rfl).cell 7
           have y8 : w3.cell? ⟨g3, 8, none⟩ = some (.slice o.W o.wn o.wc) := (R6.b 0 rfl).cell 8
           have y9 : w3.cell? ⟨g3, 9, none⟩ = some (.slice o.K o.kn o.kc) := (R6.b 0 rfl).cell 9
           have y10 : w3.cell? ⟨g3, 10, none⟩ = some (.int .i64 o.lk) := (R6.b 0 rfl).cell 10
           have y11 : w3.cell? ⟨g3, 11, none⟩ = some (.slice o.O o.on o.oc) := (R6.b 0 rfl).cell 11
           by_cases ha : x.at_ ≤ a
           ·have fa : decide (x.at_ ≤ a) = true := by simpa using ha
            clear ha
            go_wp2_with fail
            go_ret
            exact BoolP.no R6.bel
           ·have fa : decide (x.at_ ≤ a) = false := by simpa using ha
            by_cases h6 : 65534 < x.at_
            ·have f6 : decide (65534 < x.at_) = true := by simpa using h6
             clear ha h6
             go_wp2_with fail
             go_ret
             exact BoolP.no R6.bel
            ·have f6 : decide (65534 < x.at_) = false := by simpa using h6
             have HA : Hid (a < x.at_ ∧ x.at_ ≤ 65534) := ⟨by omega, by omega⟩
             clear ha h6
             by_cases hm : o.k = 0
             ·have fm : (o.k == 0) = true := by simpa using hm
              clear hm
              go_wp2_with fail
              go_ret
              exact BoolP.no R6.bel
             ·have fm : (o.k == 0) = false := by simpa using hm
              have HM := hide hm
              clear hm
              go_wp2_with fail
              refine (HCL.out _ R6.bel).mono ?_
              rintro e w5 ⟨b, rfl, hb, hb1⟩
              replace R6 := R6.step hb1
              clear y0 y1 y2 y3 y4 y5 y6 y7 y8 y9 y10 y11
              cases b
              ·go_wp2_with fail
               go_ret
               exact BoolP.no R6.bel
              ·have H1 := hide (hb rfl)
               clear hb
               have y0 : w5.cell? ⟨g3, 0, none⟩ = some (.int .i64 x.at_) := (R6.b 0 rfl).cell 0
               go_wp2_with fail
               go_roundw
               case rel => exact ⟨x.at_, q2 + 1, rfl, by go_num, by omega, HGO.out HA.out.1 HA.out.2 (by rw [hke.out]; exact HM.out) H1.out, R6.tail⟩
               case measure => simp [intOf]; omega
         ·have HKD : Hid (okKs (-1) ks ∧ ∀ x ∈ ks, (x.at_ ≤ 65534 ∧ neatE x.e) ∧ CapE x.e) := by
           have hn := HKN.out
           have h1 := HQ.out
           rw [List.drop_of_length_le (by omega), List.take_of_length_le (by omega)] at h1
           exact ⟨h1.1 (by rw [okKs]; trivial), h1.2⟩
          clear HQ
          have c0 : wy.cell? ⟨w.heap.size, 0, none⟩ = some (.int .i64 v.k) := (R5.b 0 rfl).cell 0
          have c9 : wy.cell? ⟨w.heap.size, 9, none⟩ = some (.int .i64 v.lk) := (R5.b 0 rfl).cell 9
          go_upto_region 23 with fail
          clear hlt c8
          go_cut [186] (fun s wx => ∃ b, s = .bool b ∧ Bx w wx [⟨w.heap.size, 30, #[.int .i64 v.k, .int .i64 v.old.k, .slice v.old.A v.old.n v.old.c, .slice v.old.K v.old.m v.old.d, .int .i64 v.new.k, .slice v.new.A v.new.n v.new.c, .slice v.new.K v.new.m v.new.d, .slice v.W v.wn v.wc, .slice v.K v.kn v.kc, .int .i64 v.lk, .slice v.O v.on v.oc]⟩] ∧ Hid (b = false → v.k = 3 → 2 ≤ v.lk ∧ v.lk ≤ 9))
          case first =>
           by_cases h3 : v.k = 3
           ·have f3 : (v.k == 3) = true := by simpa using h3
            clear h3
            by_cases hl2 : v.lk < 2
            ·have fl2 : decide (v.lk < 2) = true := by simpa using hl2
             clear hl2
             go_wp2_with fail
             go_meet
             case rel => exact ⟨true, rfl, R5, fun h => (by cases h)⟩
            ·have fl2 : decide (v.lk < 2) = false := by simpa using hl2
             by_cases hl9 : 9 < v.lk
             ·have fl9 : decide (9 < v.lk) = true := by simpa using hl9
              clear hl2 hl9
              go_wp2_with fail
              go_meet
              case rel => exact ⟨true, rfl, R5, fun h => (by cases h)⟩
             ·have fl9 : decide (9 < v.lk) = false := by simpa using hl9
              have HLK : Hid (2 ≤ v.lk ∧ v.lk ≤ 9) := ⟨by omega, by omega⟩
              clear hl2 hl9
              go_wp2_with fail
              go_meet
              case rel => exact ⟨false, rfl, R5, fun _ _ => HLK.out⟩
           ·have f3 : (v.k == 3) = false := by simpa using h3
            have H3 := hide h3
            clear h3
            go_wp2_with fail
            go_meet
            case rel => exact ⟨false, rfl, R5, fun _ h => absurd h H3.out⟩
          case rest =>
           obtain ⟨b, rfl, R6, HB⟩ := hcut
           clear R5 c0 c9
           rename World => wx
           cases b
           rotate_left
           ·go_wp2_with fail
            go_ret
            exact BoolP.no R6.bel
           have HLK := hide (HB.out rfl)
           clear HB
           go_wp2_with fail
           go_loopw [10] (fun ix wr => ∃ (q : Nat), ix = .int .i64 q ∧ q ≤ v.on ∧ Hid (∀ x ∈ ops.take q, opR v.lk x) ∧ Bx w wr [⟨w.heap.size, 30, #[.int .i64 v.k, .int .i64 v.old.k, .slice v.old.A v.old.n v.old.c, .slice v.old.K v.old.m v.old.d, .int .i64 v.new.k, .slice v.new.A v.new.n v.new.c, .slice v.new.K v.new.m v.new.d, .slice v.W v.wn v.wc, .slice v.K v.kn v.kc, .int .i64 v.lk, .slice v.O v.on v.oc]⟩]) (fun ix _ => v.on - (intOf ix).toNat)
           case atStart => exact ⟨0, rfl, by omega, fun x hx => by simp at hx, R6⟩
           case round =>
            obtain ⟨q3, rfl, hq3, HQ, R7⟩ := hrel
            clear R6
            rename World => wv
            have c10 : wv.cell? ⟨w.heap.size, 10, none⟩ = some (.slice v.O v.on v.oc) := (R7.b 0 rfl).cell 10
            have c9 : wv.cell? ⟨w.heap.size, 9, none⟩ = some (.int .i64 v.lk) := (R7.b 0 rfl).cell 9
            by_cases hlt : q3 < v.on
            ·as_aux_lemma =>
              have hl1 : q3 < ops.length := by rw [← HON.out]; exact hlt
              obtain ⟨bo, oo, o, hO, hbo, HOC, HOA⟩ := HOS.out.at hl1
              have HCC : Hid (∀ W, Below w.heap.size w W → OCells W bo (oo + q3 * 14) o) := fun W hW => HOC.keep (fun p hp => hW.cell (by rw [hp]; exact HS.out _ hbo))
              have HCL : Hid (∀ W, Below w.heap.size w W → Calls Try.prog 27 #[.int .i64 v.lk, .agg #[.int .i64 o.k, .int .i64 o.n, .slice o.L o.ln o.lc, .int .i64 o.e.k, .int .i64 o.e.old.k, .slice o.e.old.A o.e.old.n o.e.old.c, .slice o.e.old.K o.e.old.m o.e.old.d, .int .i64 o.e.new.k, .slice o.e.new.A o.e.new.n o.e.new.c, .slice o.e.new.K o.e.new.m o.e.new.d, .slice o.e.W o.e.wn o.e.wc, .slice o.e.K o.e.kn o.e.kc, .int .i64 o.e.lk, .slice o.e.O o.e.on o.e.oc], .int .i64 (deep - 1)] W (BoolP (opR v.lk ops[q3]) W)) := fun W hW =>
               op_any D HIH.out v.lk _ o S (deep - 1) W HDP.out.1 HDP.out.2 (HOA.keep (fun p hp => hW.cell (HS.out _ hp))) (fun b hb => by have := HS.out b hb; have := hW.size; omega)
              have HGO : Hid (opR v.lk ops[q3] → ∀ x ∈ ops.take (q3 + 1), opR v.lk x) := fun g x hx => by
               rw [List.take_succ_eq_append_getElem hl1] at hx
               rcases List.mem_append.1 hx with hx | hx
               ·exact HQ.out x hx
               ·rw [List.mem_singleton.1 hx]; exact g
              have hwk : IntKind.i64.wrap (deep - 1) = deep - 1 := IntWalk.i64_in _ (by omega)
              have hbw : bo < wv.heap.size := by have := HS.out _ hbo; have := R7.size; omega
              obtain ⟨x0, x1, x2, x3, x4, x5, x6, x7, x8, x9, x10, x11, x12, x13⟩ := HCC.out wv R7.bel
              clear HOC HOA HQ
              generalize ops[q3] = x at *
              rw [hO] at c10
              have HHO := hide hO
              clear hO
              go_upto_region 28 with fail
              have R8 := R7.drew
              go_region_held3 (fun W => W.cell? ⟨w.heap.size, 9, none⟩ = some (.int .i64 v.lk) ∧ W.cell? ⟨w.heap.size, 10, none⟩ = some (.slice (some ⟨bo, oo, none⟩) v.on v.oc) ∧ W.cell? ⟨bo, oo + q3 * 14, none⟩ = some (.int .i64 o.k) ∧ W.cell? ⟨bo, oo + q3 * 14 + 1, none⟩ = some (.int .i64 o.n) ∧ W.cell? ⟨bo, oo + q3 * 14 + 2, none⟩ = some (.slice o.L o.ln o.lc) ∧
               W.cell? ⟨bo, oo + q3 * 14 + 3, none⟩ = some (.int .i64 o.e.k) ∧ W.cell? ⟨bo, oo + q3 * 14 + 4, none⟩ = some (.int .i64 o.e.old.k) ∧ W.cell? ⟨bo, oo + q3 * 14 + 5, none⟩ = some (.slice o.e.old.A o.e.old.n o.e.old.c) ∧ W.cell? ⟨bo, oo + q3 * 14 + 6, none⟩ = some (.slice o.e.old.K o.e.old.m o.e.old.d) ∧
               W.cell? ⟨bo, oo + q3 * 14 + 7, none⟩ = some (.int .i64 o.e.new.k) ∧ W.cell? ⟨bo, oo + q3 * 14 + 8, none⟩ = some (.slice o.e.new.A o.e.new.n o.e.new.c) ∧ W.cell? ⟨bo, oo + q3 * 14 + 9, none⟩ = some (.slice o.e.new.K o.e.new.m o.e.new.d) ∧ W.cell? ⟨bo, oo + q3 * 14 + 10, none⟩ = some (.slice o.e.W o.e.wn o.e.wc) ∧
               W.cell? ⟨bo, oo + q3 * 14 + 11, none⟩ = some (.slice o.e.K o.e.kn o.e.kc) ∧ W.cell? ⟨bo, oo + q3 * 14 + 12, none⟩ = some (.int .i64 o.e.lk) ∧ W.cell? ⟨bo, oo + q3 * 14 + 13, none⟩ = some (.slice o.e.O o.e.on o.e.oc))
               (exact ⟨(R8.b 0 rfl).cell 9, by rw [← HHO.out]; exact (R8.b 0 rfl).cell 10, (HCC.out _ R8.bel).c0, (HCC.out _ R8.bel).c1, (HCC.out _ R8.bel).c2, (HCC.out _ R8.bel).c3, (HCC.out _ R8.bel).c4, (HCC.out _ R8.bel).c5, (HCC.out _ R8.bel).c6, (HCC.out _ R8.bel).c7, (HCC.out _ R8.bel).c8, (HCC.out _ R8.bel).c9, (HCC.out _ R8.bel).c10, (HCC.out _ R8.bel).c11, (HCC.out _ R8.bel).c12, (HCC.out _ R8.bel).c13⟩)
               (first | (go_at_call 27; ((with_reducible refine (HCL.out _ R8.bel).mono ?_); rintro e w8 ⟨b8, rfl, hb8, hbel8⟩; have R8 := R8.step hbel8; have HB8 := hide hb8; clear hb8)))
              clear x0 x1 x2 x3 x4 x5 x6 x7 x8 x9 x10 x11 x12 x13 c9 c10 R7
              cases b8
              ·go_wp2_with fail
               go_ret
               exact BoolP.no R8.bel
              ·have HB9 := hide (HB8.out rfl)
               go_wp2_with fail
               go_roundw
               case rel => exact ⟨q3 + 1, by go_num, by omega, HGO.out HB9.out, R8⟩
               case measure => simp [intOf]; omega
            ·as_aux_lemma =>
              have HQD : Hid (∀ x ∈ ops, opR v.lk x) := fun x hx => HQ.out x (by rw [List.take_of_length_le (by have := HON.out; omega)]; exact hx)
              clear HQ
              have c0 : wv.cell? ⟨w.heap.size, 0, none⟩ = some (.int .i64 v.k) := (R7.b 0 rfl).cell 0
              have c1 : wv.cell? ⟨w.heap.size, 1, none⟩ = some (.int .i64 v.old.k) := (R7.b 0 rfl).cell 1
              have c2 : wv.cell? ⟨w.heap.size, 2, none⟩ = some (.slice v.old.A v.old.n v.old.c) := (R7.b 0 rfl).cell 2
              have c3 : wv.cell? ⟨w.heap.size, 3, none⟩ = some (.slice v.old.K v.old.m v.old.d) := (R7.b 0 rfl).cell 3
              have c4 : wv.cell? ⟨w.heap.size, 4, none⟩ = some (.int .i64 v.new.k) := (R7.b 0 rfl).cell 4
              have c5 : wv.cell? ⟨w.heap.size, 5, none⟩ = some (.slice v.new.A v.new.n v.new.c) := (R7.b 0 rfl).cell 5
              have c6 : wv.cell? ⟨w.heap.size, 6, none⟩ = some (.slice v.new.K v.new.m v.new.d) := (R7.b 0 rfl).cell 6
              have c7 : wv.cell? ⟨w.heap.size, 7, none⟩ = some (.slice v.W v.wn v.wc) := (R7.b 0 rfl).cell 7
              have c8 : wv.cell? ⟨w.heap.size, 8, none⟩ = some (.slice v.K v.kn v.kc) := (R7.b 0 rfl).cell 8
              have HLC := hide (lengths_any v.k old new ws ks v.lk ops v S wv (HEd.out.bel R7.bel HS.out) (fun b hb => by have := HS.out b hb; have := R7.size; omega) (fun o ho => (HQD.out o ho).2.2.1))
              go_wp2_with fail
              refine HLC.out.mono ?_
              rintro e w9 ⟨la, lb, rfl, h1, h2, hb9⟩
              have R9 := R7.step hb9
              have hla : la ≤ 1048576 := by omega
              have hlb : lb ≤ 1048576 := by omega
              clear h1 h2 hb9 c0 c1 c2 c3 c4 c5 c6 c7 c8 c9 c10 R7
              have HDONE : Hid (rightD (.mk v.k old new ws ks v.lk ops)) := by
               obtain ⟨s1, s2, s3⟩ := HSH.out
               obtain ⟨k0, k3⟩ := HKB.out
               have k1 := HK1.out
               have n1 := HWN.out
               have n2 := HKN.out
               have n3 := HON.out
               have qd := HQD.out
               refine ⟨?_, ?_, .mk _ _ _ _ _ _ _ (fun x hx => (HWD.out.2 x hx).2) (fun x hx => (HKD.out.2 x hx).1.1) (fun x hx => (HKD.out.2 x hx).2) (fun o ho => (qd o ho).2.2.1) (fun o ho => (qd o ho).2.2.2.2)⟩
               ·rw [okE]
                exact ⟨k0, k3, fun h => absurd h k1, fun _ => ⟨fun x hx => (HWD.out.2 x hx).1, HWD.out.1, HKD.out.1⟩, fun h => ⟨(HLK.out h).1, (HLK.out h).2, okOs_iff.2 fun o ho => (qd o ho).1⟩⟩
               ·rw [neatE, neatK_iff, neatO_iff]
                exact ⟨fun h => ⟨(s3 h).1, List.eq_nil_of_length_eq_zero (by have := (s3 h).2; omega)⟩, fun h => ⟨List.eq_nil_of_length_eq_zero (by have := s2 h; omega), List.eq_nil_of_length_eq_zero (by have := s2 h; omega)⟩, fun x hx => (HKD.out.2 x hx).1.2, fun o ho => ⟨(qd o ho).2.1, (qd o ho).2.2.1.2.2.1, (qd o ho).2.2.2.1⟩⟩
              obtain ⟨p1, fa⟩ : ∃ b, decide ((la : Int) < 1048576) = b := ⟨_, rfl⟩
              obtain ⟨p2, fb⟩ : ∃ b, decide ((lb : Int) < 1048576) = b := ⟨_, rfl⟩
              cases p1
              ·go_wp2_with fail
               go_ret
               exact BoolP.of (fun _ => HDONE.out) R9.bel
              ·go_wp2_with fail
               go_ret
               exact BoolP.of (fun _ => HDONE.out) R9.bel
      end Go.Proofs.Ytbmjiokjigkdnaa
namespace Go.Proofs.Ytbmjiokjigkdnaa
open Go.RowKit Go.Proofs.Ytbmjiokjigkdnaa.Top
theorem bdE_of : ∀ (N : Nat) (e : Ed), dE e ≤ N → neatE e → CapE e → FewE e → LightE e → bdE 4000 e := by
 intro N
 induction N with
 | zero => intro e hN; obtain ⟨k, old, new, ws, ks, lk, ops⟩ := e; rw [dE] at hN; omega
 | succ N ih =>
  intro e hN hn hc hf hl
  obtain ⟨k, old, new, ws, ks, lk, ops⟩ := e
  obtain ⟨hdk, hdo⟩ := dE_kid hN
  obtain ⟨c1, c2, c3, c4, c5⟩ := hc.parts
  cases hf with
  | mk _ _ _ _ _ _ _ f1 f2 f3 f4 f5 f6 f7 f8 =>
   cases hl with
   | mk _ _ _ _ _ _ _ l1 l2 l3 l4 =>
    rw [neatE, neatK_iff, neatO_iff] at hn
    obtain ⟨n1, n2, n3, n4⟩ := hn
    rw [bdE, bdK_iff, bdO_iff]
    refine ⟨bdT_mono (by decide) f1, bdT_mono (by decide) f2, by omega, c1, by omega, fun x hx => ⟨c2 x hx, ih _ (hdk x hx) (n3 x hx) (c3 x hx) (f6 x hx) (l3 x hx)⟩, ?_, fun o hx => ⟨by have := (f7 o hx).1; omega, fun x h => bdT_mono (by decide) ((f7 o hx).2 x h), ih _ (hdo o hx) (n4 o hx).2.2 (c5 o hx) (f8 o hx) (l4 o hx)⟩⟩
    have := units_lens ops fun o hx => (n4 o hx).1
    omega
def goodE (e : Ed) : Prop := rightE e ∧ bdE 4000 e
def goodT (t : T) : Prop := okT t ∧ bdT 3000 t ∧ t.kind ≠ 10
set_option maxHeartbeats 1000000 in
theorem good_any (e : Ed) (v : Ev) (S : Nat → Prop) (w : World) (h : EdAt w S e v) (hS : ∀ b, S b → b < w.heap.size) :
  Calls Try.prog 5 #[.agg #[.int .i64 v.k, .int .i64 v.old.k, .slice v.old.A v.old.n v.old.c, .slice v.old.K v.old.m v.old.d, .int .i64 v.new.k, .slice v.new.A v.new.n v.new.c, .slice v.new.K v.new.m v.new.d, .slice v.W v.wn v.wc, .slice v.K v.kn v.kc, .int .i64 v.lk, .slice v.O v.on v.oc]] w (BoolP (goodE e) w) := by
 have R := (Bx.nil w).box 30 #[.int .i64 v.k, .int .i64 v.old.k, .slice v.old.A v.old.n v.old.c, .slice v.old.K v.old.m v.old.d, .int .i64 v.new.k, .slice v.new.A v.new.n v.new.c, .slice v.new.K v.new.m v.new.d, .slice v.W v.wn v.wc, .slice v.K v.kn v.kc, .int .i64 v.lk, .slice v.O v.on v.oc] rfl
 have hE : ∀ W, Below w.heap.size w W → EdAt W S e v ∧ ∀ b, S b → b < W.heap.size := fun W hW => ⟨h.bel hW hS, fun b hb => Nat.lt_of_lt_of_le (hS b hb) hW.size⟩
 have H1 : Hid (∀ W, Below w.heap.size w W → Calls Try.prog 13 #[.agg #[.int .i64 v.k, .int .i64 v.old.k, .slice v.old.A v.old.n v.old.c, .slice v.old.K v.old.m v.old.d, .int .i64 v.new.k, .slice v.new.A v.new.n v.new.c, .slice v.new.K v.new.m v.new.d, .slice v.W v.wn v.wc, .slice v.K v.kn v.kc, .int .i64 v.lk, .slice v.O v.on v.oc]] W (BoolP (FewE e) W)) := fun W hW => eFew_any e v S W (hE W hW).1 (hE W hW).2
 have H2 : Hid (∀ W, Below w.heap.size w W → Calls Try.prog 14 #[.agg #[.int .i64 v.k, .int .i64 v.old.k, .slice v.old.A v.old.n v.old.c, .slice v.old.K v.old.m v.old.d, .int .i64 v.new.k, .slice v.new.A v.new.n v.new.c, .slice v.new.K v.new.m v.new.d, .slice v.W v.wn v.wc, .slice v.K v.kn v.kc, .int .i64 v.lk, .slice v.O v.on v.oc], .int .i64 64] W (BoolP (rightD e) W)) := fun W hW => rightE_any 64 e v S 64 W rfl (Nat.le_refl _) (hE W hW).1 (hE W hW).2
 have H3 : Hid (CapE e → ∀ W, Below w.heap.size w W → Calls Try.prog 15 #[.agg #[.int .i64 v.k, .int .i64 v.old.k, .slice v.old.A v.old.n v.old.c, .slice v.old.K v.old.m v.old.d, .int .i64 v.new.k, .slice v.new.A v.new.n v.new.c, .slice v.new.K v.new.m v.new.d, .slice v.W v.wn v.wc, .slice v.K v.kn v.kc, .int .i64 v.lk, .slice v.O v.on v.oc]] W (BoolP (LightE e) W)) := fun hc W hW => light_any _ e v S W (Nat.le_refl _) (hE W hW).1 (hE W hW).2 hc
 clear h hS hE
 go_enter Try.func5, Try.ntmps5
 go_wp2_with fail
 refine (H1.out _ R.bel).mono ?_
 rintro e w1 ⟨b, rfl, hb, hb1⟩
 replace R := R.step hb1
 generalize w.alloc (.cells #[.int .i64 v.k, .int .i64 v.old.k, .slice v.old.A v.old.n v.old.c, .slice v.old.K v.old.m v.old.d, .int .i64 v.new.k, .slice v.new.A v.new.n v.new.c, .slice v.new.K v.new.m v.new.d, .slice v.W v.wn v.wc, .slice v.K v.kn v.kc, .int .i64 v.lk, .slice v.O v.on v.oc] 30) = w0 at *
 cases b
 ·go_wp2_with fail
  go_ret
  exact BoolP.no R.bel
 ·have G1 := hide (hb rfl)
  clear hb
  have c0 : w1.cell? ⟨w.heap.size, 0, none⟩ = some (.int .i64 v.k) := (R.b 0 rfl).cell 0
  have c1 : w1.cell? ⟨w.heap.size, 1, none⟩ = some (.int .i64 v.old.k) := (R.b 0 rfl).cell 1
  have c2 : w1.cell? ⟨w.heap.size, 2, none⟩ = some (.slice v.old.A v.old.n v.old.c) := (R.b 0 rfl).cell 2
  have c3 : w1.cell? ⟨w.heap.size, 3, none⟩ = some (.slice v.old.K v.old.m v.old.d) := (R.b 0 rfl).cell 3
  have c4 : w1.cell? ⟨w.heap.size, 4, none⟩ = some (.int .i64 v.new.k) := (R.b 0 rfl).cell 4
  have c5 : w1.cell? ⟨w.heap.size, 5, none⟩ = some (.slice v.new.A v.new.n v.new.c) := (R.b 0 rfl).cell 5
  have c6 : w1.cell? ⟨w.heap.size, 6, none⟩ = some (.slice v.new.K v.new.m v.new.d) := (R.b 0 rfl).cell 6
  have c7 : w1.cell? ⟨w.heap.size, 7, none⟩ = some (.slice v.W v.wn v.wc) := (R.b 0 rfl).cell 7
  have c8 : w1.cell? ⟨w.heap.size, 8, none⟩ = some (.slice v.K v.kn v.kc) := (R.b 0 rfl).cell 8
  have c9 : w1.cell? ⟨w.heap.size, 9, none⟩ = some (.int .i64 v.lk) := (R.b 0 rfl).cell 9
  have c10 : w1.cell? ⟨w.heap.size, 10, none⟩ = some (.slice v.O v.on v.oc) := (R.b 0 rfl).cell 10
  go_wp2_with fail
  refine (H2.out _ R.bel).mono ?_
  rintro e w2 ⟨b, rfl, hb, hb1⟩
  replace R := R.step hb1
  clear c0 c1 c2 c3 c4 c5 c6 c7 c8 c9 c10
  cases b
  ·go_wp2_with fail
   go_ret
   exact BoolP.no R.bel
  ·have G2 := hide (hb rfl)
   clear hb
   have c0 : w2.cell? ⟨w.heap.size, 0, none⟩ = some (.int .i64 v.k) := (R.b 0 rfl).cell 0
   have c1 : w2.cell? ⟨w.heap.size, 1, none⟩ = some (.int .i64 v.old.k) := (R.b 0 rfl).cell 1
   have c2 : w2.cell? ⟨w.heap.size, 2, none⟩ = some (.slice v.old.A v.old.n v.old.c) := (R.b 0 rfl).cell 2
   have c3 : w2.cell? ⟨w.heap.size, 3, none⟩ = some (.slice v.old.K v.old.m v.old.d) := (R.b 0 rfl).cell 3
   have c4 : w2.cell? ⟨w.heap.size, 4, none⟩ = some (.int .i64 v.new.k) := (R.b 0 rfl).cell 4
   have c5 : w2.cell? ⟨w.heap.size, 5, none⟩ = some (.slice v.new.A v.new.n v.new.c) := (R.b 0 rfl).cell 5
   have c6 : w2.cell? ⟨w.heap.size, 6, none⟩ = some (.slice v.new.K v.new.m v.new.d) := (R.b 0 rfl).cell 6
   have c7 : w2.cell? ⟨w.heap.size, 7, none⟩ = some (.slice v.W v.wn v.wc) := (R.b 0 rfl).cell 7
   have c8 : w2.cell? ⟨w.heap.size, 8, none⟩ = some (.slice v.K v.kn v.kc) := (R.b 0 rfl).cell 8
   have c9 : w2.cell? ⟨w.heap.size, 9, none⟩ = some (.int .i64 v.lk) := (R.b 0 rfl).cell 9
   have c10 : w2.cell? ⟨w.heap.size, 10, none⟩ = some (.slice v.O v.on v.oc) := (R.b 0 rfl).cell 10
   go_wp2_with fail
   refine (H3.out G2.out.2.2 _ R.bel).mono ?_
   rintro e w3 ⟨b, rfl, hb, hb1⟩
   replace R := R.step hb1
   have HB := hide hb
   clear c0 c1 c2 c3 c4 c5 c6 c7 c8 c9 c10 hb
   go_wp2_with fail
   go_ret
   exact BoolP.of (fun h => ⟨⟨G2.out.1, G2.out.2.1⟩, bdE_of _ _ (Nat.le_refl _) G2.out.2.1 G2.out.2.2 G1.out (HB.out h)⟩) R.bel
end Go.Proofs.Ytbmjiokjigkdnaa
