/-
  Part F of the proofs of TopAssociates and TopConverse.
-/
import Derived.Deep.MidRow
import Derived.Great.BuildSlice
import Derived.Deep.LoopGhost
import Derived.Test.YtbmjiokjigkdnaaZC
set_option linter.unusedVariables false
set_option linter.unusedSimpArgs false
namespace Go.Proofs.Ytbmjiokjigkdnaa
open Go.RowKit
def sl (f : Nat → Value) (d : Nat) (v : Value) : Nat → Value := fun i => cond (Nat.beq i d) v (f i)
def Eo (f : Nat → Value) : Operand → Value
 | .tmp t => f t
 | .const v => v
 | .global g => .pointer (some ⟨g, 0, none⟩)
 | .func g => .func (.func g) #[] #[]
structure Fr (a : Act) (n : Nat) (f : Nat → Value) : Prop where
 size : a.tmps.size = n
 nod : a.defers = []
 val : ∀ i, i < n → a.tmps[i]? = some (f i)
def inR (n : Nat) : Operand → Bool
 | .tmp t => Nat.blt t n
 | _ => true
def opIn (n : Nat) (o : Oper) : Bool := o.op.operands.toList.all (inR n) && (match o.op with | .select .. => false | _ => true)
section
variable {a : Act} {n : Nat} {f : Nat → Value}
theorem Fr.eval (h : Fr a n f) {x : Operand} (hx : inR n x = true) : a.eval x = Eo f x := by
 cases x with
 | tmp t =>
  have ht : t < n := by simpa [inR, Nat.blt_eq] using hx
  show a.tmps.getD t undef = f t
  rw [Array.getD_eq_getD_getElem?, h.val t ht]
  rfl
 | const v => rfl
 | global g => rfl
 | func g => rfl
theorem Fr.put (h : Fr a n f) (d : Nat) (v : Value) : Fr (a.put (some d) v) n (sl f d v) := by
 refine ⟨by show (a.tmps.setIfInBounds d v).size = n; rw [Array.size_setIfInBounds]; exact h.size, h.nod, fun i hi => ?_⟩
 show (a.tmps.setIfInBounds d v)[i]? = _
 rw [Array.getElem?_setIfInBounds]
 by_cases e : d = i
 ·subst e
  rw [if_pos rfl, if_pos (by rw [h.size]; exact hi)]
  simp [sl, Nat.beq_eq]
 ·rw [if_neg e, h.val i hi]
  have : Nat.beq i d = false := by
   cases hb : Nat.beq i d with
   | false => rfl
   | true => exact absurd (Nat.eq_of_beq_eq_true hb).symm e
  simp [sl, this]
theorem Fr.same (h : Fr a n f) {d : Nat} {v : Value} (e : f d = v) : Fr a n (sl f d v) := by
 refine ⟨h.size, h.nod, fun i hi => ?_⟩
 rw [h.val i hi]
 by_cases hb : Nat.beq i d = true
 ·have := Nat.eq_of_beq_eq_true hb
  subst this
  simp [sl, hb, e]
 ·simp only [Bool.not_eq_true] at hb
  simp [sl, hb]
theorem Fr.exec (h : Fr a n f) {o : Oper} (ho : opIn n o = true) : execOp a.eval o = execOp (Eo f) o := by
 have h1 : o.op.operands.toList.all (inR n) = true := by
  unfold opIn at ho
  exact (Bool.and_eq_true_iff.1 ho).1
 have h2 : ∀ cs b, o.op ≠ .select cs b := fun cs b e => by
  unfold opIn at ho
  rw [e] at ho
  simp at ho
 refine execOp_congr o h2 fun x hx => h.eval ?_
 exact List.all_eq_true.1 h1 x (by simpa using hx)
def args0 (xs : List Value) : Nat → Value := fun i => (xs[i]?).getD undef
theorem Fr.enter (xs : List Value) (n : Nat) (hn : xs.length ≤ n) : Fr { tmps := xs.toArray ++ Array.replicate (n - xs.toArray.size) undef, defers := [] } n (args0 xs) := by
 refine ⟨by simp; omega, rfl, fun i hi => ?_⟩
 show (xs.toArray ++ Array.replicate (n - xs.toArray.size) undef)[i]? = _
 rw [Array.getElem?_append]
 simp only [List.size_toArray]
 split
 ·rename_i hlt
  simp [args0, List.getElem?_eq_getElem hlt]
 ·rename_i hge
  rw [Array.getElem?_replicate]
  have : xs[i]? = none := List.getElem?_eq_none (by omega)
  simp [args0, this]
  omega
end
section
variable {P : Program} {ρ : Operand → Value} {o : Oper} {w : World}
theorem rn_move {x : Operand} {v : Value} (ho : o.op = .move x) (hx : ρ x = v) : (execOp ρ o).run P w = .ok (.value v) w := by
 subst hx; unfold execOp; simp only [ho]; rfl
theorem rn_assign {x : Operand} {v : Value} (ho : o.op = .assign x) (hx : ρ x = v) : (execOp ρ o).run P w = .ok (.value v) w := by
 subst hx; unfold execOp; simp only [ho]; rfl
theorem rn_pick {c x y : Operand} {b : Bool} {v : Value} (ho : o.op = .pick c x y) (hc : ρ c = .bool b) (hv : (if b then ρ x else ρ y) = v) : (execOp ρ o).run P w = .ok (.value v) w := by
 subst hv; unfold execOp; simp only [ho, hc]; rfl
theorem rn_nil {x : Operand} {p : Addr} (ho : o.op = .nilCheck x) (hx : ρ x = .pointer (some p)) : (execOp ρ o).run P w = .ok (.value (.pointer (some p))) w := by
 unfold execOp; simp only [ho, hx]; rfl
def foff (P : Program) (s i : Nat) : Option Nat :=
 match P.underlying s with
 | some (.struct fs) => match fs[i]? with
  | some fl => match P.info? fl.type with
   | some ti => if ti.size = 0 then none else some fl.offset
   | none => none
  | none => none
 | _ => none
theorem rn_field {s : TypeId} {x : Operand} {i : Nat} {b of off q : Nat} (ho : o.op = .fieldAddr s x i) (hx : ρ x = .pointer (some ⟨b, of, none⟩)) (hf : foff P s i = some off) (hq : of + off = q) :
  (execOp ρ o).run P w = .ok (.value (.pointer (some ⟨b, q, none⟩))) w := by
 subst hq
 unfold foff at hf
 split at hf
 ·rename_i fs hu
  split at hf
  ·rename_i fl hfl
   split at hf
   ·rename_i ti hti
    split at hf
    ·cases hf
    ·rename_i hz
     injection hf with hf
     subst hf
     unfold execOp
     simp only [ho, hx, Instr.fieldAt, fieldPlace, Instr.sureAddr, Sem.run_bind, run_underlying hu, Result.andThen_ok, hfl, Sem.run_pure, sizeOf, typeInfo, hti]
     simp [hz, hti, add_lit, typeInfo]
   ·cases hf
  ·cases hf
 ·cases hf
def oneT (P : Program) (ty : TypeId) : Bool := (match P.underlying ty with | some (.struct _) => false | some (.array _ _) => false | some _ => true | none => false) && ((P.info? ty).map (·.size) == some 1)
theorem rn_load {ty : TypeId} {x : Operand} {p : Addr} {v : Value} (ho : o.op = .load ty x) (hx : ρ x = .pointer (some p)) (hl : (loadVar ty p).run P w = .ok v w) : (execOp ρ o).run P w = .ok (.value v) w := by
 unfold execOp
 simp only [ho, hx, Instr.loadAt, Instr.sureAddr, Sem.run_bind, Sem.run_pure, Result.andThen_ok, hl]
theorem rn_store {ty : TypeId} {x y : Operand} {p : Addr} {w' : World} (ho : o.op = .store ty x y) (hx : ρ x = .pointer (some p)) (hs : (storeVar ty p (ρ y)).run P w = .ok () w') : (execOp ρ o).run P w = .ok .skip w' := by
 unfold execOp
 simp only [ho, hx, Instr.storeAt, Instr.sureAddr, Sem.run_bind, Sem.run_pure, Result.andThen_ok, hs]
def esz (P : Program) (t : TypeId) : Option Nat := match P.underlying t with | some (.slice e) => (P.info? e).map (·.size) | _ => none
theorem rn_index {t : TypeId} {x i : Operand} {b of len cap s q : Nat} {j : Int} {k : IntKind} (ho : o.op = .indexAddr t x i) (hx : ρ x = .slice (some ⟨b, of, none⟩) len cap) (hi : ρ i = .int k j) (hj : 0 ≤ j ∧ j < len) (hs : esz P t = some s) (hq : of + j.toNat * s = q) :
  (execOp ρ o).run P w = .ok (.value (.pointer (some ⟨b, q, none⟩))) w := by
 subst hq
 unfold esz at hs
 split at hs
 ·rename_i e hu
  cases hie : P.info? e with
  | none => simp [hie] at hs
  | some ie =>
   rw [hie] at hs
   injection hs with hs
   unfold execOp
   simp only [ho, hx, hi, Instr.indexAt, asIntOf, Sem.run_bind, Sem.run_pure, run_underlying hu, Result.andThen_ok, sizeOf, typeInfo]
   simp [hj, hie, hs, add_lit, typeInfo]
 ·cases hs
def isSl (P : Program) (t : TypeId) : Bool := match P.underlying t with | some (.slice _) => true | _ => false
theorem rn_len {t : TypeId} {x : Operand} {A : Option Addr} {n c : Nat} (ho : o.op = .call { callee := .builtin .len, args := #[x], argTypes := #[t] }) (hx : ρ x = .slice A n c) (ht : isSl P t = true) : (execOp ρ o).run P w = .ok (.value (.int .i64 n)) w := by
 unfold isSl at ht
 split at ht
 ·rename_i e hu
  unfold execOp
  simp [ho, hx, resolve, invoke, builtin, Builtin.len_, run_underlying hu, goInt]
 ·cases ht
theorem rn_eql {ty : TypeId} {x y : Operand} {k : IntKind} {i j : Int} {yt : TypeId} {b : Bool} (ho : o.op = .binOp .eql ty x y yt) (hx : ρ x = .int k i) (hy : ρ y = .int k j) (hb : (i == j) = b) : (execOp ρ o).run P w = .ok (.value (.bool b)) w := by
 subst hb; unfold execOp; simp [ho, hx, hy, go_sem]
end
section
variable {P : Program} {ρ : Operand → Value} {o : Oper} {w : World}
theorem rn_neq {ty : TypeId} {x y : Operand} {k : IntKind} {i j : Int} {yt : TypeId} {b : Bool} (ho : o.op = .binOp .neq ty x y yt) (hx : ρ x = .int k i) (hy : ρ y = .int k j) (hb : (i != j) = b) : (execOp ρ o).run P w = .ok (.value (.bool b)) w := by
 subst hb; unfold execOp; simp [ho, hx, hy, go_sem]
theorem rn_lss {ty : TypeId} {x y : Operand} {k : IntKind} {i j : Int} {yt : TypeId} {b : Bool} (ho : o.op = .binOp .lss ty x y yt) (hx : ρ x = .int k i) (hy : ρ y = .int k j) (hb : decide (i < j) = b) : (execOp ρ o).run P w = .ok (.value (.bool b)) w := by
 subst hb; unfold execOp; simp [ho, hx, hy, go_sem]
theorem rn_gtr {ty : TypeId} {x y : Operand} {k : IntKind} {i j : Int} {yt : TypeId} {b : Bool} (ho : o.op = .binOp .gtr ty x y yt) (hx : ρ x = .int k i) (hy : ρ y = .int k j) (hb : decide (j < i) = b) : (execOp ρ o).run P w = .ok (.value (.bool b)) w := by
 subst hb; unfold execOp; simp [ho, hx, hy, go_sem]
theorem rn_geq {ty : TypeId} {x y : Operand} {k : IntKind} {i j : Int} {yt : TypeId} {b : Bool} (ho : o.op = .binOp .geq ty x y yt) (hx : ρ x = .int k i) (hy : ρ y = .int k j) (hb : decide (j ≤ i) = b) : (execOp ρ o).run P w = .ok (.value (.bool b)) w := by
 subst hb; unfold execOp; simp [ho, hx, hy, go_sem]
theorem rn_add {ty : TypeId} {x y : Operand} {i j q : Int} {yt : TypeId} (ho : o.op = .binOp .add ty x y yt) (hx : ρ x = .int .i64 i) (hy : ρ y = .int .i64 j) (hq : i + j = q) (h1 : -9223372036854775808 ≤ q) (h2 : q ≤ 9223372036854775807) : (execOp ρ o).run P w = .ok (.value (.int .i64 q)) w := by
 subst hq
 have : IntKind.i64.wrap (i + j) = i + j := IntWalk.i64_in _ ⟨h1, h2⟩
 unfold execOp; simp [ho, hx, hy, go_sem, this]
theorem rn_sub {ty : TypeId} {x y : Operand} {i j q : Int} {yt : TypeId} (ho : o.op = .binOp .sub ty x y yt) (hx : ρ x = .int .i64 i) (hy : ρ y = .int .i64 j) (hq : i - j = q) (h1 : -9223372036854775808 ≤ q) (h2 : q ≤ 9223372036854775807) : (execOp ρ o).run P w = .ok (.value (.int .i64 q)) w := by
 subst hq
 have : IntKind.i64.wrap (i - j) = i - j := IntWalk.i64_in _ ⟨h1, h2⟩
 unfold execOp; simp [ho, hx, hy, go_sem, this]
theorem rn_not {ty : TypeId} {x : Operand} {b c : Bool} (ho : o.op = .unOp .not ty x) (hx : ρ x = .bool b) (hc : (!b) = c) : (execOp ρ o).run P w = .ok (.value (.bool c)) w := by
 subst hc; unfold execOp; simp [ho, hx, Op.unary, go_sem]
theorem rn_extract {x : Operand} {i : Nat} {vs : Array Value} {v : Value} (ho : o.op = .extract x i) (hx : ρ x = .tuple vs) (hv : vs[i]? = some v) : (execOp ρ o).run P w = .ok (.value v) w := by
 unfold execOp; simp [ho, hx, Instr.extract, hv]
theorem rn_min {x y : Operand} {ts : Array TypeId} {k : IntKind} {i j q : Int} (ho : o.op = .call { callee := .builtin .min, args := #[x, y], argTypes := ts }) (hx : ρ x = .int k i) (hy : ρ y = .int k j) (hq : (if j < i then j else i) = q) : (execOp ρ o).run P w = .ok (.value (.int k q)) w := by
 subst hq; unfold execOp; simp [ho, hx, hy, resolve, invoke, builtin, Builtin.min_, Builtin.min2]
theorem rn_alloc {ty : TypeId} {cs : Array Value} {g : Nat} (ho : o.op = .alloc ty) (hz : ((P.info? ty).bind (·.zero)).map (·.cells) = some cs) (hg : w.heap.size = g) : (execOp ρ o).run P w = .ok (.value (.pointer (some ⟨g, 0, none⟩))) (w.alloc (.cells cs ty)) := by
 subst hg
 cases hi : P.info? ty with
 | none => simp [hi] at hz
 | some ti =>
  cases hzz : ti.zero with
  | none => simp [hi, hzz] at hz
  | some z =>
   simp [hi, hzz] at hz
   subst hz
   unfold execOp
   simp [ho, Instr.alloc, zeroValue, typeInfo, hi, hzz, newVar, newRow]
theorem rn_box {ty : TypeId} {x : Operand} {cs : Array Value} {g : Nat} (ho : o.op = .box ty x) (hx : (ρ x).cells = cs) (hg : w.heap.size = g) : (execOp ρ o).run P w = .ok (.value (.pointer (some ⟨g, 0, none⟩))) (w.alloc (.cells cs ty)) := by
 subst hg hx
 unfold execOp
 simp [ho, Instr.box, newVar, newRow]
theorem rn_build {t : TypeId} {parts : Array (Nat × Operand)} {cs : Array Value} (ho : o.op = .build t parts) (hb : P.built t (parts.toList.map fun p => (p.1, ρ p.2)) = some cs) : (execOp ρ o).run P w = .ok (.value (.agg cs)) w := by
 unfold execOp
 simp only [ho, Sem.run_bind]
 rw [run_build w t _ cs (by rw [Array.toList_map]; exact hb)]
 rfl
theorem rn_buildSlice {t e : TypeId} {len : Nat} {parts : Array (Nat × Operand)} {cs : Array Value} {ie : TypeInfo} {z : Value} {g : Nat} (ho : o.op = .buildSlice t len parts) (hu : P.underlying t = some (.slice e)) (hie : P.info? e = some ie) (hz : ie.zero = some z) (hsmall : ¬ len * ie.size > 2 ^ 24) (hpos : ¬ len * ie.size = 0)
  (hf : Instr.fill (fun i => some (i * ie.size, ie.size)) ((Array.range (len * ie.size)).map (z.cells[· % z.cells.size]!)) (parts.toList.map fun p => (p.1, ρ p.2)) = some cs) (hg : w.heap.size = g) :
  (execOp ρ o).run P w = .ok (.value (.slice (some ⟨g, 0, none⟩) len len)) (w.alloc (.cells cs e)) := by
 subst hg
 unfold execOp
 simp only [ho, Sem.run_bind]
 rw [run_buildSlice w t e len _ cs ie z hu hie hz hsmall hpos (by rw [Array.toList_map]; exact hf)]
 rfl
end
section
variable {P : Program} {ρ : Operand → Value} {o : Oper} {w : World}
theorem rn_neqB {ty : TypeId} {x y : Operand} {i j : Bool} {yt : TypeId} {b : Bool} (ho : o.op = .binOp .neq ty x y yt) (hx : ρ x = .bool i) (hy : ρ y = .bool j) (ht : P.underlying ty = some .bool) (hb : (!(i == j)) = b) : (execOp ρ o).run P w = .ok (.value (.bool b)) w := by
 subst hb; unfold execOp
 simp only [ho, hx, hy, Sem.run_bind, eqGuard_at_bool, Sem.run_pure, Result.andThen_ok, run_neq_bool w ty i j ht]
theorem rn_call1 {y : Operand} {g : FuncId} {x : Operand} {ts : Array TypeId} {u : Value} (ho : o.op = .call { callee := .value y, args := #[x], argTypes := ts }) (hρ : ρ y = .func (.func g) #[] #[]) (hx : ρ x = u) (hc : ∀ xs w, (callFunc g xs).run P w = .ok (.enter g xs) w) : (execOp ρ o).run P w = .ok (.enter g #[u]) w := by
 subst hx; unfold execOp; simp [ho, resolve, invoke, Deferred.ofValue, hρ, hc]
theorem rn_call2 {y : Operand} {g : FuncId} {x x' : Operand} {ts : Array TypeId} {u u' : Value} (ho : o.op = .call { callee := .value y, args := #[x, x'], argTypes := ts }) (hρ : ρ y = .func (.func g) #[] #[]) (hx : ρ x = u) (hx' : ρ x' = u') (hc : ∀ xs w, (callFunc g xs).run P w = .ok (.enter g xs) w) : (execOp ρ o).run P w = .ok (.enter g #[u, u']) w := by
 subst hx hx'; unfold execOp; simp [ho, resolve, invoke, Deferred.ofValue, hρ, hc]
theorem rn_call3 {y : Operand} {g : FuncId} {x x' x'' : Operand} {ts : Array TypeId} {u u' u'' : Value} (ho : o.op = .call { callee := .value y, args := #[x, x', x''], argTypes := ts }) (hρ : ρ y = .func (.func g) #[] #[]) (hx : ρ x = u) (hx' : ρ x' = u') (hx'' : ρ x'' = u'') (hc : ∀ xs w, (callFunc g xs).run P w = .ok (.enter g xs) w) : (execOp ρ o).run P w = .ok (.enter g #[u, u', u'']) w := by
 subst hx hx' hx''; unfold execOp; simp [ho, resolve, invoke, Deferred.ofValue, hρ, hc]
theorem rn_call4 {y : Operand} {g : FuncId} {x x' x'' x3 : Operand} {ts : Array TypeId} {u u' u'' u3 : Value} (ho : o.op = .call { callee := .value y, args := #[x, x', x'', x3], argTypes := ts }) (hρ : ρ y = .func (.func g) #[] #[]) (hx : ρ x = u) (hx' : ρ x' = u') (hx'' : ρ x'' = u'') (hx3 : ρ x3 = u3) (hc : ∀ xs w, (callFunc g xs).run P w = .ok (.enter g xs) w) : (execOp ρ o).run P w = .ok (.enter g #[u, u', u'', u3]) w := by
 subst hx hx' hx'' hx3; unfold execOp; simp [ho, resolve, invoke, Deferred.ofValue, hρ, hc]
theorem ld_one {ty : TypeId} {p : Addr} {v : Value} (ht : oneT P ty = true) (hc : w.cell? p = some v) : (loadVar ty p).run P w = .ok v w := by
 unfold oneT at ht
 rw [Bool.and_eq_true] at ht
 obtain ⟨h1, h2⟩ := ht
 unfold loadVar isAgg
 split at h1
 ·cases h1
 ·cases h1
 ·rename_i d hn1 hn2 hu
  simp only [Sem.run_bind, run_underlying hu, Result.andThen_ok, Sem.run_pure]
  cases d <;> first | (exact absurd rfl (hn1 _)) | (exact absurd rfl (hn2 _ _)) | skip
  all_goals simp [hc, go_sem]
 ·cases h1
theorem ld_mid {ty : TypeId} {b of : Nat} {cs : Array Value} {d : TypeDesc} (hc : w.rangeAt b of cs.toList) (hu : P.underlying ty = some d) (hd : d.isRow = true) (hi : (P.info? ty).map (·.size) = some cs.size) : (loadVar ty ⟨b, of, none⟩).run P w = .ok (.agg cs) w := by
 have := run_loadVar_mid (P := P) w b of ty cs.toList d hc hu hd (by simpa using hi)
 simpa using this
def splL (cs : List Value) (of : Nat) (vs : List Value) : List Value := cs.take of ++ vs ++ cs.drop (of + vs.length)
def spl (cs : Array Value) (of : Nat) (vs : Array Value) : Array Value := (splL cs.toList of vs.toList).toArray
theorem splL_one (cs : List Value) (of : Nat) (v : Value) (h : of < cs.length) : splL cs of [v] = cs.set of v := by
 unfold splL
 rw [List.set_eq_take_append_cons_drop, if_pos h, List.append_assoc]
 rfl
theorem splL_cons (cs : List Value) (of : Nat) (v : Value) (r : List Value) (h : of + (r.length + 1) ≤ cs.length) : splL (cs.set of v) (of + 1) r = splL cs of (v :: r) := by
 unfold splL
 rw [List.set_eq_take_append_cons_drop, if_pos (by omega)]
 have hl : (cs.take of).length = of := by rw [List.length_take]; omega
 rw [show of + 1 = (cs.take of).length + 1 from by rw [hl], List.take_length_add_append, List.length_cons]
 rw [show (cs.take of).length + 1 + r.length = (cs.take of).length + (r.length + 1) from by omega, List.drop_length_add_append, List.drop_succ_cons, List.drop_drop, hl]
 simp only [List.take_succ_cons, List.take_zero, List.append_assoc, List.cons_append, List.nil_append]
 rw [show of + 1 + r.length = of + (r.length + 1) from by omega]
theorem Blk.setCells {W : World} {g : Nat} {t : TypeId} : ∀ (vs : List Value) (of : Nat) (W : World) (cs : Array Value), Blk W g t cs → of + vs.length ≤ cs.size → Blk (W.setCells g of vs) g t (splL cs.toList of vs).toArray ∧ Only [g] W (W.setCells g of vs)
 | [], of, W, cs, h, _ => by
  have e : (splL cs.toList of []).toArray = cs := by simp [splL]
  rw [e]
  exact ⟨h, Only.refl _ _⟩
 | v :: r, of, W, cs, h, hl => by
  have h1 : Blk (W.setCell ⟨g, of, none⟩ v) g t (cs.setIfInBounds of v) := h.set_ of v
  have hl' : of + (r.length + 1) ≤ cs.size := hl
  have h2 := Blk.setCells (W := W) (g := g) (t := t) r (of + 1) _ _ h1 (by rw [Array.size_setIfInBounds]; omega)
  rw [Array.toList_setIfInBounds, splL_cons _ _ _ _ (by simpa using hl')] at h2
  exact ⟨h2.1, (Only.setCell (p := ⟨g, of, none⟩) (Only.refl [g] W) (List.mem_singleton.2 rfl) v).trans h2.2⟩
theorem run_storeVar_cells {ty : TypeId} {b of : Nat} {v : Value} {vs : Array Value} (hv : v.cells = vs) (ht : w.there b of vs.size) (hi : (P.info? ty).map (·.size) = some vs.size) (h1 : ∀ u ∈ vs.toList, u.oneCell' = true) : (storeVar ty ⟨b, of, none⟩ v).run P w = .ok () (w.setCells b of vs.toList) := by
 subst hv
 have := run_storeCells_cells (P := P) b of v.cells.toList 0 w (fun j hj => by simpa using (ht j (by simpa using hj)).1) (fun j hj => by simpa using (ht j (by simpa using hj)).2) h1
 cases hq : P.info? ty with
 | none => simp [hq] at hi
 | some i =>
  have hs : v.cells.size = i.size := by simp [hq] at hi; omega
  simp only [Nat.add_zero] at this
  simp [storeVar, sizeOf, typeInfo, hq, hs, this]
theorem foldl_splL : ∀ (l : List Value) (k : Nat) (zs : Array Value), k + l.length ≤ zs.size → ((l.zipIdx k).foldl (fun cs x => cs.setIfInBounds (0 + x.2) x.1) zs) = (splL zs.toList k l).toArray
 | [], k, zs, _ => by simp [splL]
 | v :: r, k, zs, h => by
  have h' : k + (r.length + 1) ≤ zs.size := h
  rw [List.zipIdx_cons, List.foldl_cons, foldl_splL r (k + 1) _ (by rw [Array.size_setIfInBounds]; omega), Nat.zero_add, Array.toList_setIfInBounds, splL_cons _ _ _ _ (by simpa using h')]
theorem fill_one {size : Nat} {zs cs : Array Value} {v : Value} (hv : v.cells = cs) (h1 : cs.size = size) (h2 : zs.size = size) : Instr.fill (fun i => some (i * size, size)) zs [(0, v)] = some cs := by
 subst hv
 have h3 := foldl_splL v.cells.toList 0 zs (by simp; omega)
 have h4 : (splL zs.toList 0 v.cells.toList).toArray = v.cells := by
  unfold splL
  rw [List.drop_of_length_le (by simp; omega)]
  simp
 have h5 : v.cells.zipIdx.foldl (fun cs x => cs.setIfInBounds (0 * size + x.2) x.1) zs = v.cells := by
  rw [Nat.zero_mul, ← Array.foldl_toList, Array.toList_zipIdx]
  exact h3.trans h4
 unfold Instr.fill
 dsimp only
 rw [if_neg (by simp; omega)]
 unfold Instr.fill
 exact congrArg some h5
theorem st_blk {ty : TypeId} {g of : Nat} {t : TypeId} {cs vs : Array Value} {v : Value} (hB : Blk w g t cs) (hv : v.cells = vs) (hi : (P.info? ty).map (·.size) = some vs.size) (hfit : of + vs.size ≤ cs.size) (h1 : ∀ u ∈ vs.toList, u.oneCell' = true) :
  (storeVar ty ⟨g, of, none⟩ v).run P w = .ok () (w.setCells g of vs.toList) ∧ Blk (w.setCells g of vs.toList) g t (spl cs of vs) ∧ Only [g] w (w.setCells g of vs.toList) := by
 refine ⟨run_storeVar_cells hv (fun j hj => ⟨?_, hB.frozen _⟩) hi h1, Blk.setCells (W := w) vs.toList of w cs hB (by simpa using hfit)⟩
 rw [hB.cell, Array.getElem?_eq_getElem (by omega)]
 rfl
end
def Nm (K : Act → World → Prop) : Exit → Act → World → Prop
 | .normal, a, w => K a w
 | _, _, _ => False
section
variable {P : Program} {ops : Array Oper} {K : Act → World → Prop} {rest : List Oper} {o : Oper} {a : Act} {n : Nat} {f : Nat → Value} {w w' : World}
theorem wp_of_nm {c : Code} {Q : Exit → Act → World → Prop} (h : c.wp P (Nm K) a w) (hK : ∀ a w, K a w → Q .normal a w) : c.wp P Q a w :=
 wp_mono h fun e a w hq => by
  cases e with
  | normal => exact hK a w hq
  | _ => exact hq.elim
theorem wpOper_val {K : Act → World → Prop} {Q : Exit → Act → World → Prop} {v : Value} (hr : (execOp a.eval o).run P w = .ok (.value v) w') (h : K (a.put o.dst v) w') : o.wp P a w K Q := by
 unfold Oper.wp; rw [hr, Oper.upon_value]; exact h
theorem wpOper_skip {K : Act → World → Prop} {Q : Exit → Act → World → Prop} (hr : (execOp a.eval o).run P w = .ok .skip w') (h : K (a.put o.dst undef) w') : o.wp P a w K Q := by
 unfold Oper.wp; rw [hr, Oper.upon_skip]; exact h
theorem wpOper_call {K : Act → World → Prop} {Q : Exit → Act → World → Prop} {g : FuncId} {xs : Array Value} {R : Ending → World → Prop} (hr : (execOp a.eval o).run P w = .ok (.enter g xs) w) (hc : Calls P g xs w R) (h : ∀ e w', R e w' → ∃ v, e = .returned v ∧ K (a.put o.dst v) w') : o.wp P a w K Q := by
 unfold Oper.wp; rw [hr, Oper.upon_enter]
 refine hc.mono fun e w' hR => ?_
 obtain ⟨v, rfl, hk⟩ := h e w' hR
 exact hk
theorem wlv {d : Nat} {v : Value} (hF : Fr a n f) (hr : (execOp (Eo f) o).run P w = .ok (.value v) w') (hg : o.guard = none) (hd : o.dst = some d) (hn : opIn n o = true)
  (k : ∀ a', Fr a' n (sl f d v) → wpList P ops (Nm K) rest a' w') : wpList P ops (Nm K) (o :: rest) a w :=
 wpList_plain hg fun _ hK => wpOper_val (by rw [hF.exec hn]; exact hr) (hK _ _ (by rw [hd]; exact k _ (hF.put d v)))
theorem wlu (hF : Fr a n f) (hr : (execOp (Eo f) o).run P w = .ok .skip w') (hg : o.guard = none) (hd : o.dst = none) (hn : opIn n o = true)
  (k : ∀ a', Fr a' n f → wpList P ops (Nm K) rest a' w') : wpList P ops (Nm K) (o :: rest) a w :=
 wpList_plain hg fun _ hK => wpOper_skip (by rw [hF.exec hn]; exact hr) (hK _ _ (by rw [hd]; exact k _ hF))
theorem wlc {d : Nat} {g : FuncId} {xs : Array Value} {R : Ending → World → Prop} (hF : Fr a n f) (hr : (execOp (Eo f) o).run P w = .ok (.enter g xs) w) (hc : Calls P g xs w R) (hg : o.guard = none) (hd : o.dst = some d) (hn : opIn n o = true)
  (k : ∀ e w', R e w' → ∃ v, e = .returned v ∧ ∀ a', Fr a' n (sl f d v) → wpList P ops (Nm K) rest a' w') : wpList P ops (Nm K) (o :: rest) a w :=
 wpList_plain hg fun _ hK => wpOper_call (by rw [hF.exec hn]; exact hr) hc fun e w' hR => by
  obtain ⟨v, he, hk⟩ := k e w' hR
  exact ⟨v, he, hK _ _ (by rw [hd]; exact hk _ (hF.put d v))⟩
theorem wanted_eq {j : Nat} {b c : Bool} {d : Nat} (hg : o.guard = some (j, b)) (hj : (ops[j]?).bind (·.dst) = some d) (hd : Nat.blt d n = true) (hF : Fr a n f) (hv : f d = .bool c) : Region.wanted o (yielded ops a.tmps) = (c == b) := by
 have hd' : d < n := by simpa [Nat.blt_eq] using hd
 have : yielded ops a.tmps j = some c := by
  unfold yielded
  rw [hj]
  simp only [Option.bind_some, hF.val d hd', hv]
 unfold Region.wanted
 rw [hg]
 simp only [this]
 cases b <;> cases c <;> rfl
theorem wanted_undef {j : Nat} {b : Bool} {d : Nat} (hg : o.guard = some (j, b)) (hj : (ops[j]?).bind (·.dst) = some d) (hd : Nat.blt d n = true) (hF : Fr a n f) (hv : f d = undef) : Region.wanted o (yielded ops a.tmps) = false := by
 have hd' : d < n := by simpa [Nat.blt_eq] using hd
 have : yielded ops a.tmps j = none := by
  unfold yielded
  rw [hj]
  simp only [Option.bind_some, hF.val d hd', hv]
  rfl
 unfold Region.wanted
 rw [hg]
 simp only [this]
 rfl
theorem lgv {j : Nat} {b : Bool} {e : Nat} {d : Nat} {v : Value} (hF : Fr a n f) (hr : (execOp (Eo f) o).run P w = .ok (.value v) w') (hg : o.guard = some (j, b)) (hj : (ops[j]?).bind (·.dst) = some e) (he : Nat.blt e n = true) (hv : f e = .bool b) (hd : o.dst = some d) (hn : opIn n o = true)
  (k : ∀ a', Fr a' n (sl f d v) → wpList P ops (Nm K) rest a' w') : wpList P ops (Nm K) (o :: rest) a w := by
 show if _ then _ else _
 rw [wanted_eq hg hj he hF hv]
 simp only [beq_self_eq_true, if_true]
 exact .inl (wpOper_val (by rw [hF.exec hn]; exact hr) (by rw [hd]; exact k _ (hF.put d v)))
theorem lgc {j : Nat} {b : Bool} {e0 : Nat} {d : Nat} {g : FuncId} {xs : Array Value} {R : Ending → World → Prop} (hF : Fr a n f) (hr : (execOp (Eo f) o).run P w = .ok (.enter g xs) w) (hc : Calls P g xs w R) (hg : o.guard = some (j, b)) (hj : (ops[j]?).bind (·.dst) = some e0) (he : Nat.blt e0 n = true) (hv : f e0 = .bool b) (hd : o.dst = some d) (hn : opIn n o = true)
  (k : ∀ e w', R e w' → ∃ v, e = .returned v ∧ ∀ a', Fr a' n (sl f d v) → wpList P ops (Nm K) rest a' w') : wpList P ops (Nm K) (o :: rest) a w := by
 show if _ then _ else _
 rw [wanted_eq hg hj he hF hv]
 simp only [beq_self_eq_true, if_true]
 exact .inl (wpOper_call (by rw [hF.exec hn]; exact hr) hc fun e w' hR => by
  obtain ⟨v, he, hk⟩ := k e w' hR
  exact ⟨v, he, by rw [hd]; exact hk _ (hF.put d v)⟩)
theorem lgs {j : Nat} {b : Bool} {e : Nat} {d : Nat} (hF : Fr a n f) (hg : o.guard = some (j, b)) (hj : (ops[j]?).bind (·.dst) = some e) (he : Nat.blt e n = true) (hv : f e = .bool (!b) ∨ f e = undef) (hd : o.dst = some d)
  (k : ∀ a', Fr a' n (sl f d undef) → wpList P ops (Nm K) rest a' w) : wpList P ops (Nm K) (o :: rest) a w := by
 show if _ then _ else _
 have : Region.wanted o (yielded ops a.tmps) = false := by
  rcases hv with hv | hv
  ·rw [wanted_eq hg hj he hF hv]; cases b <;> rfl
  ·exact wanted_undef hg hj he hF hv
 rw [this]
 simp only [Bool.false_eq_true, if_false]
 rw [hd]
 exact k _ (hF.put d undef)
theorem wl0 (h : K a w) : wpList P ops (Nm K) [] a w := h
theorem wrg {id : Nat} {l : List Oper} {Q : Exit → Act → World → Prop} (hl : ops.toList = l) (h : wpList P ops (Nm (fun a w => Q .normal a w)) l a w) : (Code.region id ops false).wp P Q a w :=
 wp_of_nm (wp_region_list (by rw [hl]; exact h)) fun _ _ h => h
theorem wrgs {id : Nat} {l : List Oper} {y : Code} {Q : Exit → Act → World → Prop} (hl : ops.toList = l) (h : wpList P ops (Nm (fun a w => y.wp P Q a w)) l a w) : (Code.seq (.region id ops false) y).wp P Q a w :=
 wp_seq (wrg hl h)
end
section
variable {P : Program} {ops : Array Oper} {Q : Exit → Act → World → Prop} {md : Region.Mode} {F : World → Prop} {fin : Nat → Bool}
def finL (fin : Nat → Bool) (listed : Array Bool) : Bool := (List.range listed.size).any fun j => fin j && listed.getD j false
theorem finL_mem {listed : Array Bool} (h : finL fin listed = true) : ∃ j, fin j = true ∧ listed.getD j false = true := by
 unfold finL at h
 obtain ⟨j, _, hj⟩ := List.any_eq_true.1 h
 rw [Bool.and_eq_true] at hj
 exact ⟨j, hj.1, hj.2⟩
def wpG (P : Program) (md : Region.Mode) (ops : Array Oper) (Q : Exit → Act → World → Prop) (F : World → Prop) (fin : Nat → Bool) : Nat → Array Bool → Act → World → Prop
 | 0, listed, a, w => Region.ready md ops listed = [] ∧ Q .normal a w
 | fuel + 1, listed, a, w =>
  (Region.ready md ops listed = [] → Q .normal a w) ∧
  ∀ i ∈ Region.ready md ops listed, wpOp P ops Q i (fun a' w' => (finL fin (listed.setIfInBounds i true) = false → F w') ∧ wpG P md ops Q F fin fuel (listed.setIfInBounds i true) a' w') a w
theorem wpAny_of_G : ∀ (fuel : Nat) (listed : Array Bool) (a : Act) (w : World), wpG P md ops Q F fin fuel listed a w → wpAny P md ops Q fuel listed a w
 | 0, _, _, _, h => h
 | fuel + 1, _, _, _, h => ⟨h.1, fun i hi => wpOp_mono (fun a' w' h' => wpAny_of_G fuel _ a' w' h'.2) (h.2 i hi)⟩
def Closed (md : Region.Mode) (ops : Array Oper) (listed : Array Bool) : Prop := ∀ j, listed.getD j false = true → ∀ o, ops[j]? = some o → ∀ e ∈ o.after, Region.binds md e = true → listed.getD e.on false = true
def closedB (md : Region.Mode) (ops : Array Oper) (listed : Array Bool) : Bool := (List.range ops.size).all fun j => !listed.getD j false || (ops[j]?).all fun o => o.after.all fun e => !Region.binds md e || listed.getD e.on false
theorem closedB_spec {listed : Array Bool} (h : closedB md ops listed = true) : Closed md ops listed := fun j hj o ho e he hb => by
 have h1 := List.all_eq_true.1 h j (List.mem_range.2 (Array.getElem?_eq_some_iff.1 ho).1)
 rw [hj, ho] at h1
 simp only [Bool.not_true, Bool.false_or, Option.all_some] at h1
 have h2 := Array.all_eq_true_iff_forall_mem.1 h1 e he
 rw [hb] at h2
 simpa using h2
def reach (md : Region.Mode) (ops : Array Oper) (i : Nat) : Nat → Nat → Bool
 | 0, _ => false
 | fuel + 1, j => (ops[j]?).any fun o => o.after.any fun e => Region.binds md e && (e.on == i || reach md ops i fuel e.on)
theorem reach_spec {listed : Array Bool} (hc : Closed md ops listed) {i : Nat} : ∀ (fuel j : Nat), reach md ops i fuel j = true → (∀ o, ops[j]? = some o → ∀ e ∈ o.after, Region.binds md e = true → listed.getD e.on false = true) → listed.getD i false = true
 | 0, _, h, _ => by cases h
 | fuel + 1, j, h, hj => by
  unfold reach at h
  cases ho : ops[j]? with
  | none => rw [ho] at h; cases h
  | some o =>
   rw [ho] at h
   simp only [Option.any_some] at h
   obtain ⟨e, he, hb⟩ := Array.any_eq_true'.1 h
   rw [Bool.and_eq_true, Bool.or_eq_true] at hb
   obtain ⟨hb1, hb2⟩ := hb
   have h1 := hj o ho e he hb1
   rcases hb2 with h2 | h2
   ·rw [eq_of_beq h2] at h1
    exact h1
   ·exact reach_spec hc fuel e.on h2 fun o' ho' e' he' hb' => hc e.on h1 o' ho' e' he' hb'
theorem Closed.set {listed : Array Bool} (hc : Closed md ops listed) {j : Nat} (hj : j ∈ Region.ready md ops listed) : Closed md ops (listed.setIfInBounds j true) := fun k hk o ho e he hb => by
 obtain ⟨_, oj, hoj, hall⟩ := mem_ready.1 hj
 by_cases hjk : j = k
 ·subst hjk
  rw [hoj] at ho
  injection ho with ho
  subst ho
  exact getD_set_true (hall e he hb)
 ·rw [getD_set_ne false hjk] at hk
  exact getD_set_true (hc k hk o ho e he hb)
theorem unlisted_of_ready {listed : Array Bool} {i : Nat} (hi : i ∈ Region.ready md ops listed) : listed.getD i false = false := by
 have h0 := (mem_ready.1 hi).1
 rcases Nat.lt_or_ge i listed.size with h' | h'
 ·simp [h'] at h0 ⊢; exact h0
 ·simp [Array.getElem?_eq_none h'] at h0
theorem wpG_first {i : Nat} {oi : Oper} {v : Value} (hi : ops[i]? = some oi) (hsel : ∀ (j : Nat) (o : Oper) cs b, ops[j]? = some o → o.op ≠ .select cs b)
  (hQ : ∀ c a w, Q (.panic c) (a.put oi.dst v) w → Q (.panic c) a w) (hfin : ∀ j, fin j = true → j < ops.size → reach md ops i ops.size j = true) (hfs : ∀ j, fin j = true → j < ops.size) (hfi : fin i = false) :
  ∀ (fuel : Nat) (listed : Array Bool) (a : Act) (w : World),
   (∀ j oj, ops[j]? = some oj → j ≠ i → listed.getD j true = false → (∀ e ∈ oj.after, Region.binds md e = true → e.on ≠ i) → oi.apart ops oj = true) →
   Closed md ops listed → i ∈ Region.ready md ops listed → YieldsIf P ops F oi v a → F w →
   wpG P md ops Q F fin fuel (listed.setIfInBounds i true) (a.put oi.dst v) w → wpG P md ops Q F fin (fuel + 1) listed a w := by
 intro fuel
 induction fuel with
 | zero =>
  intro listed a w _ _ hr hy hS H
  refine ⟨fun h => (by rw [h] at hr; cases hr), fun j hj => ?_⟩
  by_cases hji : j = i
  ·subst hji; exact hy.wpOp hi hS ⟨fun _ => hS, H⟩
  ·have h1 := ready_mono hj hji
   rw [H.1] at h1
   cases h1
 | succ fuel ih =>
  intro listed a w hfree hcl hr hy hS H
  refine ⟨fun h => (by rw [h] at hr; cases hr), fun j hj => ?_⟩
  by_cases hji : j = i
  ·subst hji; exact hy.wpOp hi hS ⟨fun _ => hS, H⟩
  ·have h1 := H.2 j (ready_mono hj hji)
   obtain ⟨hjun, oj, hoj, hall⟩ := mem_ready.1 hj
   have hun := unlisted_of_ready hr
   have hnot : ∀ e ∈ oj.after, Region.binds md e = true → e.on ≠ i := fun e he hb heq => by
    have h2 := hall e he hb
    rw [heq, hun] at h2
    cases h2
   have hcl' := hcl.set hj
   have hnf : finL fin ((listed.setIfInBounds i true).setIfInBounds j true) = false := by
    cases hf : finL fin ((listed.setIfInBounds i true).setIfInBounds j true) with
    | false => rfl
    | true =>
     obtain ⟨k, hk, hkl⟩ := finL_mem hf
     have hks := hfs k hk
     have hki : k ≠ i := fun e => by rw [e, hfi] at hk; cases hk
     have hkl' : (listed.setIfInBounds j true).getD k false = true := by
      rw [Array.setIfInBounds_comm _ _ (fun e => hji e.symm), getD_set_ne false (fun e => hki e.symm)] at hkl
      exact hkl
     have h2 := reach_spec hcl' ops.size k (hfin k hk hks) fun o ho e he hb => hcl' k hkl' o ho e he hb
     rw [getD_set_ne false hji, hun] at h2
     cases h2
   have h2 := wpOp_putIf hoj (hfree j oj hoj hji hjun hnot) (fun cs b => hsel i oi cs b hi) (fun cs b => hsel j oj cs b hoj) hQ hy h1
   refine wpOp_mono (fun a' w' h3 => ⟨fun _ => h3.2.1 hnf, ih (listed.setIfInBounds j true) a' w' ?_ hcl' (ready_mono hr (Ne.symm hji)) h3.1 (h3.2.1 hnf) ?_⟩) h2
   ·intro k ok hk hki hkun hno
    refine hfree k ok hk hki ?_ hno
    by_cases hjk : j = k
    ·subst hjk; exact hjun
    ·rw [getD_set_ne true hjk] at hkun; exact hkun
   ·rw [Array.setIfInBounds_comm _ _ hji]
    exact h3.2.2
theorem wpG_firstP {i : Nat} {oi : Oper} {v : Value} (hi : ops[i]? = some oi) (hsel : ∀ (j : Nat) (o : Oper) cs b, ops[j]? = some o → o.op ≠ .select cs b)
  (hQ : ∀ c a w, Q (.panic c) (a.put oi.dst v) w → Q (.panic c) a w) (hfi : fin i = false) :
  ∀ (fuel : Nat) (listed : Array Bool) (a : Act) (w : World),
   (∀ j oj, ops[j]? = some oj → j ≠ i → listed.getD j true = false → (∀ e ∈ oj.after, Region.binds md e = true → e.on ≠ i) → oi.apart ops oj = true) →
   i ∈ Region.ready md ops listed → YieldsIf P ops (fun _ => True) oi v a → (finL fin listed = false → F w) →
   wpG P md ops Q F fin fuel (listed.setIfInBounds i true) (a.put oi.dst v) w → wpG P md ops Q F fin (fuel + 1) listed a w := by
 have hset : ∀ listed : Array Bool, finL fin listed = true → finL fin (listed.setIfInBounds i true) = true := fun listed h => by
  obtain ⟨k, hk, hkl⟩ := finL_mem h
  have hki : i ≠ k := fun e => by rw [← e, hfi] at hk; cases hk
  have hlt : k < listed.size := by
   rcases Nat.lt_or_ge k listed.size with h' | h'
   ·exact h'
   ·simp [Array.getElem?_eq_none h'] at hkl
  unfold finL
  refine List.any_eq_true.2 ⟨k, List.mem_range.2 (by simpa using hlt), ?_⟩
  rw [hk, getD_set_ne false hki, hkl]
  rfl
 have hun' : ∀ listed : Array Bool, finL fin (listed.setIfInBounds i true) = false → finL fin listed = false := fun listed h => by
  cases hf : finL fin listed with
  | false => rfl
  | true => rw [hset listed hf] at h; cases h
 intro fuel
 induction fuel with
 | zero =>
  intro listed a w _ hr hy hS H
  refine ⟨fun h => (by rw [h] at hr; cases hr), fun j hj => ?_⟩
  by_cases hji : j = i
  ·subst hji; exact hy.wpOp hi trivial ⟨fun h => hS (hun' _ h), H⟩
  ·have h1 := ready_mono hj hji
   rw [H.1] at h1
   cases h1
 | succ fuel ih =>
  intro listed a w hfree hr hy hS H
  refine ⟨fun h => (by rw [h] at hr; cases hr), fun j hj => ?_⟩
  by_cases hji : j = i
  ·subst hji; exact hy.wpOp hi trivial ⟨fun h => hS (hun' _ h), H⟩
  ·have h1 := H.2 j (ready_mono hj hji)
   obtain ⟨hjun, oj, hoj, hall⟩ := mem_ready.1 hj
   have hun := unlisted_of_ready hr
   have hnot : ∀ e ∈ oj.after, Region.binds md e = true → e.on ≠ i := fun e he hb heq => by
    have h2 := hall e he hb
    rw [heq, hun] at h2
    cases h2
   have hd : finL fin (listed.setIfInBounds j true) = false → finL fin ((listed.setIfInBounds i true).setIfInBounds j true) = false := fun h => by
    cases hf : finL fin ((listed.setIfInBounds i true).setIfInBounds j true) with
    | false => rfl
    | true =>
     obtain ⟨k, hk, hkl⟩ := finL_mem hf
     have hki : i ≠ k := fun e => by rw [← e, hfi] at hk; cases hk
     rw [Array.setIfInBounds_comm _ _ (fun e => hji e.symm), getD_set_ne false hki] at hkl
     have hlt : k < (listed.setIfInBounds j true).size := by
      rcases Nat.lt_or_ge k (listed.setIfInBounds j true).size with h' | h'
      ·exact h'
      ·rw [Array.getD_eq_getD_getElem?, Array.getElem?_eq_none h'] at hkl
       cases hkl
     have : finL fin (listed.setIfInBounds j true) = true := by
      unfold finL
      refine List.any_eq_true.2 ⟨k, List.mem_range.2 hlt, ?_⟩
      rw [hk, hkl]
      rfl
     rw [this] at h
     cases h
   have h2 := wpOp_putIf hoj (hfree j oj hoj hji hjun hnot) (fun cs b => hsel i oi cs b hi) (fun cs b => hsel j oj cs b hoj) hQ hy h1
   refine wpOp_mono (fun a' w' h3 => ⟨fun h => h3.2.1 (hd h), ih (listed.setIfInBounds j true) a' w' ?_ (ready_mono hr (Ne.symm hji)) h3.1 (fun h => h3.2.1 (hd h)) ?_⟩) h2
   ·intro k ok hk hki hkun hno
    refine hfree k ok hk hki ?_ hno
    by_cases hjk : j = k
    ·subst hjk; exact hjun
    ·rw [getD_set_ne true hjk] at hkun; exact hkun
   ·rw [Array.setIfInBounds_comm _ _ hji]
    exact h3.2.2
def takeOkP (md : Region.Mode) (ops : Array Oper) (fin : Nat → Bool) (listed : Array Bool) (i : Nat) : Bool :=
 Region.noSelect ops && Region.free md ops listed i && (Region.ready md ops listed).contains i && !fin i
def takeOk (md : Region.Mode) (ops : Array Oper) (fin : Nat → Bool) (listed : Array Bool) (i : Nat) : Bool :=
 takeOkP md ops fin listed i && closedB md ops listed && (List.range ops.size).all fun j => !fin j || reach md ops i ops.size j
theorem wpG_take {i : Nat} {oi : Oper} {v : Value} {fuel : Nat} {listed : Array Bool} {a : Act} {w : World} (hi : ops[i]? = some oi) (hok : takeOk md ops (fun i => Nat.blt i ops.size && fin i) listed i = true)
  (hQ : ∀ c a w, Q (.panic c) (a.put oi.dst v) w → Q (.panic c) a w) (hy : YieldsIf P ops F oi v a) (hS : F w)
  (h : wpG P md ops Q F (fun i => Nat.blt i ops.size && fin i) fuel (listed.setIfInBounds i true) (a.put oi.dst v) w) : wpG P md ops Q F (fun i => Nat.blt i ops.size && fin i) (fuel + 1) listed a w := by
 unfold takeOk takeOkP at hok
 simp only [Bool.and_eq_true] at hok
 obtain ⟨⟨⟨⟨⟨h1, h2⟩, h3⟩, h6⟩, h4⟩, h5⟩ := hok
 refine wpG_first hi (Region.noSelect_spec h1) hQ (fun j hj hl => ?_) (fun j hj => ?_) (by rw [Bool.not_eq_true'] at h6; exact h6) fuel listed a w (Region.free_spec hi h2) (closedB_spec h4) (by simpa using h3) hy hS h
 ·have h7 := List.all_eq_true.1 h5 j (List.mem_range.2 hl)
  simp only [hj] at h7
  simpa using h7
 ·rw [Bool.and_eq_true, Nat.blt_eq] at hj
  exact hj.1
theorem wpG_takeP {i : Nat} {oi : Oper} {v : Value} {fuel : Nat} {listed : Array Bool} {a : Act} {w : World} (hi : ops[i]? = some oi) (hok : takeOkP md ops fin listed i = true)
  (hQ : ∀ c a w, Q (.panic c) (a.put oi.dst v) w → Q (.panic c) a w) (hy : YieldsIf P ops (fun _ => True) oi v a) (hS : finL fin listed = false → F w)
  (h : wpG P md ops Q F fin fuel (listed.setIfInBounds i true) (a.put oi.dst v) w) : wpG P md ops Q F fin (fuel + 1) listed a w := by
 unfold takeOkP at hok
 simp only [Bool.and_eq_true] at hok
 obtain ⟨⟨⟨h1, h2⟩, h3⟩, h6⟩ := hok
 exact wpG_firstP hi (Region.noSelect_spec h1) hQ (by simpa using h6) fuel listed a w (Region.free_spec hi h2) (by simpa using h3) hy hS h
def wpG1 (P : Program) (md : Region.Mode) (ops : Array Oper) (Q : Exit → Act → World → Prop) (F : World → Prop) (fin : Nat → Bool) (fuel : Nat) (listed : Array Bool) (i : Nat) (a : Act) (w : World) : Prop :=
 wpOp P ops Q i (fun a' w' => (finL fin (listed.setIfInBounds i true) = false → F w') ∧ wpG P md ops Q F fin fuel (listed.setIfInBounds i true) a' w') a w
end
section
variable {P : Program} {ops : Array Oper} {K : Act → World → Prop} {F : World → Prop} {fin : Nat → Bool} {fuel : Nat} {listed : Array Bool} {o : Oper} {a : Act} {n : Nat} {f : Nat → Value} {w w' : World}
theorem g1 {md : Region.Mode} {i : Nat} (hr : Region.ready md ops listed = [i]) (h : wpG1 P md ops (Nm K) F fin fuel listed i a w) : wpG P md ops (Nm K) F fin (fuel + 1) listed a w :=
 ⟨fun h0 => (by rw [hr] at h0; cases h0), fun j hj => by rw [hr] at hj; rw [List.mem_singleton.1 hj]; exact h⟩
theorem g2 {md : Region.Mode} {i j : Nat} (hr : Region.ready md ops listed = [i, j]) (h : wpG1 P md ops (Nm K) F fin fuel listed i a w) (h' : wpG1 P md ops (Nm K) F fin fuel listed j a w) : wpG P md ops (Nm K) F fin (fuel + 1) listed a w :=
 ⟨fun h0 => (by rw [hr] at h0; cases h0), fun k hk => by
  rw [hr] at hk
  rcases List.mem_cons.1 hk with e | e
  ·rw [e]; exact h
  ·rw [List.mem_singleton.1 e]; exact h'⟩
theorem wgd {md : Region.Mode} (hr : Region.ready md ops listed = []) (h : K a w) : ∀ fuel, wpG P md ops (Nm K) F fin fuel listed a w
 | 0 => ⟨hr, h⟩
 | _ + 1 => ⟨fun _ => h, fun i hi => by rw [hr] at hi; cases hi⟩
theorem wgt {md : Region.Mode} {i d : Nat} {v : Value} (hF : Fr a n f) (hr : ∀ w, F w → (execOp (Eo f) o).run P w = .ok (.value v) w) (hi : ops[i]? = some o) (hok : takeOk md ops (fun i => Nat.blt i ops.size && fin i) listed i = true) (hg : o.guard = none) (hd : o.dst = some d) (hn : opIn n o = true) (hFw : F w)
  (k : ∀ a', Fr a' n (sl f d v) → wpG P md ops (Nm K) F (fun i => Nat.blt i ops.size && fin i) fuel (listed.setIfInBounds i true) a' w) : wpG P md ops (Nm K) F (fun i => Nat.blt i ops.size && fin i) (fuel + 1) listed a w :=
 wpG_take hi hok (fun _ _ _ h => h) (.inl ⟨by unfold Region.wanted; rw [hg], fun w hw => by rw [hF.exec hn]; exact hr w hw⟩) hFw (by rw [hd]; exact k _ (hF.put d v))
theorem wgtg {md : Region.Mode} {i d j e : Nat} {b : Bool} {v : Value} (hF : Fr a n f) (hr : ∀ w, F w → (execOp (Eo f) o).run P w = .ok (.value v) w) (hi : ops[i]? = some o) (hok : takeOk md ops (fun i => Nat.blt i ops.size && fin i) listed i = true) (hg : o.guard = some (j, b)) (hj : (ops[j]?).bind (·.dst) = some e) (he : Nat.blt e n = true) (hv : f e = .bool b) (hd : o.dst = some d) (hn : opIn n o = true) (hFw : F w)
  (k : ∀ a', Fr a' n (sl f d v) → wpG P md ops (Nm K) F (fun i => Nat.blt i ops.size && fin i) fuel (listed.setIfInBounds i true) a' w) : wpG P md ops (Nm K) F (fun i => Nat.blt i ops.size && fin i) (fuel + 1) listed a w :=
 wpG_take hi hok (fun _ _ _ h => h) (.inl ⟨by rw [wanted_eq hg hj he hF hv]; simp, fun w hw => by rw [hF.exec hn]; exact hr w hw⟩) hFw (by rw [hd]; exact k _ (hF.put d v))
theorem wgp {md : Region.Mode} {i d : Nat} {v : Value} (hF : Fr a n f) (hr : ∀ w, (execOp (Eo f) o).run P w = .ok (.value v) w) (hi : ops[i]? = some o) (hok : takeOkP md ops fin listed i = true) (hg : o.guard = none) (hd : o.dst = some d) (hn : opIn n o = true) (hFw : finL fin listed = false → F w)
  (k : ∀ a', Fr a' n (sl f d v) → wpG P md ops (Nm K) F fin fuel (listed.setIfInBounds i true) a' w) : wpG P md ops (Nm K) F fin (fuel + 1) listed a w :=
 wpG_takeP hi hok (fun _ _ _ h => h) (.inl ⟨by unfold Region.wanted; rw [hg], fun w _ => by rw [hF.exec hn]; exact hr w⟩) hFw (by rw [hd]; exact k _ (hF.put d v))
theorem wgpg {md : Region.Mode} {i d j e : Nat} {b : Bool} {v : Value} (hF : Fr a n f) (hr : ∀ w, (execOp (Eo f) o).run P w = .ok (.value v) w) (hi : ops[i]? = some o) (hok : takeOkP md ops fin listed i = true) (hg : o.guard = some (j, b)) (hj : (ops[j]?).bind (·.dst) = some e) (he : Nat.blt e n = true) (hv : f e = .bool b) (hd : o.dst = some d) (hn : opIn n o = true) (hFw : finL fin listed = false → F w)
  (k : ∀ a', Fr a' n (sl f d v) → wpG P md ops (Nm K) F fin fuel (listed.setIfInBounds i true) a' w) : wpG P md ops (Nm K) F fin (fuel + 1) listed a w :=
 wpG_takeP hi hok (fun _ _ _ h => h) (.inl ⟨by rw [wanted_eq hg hj he hF hv]; simp, fun w _ => by rw [hF.exec hn]; exact hr w⟩) hFw (by rw [hd]; exact k _ (hF.put d v))
theorem wgts {md : Region.Mode} {i d j e : Nat} {b : Bool} (hF : Fr a n f) (hi : ops[i]? = some o) (hok : takeOkP md ops fin listed i = true) (hg : o.guard = some (j, b)) (hj : (ops[j]?).bind (·.dst) = some e) (he : Nat.blt e n = true) (hv : f e = .bool (!b) ∨ f e = undef) (hd : o.dst = some d) (hFw : finL fin listed = false → F w)
  (k : ∀ a', Fr a' n (sl f d undef) → wpG P md ops (Nm K) F fin fuel (listed.setIfInBounds i true) a' w) : wpG P md ops (Nm K) F fin (fuel + 1) listed a w :=
 wpG_takeP hi hok (fun _ _ _ h => h) (.inr ⟨by
  rcases hv with hv | hv
  ·rw [wanted_eq hg hj he hF hv]; cases b <;> rfl
  ·exact wanted_undef hg hj he hF hv, rfl⟩) hFw (by rw [hd]; exact k _ (hF.put d undef))
theorem wpOp_of {i : Nat} {K' : Act → World → Prop} {Q : Exit → Act → World → Prop} (hi : ops[i]? = some o) (hg : o.guard = none) (h : o.wp P a w K' Q) : wpOp P ops Q i K' a w := by
 unfold wpOp
 simp only [hi]
 have : Region.wanted o (yielded ops a.tmps) = true := by unfold Region.wanted; rw [hg]
 rw [this]
 simp only [if_true]
 exact .inl h
theorem gv1 {md : Region.Mode} {i d : Nat} {v : Value} (hF : Fr a n f) (hr : (execOp (Eo f) o).run P w = .ok (.value v) w') (hi : ops[i]? = some o) (hg : o.guard = none) (hd : o.dst = some d) (hn : opIn n o = true) (hFw : finL fin (listed.setIfInBounds i true) = false → F w')
  (k : ∀ a', Fr a' n (sl f d v) → wpG P md ops (Nm K) F fin fuel (listed.setIfInBounds i true) a' w') : wpG1 P md ops (Nm K) F fin fuel listed i a w :=
 wpOp_of hi hg (wpOper_val (by rw [hF.exec hn]; exact hr) ⟨hFw, by rw [hd]; exact k _ (hF.put d v)⟩)
theorem gu1 {md : Region.Mode} {i : Nat} (hF : Fr a n f) (hr : (execOp (Eo f) o).run P w = .ok .skip w') (hi : ops[i]? = some o) (hg : o.guard = none) (hd : o.dst = none) (hn : opIn n o = true) (hFw : finL fin (listed.setIfInBounds i true) = false → F w')
  (k : ∀ a', Fr a' n f → wpG P md ops (Nm K) F fin fuel (listed.setIfInBounds i true) a' w') : wpG1 P md ops (Nm K) F fin fuel listed i a w :=
 wpOp_of hi hg (wpOper_skip (by rw [hF.exec hn]; exact hr) ⟨hFw, by rw [hd]; exact k _ hF⟩)
theorem gc1 {md : Region.Mode} {i d : Nat} {g : FuncId} {xs : Array Value} {R : Ending → World → Prop} (hF : Fr a n f) (hr : (execOp (Eo f) o).run P w = .ok (.enter g xs) w) (hc : Calls P g xs w R) (hi : ops[i]? = some o) (hg : o.guard = none) (hd : o.dst = some d) (hn : opIn n o = true)
  (k : ∀ e w', R e w' → ∃ v, e = .returned v ∧ (finL fin (listed.setIfInBounds i true) = false → F w') ∧ ∀ a', Fr a' n (sl f d v) → wpG P md ops (Nm K) F fin fuel (listed.setIfInBounds i true) a' w') : wpG1 P md ops (Nm K) F fin fuel listed i a w :=
 wpOp_of hi hg (wpOper_call (by rw [hF.exec hn]; exact hr) hc fun e w' hR => by
  obtain ⟨v, he, hf, hk⟩ := k e w' hR
  exact ⟨v, he, hf, by rw [hd]; exact hk _ (hF.put d v)⟩)
theorem wdr {id : Nat} {Q : Exit → Act → World → Prop} (F : World → Prop) (fin : Nat → Bool) (hm : P.follows .mixedOrders = true) (h : wpG P .any ops (Nm (fun a w => Q .normal a w)) F (fun i => Nat.blt i ops.size && fin i) ops.size (Array.replicate ops.size false) a w.drew) : (Code.region id ops true).wp P Q a w :=
 wp_of_nm (wp_region_any hm (wpAny_of_G _ _ _ _ h)) fun _ _ h => h
theorem wdrs {id : Nat} {y : Code} {Q : Exit → Act → World → Prop} (F : World → Prop) (fin : Nat → Bool) (hm : P.follows .mixedOrders = true) (h : wpG P .any ops (Nm (fun a w => y.wp P Q a w)) F (fun i => Nat.blt i ops.size && fin i) ops.size (Array.replicate ops.size false) a w.drew) : (Code.seq (.region id ops true) y).wp P Q a w :=
 wp_seq (wdr F fin hm h)
end
section
variable {P : Program} {K : Act → World → Prop} {Q : Exit → Act → World → Prop} {a : Act} {w : World}
theorem ex_then {e : Nat} (h : Q (.exit e) a w) : Exit.then K Q (.exit e) a w := h
theorem ex_here {e : Nat} (h : Q .normal a w) : Exit.inBlock e Q (.exit e) a w := by show if e = e then _ else _; rw [if_pos rfl]; exact h
theorem rt_then (h : Q .ret a w) : Exit.then K Q .ret a w := h
theorem nm_block {e : Nat} (h : Q .normal a w) : Exit.inBlock e Q .normal a w := h
theorem nm_then (h : K a w) : Exit.then K Q .normal a w := h
theorem cd_true {n : Nat} {f : Nat → Value} {c : Operand} {x y : Code} (hF : Fr a n f) (hi : inR n c = true) (hc : Eo f c = .bool true) (h : x.wp P Q a w) : (Code.cond c x y).wp P Q a w := wp_cond_true (by rw [hF.eval hi]; exact hc) h
theorem cd_false {n : Nat} {f : Nat → Value} {c : Operand} {x y : Code} (hF : Fr a n f) (hi : inR n c = true) (hc : Eo f c = .bool false) (h : y.wp P Q a w) : (Code.cond c x y).wp P Q a w := wp_cond_false (by rw [hF.eval hi]; exact hc) h
theorem res_none {fn : Func} {R : Ending → World → Prop} {n : Nat} {f : Nat → Value} (hr : fn.results = #[]) (hF : Fr a n f) (h : R (.returned (.tuple #[])) w) : bodyPost P fn R .ret a w :=
 ⟨hF.nod, .tuple #[], by simp [results, hr], h⟩
theorem res_slot {fn : Func} {R : Ending → World → Prop} {n : Nat} {f : Nat → Value} {i : Nat} (hr : fn.results = #[.tmp i]) (hi : Nat.blt i n = true) (hF : Fr a n f) (h : R (.returned (f i)) w) : bodyPost P fn R .ret a w :=
 ⟨hF.nod, f i, by
  have hi' : i < n := by simpa [Nat.blt_eq] using hi
  simp [results, hr, hF.val i hi'], h⟩
theorem res_slots {fn : Func} {R : Ending → World → Prop} {n : Nat} {f : Nat → Value} {i j : Nat} (hr : fn.results = #[.tmp i, .tmp j]) (hi : Nat.blt i n = true) (hj : Nat.blt j n = true) (hF : Fr a n f) (h : R (.returned (.tuple #[f i, f j])) w) : bodyPost P fn R .ret a w :=
 ⟨hF.nod, .tuple #[f i, f j], by
  have hi' : i < n := by simpa [Nat.blt_eq] using hi
  have hj' : j < n := by simpa [Nat.blt_eq] using hj
  simp [results, hr, hF.val i hi', hF.val j hj'], h⟩
theorem res_cell {fn : Func} {R : Ending → World → Prop} {n : Nat} {f : Nat → Value} {i ty : Nat} {p : Addr} {v : Value} (hr : fn.results = #[.cell i ty]) (hi : Nat.blt i n = true) (hF : Fr a n f) (hp : f i = .pointer (some p)) (hl : (loadVar ty p).run P w = .ok v w) (h : R (.returned v) w) : bodyPost P fn R .ret a w :=
 ⟨hF.nod, v, by
  have hi' : i < n := by simpa [Nat.blt_eq] using hi
  simp [results, hr, hF.val i hi', hp, asAddr, hl], h⟩
theorem res_cell1 {fn : Func} {R : Ending → World → Prop} {n : Nat} {f : Nat → Value} {i ty j : Nat} {p : Addr} {v : Value} (hr : fn.results = #[.cell i ty, .tmp j]) (hi : Nat.blt i n = true) (hj : Nat.blt j n = true) (hF : Fr a n f) (hp : f i = .pointer (some p)) (hl : (loadVar ty p).run P w = .ok v w) (h : R (.returned (.tuple #[v, f j])) w) : bodyPost P fn R .ret a w :=
 ⟨hF.nod, .tuple #[v, f j], by
  have hi' : i < n := by simpa [Nat.blt_eq] using hi
  have hj' : j < n := by simpa [Nat.blt_eq] using hj
  simp [results, hr, hF.val i hi', hF.val j hj', hp, asAddr, hl], h⟩
theorem res_cell2 {fn : Func} {R : Ending → World → Prop} {n : Nat} {f : Nat → Value} {i ty j l : Nat} {p : Addr} {v : Value} (hr : fn.results = #[.cell i ty, .tmp j, .tmp l]) (hi : Nat.blt i n = true) (hj : Nat.blt j n = true) (hl' : Nat.blt l n = true) (hF : Fr a n f) (hp : f i = .pointer (some p)) (hl : (loadVar ty p).run P w = .ok v w) (h : R (.returned (.tuple #[v, f j, f l])) w) : bodyPost P fn R .ret a w :=
 ⟨hF.nod, .tuple #[v, f j, f l], by
  have hi' : i < n := by simpa [Nat.blt_eq] using hi
  have hj' : j < n := by simpa [Nat.blt_eq] using hj
  have hl' : l < n := by simpa [Nat.blt_eq] using hl'
  simp [results, hr, hF.val i hi', hF.val j hj', hF.val l hl', hp, asAddr, hl], h⟩
theorem bp_normal {fn : Func} {R : Ending → World → Prop} (h : bodyPost P fn R .ret a w) : bodyPost P fn R .normal a w := h
end
/-! what an operation's step asks, told by one word each -/
def okq (n : Nat) (o : Oper) : Option Nat := match o.guard with
 | none => cond (opIn n o) o.dst none
 | some _ => none
def mvo (f : Nat → Value) (o : Oper) : Option Value := match o.op with
 | .move x => some (Eo f x)
 | .assign x => some (Eo f x)
 | _ => none
def mvq (f : Nat → Value) (n : Nat) (o : Oper) : Option (Nat × Value) := match okq n o with
 | some d => (mvo f o).map fun v => (d, v)
 | none => none
def fdq (f : Nat → Value) (n : Nat) (o : Oper) : Option (Nat × Nat × Nat × Value) := match o.op with
 | .fieldAddr s x i => (okq n o).map fun d => (d, s, i, Eo f x)
 | _ => none
def gdq (ops : Array Oper) (f : Nat → Value) (n : Nat) (w : Bool) (o : Oper) : Option Nat := match o.guard with
 | none => none
 | some (j, b) => match (ops[j]?).bind (·.dst) with
  | none => none
  | some e => match f e with
   | .bool c => cond (Nat.blt e n) (cond (cond w (cond c b (!b)) (cond c (!b) b)) o.dst none) none
   | _ => none
def okg (ops : Array Oper) (f : Nat → Value) (n : Nat) (o : Oper) : Option Nat := cond (opIn n o) (gdq ops f n true o) none
def mvg (ops : Array Oper) (f : Nat → Value) (n : Nat) (o : Oper) : Option (Nat × Value) := match okg ops f n o with
 | some d => (mvo f o).map fun v => (d, v)
 | none => none
def atq {α : Type} (ops : Array Oper) (i : Nat) (g : Oper → Option α) : Option α := match ops[i]? with
 | some o => g o
 | none => none
def Wq (P : Program) (ops : Array Oper) (K : Act → World → Prop) (rest : List Oper) (w : World) (n : Nat) (f : Nat → Value) : Prop := ∀ a, Fr a n f → wpList P ops (Nm K) rest a w
def Gq (P : Program) (md : Region.Mode) (ops : Array Oper) (K : Act → World → Prop) (F : World → Prop) (fin : Nat → Bool) (fuel : Nat) (listed : Array Bool) (w : World) (n : Nat) (f : Nat → Value) : Prop := ∀ a, Fr a n f → wpG P md ops (Nm K) F fin fuel listed a w
section
variable {P : Program} {ops : Array Oper} {K : Act → World → Prop} {rest : List Oper} {o : Oper} {n d : Nat} {f : Nat → Value} {w w' : World} {v : Value}
theorem okq_is (h : okq n o = some d) : o.guard = none ∧ o.dst = some d ∧ opIn n o = true := by
 unfold okq at h
 split at h
 · rename_i hg
   cases hn : opIn n o with
   | true => rw [hn] at h; exact ⟨hg, h, rfl⟩
   | false => rw [hn] at h; cases h
 · cases h
theorem mvo_is {r : World} (h : mvo f o = some v) : (execOp (Eo f) o).run P r = .ok (.value v) r := by
 unfold mvo at h
 split at h
 · rename_i x ho; injection h with h; exact rn_move ho h
 · rename_i x ho; injection h with h; exact rn_assign ho h
 · cases h
theorem mvq_is (h : mvq f n o = some (d, v)) : okq n o = some d ∧ mvo f o = some v := by
 unfold mvq at h
 split at h
 · rename_i e he
   cases hv : mvo f o with
   | none => rw [hv] at h; cases h
   | some u => rw [hv] at h; injection h with h; injection h with h1 h2; subst h1; subst h2; exact ⟨he, rfl⟩
 · cases h
theorem fdq_is {s i : Nat} (h : fdq f n o = some (d, s, i, v)) : okq n o = some d ∧ ∃ x, o.op = .fieldAddr s x i ∧ Eo f x = v := by
 unfold fdq at h
 split at h
 · rename_i s' x' i' ho
   cases hd : okq n o with
   | none => rw [hd] at h; cases h
   | some e => rw [hd] at h; injection h with h; injection h with h1 h2; injection h2 with h2 h3; injection h3 with h3 h4; subst h1; subst h2; subst h3; exact ⟨rfl, x', ho, h4⟩
 · cases h
theorem gdq_is {b0 : Bool} (h : gdq ops f n b0 o = some d) : ∃ j b e, o.guard = some (j, b) ∧ (ops[j]?).bind (·.dst) = some e ∧ Nat.blt e n = true ∧ f e = .bool (cond b0 b (!b)) ∧ o.dst = some d := by
 unfold gdq at h
 split at h
 · cases h
 · rename_i j b hg
   split at h
   · cases h
   · rename_i e he
     split at h
     · rename_i c hc
       cases hb : Nat.blt e n with
       | false => rw [hb] at h; cases h
       | true =>
        rw [hb] at h
        refine ⟨j, b, e, hg, he, hb, ?_, ?_⟩
        · rw [hc]; cases b0 <;> cases b <;> cases c <;> first | rfl | cases h
        · cases b0 <;> cases b <;> cases c <;> first | exact h | cases h
     · cases h
theorem okg_is (h : okg ops f n o = some d) : opIn n o = true ∧ gdq ops f n true o = some d := by
 unfold okg at h
 cases hn : opIn n o with
 | true => rw [hn] at h; exact ⟨rfl, h⟩
 | false => rw [hn] at h; cases h
theorem mvg_is (h : mvg ops f n o = some (d, v)) : okg ops f n o = some d ∧ mvo f o = some v := by
 unfold mvg at h
 split at h
 · rename_i e he
   cases hv : mvo f o with
   | none => rw [hv] at h; cases h
   | some u => rw [hv] at h; injection h with h; injection h with h1 h2; subst h1; subst h2; exact ⟨he, rfl⟩
 · cases h
theorem atq_is {α : Type} {i : Nat} {g : Oper → Option α} {u : α} (h : atq ops i g = some u) : ∃ o, ops[i]? = some o ∧ g o = some u := by
 unfold atq at h
 split at h
 · rename_i o ho; exact ⟨o, ho, h⟩
 · cases h
theorem qV (v : Value) (hr : (execOp (Eo f) o).run P w = .ok (.value v) w') (h : okq n o = some d) (k : Wq P ops K rest w' n (sl f d v)) : Wq P ops K (o :: rest) w n f := fun _ hF => wlv hF hr (okq_is h).1 (okq_is h).2.1 (okq_is h).2.2 k
theorem qm (v : Value) (h : mvq f n o = some (d, v)) (k : Wq P ops K rest w n (sl f d v)) : Wq P ops K (o :: rest) w n f := qV v (mvo_is (mvq_is h).2) (mvq_is h).1 k
theorem qf {s i of off : Nat} (b q : Nat) (hf : foff P s i = some off) (h : fdq f n o = some (d, s, i, .pointer (some ⟨b, of, none⟩))) (hq : of + off = q) (k : Wq P ops K rest w n (sl f d (.pointer (some ⟨b, q, none⟩)))) : Wq P ops K (o :: rest) w n f := by
 obtain ⟨h1, x, h2, h3⟩ := fdq_is h
 exact qV _ (rn_field h2 h3 hf hq) h1 k
theorem qg (v : Value) (hr : (execOp (Eo f) o).run P w = .ok (.value v) w') (h : okg ops f n o = some d) (k : Wq P ops K rest w' n (sl f d v)) : Wq P ops K (o :: rest) w n f := fun _ hF => by
 obtain ⟨hn, h⟩ := okg_is h
 obtain ⟨j, b, e, h1, h2, h3, h4, h5⟩ := gdq_is h
 exact lgv hF hr h1 h2 h3 h4 h5 hn k
theorem qn (v : Value) (h : mvg ops f n o = some (d, v)) (k : Wq P ops K rest w n (sl f d v)) : Wq P ops K (o :: rest) w n f := qg v (mvo_is (mvg_is h).2) (mvg_is h).1 k
theorem qi (h : gdq ops f n false o = some d) (k : Wq P ops K rest w n (sl f d undef)) : Wq P ops K (o :: rest) w n f := fun _ hF => by
 obtain ⟨j, b, e, h1, h2, h3, h4, h5⟩ := gdq_is h
 exact lgs hF h1 h2 h3 (.inl h4) h5 k
variable {F : World → Prop} {fin : Nat → Bool} {fuel : Nat} {listed : Array Bool} {md : Region.Mode}
theorem qp (i : Nat) (v : Value) (hi : ops[i]? = some o) (hr : ∀ {r}, (execOp (Eo f) o).run P r = .ok (.value v) r) (hU : F w) (h : okq n o = some d) (hok : takeOkP md ops fin listed i = true) (k : Gq P md ops K F fin fuel (listed.setIfInBounds i true) w n (sl f d v)) : Gq P md ops K F fin (fuel + 1) listed w n f := fun _ hF => wgp hF (fun _ => hr) hi hok (okq_is h).1 (okq_is h).2.1 (okq_is h).2.2 (fun _ => hU) k
theorem qx (i : Nat) (v : Value) (hU : F w) (h : atq ops i (mvq f n) = some (d, v)) (hok : takeOkP md ops fin listed i = true) (k : Gq P md ops K F fin fuel (listed.setIfInBounds i true) w n (sl f d v)) : Gq P md ops K F fin (fuel + 1) listed w n f := by
 obtain ⟨o, hi, h⟩ := atq_is h
 exact qp i v hi (mvo_is (mvq_is h).2) hU (mvq_is h).1 hok k
theorem qo {s j of off : Nat} (i b q : Nat) (hf : foff P s j = some off) (hU : F w) (h : atq ops i (fdq f n) = some (d, s, j, .pointer (some ⟨b, of, none⟩))) (hq : of + off = q) (hok : takeOkP md ops fin listed i = true) (k : Gq P md ops K F fin fuel (listed.setIfInBounds i true) w n (sl f d (.pointer (some ⟨b, q, none⟩)))) : Gq P md ops K F fin (fuel + 1) listed w n f := by
 obtain ⟨o, hi, h⟩ := atq_is h
 obtain ⟨h1, x, h2, h3⟩ := fdq_is h
 exact qp i _ hi (rn_field h2 h3 hf hq) hU h1 hok k
theorem qt (i : Nat) (v : Value) (hi : ops[i]? = some o) (hr : ∀ r, F r → (execOp (Eo f) o).run P r = .ok (.value v) r) (hU : F w) (h : okq n o = some d) (hok : takeOk md ops (fun i => Nat.blt i ops.size && fin i) listed i = true) (k : Gq P md ops K F (fun i => Nat.blt i ops.size && fin i) fuel (listed.setIfInBounds i true) w n (sl f d v)) : Gq P md ops K F (fun i => Nat.blt i ops.size && fin i) (fuel + 1) listed w n f := fun _ hF => wgt hF hr hi hok (okq_is h).1 (okq_is h).2.1 (okq_is h).2.2 hU k
theorem qG (i : Nat) (v : Value) (hi : ops[i]? = some o) (hr : ∀ {r}, (execOp (Eo f) o).run P r = .ok (.value v) r) (hU : F w) (h : okg ops f n o = some d) (hok : takeOkP md ops fin listed i = true) (k : Gq P md ops K F fin fuel (listed.setIfInBounds i true) w n (sl f d v)) : Gq P md ops K F fin (fuel + 1) listed w n f := fun _ hF => by
 obtain ⟨hn, h⟩ := okg_is h
 obtain ⟨j, b, e, h1, h2, h3, h4, h5⟩ := gdq_is h
 exact wgpg hF (fun _ => hr) hi hok h1 h2 h3 h4 h5 hn (fun _ => hU) k
theorem qH (i : Nat) (v : Value) (hU : F w) (h : atq ops i (mvg ops f n) = some (d, v)) (hok : takeOkP md ops fin listed i = true) (k : Gq P md ops K F fin fuel (listed.setIfInBounds i true) w n (sl f d v)) : Gq P md ops K F fin (fuel + 1) listed w n f := by
 obtain ⟨o, hi, h⟩ := atq_is h
 exact qG i v hi (mvo_is (mvg_is h).2) hU (mvg_is h).1 hok k
theorem qs (i : Nat) (hU : F w) (h : atq ops i (gdq ops f n false) = some d) (hok : takeOkP md ops fin listed i = true) (k : Gq P md ops K F fin fuel (listed.setIfInBounds i true) w n (sl f d undef)) : Gq P md ops K F fin (fuel + 1) listed w n f := fun _ hF => by
 obtain ⟨o, hi, h⟩ := atq_is h
 obtain ⟨j, b, e, h1, h2, h3, h4, h5⟩ := gdq_is h
 exact wgts hF hi hok h1 h2 h3 (.inl h4) h5 (fun _ => hU) k
end
end Go.Proofs.Ytbmjiokjigkdnaa
namespace Go.Proofs.Ytbmjiokjigkdnaa
open Go.RowKit Go.Proofs.Ytbmjiokjigkdnaa.Top
def Tv.arr (v : Tv) : Array Value := #[.int .i64 v.k, .slice v.A v.n v.c, .slice v.K v.m v.d]
def Ev.arr (v : Ev) : Array Value := #[.int .i64 v.k, .int .i64 v.old.k, .slice v.old.A v.old.n v.old.c, .slice v.old.K v.old.m v.old.d, .int .i64 v.new.k, .slice v.new.A v.new.n v.new.c, .slice v.new.K v.new.m v.new.d, .slice v.W v.wn v.wc, .slice v.K v.kn v.kc, .int .i64 v.lk, .slice v.O v.on v.oc]
def Ov.arr (v : Ov) : Array Value := #[.int .i64 v.k, .int .i64 v.n, .slice v.L v.ln v.lc, .int .i64 v.e.k, .int .i64 v.e.old.k, .slice v.e.old.A v.e.old.n v.e.old.c, .slice v.e.old.K v.e.old.m v.e.old.d, .int .i64 v.e.new.k, .slice v.e.new.A v.e.new.n v.e.new.c, .slice v.e.new.K v.e.new.m v.e.new.d, .slice v.e.W v.e.wn v.e.wc, .slice v.e.K v.e.kn v.e.kc, .int .i64 v.e.lk, .slice v.e.O v.e.on v.e.oc]
def Kv.arr (v : Kv) : Array Value := #[.int .i64 v.at_, .int .i64 v.e.k, .int .i64 v.e.old.k, .slice v.e.old.A v.e.old.n v.e.old.c, .slice v.e.old.K v.e.old.m v.e.old.d, .int .i64 v.e.new.k, .slice v.e.new.A v.e.new.n v.e.new.c, .slice v.e.new.K v.e.new.m v.e.new.d, .slice v.e.W v.e.wn v.e.wc, .slice v.e.K v.e.kn v.e.kc, .int .i64 v.e.lk, .slice v.e.O v.e.on v.e.oc]
def wArr (v : WE) : Array Value := #[.int .i64 v.at_, .int .u8 v.mask, .int .u64 v.old, .int .u64 v.new]
def Ov.nil : Ov := ⟨0, 0, none, 0, 0, Ev.nil⟩
def Kv.nil : Kv := ⟨0, Ev.nil⟩
theorem Ev.cells_arr (v : Ev) : v.cells = v.arr.toList := rfl
theorem Ov.cells_arr (v : Ov) : v.cells = v.arr.toList := rfl
theorem Kv.cells_arr (v : Kv) : v.cells = v.arr.toList := rfl
theorem wCells_arr (v : WE) : wCells v = (wArr v).toList := rfl
theorem Ov.arr_one (v : Ov) : ∀ u ∈ v.arr.toList, u.oneCell' = true := v.cells_one
theorem Ev.arr_one (v : Ev) : ∀ u ∈ v.arr.toList, u.oneCell' = true := v.cells_one
theorem Kv.arr_one (v : Kv) : ∀ u ∈ v.arr.toList, u.oneCell' = true := v.cells_one
theorem wArr_one (v : WE) : ∀ u ∈ (wArr v).toList, u.oneCell' = true := wCells_one v
theorem Tv.arr_one (v : Tv) : ∀ u ∈ v.arr.toList, u.oneCell' = true := by
 intro u hu
 simp only [Tv.arr, List.mem_cons, List.not_mem_nil, or_false] at hu
 rcases hu with h | h | h <;> subst h <;> rfl
theorem sl_one (A : Option Addr) (n c : Nat) : ∀ u ∈ (#[Value.slice A n c] : Array Value).toList, u.oneCell' = true := by
 intro u hu; simp only [List.mem_cons, List.not_mem_nil, or_false] at hu; subst hu; rfl
theorem int_one (k : IntKind) (i : Int) : ∀ u ∈ (#[Value.int k i] : Array Value).toList, u.oneCell' = true := by
 intro u hu; simp only [List.mem_cons, List.not_mem_nil, or_false] at hu; subst hu; rfl
theorem Blk.range {W : World} {g : Nat} {t : TypeId} {cs : Array Value} (h : Blk W g t cs) (of : Nat) (vs : Array Value) (hv : ∀ j u, vs.toList[j]? = some u → cs[of + j]? = some u) : W.rangeAt g of vs.toList := fun j u hu => by
 rw [h.cell]; exact hv j u hu
theorem Blk.whole {W : World} {g : Nat} {t : TypeId} {cs : Array Value} (h : Blk W g t cs) : W.rangeAt g 0 cs.toList := h.range 0 cs fun j u hu => by simpa using hu
theorem sub_of {cs : Array Value} {of : Nat} {vs : Array Value} (h : (cs.toList.drop of).take vs.size = vs.toList) : ∀ j u, vs.toList[j]? = some u → cs[of + j]? = some u := fun j u hu => by
 rw [← h, List.getElem?_take] at hu
 split at hu
 ·rw [List.getElem?_drop] at hu
  simpa using hu
 ·cases hu
end Go.Proofs.Ytbmjiokjigkdnaa
namespace Go.Proofs.Ytbmjiokjigkdnaa
open Go.RowKit Go.Proofs.Ytbmjiokjigkdnaa.Top
structure Row where
 ty : TypeId
 size : Nat
 A : Option Addr
 n : Nat
 c : Nat
 xs : List Value
def Row.val (x : Row) : Value := .slice x.A x.n x.c
def rowB (x : Row) : List Nat := match x.A with | none => [] | some a => [a.block]
def blocks (l : List Box) (r : List Row) : List Nat := l.map Box.g ++ r.flatMap rowB
structure Mm (S : Nat → Prop) (w W : World) (l : List Box) (r : List Row) (F : World → (Nat → Prop) → Prop) : Prop where
 st : Stable F
 old : ∀ b, S b → b < w.heap.size
 bel : Below w.heap.size w W
 box : ∀ (i : Nat) (x : Box), l[i]? = some x → Blk W x.g x.t x.cs ∧ w.heap.size ≤ x.g
 row : ∀ (i : Nat) (x : Row), r[i]? = some x → W.ownsRow w.heap.size x.ty x.size x.val x.n x.xs
 dis : (blocks l r).Nodup
 fact : F W (Gs S w W (fun b => b ∈ blocks l r))
theorem mem_rowB {x : Row} {b : Nat} : b ∈ rowB x ↔ x.val.ownBlock = some b := by
 obtain ⟨ty, size, A, n, c, xs⟩ := x
 cases A with
 | none => exact ⟨fun h => (by cases h), fun h => (by cases h)⟩
 | some a =>
  show b ∈ [a.block] ↔ some a.block = some b
  rw [List.mem_singleton]
  exact ⟨fun h => by rw [h], fun h => by injection h with h; exact h.symm⟩
theorem mem_blocks {l : List Box} {r : List Row} {b : Nat} : b ∈ blocks l r ↔ (∃ x ∈ l, x.g = b) ∨ ∃ x ∈ r, x.val.ownBlock = some b := by
 unfold blocks
 rw [List.mem_append, List.mem_map, List.mem_flatMap]
 simp only [mem_rowB]
section
variable {S : Nat → Prop} {w W W' : World} {l : List Box} {r : List Row} {F : World → (Nat → Prop) → Prop}
theorem Mm.size (h : Mm S w W l r F) : w.heap.size ≤ W.heap.size := h.bel.size
theorem Mm.lt (h : Mm S w W l r F) {b : Nat} (hb : b ∈ blocks l r) : w.heap.size ≤ b ∧ b < W.heap.size := by
 rcases mem_blocks.1 hb with ⟨x, hx, rfl⟩ | ⟨x, hx, e⟩
 ·obtain ⟨i, hi, rfl⟩ := List.mem_iff_getElem.1 hx
  have := h.box i _ (List.getElem?_eq_getElem hi)
  exact ⟨this.2, this.1.lt⟩
 ·obtain ⟨i, hi, rfl⟩ := List.mem_iff_getElem.1 hx
  exact (h.row i _ (List.getElem?_eq_getElem hi)).lt b e
theorem Mm.b (h : Mm S w W l r F) (i : Nat) {x : Box} (e : l[i]? = some x) : Blk W x.g x.t x.cs := (h.box i x e).1
theorem Mm.ge (h : Mm S w W l r F) (i : Nat) {x : Box} (e : l[i]? = some x) : w.heap.size ≤ x.g ∧ x.g < W.heap.size := ⟨(h.box i x e).2, (h.box i x e).1.lt⟩
theorem Mm.begin (hS : ∀ b, S b → b < w.heap.size) (st : Stable F) (h : F w S) : Mm S w w [] [] F :=
 ⟨st, hS, Below.refl _ _, fun i x e => by simp at e, fun i x e => by simp at e, List.nodup_nil, st.mono h fun b hb => ⟨.inl hb, fun hx => by cases hx⟩⟩
theorem Mm.step (h : Mm S w W l r F) (hb : Below W.heap.size W W') : Mm S w W' l r F := by
 refine ⟨h.st, h.old, h.bel.trans (hb.mono h.size), fun i x e => ⟨(h.box i x e).1.below hb (h.box i x e).1.lt, (h.box i x e).2⟩, fun i x e => ownsRow_below (h.row i x e) hb, h.dis, h.st.below h.fact h.old h.size hb⟩
theorem Mm.drew (h : Mm S w W l r F) : Mm S w W.drew l r F := h.step (Below.refl _ _).drew
theorem Mm.new (h : Mm S w W l r F) {g : Nat} {t : TypeId} {cs : Array Value} (hB : Blk W' g t cs) (hb : Below W.heap.size W W') (hg : W.heap.size = g) : Mm S w W' (⟨g, t, cs⟩ :: l) r F := by
 subst hg
 have h1 := h.step hb
 have hn : W.heap.size ∉ blocks l r := fun hm => by have := h.lt hm; omega
 refine ⟨h.st, h.old, h1.bel, fun i x e => ?_, h1.row, ?_, ?_⟩
 ·cases i with
  | zero =>
   have e : some (Box.mk W.heap.size t cs) = some x := e
   injection e with e
   subst e
   exact ⟨hB, h.size⟩
  | succ i => exact h1.box i x e
 ·show (W.heap.size :: blocks l r).Nodup
  exact List.nodup_cons.2 ⟨hn, h.dis⟩
 ·refine h.st.next h.fact h.old h.size hb.size (fun b hlt _ => hb.block b hlt) fun b hlt hx => ?_
  have hx : b ∈ W.heap.size :: blocks l r := hx
  rcases List.mem_cons.1 hx with e | e
  ·omega
  ·exact e
theorem blocks_set {i : Nat} {x : Box} {cs : Array Value} (e : l[i]? = some x) : blocks (l.set i ⟨x.g, x.t, cs⟩) r = blocks l r := by
 unfold blocks
 congr 1
 rw [List.map_set]
 show (l.map Box.g).set i x.g = _
 have : (l.map Box.g)[i]? = some x.g := by rw [List.getElem?_map, e]; rfl
 obtain ⟨hi, hv⟩ := List.getElem?_eq_some_iff.1 this
 rw [← hv, List.set_getElem_self]
theorem Mm.apart (h : Mm S w W l r F) {i : Nat} {x : Box} (e : l[i]? = some x) : (∀ (k : Nat) (y : Box), k ≠ i → l[k]? = some y → y.g ≠ x.g) ∧ ∀ (k : Nat) (y : Row), r[k]? = some y → y.val.ownBlock ≠ some x.g := by
 have hd := List.nodup_append.1 h.dis
 refine ⟨fun k y hk e' he => ?_, fun k y e' he => ?_⟩
 ·have h1 : (l.map Box.g)[k]? = some y.g := by rw [List.getElem?_map, e']; rfl
  have h2 : (l.map Box.g)[i]? = some x.g := by rw [List.getElem?_map, e]; rfl
  rw [← he] at h2
  exact hk ((List.getElem?_inj (List.getElem?_eq_some_iff.1 h1).1 hd.1).1 (h1.trans h2.symm))
 ·exact hd.2.2 x.g (List.mem_map.2 ⟨x, List.mem_of_getElem? e, rfl⟩) x.g (List.mem_flatMap.2 ⟨y, List.mem_of_getElem? e', mem_rowB.2 he⟩) rfl
theorem Mm.set (h : Mm S w W l r F) (i : Nat) {x : Box} (e : l[i]? = some x) {cs : Array Value} (hB : Blk W' x.g x.t cs) (ho : Only [x.g] W W') : Mm S w W' (l.set i ⟨x.g, x.t, cs⟩) r F := by
 have ha := h.apart e
 refine ⟨h.st, h.old, h.bel.trans (ho.to_below (fun b hb => by rw [List.mem_singleton.1 hb]; exact (h.box i x e).2) h.size), fun k y hk => ?_, fun k y hk => ?_, by rw [blocks_set e]; exact h.dis, ?_⟩
 ·rw [List.getElem?_set] at hk
  split at hk
  ·split at hk
   ·injection hk with hk
    subst hk
    exact ⟨hB, (h.box i x e).2⟩
   ·cases hk
  ·rename_i hki
   exact ⟨ho.blk (h.box k y hk).1 fun hm => ha.1 k y (fun e => hki e.symm) hk (List.mem_singleton.1 hm), (h.box k y hk).2⟩
 ·refine ownsRow_keep (h.row k y hk) fun b hb => ho.block b ((h.row k y hk).lt b hb).2 fun hm => ?_
  rw [List.mem_singleton.1 hm] at hb
  exact ha.2 k y hk hb
 ·rw [blocks_set e]
  exact h.st.only h.fact h.old h.size ho fun b hb => by
   rw [List.mem_singleton.1 hb]
   exact mem_blocks.2 (.inl ⟨x, List.mem_of_getElem? e, rfl⟩)
theorem Mm.imp {F' : World → (Nat → Prop) → Prop} (h : Mm S w W l r F) (st : Stable F') (hf : ∀ {W S}, F W S → F' W S) : Mm S w W l r F' := ⟨st, h.old, h.bel, h.box, h.row, h.dis, hf h.fact⟩
theorem Mm.tail {x : Box} (h : Mm S w W (x :: l) r F) : Mm S w W l r F :=
 ⟨h.st, h.old, h.bel, fun i y e => h.box (i + 1) y e, h.row, (List.nodup_cons.1 h.dis).2, h.st.less h.fact fun _ hb => List.mem_cons_of_mem _ hb⟩
theorem Mm.nilRow (h : Mm S w W l r F) (ty : TypeId) (size : Nat) : Mm S w W l (⟨ty, size, none, 0, 0, []⟩ :: r) F :=
 ⟨h.st, h.old, h.bel, h.box, fun i x e => by
  cases i with
  | zero =>
   have e : some (Row.mk ty size none 0 0 []) = some x := e
   injection e with e
   subst e
   exact World.ownsRow_nil _ _ _ _
  | succ i => exact h.row i x e, h.dis, h.fact⟩
theorem row_at {i : Nat} {x y : Row} (e : r[i]? = some x) : ∃ r1 r2, r = r1 ++ x :: r2 ∧ r.set i y = r1 ++ y :: r2 ∧ r1.length = i := by
 obtain ⟨hi, hv⟩ := List.getElem?_eq_some_iff.1 e
 refine ⟨r.take i, r.drop (i + 1), ?_, ?_, by rw [List.length_take]; omega⟩
 ·rw [← hv, ← List.drop_eq_getElem_cons hi, List.take_append_drop]
 ·rw [List.set_eq_take_append_cons_drop, if_pos hi]
theorem Mm.rowed (h : Mm S w W l r F) (i : Nat) {x y : Row} (e : r[i]? = some x) (hown : W'.ownsRow w.heap.size y.ty y.size y.val y.n y.xs) (hg : W.grownBy W' x.val.ownBlock) (hat : y.val.ownBlock = x.val.ownBlock ∨ y.val.ownBlock = some W.heap.size ∨ y.val.ownBlock = none) : Mm S w W' l (r.set i y) F := by
 obtain ⟨r1, r2, hr, hr', hl⟩ := row_at (y := y) e
 have hlt : ∀ b, x.val.ownBlock = some b → w.heap.size ≤ b ∧ b < W.heap.size := fun b hb => (h.row i x e).lt b hb
 have hd : (blocks l (r1 ++ x :: r2)).Nodup := hr ▸ h.dis
 have hsub : ∀ b, b ∈ blocks l (r.set i y) → b ∈ blocks l r ∨ b = W.heap.size := fun b hb => by
  rcases mem_blocks.1 hb with h1 | ⟨z, hz, hzb⟩
  ·exact .inl (mem_blocks.2 (.inl h1))
  ·rw [hr'] at hz
   rcases List.mem_append.1 hz with h2 | h2
   ·exact .inl (mem_blocks.2 (.inr ⟨z, by rw [hr]; exact List.mem_append.2 (.inl h2), hzb⟩))
   ·rcases List.mem_cons.1 h2 with h3 | h3
    ·subst h3
     rcases hat with h4 | h4 | h4
     ·rw [h4] at hzb
      exact .inl (mem_blocks.2 (.inr ⟨x, List.mem_of_getElem? e, hzb⟩))
     ·rw [h4] at hzb
      injection hzb with hzb
      exact .inr hzb.symm
     ·rw [h4] at hzb
      cases hzb
    ·exact .inl (mem_blocks.2 (.inr ⟨z, by rw [hr]; exact List.mem_append.2 (.inr (List.mem_cons_of_mem _ h3)), hzb⟩))
 have hpart : ∀ (k : Nat) (z : Row), k ≠ i → r[k]? = some z → ∀ b, z.val.ownBlock = some b → x.val.ownBlock ≠ some b := fun k z hk hz b hb hxb => by
  have h1 : (r.flatMap rowB).Nodup := (List.nodup_append.1 h.dis).2.1
  rw [hr, List.flatMap_append, List.flatMap_cons] at h1
  have h2 := List.nodup_append.1 h1
  have h3 := List.nodup_append.1 h2.2.1
  have hxm : b ∈ rowB x := mem_rowB.2 hxb
  have hzm : b ∈ rowB z := mem_rowB.2 hb
  rw [hr] at hz
  rcases Nat.lt_or_ge k i with hki | hki
  ·rw [List.getElem?_append_left (by omega)] at hz
   exact h2.2.2 b (List.mem_flatMap.2 ⟨z, List.mem_of_getElem? hz, hzm⟩) b (List.mem_append.2 (.inl hxm)) rfl
  ·rw [List.getElem?_append_right (by omega), hl] at hz
   obtain ⟨k', hk'⟩ : ∃ k', k - i = k' + 1 := ⟨k - i - 1, by omega⟩
   rw [hk'] at hz
   have hz : r2[k']? = some z := hz
   exact h3.2.2 b hxm b (List.mem_flatMap.2 ⟨z, List.mem_of_getElem? hz, hzm⟩) rfl
 refine ⟨h.st, h.old, h.bel.grown hg h.size (fun k hk => (hlt k hk).1), fun k z hk => ⟨(h.box k z hk).1.grown hg fun he => (h.apart hk).2 i x e he.symm, (h.box k z hk).2⟩, fun k z hk => ?_, ?_, ?_⟩
 ·rw [List.getElem?_set] at hk
  split at hk
  ·split at hk
   ·injection hk with hk
    subst hk
    exact hown
   ·cases hk
  ·rename_i hki
   refine ownsRow_keep (h.row k z hk) fun b hb => hg.block b ((h.row k z hk).lt b hb).2 fun he => ?_
   exact hpart k z (fun e => hki e.symm) hk b hb he.symm
 ·rw [hr']
  have hyx : ∀ b, b ∈ rowB y → b ∈ rowB x ∨ b = W.heap.size := fun b hb => by
   rcases hat with h4 | h4 | h4
   ·exact .inl (mem_rowB.2 (by rw [← h4]; exact mem_rowB.1 hb))
   ·have := mem_rowB.1 hb
    rw [h4] at this
    injection this with this
    exact .inr this.symm
   ·have := mem_rowB.1 hb
    rw [h4] at this
    cases this
  have hns : ∀ b, b ∈ blocks l r → b ≠ W.heap.size := fun b hb he => by have := h.lt hb; omega
  have hyn : (rowB y).Nodup := by
   unfold rowB
   cases y.A with
   | none => exact List.nodup_nil
   | some a => exact List.nodup_cons.2 ⟨fun h => (by cases h), List.nodup_nil⟩
  unfold blocks at hd ⊢
  rw [List.flatMap_append, List.flatMap_cons] at hd ⊢
  have d1 := List.nodup_append.1 hd
  have d2 := List.nodup_append.1 d1.2.1
  have d3 := List.nodup_append.1 d2.2.1
  have in1 : ∀ b, b ∈ List.map Box.g l → b ∈ blocks l r := fun b hb => by unfold blocks; exact List.mem_append.2 (.inl hb)
  have in2 : ∀ b, b ∈ r1.flatMap rowB → b ∈ blocks l r := fun b hb => by unfold blocks; rw [hr, List.flatMap_append]; exact List.mem_append.2 (.inr (List.mem_append.2 (.inl hb)))
  have in3 : ∀ b, b ∈ r2.flatMap rowB → b ∈ blocks l r := fun b hb => by unfold blocks; rw [hr, List.flatMap_append, List.flatMap_cons]; exact List.mem_append.2 (.inr (List.mem_append.2 (.inr (List.mem_append.2 (.inr hb)))))
  refine List.nodup_append.2 ⟨d1.1, List.nodup_append.2 ⟨d2.1, List.nodup_append.2 ⟨hyn, d3.2.1, fun b hb c hc he => ?_⟩, fun b hb c hc he => ?_⟩, fun b hb c hc he => ?_⟩
  ·subst he
   rcases hyx b hb with h5 | h5
   ·exact d3.2.2 b h5 b hc rfl
   ·exact hns b (in3 b hc) h5
  ·subst he
   rcases List.mem_append.1 hc with h6 | h6
   ·rcases hyx b h6 with h5 | h5
    ·exact d2.2.2 b hb b (List.mem_append.2 (.inl h5)) rfl
    ·exact hns b (in2 b hb) h5
   ·exact d2.2.2 b hb b (List.mem_append.2 (.inr h6)) rfl
  ·subst he
   rcases List.mem_append.1 hc with h6 | h6
   ·exact d1.2.2 b hb b (List.mem_append.2 (.inl h6)) rfl
   ·rcases List.mem_append.1 h6 with h7 | h7
    ·rcases hyx b h7 with h5 | h5
     ·exact d1.2.2 b hb b (List.mem_append.2 (.inr (List.mem_append.2 (.inl h5)))) rfl
     ·exact hns b (in1 b hb) h5
    ·exact d1.2.2 b hb b (List.mem_append.2 (.inr (List.mem_append.2 (.inr h7)))) rfl
 ·refine h.st.next h.fact h.old h.size hg.size (fun b hb1 hb2 => hg.block b hb1 fun he => hb2 (mem_blocks.2 (.inr ⟨x, List.mem_of_getElem? e, he.symm⟩))) fun b hb1 hb2 => ?_
  rcases hsub b hb2 with h5 | h5
  ·exact h5
  ·omega
theorem Only.grownBy {b : Nat} (h : Only [b] W W') : W.grownBy W' (some b) := ⟨h.os, h.tape, h.output, h.size, fun k hk hne => h.block k hk fun hm => hne (by rw [List.mem_singleton.1 hm])⟩
end
section
variable {P : Program} {S : Nat → Prop} {w W W' : World} {l : List Box} {r : List Row} {F : World → (Nat → Prop) → Prop}
def TyI (P : Program) (t e size bytes : Nat) : Prop := ∃ i z, P.underlying t = some (.slice e) ∧ P.info? e = some i ∧ i.zero = some z ∧ i.size = size ∧ i.bytes = bytes ∧ z.cells.size = size ∧ 0 < size
theorem Mm.len (h : Mm S w W l r F) (i : Nat) {x : Row} (e : r[i]? = some x) : x.xs.length = x.n * x.size := (h.row i x e).1
theorem Mm.cap (h : Mm S w W l r F) (i : Nat) {x : Row} (e : r[i]? = some x) : x.n ≤ x.c ∧ x.c ≤ maxLen ∧ (x.A = none → x.c = 0) := by
 have ho := h.row i x e
 obtain ⟨_, _, e, h1, h2⟩ := ownsRow_slice ho
 injection e with e1 e2 e3
 subst e1 e3
 exact ⟨h1, ownsRow_cap ho, h2⟩
theorem ownsRow_some {w : World} {base : Nat} {e : TypeId} {size n c : Nat} {A : Option Addr} {xs : List Value} (h : w.ownsRow base e size (.slice A n c) n xs) (hn : 0 < xs.length) : ∃ g, A = some ⟨g, 0, none⟩ := by
 have h1 := h.1
 rcases h.2 with ⟨hv, h0⟩ | ⟨g, cap, cur, hv, _⟩
 ·subst h0
  omega
 ·injection hv with hA
  exact ⟨g, hA⟩
theorem Mm.at0 (h : Mm S w W l r F) (i : Nat) {x : Row} (e : r[i]? = some x) (hn : 0 < x.xs.length) : ∃ g, x.A = some ⟨g, 0, none⟩ := ownsRow_some (h.row i x e) hn
theorem ownsRow_setCells {base : Nat} {e : TypeId} {size n g cap : Nat} : ∀ (vs : List Value) (of : Nat) (W : World) (xs : List Value), W.ownsRow base e size (.slice (some ⟨g, 0, none⟩) n cap) n xs → of + vs.length ≤ xs.length → (W.setCells g of vs).ownsRow base e size (.slice (some ⟨g, 0, none⟩) n cap) n (splL xs of vs) ∧ Only [g] W (W.setCells g of vs)
 | [], of, W, xs, h, _ => by
  have e : splL xs of [] = xs := by simp [splL]
  rw [e]
  exact ⟨h, Only.refl _ _⟩
 | v :: r, of, W, xs, h, hl => by
  have hl' : of + (r.length + 1) ≤ xs.length := hl
  have h2 := ownsRow_setCells r (of + 1) _ _ (ownsRow_set h of v) (by rw [List.length_set]; omega)
  rw [splL_cons _ _ _ _ hl'] at h2
  exact ⟨h2.1, (Only.setCell (p := ⟨g, of, none⟩) (Only.refl [g] W) (List.mem_singleton.2 rfl) v).trans h2.2⟩
theorem Mm.rowRange (h : Mm S w W l r F) (i : Nat) {x : Row} (e : r[i]? = some x) {g : Nat} (hA : x.A = some ⟨g, 0, none⟩) (of : Nat) (vs : List Value) (hv : ∀ j u, vs[j]? = some u → x.xs[of + j]? = some u) : W.rangeAt g of vs := fun j u hu => by
 have ho : W.ownsRow w.heap.size x.ty x.size (.slice x.A x.n x.c) x.n x.xs := h.row i x e
 rw [hA] at ho
 have := ho.cells (g := g) rfl (of + j) u (hv j u hu)
 rwa [add_lit, Nat.zero_add] at this
theorem row_fact {x : Row} (ho : W.ownsRow w.heap.size x.ty x.size x.val x.n x.xs) {few : Nat} (hf : x.n ≤ few) : RowAt W (fun b => x.val.ownBlock = some b) x.A x.n x.c x.size few x.xs := by
 obtain ⟨_, _, e, h1, h2⟩ := ownsRow_slice ho
 injection e with e1 e2 e3
 subst e1 e3
 exact ⟨ho.1, h1, ownsRow_cap ho, hf, h2, RdS.of_own4 ho⟩
theorem Mm.done (h : Mm S w W l r F) (i : Nat) {x : Row} (e : r[i]? = some x) {few : Nat} (hf : x.n ≤ few) : Mm S w W l (r.set i ⟨x.ty, x.size, none, 0, 0, []⟩) (fun W S => F W S ∧ RowAt W S x.A x.n x.c x.size few x.xs) := by
 have h1 := h.rowed (W' := W) i (y := ⟨x.ty, x.size, none, 0, 0, []⟩) e (World.ownsRow_nil _ _ _ _) (World.grownBy.refl W _) (.inr (.inr rfl))
 refine ⟨h.st.and ⟨fun h hk => h.keep hk, fun h hS => h.mono hS⟩, h1.old, h1.bel, h1.box, h1.row, h1.dis, h1.fact, (row_fact (h.row i x e) hf).mono fun b hb => ⟨.inr ((h.row i x e).lt b hb), fun hm => ?_⟩⟩
 have hx : x.A ≠ none := fun hA => by
  have hb : (Value.slice x.A x.n x.c).ownBlock = some b := hb
  rw [hA] at hb
  cases hb
 obtain ⟨r1, r2, hr, hr', hl⟩ := row_at (y := ⟨x.ty, x.size, none, 0, 0, []⟩) e
 have hd := h.dis
 rw [hr] at hd
 rw [hr'] at hm
 have hxm : b ∈ rowB x := mem_rowB.2 hb
 unfold blocks at hd hm
 rw [List.flatMap_append, List.flatMap_cons] at hd hm
 have d1 := List.nodup_append.1 hd
 have d2 := List.nodup_append.1 d1.2.1
 have d3 := List.nodup_append.1 d2.2.1
 rcases List.mem_append.1 hm with h5 | h5
 ·exact d1.2.2 b h5 b (List.mem_append.2 (.inr (List.mem_append.2 (.inl hxm)))) rfl
 ·rcases List.mem_append.1 h5 with h6 | h6
  ·exact d2.2.2 b h6 b (List.mem_append.2 (.inl hxm)) rfl
  ·rcases List.mem_append.1 h6 with h7 | h7
   ·cases h7
   ·exact d3.2.2 b hxm b h7 rfl
theorem Mm.unrow {ty size n c : Nat} {xs : List Value} (h : Mm S w W l (⟨ty, size, none, n, c, xs⟩ :: r) F) : Mm S w W l r F := ⟨h.st, h.old, h.bel, h.box, fun i x e => h.row (i + 1) x e, h.dis, h.fact⟩
def mmS (S : Nat → Prop) (w W : World) (l : List Box) (r : List Row) : Nat → Prop := Gs S w W (fun b => b ∈ blocks l r)
theorem Mm.lts (h : Mm S w W l r F) : ∀ b, mmS S w W l r b → b < W.heap.size := fun b hb => by
 rcases hb.1 with h1 | h1
 ·have := h.old b h1; have := h.size; omega
 ·exact h1.2
theorem Mm.call {G : World → (Nat → Prop) → Prop} (h : Mm S w W l r F) (hb : Below W.heap.size W W') (stG : Stable G) (hG : G W' (Grow (mmS S w W l r) W W')) : Mm S w W' l r (fun W S => F W S ∧ G W S) := by
 have h1 := h.step hb
 exact ⟨h1.st.and stG, h1.old, h1.bel, h1.box, h1.row, h1.dis, h1.fact, stG.grow hG h.size hb.size fun b hm => (h.lt hm).2⟩
theorem Mm.note {G : World → (Nat → Prop) → Prop} (h : Mm S w W l r F) (stG : Stable G) (hG : G W (mmS S w W l r)) : Mm S w W l r (fun W S => F W S ∧ G W S) := ⟨h.st.and stG, h.old, h.bel, h.box, h.row, h.dis, h.fact, hG⟩
theorem Mm.perm {l' : List Box} (h : Mm S w W l r F) (hp : l'.Perm l) : Mm S w W l' r F := by
 have hb : ∀ b, b ∈ blocks l' r ↔ b ∈ blocks l r := fun b => by
  rw [mem_blocks, mem_blocks]
  constructor
  ·rintro (⟨x, hx, e⟩ | h1)
   ·exact .inl ⟨x, hp.mem_iff.1 hx, e⟩
   ·exact .inr h1
  ·rintro (⟨x, hx, e⟩ | h1)
   ·exact .inl ⟨x, hp.mem_iff.2 hx, e⟩
   ·exact .inr h1
 refine ⟨h.st, h.old, h.bel, fun i x e => ?_, h.row, ?_, h.st.less h.fact fun b hx => (hb b).1 hx⟩
 ·obtain ⟨j, hj, hx⟩ := List.mem_iff_getElem.1 (hp.mem_iff.1 (List.mem_of_getElem? e))
  exact h.box j x (by rw [List.getElem?_eq_getElem hj, hx])
 ·have h1 : (blocks l' r).Perm (blocks l r) := (hp.map _).append_right _
  exact h1.nodup_iff.2 h.dis
theorem Mm.swap {x y : Box} (h : Mm S w W (x :: y :: l) r F) : Mm S w W (y :: x :: l) r F := h.perm (List.Perm.swap _ _ _)
theorem Mm.tail2 {x y : Box} (h : Mm S w W (x :: y :: l) r F) : Mm S w W (x :: l) r F := h.swap.tail
theorem Mm.boxRow {g ty size : Nat} {cs : Array Value} (h : Mm S w W (⟨g, ty, cs⟩ :: l) r F) (hs : cs.size = size) (hp : 0 < size) (hm : size ≤ maxLen) : Mm S w W l (⟨ty, size, some ⟨g, 0, none⟩, 1, 1, cs.toList⟩ :: r) F := by
 have hb := h.box 0 _ rfl
 have hp : (blocks l (⟨ty, size, some ⟨g, 0, none⟩, 1, 1, cs.toList⟩ :: r)).Perm (blocks (⟨g, ty, cs⟩ :: l) r) := by
  show (l.map Box.g ++ (g :: r.flatMap rowB)).Perm (g :: (l.map Box.g ++ r.flatMap rowB))
  exact List.perm_middle
 refine ⟨h.st, h.old, h.bel, fun i x e => h.box (i + 1) x e, fun i x e => ?_, hp.nodup_iff.2 h.dis, h.st.less h.fact fun b hx => hp.mem_iff.1 hx⟩
 cases i with
 | zero =>
  have e : some (Row.mk ty size (some ⟨g, 0, none⟩) 1 1 cs.toList) = some x := e
  injection e with e
  subst e
  refine ⟨by simpa using hs, .inr ⟨g, 1, cs, rfl, hb.2, hb.1, Nat.le_refl _, by decide, by simpa using hs, ?_⟩⟩
  rw [Nat.one_mul, List.take_of_length_le (by simpa using Nat.le_of_eq hs)]
 | succ i => exact h.row i x e
theorem Mm.grown (h : Mm S w W l r F) : F W (Grow S w W) := h.st.mono h.fact gs_grow
end
end Go.Proofs.Ytbmjiokjigkdnaa
namespace Go.Proofs.Ytbmjiokjigkdnaa
open Go.RowKit Go.Proofs.Ytbmjiokjigkdnaa.Top
structure Pv where
 of : Int
 p : Ov
 q : Ov
def Pv.arr (v : Pv) : Array Value := #[.int .i64 v.of, .int .i64 v.p.k, .int .i64 v.p.n, .slice v.p.L v.p.ln v.p.lc, .int .i64 v.p.e.k, .int .i64 v.p.e.old.k, .slice v.p.e.old.A v.p.e.old.n v.p.e.old.c, .slice v.p.e.old.K v.p.e.old.m v.p.e.old.d, .int .i64 v.p.e.new.k, .slice v.p.e.new.A v.p.e.new.n v.p.e.new.c, .slice v.p.e.new.K v.p.e.new.m v.p.e.new.d, .slice v.p.e.W v.p.e.wn v.p.e.wc, .slice v.p.e.K v.p.e.kn v.p.e.kc, .int .i64 v.p.e.lk, .slice v.p.e.O v.p.e.on v.p.e.oc, .int .i64 v.q.k, .int .i64 v.q.n, .slice v.q.L v.q.ln v.q.lc, .int .i64 v.q.e.k, .int .i64 v.q.e.old.k, .slice v.q.e.old.A v.q.e.old.n v.q.e.old.c, .slice v.q.e.old.K v.q.e.old.m v.q.e.old.d, .int .i64 v.q.e.new.k, .slice v.q.e.new.A v.q.e.new.n v.q.e.new.c, .slice v.q.e.new.K v.q.e.new.m v.q.e.new.d, .slice v.q.e.W v.q.e.wn v.q.e.wc, .slice v.q.e.K v.q.e.kn v.q.e.kc, .int .i64 v.q.e.lk, .slice v.q.e.O v.q.e.on v.q.e.oc]
def Pv.nil : Pv := ⟨0, Ov.nil, Ov.nil⟩
theorem Pv.arr_one (v : Pv) : ∀ u ∈ v.arr.toList, u.oneCell' = true := by
 have e : v.arr.toList = .int .i64 v.of :: (v.p.arr.toList ++ v.q.arr.toList) := rfl
 rw [e]
 intro u hu
 rcases List.mem_cons.1 hu with h | h
 ·subst h; rfl
 ·rcases List.mem_append.1 h with h | h
  ·exact v.p.arr_one u h
  ·exact v.q.arr_one u h
theorem prog_mixed : Try.prog.follows .mixedOrders = true := by kernel_rfl
theorem one_int : oneT Try.prog 3 = true := by kernel_rfl
theorem sz_int : (Try.prog.info? 3).map (·.size) = some 1 := by kernel_rfl
theorem one_u64 : oneT Try.prog 45 = true := by kernel_rfl
theorem sz_u64 : (Try.prog.info? 45).map (·.size) = some 1 := by kernel_rfl
theorem one_u8 : oneT Try.prog 5 = true := by kernel_rfl
theorem one_lT : oneT Try.prog 23 = true := by kernel_rfl
theorem sz_lT : (Try.prog.info? 23).map (·.size) = some 1 := by kernel_rfl
theorem one_lW : oneT Try.prog 26 = true := by kernel_rfl
theorem sz_lW : (Try.prog.info? 26).map (·.size) = some 1 := by kernel_rfl
theorem one_lK : oneT Try.prog 27 = true := by kernel_rfl
theorem sz_lK : (Try.prog.info? 27).map (·.size) = some 1 := by kernel_rfl
theorem one_lO : oneT Try.prog 28 = true := by kernel_rfl
theorem sz_lO : (Try.prog.info? 28).map (·.size) = some 1 := by kernel_rfl
theorem one_lU : oneT Try.prog 22 = true := by kernel_rfl
theorem sz_lU : (Try.prog.info? 22).map (·.size) = some 1 := by kernel_rfl
theorem sz_T : (Try.prog.info? 25).map (·.size) = some 3 := by kernel_rfl
theorem fo_T0 : foff Try.prog 25 0 = some 0 := by kernel_rfl
theorem fo_T1 : foff Try.prog 25 1 = some 1 := by kernel_rfl
theorem fo_T2 : foff Try.prog 25 2 = some 2 := by kernel_rfl
theorem zc_T : ((Try.prog.info? 25).bind (·.zero)).map (·.cells) = some (Tv.arr .nil) := by kernel_rfl
theorem ld_T {w : World} {b of : Nat} {cs : Array Value} (hs : cs.size = 3) (h : w.rangeAt b of cs.toList) : (loadVar 25 ⟨b, of, none⟩).run Try.prog w = .ok (.agg cs) w := ld_mid h Try.underlying25 rfl (by rw [hs]; exact sz_T)
theorem sz_E : (Try.prog.info? 30).map (·.size) = some 11 := by kernel_rfl
theorem fo_E0 : foff Try.prog 30 0 = some 0 := by kernel_rfl
theorem fo_E1 : foff Try.prog 30 1 = some 1 := by kernel_rfl
theorem fo_E2 : foff Try.prog 30 2 = some 4 := by kernel_rfl
theorem fo_E3 : foff Try.prog 30 3 = some 7 := by kernel_rfl
theorem fo_E4 : foff Try.prog 30 4 = some 8 := by kernel_rfl
theorem fo_E5 : foff Try.prog 30 5 = some 9 := by kernel_rfl
theorem fo_E6 : foff Try.prog 30 6 = some 10 := by kernel_rfl
theorem zc_E : ((Try.prog.info? 30).bind (·.zero)).map (·.cells) = some (Ev.arr .nil) := by kernel_rfl
theorem ld_E {w : World} {b of : Nat} {cs : Array Value} (hs : cs.size = 11) (h : w.rangeAt b of cs.toList) : (loadVar 30 ⟨b, of, none⟩).run Try.prog w = .ok (.agg cs) w := ld_mid h Try.underlying30 rfl (by rw [hs]; exact sz_E)
theorem sz_O : (Try.prog.info? 47).map (·.size) = some 14 := by kernel_rfl
theorem fo_O0 : foff Try.prog 47 0 = some 0 := by kernel_rfl
theorem fo_O1 : foff Try.prog 47 1 = some 1 := by kernel_rfl
theorem fo_O2 : foff Try.prog 47 2 = some 2 := by kernel_rfl
theorem fo_O3 : foff Try.prog 47 3 = some 3 := by kernel_rfl
theorem zc_O : ((Try.prog.info? 47).bind (·.zero)).map (·.cells) = some (Ov.arr .nil) := by kernel_rfl
theorem ld_O {w : World} {b of : Nat} {cs : Array Value} (hs : cs.size = 14) (h : w.rangeAt b of cs.toList) : (loadVar 47 ⟨b, of, none⟩).run Try.prog w = .ok (.agg cs) w := ld_mid h Try.underlying47 rfl (by rw [hs]; exact sz_O)
theorem sz_K : (Try.prog.info? 55).map (·.size) = some 12 := by kernel_rfl
theorem fo_K0 : foff Try.prog 55 0 = some 0 := by kernel_rfl
theorem fo_K1 : foff Try.prog 55 1 = some 1 := by kernel_rfl
theorem zc_K : ((Try.prog.info? 55).bind (·.zero)).map (·.cells) = some (Kv.arr .nil) := by kernel_rfl
theorem ld_K {w : World} {b of : Nat} {cs : Array Value} (hs : cs.size = 12) (h : w.rangeAt b of cs.toList) : (loadVar 55 ⟨b, of, none⟩).run Try.prog w = .ok (.agg cs) w := ld_mid h Try.underlying55 rfl (by rw [hs]; exact sz_K)
theorem sz_W : (Try.prog.info? 52).map (·.size) = some 4 := by kernel_rfl
theorem fo_W0 : foff Try.prog 52 0 = some 0 := by kernel_rfl
theorem fo_W1 : foff Try.prog 52 1 = some 1 := by kernel_rfl
theorem fo_W2 : foff Try.prog 52 2 = some 2 := by kernel_rfl
theorem fo_W3 : foff Try.prog 52 3 = some 3 := by kernel_rfl
theorem zc_W : ((Try.prog.info? 52).bind (·.zero)).map (·.cells) = some (wArr ⟨0, 0, 0, 0⟩) := by kernel_rfl
theorem ld_W {w : World} {b of : Nat} {cs : Array Value} (hs : cs.size = 4) (h : w.rangeAt b of cs.toList) : (loadVar 52 ⟨b, of, none⟩).run Try.prog w = .ok (.agg cs) w := ld_mid h Try.underlying52 rfl (by rw [hs]; exact sz_W)
theorem sz_P : (Try.prog.info? 82).map (·.size) = some 29 := by kernel_rfl
theorem fo_P0 : foff Try.prog 82 0 = some 0 := by kernel_rfl
theorem fo_P1 : foff Try.prog 82 1 = some 1 := by kernel_rfl
theorem fo_P2 : foff Try.prog 82 2 = some 15 := by kernel_rfl
theorem zc_P : ((Try.prog.info? 82).bind (·.zero)).map (·.cells) = some (Pv.arr .nil) := by kernel_rfl
theorem ld_P {w : World} {b of : Nat} {cs : Array Value} (hs : cs.size = 29) (h : w.rangeAt b of cs.toList) : (loadVar 82 ⟨b, of, none⟩).run Try.prog w = .ok (.agg cs) w := ld_mid h Try.underlying82 rfl (by rw [hs]; exact sz_P)
theorem fo_C0 : foff Try.prog 106 0 = some 0 := by kernel_rfl
theorem fo_C1 : foff Try.prog 106 1 = some 1 := by kernel_rfl
theorem fo_R0 : foff Try.prog 87 0 = some 0 := by kernel_rfl
theorem fo_R1 : foff Try.prog 87 1 = some 1 := by kernel_rfl
theorem fo_R2 : foff Try.prog 87 2 = some 2 := by kernel_rfl
theorem es_lT : esz Try.prog 23 = some 3 := by kernel_rfl
theorem is_lT : isSl Try.prog 23 = true := by kernel_rfl
theorem in_lT : (Try.prog.info? 25).map (fun i => (i.zero, i.size, i.bytes)) = some (some (.agg (Tv.arr .nil)), 3, 56) := by kernel_rfl
theorem ti_lT : TyI Try.prog 23 25 3 56 := by
 obtain ⟨i, hi, hz0, hz1, hz2⟩ := info_parts in_lT
 exact ⟨i, _, Try.underlying23, hi, hz0, hz1, hz2, rfl, by decide⟩
theorem es_lW : esz Try.prog 26 = some 4 := by kernel_rfl
theorem is_lW : isSl Try.prog 26 = true := by kernel_rfl
theorem in_lW : (Try.prog.info? 52).map (fun i => (i.zero, i.size, i.bytes)) = some (some (.agg (wArr ⟨0, 0, 0, 0⟩)), 4, 32) := by kernel_rfl
theorem ti_lW : TyI Try.prog 26 52 4 32 := by
 obtain ⟨i, hi, hz0, hz1, hz2⟩ := info_parts in_lW
 exact ⟨i, _, Try.underlying26, hi, hz0, hz1, hz2, rfl, by decide⟩
theorem es_lK : esz Try.prog 27 = some 12 := by kernel_rfl
theorem is_lK : isSl Try.prog 27 = true := by kernel_rfl
theorem in_lK : (Try.prog.info? 55).map (fun i => (i.zero, i.size, i.bytes)) = some (some (.agg (Kv.arr .nil)), 12, 208) := by kernel_rfl
theorem ti_lK : TyI Try.prog 27 55 12 208 := by
 obtain ⟨i, hi, hz0, hz1, hz2⟩ := info_parts in_lK
 exact ⟨i, _, Try.underlying27, hi, hz0, hz1, hz2, rfl, by decide⟩
theorem es_lO : esz Try.prog 28 = some 14 := by kernel_rfl
theorem is_lO : isSl Try.prog 28 = true := by kernel_rfl
theorem in_lO : (Try.prog.info? 47).map (fun i => (i.zero, i.size, i.bytes)) = some (some (.agg (Ov.arr .nil)), 14, 240) := by kernel_rfl
theorem ti_lO : TyI Try.prog 28 47 14 240 := by
 obtain ⟨i, hi, hz0, hz1, hz2⟩ := info_parts in_lO
 exact ⟨i, _, Try.underlying28, hi, hz0, hz1, hz2, rfl, by decide⟩
theorem es_lP : esz Try.prog 78 = some 29 := by kernel_rfl
theorem is_lP : isSl Try.prog 78 = true := by kernel_rfl
theorem in_lP : (Try.prog.info? 82).map (fun i => (i.zero, i.size, i.bytes)) = some (some (.agg (Pv.arr .nil)), 29, 488) := by kernel_rfl
theorem ti_lP : TyI Try.prog 78 82 29 488 := by
 obtain ⟨i, hi, hz0, hz1, hz2⟩ := info_parts in_lP
 exact ⟨i, _, Try.underlying78, hi, hz0, hz1, hz2, rfl, by decide⟩
section
variable {ρ : Operand → Value} {o : Oper} {w : World}
theorem rn_bs1 {P : Program} {t e size bytes : Nat} {x : Operand} {cs : Array Value} {g : Nat} (ht : TyI P t e size bytes) (hsm : size ≤ 1000) (ho : o.op = .buildSlice t 1 #[(0, x)]) (hx : (ρ x).cells = cs) (hs : cs.size = size) (hg : w.heap.size = g) :
  (execOp ρ o).run P w = .ok (.value (.slice (some ⟨g, 0, none⟩) 1 1)) (w.alloc (.cells cs e)) := by
 obtain ⟨i, z, hu, hi, hz, hsz, hby, hzs, hpos⟩ := ht
 exact rn_buildSlice ho hu hi hz (by rw [hsz]; omega) (by rw [hsz]; omega) (by rw [hsz]; exact fill_one hx hs (by simp)) hg
end
end Go.Proofs.Ytbmjiokjigkdnaa
namespace Go.Proofs.Ytbmjiokjigkdnaa
open Go.RowKit Go.Proofs.Ytbmjiokjigkdnaa.Top
structure Un (X : List Nat) (W0 W : World) : Prop where
 size : W0.heap.size ≤ W.heap.size
 at_ : ∀ b, b < W0.heap.size → b ∉ X → W.heap[b]? = W0.heap[b]?
section
variable {S : Nat → Prop} {w W W' W0 : World} {l : List Box} {r : List Row} {F : World → (Nat → Prop) → Prop} {X X' : List Nat}
theorem Un.refl (X : List Nat) (W : World) : Un X W W := ⟨Nat.le_refl _, fun _ _ _ => rfl⟩
theorem Un.trans (h : Un X W0 W) (h' : Un X' W W') (hx : ∀ b ∈ X', b ∈ X ∨ W0.heap.size ≤ b) : Un X W0 W' := ⟨Nat.le_trans h.size h'.size, fun b hb hn => (h'.at_ b (Nat.lt_of_lt_of_le hb h.size) fun hm => by
 rcases hx b hm with h1 | h1
 ·exact hn h1
 ·omega).trans (h.at_ b hb hn)⟩
theorem Un.of_below (h : Below W.heap.size W W') : Un [] W W' := ⟨h.size, fun b hb _ => h.block b hb⟩
theorem Un.of_only {bs : List Nat} (h : Only bs W W') : Un bs W W' := ⟨h.size, fun b hb hn => h.block b hb hn⟩
theorem Un.below (h : Un X W0 W) (hb : Below W.heap.size W W') : Un X W0 W' := h.trans (.of_below hb) fun b hb => by cases hb
def rows (r : List Row) : List Nat := r.flatMap rowB
theorem Mm.ub (M : Mm S w W l r F) (h : Un (rows r) W W') (i : Nat) {x : Box} (e : l[i]? = some x) : Blk W' x.g x.t x.cs := by
 have h1 := (M.box i x e).1
 refine (h.at_ x.g h1.lt fun hm => ?_).trans h1
 obtain ⟨y, hy, hb⟩ := List.mem_flatMap.1 hm
 obtain ⟨k, hk, rfl⟩ := List.mem_iff_getElem.1 hy
 exact (M.apart e).2 k _ (List.getElem?_eq_getElem hk) (mem_rowB.1 hb)
theorem Mm.ubx (M : Mm S w W l r F) {b : Nat} (h : Un (b :: rows r) W W') (i : Nat) {x : Box} (e : l[i]? = some x) (j : Nat) {y : Box} (e' : l[j]? = some y) (hy : y.g = b) (hij : Nat.beq i j = false) : Blk W' x.g x.t x.cs := by
 have h1 := (M.box i x e).1
 refine (h.at_ x.g h1.lt fun hm => ?_).trans h1
 rcases List.mem_cons.1 hm with hm | hm
 ·exact (M.apart e').1 i x (fun he => by subst he; rw [Nat.beq_refl] at hij; cases hij) e (hm.trans hy.symm)
 ·obtain ⟨z, hz, hb⟩ := List.mem_flatMap.1 hm
  obtain ⟨k, hk, rfl⟩ := List.mem_iff_getElem.1 hz
  exact (M.apart e).2 k _ (List.getElem?_eq_getElem hk) (mem_rowB.1 hb)
theorem Mm.uf (M : Mm S w W l r F) (h : Un (rows r) W W') : F W' (mmS S w W l r) := M.st.keep M.fact fun p hp => World.cell?_of_block (h.at_ p.block (M.lts _ hp) fun hm => hp.2 (List.mem_append.2 (.inr hm)))
theorem rows_in {i : Nat} {x : Row} (e : r[i]? = some x) : ∀ b ∈ rowB x, b ∈ rows r ∨ W0.heap.size ≤ b := fun b hb => .inl (List.mem_flatMap.2 ⟨x, List.mem_of_getElem? e, hb⟩)
end
section
variable {P : Program} {S : Nat → Prop} {w W W' W0 : World} {l : List Box} {r : List Row} {F : World → (Nat → Prop) → Prop}
variable {ops : Array Oper} {K : Act → World → Prop} {rest : List Oper} {o : Oper} {a : Act} {n : Nat} {f : Nat → Value}
theorem Mm.pushU (M : Mm S w W l r F) {ρ : Operand → Value} (i : Nat) {x : Row} (e : r[i]? = some x) {t bytes : Nat} (ht : TyI P t x.ty x.size bytes) {s y : Operand} (ho : o.op = .call { callee := .builtin .append, args := #[s, y], argTypes := #[t, t] }) (hs : ρ s = x.val)
  {A : Option Addr} {m c : Nat} (news : List Value) (hy : ρ y = .slice A m c) (hl : news.length = m * x.size) (hr : ∀ j u, news[j]? = some u → ∃ ad, A = some ad ∧ W.cell? (ad.add j) = some u) (h1 : ∀ u ∈ news, u.oneCell' = true)
  (hb : (x.n + m) * bytes ≤ 140737488355328) (h63 : x.n + m ≤ maxLen) :
  ∃ A' c' W', (execOp ρ o).run P W = .ok (.value (.slice A' (x.n + m) c')) W' ∧ Mm S w W' l (r.set i ⟨x.ty, x.size, A', x.n + m, c', x.xs ++ news⟩) F ∧ Un (rowB x) W W' ∧ (∀ b ∈ rowB ⟨x.ty, x.size, A', x.n + m, c', x.xs ++ news⟩, b ∈ rowB x ∨ W.heap.size ≤ b) := by
 obtain ⟨ti, z, hu, hti, hz, hsz, hby, hzs, hpos⟩ := ht
 obtain ⟨v', W', hrun, hown, hg, hat⟩ := run_append_any (P := P) W w.heap.size t o.type x.ty ti z x.size bytes hu hti hz hsz hby hzs hpos x.val x.n x.xs (M.row i x e) A m c news hl hr h1 h63 hb M.size
 obtain ⟨A', c', rfl, hle, hA⟩ := ownsRow_slice hown
 refine ⟨A', c', W', ?_, M.rowed i (y := ⟨x.ty, x.size, A', x.n + m, c', x.xs ++ news⟩) e hown hg (hat.imp id .inl), ⟨hg.size, fun b hb hn => hg.block b hb fun he => hn (mem_rowB.2 he.symm)⟩, fun b hb => ?_⟩
 ·unfold execOp
  simp only [ho, resolve, invoke, builtin, Sem.run_bind, Sem.run_pure, Result.andThen_ok, List.map_toArray, List.map_cons, List.map_nil, hs, hy, hrun]
 ·have hb := mem_rowB.1 hb
  rcases hat with h5 | h5
  ·exact .inl (mem_rowB.2 (h5 ▸ hb))
  ·have h6 : some W.heap.size = some b := h5.symm.trans hb
   injection h6 with h6
   exact .inr (by omega)
theorem Mm.stRowU (M : Mm S w W l r F) (i : Nat) {x : Row} (e : r[i]? = some x) {g : Nat} (hA : x.A = some ⟨g, 0, none⟩) {ty of : Nat} {v : Value} {vs : Array Value} (hv : v.cells = vs) (hi : (P.info? ty).map (·.size) = some vs.size) (h1 : ∀ u ∈ vs.toList, u.oneCell' = true) (hfit : of + vs.size ≤ x.xs.length) :
  ∃ W', (storeVar ty ⟨g, of, none⟩ v).run P W = .ok () W' ∧ Mm S w W' l (r.set i ⟨x.ty, x.size, x.A, x.n, x.c, splL x.xs of vs.toList⟩) F ∧ Un (rowB x) W W' := by
 have ho : W.ownsRow w.heap.size x.ty x.size (.slice x.A x.n x.c) x.n x.xs := M.row i x e
 have hx : x.val.ownBlock = some g := by show (Value.slice x.A x.n x.c).ownBlock = some g; rw [hA]; rfl
 rw [hA] at ho
 obtain ⟨h2, h3⟩ := ownsRow_setCells vs.toList of W x.xs ho (by simpa using hfit)
 refine ⟨W.setCells g of vs.toList, run_storeVar_cells hv (fun j hj => ⟨?_, ?_⟩) hi h1, M.rowed i e (by show World.ownsRow _ _ _ _ (.slice x.A x.n x.c) _ _; rw [hA]; exact h2) (by rw [hx]; exact h3.grownBy) (.inl rfl), ⟨h3.size, fun b hb hn => h3.block b hb fun hm => hn (mem_rowB.2 (by rw [List.mem_singleton.1 hm]; exact hx))⟩⟩
 ·have h5 := M.rowRange i e hA (of + j) [x.xs[of + j]'(by omega)] (fun k u hu => by
   cases k with
   | zero =>
    have hu : some (x.xs[of + j]'(by omega)) = some u := hu
    rw [← hu, Nat.add_zero, List.getElem?_eq_getElem]
   | succ k => cases hu)
  have h6 := h5 0 _ rfl
  rw [Nat.add_zero] at h6
  rw [h6]
  rfl
 ·have h7 := ho.2
  rcases h7 with ⟨hv', _⟩ | ⟨g', cap', cur, hv', _, hg, _⟩
  ·cases hv'
  ·injection hv' with h8
   injection h8 with h8
   injection h8 with h8
   subst h8
   exact Blk.frozen (t := x.ty) hg _
theorem Mm.stBox (M : Mm S w W l r F) (i : Nat) {x : Box} (e : l[i]? = some x) {ty of : Nat} {v : Value} {vs : Array Value} (hv : v.cells = vs) (hi : (P.info? ty).map (·.size) = some vs.size) (h1 : ∀ u ∈ vs.toList, u.oneCell' = true) (hfit : of + vs.size ≤ x.cs.size) :
  ∃ W', (storeVar ty ⟨x.g, of, none⟩ v).run P W = .ok () W' ∧ Mm S w W' (l.set i ⟨x.g, x.t, spl x.cs of vs⟩) r F ∧ Un [x.g] W W' := by
 obtain ⟨h2, h3, h4⟩ := st_blk (P := P) (M.box i x e).1 hv hi hfit h1
 exact ⟨_, h2, M.set i e h3 h4, .of_only h4⟩
theorem wlal {d g : Nat} {ty : TypeId} {cs : Array Value} {v : Value} (hF : Fr a n f) (M : Mm S w W l r F) (hg : W.heap.size = g) (hgd : o.guard = none) (hd : o.dst = some d) (hn : opIn n o = true) (hr : (execOp (Eo f) o).run P W = .ok (.value v) (W.alloc (.cells cs ty)))
  (k : ∀ W' a', Mm S w W' (⟨g, ty, cs⟩ :: l) r F → Fr a' n (sl f d v) → wpList P ops (Nm K) rest a' W') : wpList P ops (Nm K) (o :: rest) a W :=
 wlv hF hr hgd hd hn fun a' hF' => k _ a' (by subst hg; exact M.new (Blk.new W ty cs) ((Below.refl _ _).alloc (Nat.le_refl _) _) rfl) hF'
theorem wlap {d : Nat} (hF : Fr a n f) (M : Mm S w W l r F) (i : Nat) {x : Row} (e : r[i]? = some x) {t bytes : Nat} (ht : TyI P t x.ty x.size bytes) {s y : Operand} (hgd : o.guard = none) (hd : o.dst = some d) (hn : opIn n o = true) (ho : o.op = .call { callee := .builtin .append, args := #[s, y], argTypes := #[t, t] }) (hs : Eo f s = x.val)
  {A : Option Addr} {m c : Nat} (news : List Value) (hy : Eo f y = .slice A m c) (hl : news.length = m * x.size) (hr : ∀ j u, news[j]? = some u → ∃ ad, A = some ad ∧ W.cell? (ad.add j) = some u) (h1 : ∀ u ∈ news, u.oneCell' = true)
  (hb : (x.n + m) * bytes ≤ 140737488355328) (h63 : x.n + m ≤ maxLen)
  (k : ∀ A' c' W' a', Mm S w W' l (r.set i ⟨x.ty, x.size, A', x.n + m, c', x.xs ++ news⟩) F → Fr a' n (sl f d (.slice A' (x.n + m) c')) → wpList P ops (Nm K) rest a' W') : wpList P ops (Nm K) (o :: rest) a W := by
 obtain ⟨A', c', W', hrun, M', _, _⟩ := M.pushU (o := o) (ρ := Eo f) i e ht ho hs news hy hl hr h1 hb h63
 exact wlv hF hrun hgd hd hn fun a' hF' => k A' c' W' a' M' hF'
theorem wlst (hF : Fr a n f) (M : Mm S w W l r F) (i : Nat) {x : Box} (e : l[i]? = some x) {ty of : Nat} {v : Value} {vs : Array Value} {p y : Operand} (hgd : o.guard = none) (hd : o.dst = none) (hn : opIn n o = true) (ho : o.op = .store ty p y) (hp : Eo f p = .pointer (some ⟨x.g, of, none⟩)) (hy : Eo f y = v)
  (hv : v.cells = vs) (hi : (P.info? ty).map (·.size) = some vs.size) (h1 : ∀ u ∈ vs.toList, u.oneCell' = true) (hfit : of + vs.size ≤ x.cs.size)
  (k : ∀ W' a', Mm S w W' (l.set i ⟨x.g, x.t, spl x.cs of vs⟩) r F → Fr a' n f → wpList P ops (Nm K) rest a' W') : wpList P ops (Nm K) (o :: rest) a W := by
 obtain ⟨W', h2, M', _⟩ := M.stBox (P := P) i e hv hi h1 hfit
 subst hy
 exact wlu hF (rn_store ho hp h2) hgd hd hn fun a' hF' => k W' a' M' hF'
theorem wlsr (hF : Fr a n f) (M : Mm S w W l r F) (i : Nat) {x : Row} (e : r[i]? = some x) {g : Nat} (hA : x.A = some ⟨g, 0, none⟩) {ty of : Nat} {v : Value} {vs : Array Value} {p y : Operand} (hgd : o.guard = none) (hd : o.dst = none) (hn : opIn n o = true) (ho : o.op = .store ty p y) (hp : Eo f p = .pointer (some ⟨g, of, none⟩)) (hy : Eo f y = v)
  (hv : v.cells = vs) (hi : (P.info? ty).map (·.size) = some vs.size) (h1 : ∀ u ∈ vs.toList, u.oneCell' = true) (hfit : of + vs.size ≤ x.xs.length)
  (k : ∀ W' a', Mm S w W' l (r.set i ⟨x.ty, x.size, x.A, x.n, x.c, splL x.xs of vs.toList⟩) F → Fr a' n f → wpList P ops (Nm K) rest a' W') : wpList P ops (Nm K) (o :: rest) a W := by
 obtain ⟨W', h2, M', _⟩ := M.stRowU (P := P) i e hA hv hi h1 hfit
 subst hy
 exact wlu hF (rn_store ho hp h2) hgd hd hn fun a' hF' => k W' a' M' hF'
end
section
variable {P : Program} {S : Nat → Prop} {w W W' W0 : World} {l : List Box} {r : List Row} {F : World → (Nat → Prop) → Prop} {X : List Nat}
variable {ops : Array Oper} {K : Act → World → Prop} {o : Oper} {a : Act} {n : Nat} {f : Nat → Value} {fin : Nat → Bool} {fuel : Nat} {listed : Array Bool} {md : Region.Mode} {j : Nat}
theorem wgal {d g : Nat} {ty : TypeId} {cs : Array Value} {v : Value} (hF : Fr a n f) (M : Mm S w W l r F) (hU : Un X W0 W) (hg : W.heap.size = g) (hi : ops[j]? = some o) (hgd : o.guard = none) (hd : o.dst = some d) (hn : opIn n o = true) (hr : (execOp (Eo f) o).run P W = .ok (.value v) (W.alloc (.cells cs ty)))
  (k : ∀ W' a', Mm S w W' (⟨g, ty, cs⟩ :: l) r F → Un X W0 W' → W0.heap.size ≤ g → Fr a' n (sl f d v) → wpG P md ops (Nm K) (Un X W0) fin fuel (listed.setIfInBounds j true) a' W') : wpG1 P md ops (Nm K) (Un X W0) fin fuel listed j a W := by
 have hb : Below W.heap.size W (W.alloc (.cells cs ty)) := (Below.refl _ _).alloc (Nat.le_refl _) _
 exact gv1 hF hr hi hgd hd hn (fun _ => hU.below hb) fun a' hF' => k _ a' (by subst hg; exact M.new (Blk.new W ty cs) hb rfl) (hU.below hb) (by rw [← hg]; exact hU.size) hF'
theorem wgap {d : Nat} (hF : Fr a n f) (M : Mm S w W l r F) (hU : Un X W0 W) (i : Nat) {x : Row} (e : r[i]? = some x) (hX : ∀ b ∈ rowB x, b ∈ X ∨ W0.heap.size ≤ b) {t bytes : Nat} (ht : TyI P t x.ty x.size bytes) {s y : Operand} (hj : ops[j]? = some o) (hgd : o.guard = none) (hd : o.dst = some d) (hn : opIn n o = true) (ho : o.op = .call { callee := .builtin .append, args := #[s, y], argTypes := #[t, t] }) (hs : Eo f s = x.val)
  {A : Option Addr} {m c : Nat} (news : List Value) (hy : Eo f y = .slice A m c) (hl : news.length = m * x.size) (hr : ∀ j u, news[j]? = some u → ∃ ad, A = some ad ∧ W.cell? (ad.add j) = some u) (h1 : ∀ u ∈ news, u.oneCell' = true)
  (hb : (x.n + m) * bytes ≤ 140737488355328) (h63 : x.n + m ≤ maxLen)
  (k : ∀ A' c' W' a', Mm S w W' l (r.set i ⟨x.ty, x.size, A', x.n + m, c', x.xs ++ news⟩) F → Un X W0 W' → (∀ b ∈ rowB ⟨x.ty, x.size, A', x.n + m, c', x.xs ++ news⟩, b ∈ X ∨ W0.heap.size ≤ b) → Fr a' n (sl f d (.slice A' (x.n + m) c')) → wpG P md ops (Nm K) (Un X W0) fin fuel (listed.setIfInBounds j true) a' W') :
  wpG1 P md ops (Nm K) (Un X W0) fin fuel listed j a W := by
 obtain ⟨A', c', W', hrun, M', hU', hx'⟩ := M.pushU (o := o) (ρ := Eo f) i e ht ho hs news hy hl hr h1 hb h63
 have hU2 := hU.trans hU' hX
 exact gv1 hF hrun hj hgd hd hn (fun _ => hU2) fun a' hF' => k A' c' W' a' M' hU2 (fun b hb => by
  rcases hx' b hb with h5 | h5
  ·exact hX b h5
  ·have := hU.size; exact .inr (by omega)) hF'
theorem wgst (hF : Fr a n f) (M : Mm S w W l r F) (i : Nat) {x : Box} (e : l[i]? = some x) {ty of : Nat} {v : Value} {vs : Array Value} {p y : Operand} (hfin : finL fin (listed.setIfInBounds j true) = true) (hj : ops[j]? = some o) (hgd : o.guard = none) (hd : o.dst = none) (hn : opIn n o = true) (ho : o.op = .store ty p y) (hp : Eo f p = .pointer (some ⟨x.g, of, none⟩)) (hy : Eo f y = v)
  (hv : v.cells = vs) (hi : (P.info? ty).map (·.size) = some vs.size) (h1 : ∀ u ∈ vs.toList, u.oneCell' = true) (hfit : of + vs.size ≤ x.cs.size)
  (k : ∀ W' a', Mm S w W' (l.set i ⟨x.g, x.t, spl x.cs of vs⟩) r F → Fr a' n f → wpG P md ops (Nm K) (Un X W0) fin fuel (listed.setIfInBounds j true) a' W') : wpG1 P md ops (Nm K) (Un X W0) fin fuel listed j a W := by
 obtain ⟨W', h2, M', _⟩ := M.stBox (P := P) i e hv hi h1 hfit
 subst hy
 exact gu1 hF (rn_store ho hp h2) hj hgd hd hn (fun h => by rw [hfin] at h; cases h) fun a' hF' => k W' a' M' hF'
theorem wgsn (hF : Fr a n f) (M : Mm S w W l r F) (hU : Un X W0 W) (i : Nat) {x : Box} (e : l[i]? = some x) (hge : W0.heap.size ≤ x.g) {ty of : Nat} {v : Value} {vs : Array Value} {p y : Operand} (hj : ops[j]? = some o) (hgd : o.guard = none) (hd : o.dst = none) (hn : opIn n o = true) (ho : o.op = .store ty p y) (hp : Eo f p = .pointer (some ⟨x.g, of, none⟩)) (hy : Eo f y = v)
  (hv : v.cells = vs) (hi : (P.info? ty).map (·.size) = some vs.size) (h1 : ∀ u ∈ vs.toList, u.oneCell' = true) (hfit : of + vs.size ≤ x.cs.size)
  (k : ∀ W' a', Mm S w W' (l.set i ⟨x.g, x.t, spl x.cs of vs⟩) r F → Un X W0 W' → Fr a' n f → wpG P md ops (Nm K) (Un X W0) fin fuel (listed.setIfInBounds j true) a' W') : wpG1 P md ops (Nm K) (Un X W0) fin fuel listed j a W := by
 obtain ⟨W', h2, M', hU'⟩ := M.stBox (P := P) i e hv hi h1 hfit
 subst hy
 have hU2 := hU.trans hU' fun b hb => .inr (by rw [List.mem_singleton.1 hb]; exact hge)
 exact gu1 hF (rn_store ho hp h2) hj hgd hd hn (fun _ => hU2) fun a' hF' => k W' a' M' hU2 hF'
theorem wgsx (hF : Fr a n f) (M : Mm S w W l r F) (hU : Un X W0 W) (i : Nat) {x : Box} (e : l[i]? = some x) (hX : x.g ∈ X) {ty of : Nat} {v : Value} {vs : Array Value} {p y : Operand} (hj : ops[j]? = some o) (hgd : o.guard = none) (hd : o.dst = none) (hn : opIn n o = true) (ho : o.op = .store ty p y) (hp : Eo f p = .pointer (some ⟨x.g, of, none⟩)) (hy : Eo f y = v)
  (hv : v.cells = vs) (hi : (P.info? ty).map (·.size) = some vs.size) (h1 : ∀ u ∈ vs.toList, u.oneCell' = true) (hfit : of + vs.size ≤ x.cs.size)
  (k : ∀ W' a', Mm S w W' (l.set i ⟨x.g, x.t, spl x.cs of vs⟩) r F → Un X W0 W' → Fr a' n f → wpG P md ops (Nm K) (Un X W0) fin fuel (listed.setIfInBounds j true) a' W') : wpG1 P md ops (Nm K) (Un X W0) fin fuel listed j a W := by
 obtain ⟨W', h2, M', hU'⟩ := M.stBox (P := P) i e hv hi h1 hfit
 subst hy
 have hU2 := hU.trans hU' fun b hb => .inl (by rw [List.mem_singleton.1 hb]; exact hX)
 exact gu1 hF (rn_store ho hp h2) hj hgd hd hn (fun _ => hU2) fun a' hF' => k W' a' M' hU2 hF'
theorem gsrf (hF : Fr a n f) (M : Mm S w W l r F) (i : Nat) {x : Row} (e : r[i]? = some x) {g : Nat} (hA : x.A = some ⟨g, 0, none⟩) {ty of : Nat} {v : Value} {vs : Array Value} {p y : Operand} (hfin : finL fin (listed.setIfInBounds j true) = true) (hj : ops[j]? = some o) (hgd : o.guard = none) (hd : o.dst = none) (hn : opIn n o = true) (ho : o.op = .store ty p y) (hp : Eo f p = .pointer (some ⟨g, of, none⟩)) (hy : Eo f y = v)
  (hv : v.cells = vs) (hi : (P.info? ty).map (·.size) = some vs.size) (h1 : ∀ u ∈ vs.toList, u.oneCell' = true) (hfit : of + vs.size ≤ x.xs.length)
  (k : ∀ W' a', Mm S w W' l (r.set i ⟨x.ty, x.size, x.A, x.n, x.c, splL x.xs of vs.toList⟩) F → Fr a' n f → wpG P md ops (Nm K) (Un X W0) fin fuel (listed.setIfInBounds j true) a' W') : wpG1 P md ops (Nm K) (Un X W0) fin fuel listed j a W := by
 obtain ⟨W', h2, M', _⟩ := M.stRowU (P := P) i e hA hv hi h1 hfit
 subst hy
 exact gu1 hF (rn_store ho hp h2) hj hgd hd hn (fun h => by rw [hfin] at h; cases h) fun a' hF' => k W' a' M' hF'
theorem Mm.drew' (M : Mm S w W l r F) : ∀ W', W' = W.drew → Mm S w W' l r F := fun _ h => by subst h; exact M.drew
end
theorem pos_app (xs ys : List Value) (h : 0 < ys.length) : 0 < (xs ++ ys).length := by rw [List.length_append]; omega
theorem Un.nil {X : List Nat} {W0 W W' : World} (h : Un X W0 W) (h' : Un [] W W') : Un X W0 W' := h.trans h' fun b hb => by cases hb
theorem edP_mm {P : Program} {S : Nat → Prop} {w W : World} {l : List Box} {r : List Row} {F : World → (Nat → Prop) → Prop} {g : FuncId} {xs : Array Value} {d : Ed} (M : Mm S w W l r F) (hc : Calls P g xs W (EdP d (mmS S w W l r) W)) :
  Calls P g xs W fun e W' => ∃ v : Ev, e = .returned (.agg v.arr) ∧ Mm S w W' l r (fun W S => F W S ∧ EdAt W S d v) ∧ Un [] W W' :=
 hc.mono fun e W' ⟨v, he, hb, h⟩ => ⟨v, he, M.call hb (stable_ed _ _) h, .of_below hb⟩
theorem opP_mm {P : Program} {S : Nat → Prop} {w W : World} {l : List Box} {r : List Row} {F : World → (Nat → Prop) → Prop} {g : FuncId} {xs : Array Value} {d : Opn} (M : Mm S w W l r F) (hc : Calls P g xs W (OpP d (mmS S w W l r) W)) :
  Calls P g xs W fun e W' => ∃ v : Ov, e = .returned (.agg v.arr) ∧ Mm S w W' l r (fun W S => F W S ∧ OpAt W S d v) ∧ Un [] W W' :=
 hc.mono fun e W' ⟨v, he, hb, h⟩ => ⟨v, he, M.call hb (stable_op _ _) h, .of_below hb⟩
theorem norm_mm {S : Nat → Prop} {w W : World} {l : List Box} {r : List Row} {F : World → (Nat → Prop) → Prop} {t : T} {v : Tv} (M : Mm S w W l r F) (h : TreeAt W (mmS S w W l r) t v) :
  Calls Try.prog 21 #[.agg v.arr] W fun e W' => ∃ v' : Tv, e = .returned (.agg v'.arr) ∧ Mm S w W' l r (fun W S => F W S ∧ TreeAt W S (norm t) v') ∧ Un [] W W' :=
 (norm_any _ t v _ W (Nat.le_refl _) h M.lts).mono fun e W' ⟨v', he, ht, hb⟩ => ⟨v', he, M.call hb (stable_tree _ _) (ht.mono fun b hb => .inr hb), .of_below hb⟩
theorem KidsAt.rng {w : World} {S : Nat → Prop} {K : Option Addr} {m d : Nat} {ks : List T} {kv : List Tv} (h : KidsAt w S K m d ks kv) {i : Nat} (hi : i < ks.length) :
  ∃ b o v, K = some ⟨b, o, none⟩ ∧ S b ∧ w.rangeAt b (o + i * 3) (Tv.arr v).toList ∧ TreeAt w S ks[i] v := by
 have hi' : i < kv.length := by rw [h.kvl]; exact hi
 obtain ⟨e0, e1, e2⟩ := kidCells_at kv i hi'
 obtain ⟨b, o, e, hb, hc⟩ := h.read.all (by rw [kidCells_len]; omega)
 refine ⟨b, o, kv[i], e, hb, fun j u hu => ?_, h.kid i hi hi'⟩
 rw [Nat.add_assoc]
 match j, hu with
 | 0, hu => exact hc _ _ (e0.trans hu)
 | 1, hu => exact hc _ _ (e1.trans hu)
 | 2, hu => exact hc _ _ (e2.trans hu)
theorem wlp {P : Program} {Q : Exit → Act → World → Prop} {a : Act} {w : World} {c : Code} (I : Nat → Act → World → Prop) (n₀ : Nat) (h₀ : I n₀ a w)
  (round : ∀ n a w, I n a w → c.wp P (Exit.then (fun a' w' => ∃ n', n' < n ∧ I n' a' w') Q) a w) : (Code.loop c).wp P Q a w := wp_loop_ghost I n₀ h₀ round
theorem leb {a b : Nat} (h : Nat.ble a b = true) : a ≤ b := Nat.le_of_ble_eq_true h
theorem fin_no {fin : Nat → Bool} {listed : Array Bool} {p : Prop} (h : finL fin listed = true) : finL fin listed = false → p := fun h' => by rw [h] at h'; cases h'
def NmR (K R : Act → World → Prop) : Exit → Act → World → Prop
 | .normal, a, w => K a w
 | .ret, a, w => R a w
 | _, _, _ => False
theorem wp_cut {P : Program} {c : Code} {Q : Exit → Act → World → Prop} {a : Act} {w : World} (K : Act → World → Prop) (h : c.wp P (NmR K (Q .ret)) a w) (hK : ∀ a w, K a w → Q .normal a w) : c.wp P Q a w :=
 wp_mono h fun e a w hq => by
  cases e with
  | normal => exact hK a w hq
  | ret => exact hq
  | _ => exact hq.elim
end Go.Proofs.Ytbmjiokjigkdnaa
namespace Go.Proofs.Ytbmjiokjigkdnaa
open Go.RowKit Go.Proofs.Ytbmjiokjigkdnaa.Top
theorem fill28 (z0 z1 z2 z3 z4 z5 z6 z7 z8 z9 z10 z11 z12 z13 z14 z15 z16 z17 z18 z19 z20 z21 z22 z23 z24 z25 z26 z27 : Value) (v u : Ov) : Instr.fill (fun i => some (i * 14, 14)) #[z0, z1, z2, z3, z4, z5, z6, z7, z8, z9, z10, z11, z12, z13, z14, z15, z16, z17, z18, z19, z20, z21, z22, z23, z24, z25, z26, z27] [(0, .agg v.arr), (1, .agg u.arr)] = some (v.arr ++ u.arr) := by kernel_rfl
end Go.Proofs.Ytbmjiokjigkdnaa
