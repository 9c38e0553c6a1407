/-
  Part H of the proofs of TopAssociates and TopConverse.
-/
import Derived.Test.YtbmjiokjigkdnaaZD
import Derived.Test.YtbmjiokjigkdnaaZG
set_option linter.unusedVariables false
set_option linter.unusedSimpArgs false
namespace Go.Proofs.Ytbmjiokjigkdnaa
open Go.RowKit Go.Proofs.Ytbmjiokjigkdnaa.Top
section
variable {P : Program} {ρ : Operand → Value} {o : Oper} {w : World}
theorem rn_leq {ty : TypeId} {x y : Operand} {k : IntKind} {i j : Int} {yt : TypeId} {b : Bool} (ho : o.op = .binOp .leq ty x y yt) (hx : ρ x = .int k i) (hy : ρ y = .int k j) (hb : decide (i ≤ j) = b) : (execOp ρ o).run P w = .ok (.value (.bool b)) w := by
 subst hb; unfold execOp; simp [ho, hx, hy, go_sem]
theorem u8_wrap {i : Nat} (h : i < 256) : IntKind.u8.wrap (i : Int) = i := by
 show ((i : Int) % 256) = i
 omega
theorem u8_bits (i : Nat) (h : i < 256) : (BitVec.ofInt 8 (i : Int)).toNat = i := by
 rw [BitVec.toNat_ofInt]
 omega
theorem rn_and8 {ty : TypeId} {x y : Operand} {i j : Int} {yt : TypeId} (ho : o.op = .binOp .and ty x y yt) (hx : ρ x = .int .u8 i) (hy : ρ y = .int .u8 j) (h1 : 0 ≤ i ∧ i ≤ 255) (h2 : 0 ≤ j ∧ j ≤ 255) : (execOp ρ o).run P w = .ok (.value (.int .u8 (mAnd i j))) w := by
 obtain ⟨i, rfl⟩ := Int.eq_ofNat_of_zero_le h1.1
 obtain ⟨j, rfl⟩ := Int.eq_ofNat_of_zero_le h2.1
 have h3 : i &&& j < 2 ^ 8 := Nat.and_lt_two_pow (n := 8) i (by omega)
 have h4 : IntKind.u8.wrap ((BitVec.ofInt 8 (i : Int) &&& BitVec.ofInt 8 (j : Int)).toNat : Int) = mAnd i j := by
  rw [BitVec.toNat_and, u8_bits i (by omega), u8_bits j (by omega), u8_wrap (by omega)]
  rfl
 unfold execOp
 simp only [ho, hx, hy, Sem.run_bind]
 simp [go_sem]
 exact h4
theorem rn_or8 {ty : TypeId} {x y : Operand} {i j : Int} {yt : TypeId} (ho : o.op = .binOp .or ty x y yt) (hx : ρ x = .int .u8 i) (hy : ρ y = .int .u8 j) (h1 : 0 ≤ i ∧ i ≤ 255) (h2 : 0 ≤ j ∧ j ≤ 255) : (execOp ρ o).run P w = .ok (.value (.int .u8 (mOr i j))) w := by
 obtain ⟨i, rfl⟩ := Int.eq_ofNat_of_zero_le h1.1
 obtain ⟨j, rfl⟩ := Int.eq_ofNat_of_zero_le h2.1
 have h3 : i ||| j < 2 ^ 8 := Nat.or_lt_two_pow (n := 8) (by omega) (by omega)
 have h4 : IntKind.u8.wrap ((BitVec.ofInt 8 (i : Int) ||| BitVec.ofInt 8 (j : Int)).toNat : Int) = mOr i j := by
  rw [BitVec.toNat_or, u8_bits i (by omega), u8_bits j (by omega), u8_wrap (by omega)]
  rfl
 unfold execOp
 simp only [ho, hx, hy, Sem.run_bind]
 simp [go_sem]
 exact h4
end
theorem mAnd_u8 {a b : Int} (h1 : 0 ≤ a ∧ a ≤ 255) (h2 : 0 ≤ b ∧ b ≤ 255) : 0 ≤ mAnd a b ∧ mAnd a b ≤ 255 := by
 have h3 : a.toNat &&& b.toNat < 2 ^ 8 := Nat.and_lt_two_pow (n := 8) _ (by omega)
 unfold mAnd
 omega
theorem mOr_u8 {a b : Int} (h1 : 0 ≤ a ∧ a ≤ 255) (h2 : 0 ≤ b ∧ b ≤ 255) : 0 ≤ mOr a b ∧ mOr a b ≤ 255 := by
 have h3 : a.toNat ||| b.toNat < 2 ^ 8 := Nat.or_lt_two_pow (n := 8) (by omega) (by omega)
 unfold mOr
 omega
theorem es_lU : esz Try.prog 22 = some 1 := by kernel_rfl
theorem is_lU : isSl Try.prog 22 = true := by kernel_rfl
theorem in_lU : (Try.prog.info? 45).map (fun i => (i.zero, i.size, i.bytes)) = some (some (.int .u64 0), 1, 8) := by kernel_rfl
theorem ti_lU : TyI Try.prog 22 45 1 8 := by
 obtain ⟨i, hi, hz0, hz1, hz2⟩ := info_parts in_lU
 exact ⟨i, _, Try.underlying22, hi, hz0, hz1, hz2, rfl, by decide⟩
section
variable {S : Nat → Prop} {w W W' : World} {l : List Box} {r : List Row} {F : World → (Nat → Prop) → Prop}
theorem Mm.newRow (h : Mm S w W l r F) (hb : Below W.heap.size W W') {ty size n c : Nat} {A : Option Addr} {xs : List Value} (ho : W'.ownsRow W.heap.size ty size (.slice A n c) n xs) : Mm S w W' l (⟨ty, size, A, n, c, xs⟩ :: r) F := by
 have h1 := h.step hb
 have hn : ∀ b, b ∈ rowB ⟨ty, size, A, n, c, xs⟩ → W.heap.size ≤ b := fun b hm => (ho.lt b (mem_rowB.1 hm)).1
 have hsub : ∀ b, b < W.heap.size → b ∈ blocks l (⟨ty, size, A, n, c, xs⟩ :: r) → b ∈ blocks l r := fun b hlt hx => by
  unfold blocks at hx ⊢
  rw [List.flatMap_cons] at hx
  rcases List.mem_append.1 hx with h5 | h5
  ·exact List.mem_append.2 (.inl h5)
  ·rcases List.mem_append.1 h5 with h6 | h6
   ·have := hn b h6; omega
   ·exact List.mem_append.2 (.inr h6)
 refine ⟨h.st, h.old, h1.bel, h1.box, fun i x e => ?_, ?_, ?_⟩
 ·cases i with
  | zero =>
   have e : some (Row.mk ty size A n c xs) = some x := e
   injection e with e
   subst e
   exact ownsRow_base ho h.size
  | succ i => exact h1.row i x e
 ·have hd := h.dis
  unfold blocks at hd ⊢
  rw [List.flatMap_cons]
  have d1 := List.nodup_append.1 hd
  have hl : ∀ b, b ∈ l.map Box.g → b < W.heap.size := fun b hb => (h.lt (List.mem_append.2 (.inl hb))).2
  have hr : ∀ b, b ∈ r.flatMap rowB → b < W.heap.size := fun b hb => (h.lt (List.mem_append.2 (.inr hb))).2
  refine List.nodup_append.2 ⟨d1.1, List.nodup_append.2 ⟨?_, d1.2.1, fun b hb c hc e => ?_⟩, fun b hb c hc e => ?_⟩
  ·unfold rowB
   cases A with
   | none => exact List.nodup_nil
   | some a => exact List.nodup_cons.2 ⟨fun h => (by cases h), List.nodup_nil⟩
  ·subst e
   have := hn b hb; have := hr b hc; omega
  ·subst e
   rcases List.mem_append.1 hc with h6 | h6
   ·have := hn b h6; have := hl b hb; omega
   ·exact d1.2.2 b hb b h6 rfl
 ·exact h.st.next h.fact h.old h.size hb.size (fun b hlt _ => hb.block b hlt) fun b hlt hx => hsub b hlt hx
theorem cloneW_mm {A : Option Addr} {n c : Nat} {ws : List Int} (M : Mm S w W l r F) (h : WordsAt W (mmS S w W l r) A n c ws) :
  Calls Try.prog 38 #[.slice A n c] W fun e W' => ∃ A' c', e = .returned (.slice A' ws.length c') ∧ Mm S w W' l (⟨45, 1, A', ws.length, c', ws.map (Value.int .u64)⟩ :: r) F ∧ Un [] W W' :=
 (cloneW_any A n c _ ws W h M.lts).mono fun _ _ ⟨hb, A', c', he, ho⟩ => ⟨A', c', he, M.newRow hb ho, .of_below hb⟩
theorem cloneK_mm {K : Option Addr} {m d : Nat} {ks : List T} {kv : List Tv} (M : Mm S w W l r F) (h : KidsAt W (mmS S w W l r) K m d ks kv) :
  Calls Try.prog 58 #[.slice K m d] W fun e W' => ∃ A' c', e = .returned (.slice A' ks.length c') ∧ Mm S w W' l (⟨25, 3, A', ks.length, c', kidCells kv⟩ :: r) F ∧ Un [] W W' := by
 have hm := h.len
 subst hm
 exact (cloneK_any K _ d _ ks kv W h M.lts).mono fun _ _ ⟨hb, A', c', he, ho⟩ => ⟨A', c', he, M.newRow hb ho, .of_below hb⟩
theorem word_mm {t : T} {v : Tv} {i : Int} (M : Mm S w W l r F) (h : TreeAt W (mmS S w W l r) t v) :
  Calls Try.prog 56 #[.agg v.arr, .int .i64 i] W fun e W' => e = .returned (.int .u64 (wordT t i)) ∧ Mm S w W' l r F ∧ Un [] W W' :=
 (word_any t v i _ W h M.lts).mono fun _ _ ⟨he, hb⟩ => ⟨he, M.step hb, .of_below hb⟩
theorem kid_mm {t : T} {v : Tv} {i : Int} (M : Mm S w W l r F) (h : TreeAt W (mmS S w W l r) t v) :
  Calls Try.prog 57 #[.agg v.arr, .int .i64 i] W fun e W' => ∃ v' : Tv, e = .returned (.agg v'.arr) ∧ Mm S w W' l r (fun W S => F W S ∧ TreeAt W S (kidT t i) v') ∧ Un [] W W' :=
 (kid_any t v i _ W h M.lts).mono fun _ _ ⟨v', he, ht, hb⟩ => ⟨v', he, M.call hb (stable_tree _ _) (ht.mono fun b hb => .inl hb), .of_below hb⟩
theorem equal_mm {t u : T} {v v' : Tv} (M : Mm S w W l r F) (h : TreeAt W (mmS S w W l r) t v) (h' : TreeAt W (mmS S w W l r) u v') :
  Calls Try.prog 35 #[.agg v.arr, .agg v'.arr] W fun e W' => e = .returned (.bool (eqT t u)) ∧ Mm S w W' l r F ∧ Un [] W W' :=
 (equal_any _ t u v v' _ W (Nat.le_max_left _ _) (Nat.le_max_right _ _) h h' M.lts).mono fun _ _ ⟨he, hb⟩ => ⟨he, M.step hb, .of_below hb⟩
theorem oneP_mm {g : FuncId} {xs : Array Value} {d : Option T} (M : Mm S w W l r F) (hc : Calls Try.prog g xs W (OneP d (mmS S w W l r) W)) :
  Calls Try.prog g xs W fun e W' => ∃ v : Tv, e = .returned (.tuple #[.agg v.arr, .bool d.isSome]) ∧ Mm S w W' l r (fun W S => F W S ∧ ∀ u, d = some u → TreeAt W S u v) ∧ Un [] W W' :=
 hc.mono fun e W' ⟨v, he, hb, h⟩ => ⟨v, he, M.call hb ⟨fun h hk u hu => (h u hu).keep hk, fun h hS u hu => (h u hu).mono hS⟩ h, .of_below hb⟩
theorem edO_mm {g : FuncId} {xs : Array Value} {d : Option Ed} (M : Mm S w W l r F) (hc : Calls Try.prog g xs W (EdO d (mmS S w W l r) W)) :
  Calls Try.prog g xs W fun e W' => ∃ v : Ev, e = .returned (.tuple #[.agg v.arr, .bool d.isSome]) ∧ Mm S w W' l r (fun W S => F W S ∧ ∀ u, d = some u → EdAt W S u v) ∧ Un [] W W' :=
 hc.mono fun e W' ⟨v, he, hb, h⟩ => ⟨v, he, M.call hb ⟨fun h hk u hu => (h u hu).keep hk, fun h hS u hu => (h u hu).mono hS⟩ h, .of_below hb⟩
theorem mix_mm {a b m : Int} (M : Mm S w W l r F) (ha : inW a) (hb : inW b) (h0 : 0 ≤ m ∧ m ≤ 255) :
  Calls Try.prog 59 #[.int .u64 a, .int .u64 b, .int .u8 m] W fun e W' => e = .returned (.int .u64 (mixT a b m)) ∧ W = W' :=
 mix_top a b m ha.1 ha.2 hb.1 hb.2 h0.1 h0.2 W
theorem OneP.ret {d : Option T} {v : Tv} (M : Mm S w W l r F) (h : ∀ u, d = some u → TreeAt W (Grow S w W) u v) : OneP d S w (.returned (.tuple #[.agg v.arr, .bool d.isSome])) W := ⟨v, rfl, M.bel, h⟩
theorem EdO.ret {d : Option Ed} {v : Ev} (M : Mm S w W l r F) (h : ∀ u, d = some u → EdAt W (Grow S w W) u v) : EdO d S w (.returned (.tuple #[.agg v.arr, .bool d.isSome])) W := ⟨v, rfl, M.bel, h⟩
end
theorem stable_opt {α : Type} {F : α → World → (Nat → Prop) → Prop} (d : Option α) (h : ∀ u, Stable (F u)) : Stable fun W S => ∀ u, d = some u → F u W S := ⟨fun g hk u hu => (h u).keep (g u hu) hk, fun g hS u hu => (h u).mono (g u hu) hS⟩
section
variable {α : Type} (z : α)
theorem setPad_app : ∀ (l : List α) (n : Nat) (x : α), l.length ≤ n → setPad z (l ++ [z]) n x = setPad z l n x
 | [], 0, x, _ => rfl
 | [], n + 1, x, _ => rfl
 | y :: r, 0, x, h => by rw [List.length_cons] at h; omega
 | y :: r, n + 1, x, h => by
  rw [List.cons_append, setPad, setPad, setPad_app r n x (by rw [List.length_cons] at h; omega)]
theorem setPad_set : ∀ (l : List α) (n : Nat) (x : α), n < l.length → setPad z l n x = l.set n x
 | [], n, x, h => by simp at h
 | y :: r, 0, x, _ => rfl
 | y :: r, n + 1, x, h => by rw [setPad, setPad_set r n x (Nat.lt_of_succ_lt_succ h), List.set_cons_succ]
theorem setPad_len : ∀ (l : List α) (n : Nat) (x : α), (setPad z l n x).length = max l.length (n + 1)
 | [], 0, x => rfl
 | [], n + 1, x => by rw [setPad, List.length_cons, setPad_len [] n x, List.length_nil]; omega
 | y :: r, 0, x => by rw [setPad, List.length_cons, List.length_cons]; omega
 | y :: r, n + 1, x => by rw [setPad, List.length_cons, setPad_len r n x, List.length_cons]; omega
end
theorem WsAt.tail {W : World} {S : Nat → Prop} {A : Option Addr} {n c : Nat} {o : WE} {l : List WE} (h : WsAt W S A n c (o :: l)) : WsAt W S (fromA A c 1 4) l.length (c - 1) l := by
 have hl := h.len
 rw [List.length_cons] at hl
 have hc := h.row.cap
 have hm := h.row.capM
 have hf := h.row.few
 refine ⟨⟨?_, by omega, by omega, by omega, ?_, ?_⟩, fun x hx => h.in_ x (List.mem_cons_of_mem _ hx)⟩
 ·rw [wLen]
 ·unfold fromA
  split
  ·intro _; omega
  ·intro hA
   have : A = none := by cases A with | none => rfl | some a => cases hA
   have := h.row.nil this
   omega
 ·have e : wCellsL l = (wCellsL (o :: l)).drop (1 * 4) := flat_drop wCells 4 wCells_len (o :: l) 1
  rw [e]
  unfold fromA
  split
  ·have e2 : (wCellsL (o :: l)).drop (1 * 4) = [] := List.drop_eq_nil_of_le (by rw [wLen, List.length_cons]; omega)
   rw [e2]
   exact RdS.none_'
  ·exact h.row.read.drop _
theorem KsAt.tail {W : World} {S : Nat → Prop} {A : Option Addr} {n c : Nat} {o : KEd} {l : List KEd} {kv : List Kv} (h : KsAt W S A n c (o :: l) kv) : KsAt W S (fromA A c 1 12) l.length (c - 1) l (kv.drop 1) := by
 have hl := h.len
 rw [List.length_cons] at hl
 have hc := h.row.cap
 have hm := h.row.capM
 have hf := h.row.few
 have hov := h.kvl
 rw [List.length_cons] at hov
 have key : ∀ i (a : i < l.length) (b : i < (kv.drop 1).length), (kv.drop 1)[i].at_ = l[i].at_ ∧ EdAt W S l[i].e (kv.drop 1)[i].e := fun i a b => by
  have h1 := h.at_ (1 + i) (by rw [List.length_cons]; omega) (by rw [List.length_drop] at b; omega)
  have h2 := h.kid (1 + i) (by rw [List.length_cons]; omega) (by rw [List.length_drop] at b; omega)
  have e : (o :: l)[1 + i]'(by rw [List.length_cons]; omega) = l[i] := by simp [Nat.add_comm 1 i]
  rw [e] at h1 h2
  rw [List.getElem_drop]
  exact ⟨h1, h2⟩
 refine ⟨by rw [List.length_drop]; omega, ⟨?_, by omega, by omega, by omega, ?_, ?_⟩, fun i a b => (key i a b).1, fun i a b => (key i a b).2⟩
 ·rw [kLen, List.length_drop, hov]; omega
 ·unfold fromA
  split
  ·intro _; omega
  ·intro hA
   have : A = none := by cases A with | none => rfl | some a => cases hA
   have := h.row.nil this
   omega
 ·have e : kCellsL (kv.drop 1) = (kCellsL kv).drop (1 * 12) := flat_drop Kv.cells 12 Kv.cells_len kv 1
  rw [e]
  unfold fromA
  split
  ·have e2 : (kCellsL kv).drop (1 * 12) = [] := List.drop_eq_nil_of_le (by rw [kLen]; omega)
   rw [e2]
   exact RdS.none_'
  ·exact h.row.read.drop _
end Go.Proofs.Ytbmjiokjigkdnaa
namespace Go.Proofs.Ytbmjiokjigkdnaa
open Go.RowKit Go.Proofs.Ytbmjiokjigkdnaa.Top
def structS (ws : List WE) (ks : List KEd) (t : T) : Option T := if t.kind = 1 then (wordsS t ws t.ws).bind fun w' => (kidsS t ks t.ks).map fun k' => .node 1 w' k' else none
theorem struct_eq {ws : List WE} {ks : List KEd} {tk : Int} {tws : List Int} {tks : List T} (h : tk = 1) : structS ws ks (.node tk tws tks) = (wordsS (.node tk tws tks) ws tws).bind fun w' => (kidsS (.node tk tws tks) ks tks).map fun k' => .node 1 w' k' := if_pos h
theorem flat_set {α : Type} (f : α → List Value) (c : Nat) (hf : ∀ x, (f x).length = c) : ∀ (l : List α) (k : Nat) (v : α), k < l.length → splL (l.flatMap f) (k * c) (f v) = (l.set k v).flatMap f
 | [], k, v, h => by simp at h
 | x :: r, 0, v, h => by
  rw [List.set_cons_zero, List.flatMap_cons, List.flatMap_cons, Nat.zero_mul]
  unfold splL
  rw [hf, List.take_zero, List.nil_append, Nat.zero_add, ← hf x, List.drop_left]
 | x :: r, k + 1, v, h => by
  rw [List.set_cons_succ, List.flatMap_cons, List.flatMap_cons, ← flat_set f c hf r k v (Nat.lt_of_succ_lt_succ h)]
  rw [show (k + 1) * c = (f x).length + k * c from by rw [hf, Nat.add_mul]; omega]
  have hl : k * c + (f v).length ≤ (r.flatMap f).length := by
   have h1 : (r.flatMap f).length = r.length * c := flat_len f c hf r
   have h2 : (k + 1) * c ≤ r.length * c := Nat.mul_le_mul_right _ (Nat.lt_of_succ_lt_succ h)
   rw [hf, h1]
   rw [Nat.add_mul] at h2
   omega
  unfold splL
  rw [List.take_length_add_append, show (f x).length + k * c + (f v).length = (f x).length + (k * c + (f v).length) from by omega, List.drop_length_add_append, List.append_assoc, List.append_assoc, List.append_assoc]
theorem kid_set (l : List Tv) (k : Nat) (v : Tv) (h : k < l.length) : splL (kidCells l) (k * 3) v.arr.toList = kidCells (l.set k v) := flat_set Tv.cells 3 (fun _ => rfl) l k v h
theorem word_set (l : List Int) (k : Nat) (v : Int) (h : k < l.length) : splL (l.map (Value.int .u64)) k (#[Value.int .u64 v] : Array Value).toList = (l.set k v).map (Value.int .u64) := by
 show splL _ _ [_] = _
 rw [splL_one _ _ _ (by rw [List.length_map]; exact h), List.map_set]
theorem kidT_bd {B : Nat} {t : T} (h : bdT B t) (i : Int) : bdT B (kidT t i) := by
 obtain ⟨k, ws, ks⟩ := t
 unfold kidT
 split
 ·cases hq : (T.node k ws ks).ks[i.toNat]? with
  | none => exact bdT_nil
  | some u => exact (bdT_iff.1 h).2.2 u (List.mem_of_getElem? hq)
 ·exact bdT_nil
theorem words_cons {t : T} {x : WE} {r : List WE} {o : List Int} (h : mixT 0 (wordT t x.at_) x.mask = x.old) : wordsS t (x :: r) o = wordsS t r (setPad 0 o x.at_.toNat (mixT (wordT t x.at_) x.new x.mask)) := by rw [wordsS, if_pos h]
theorem words_no {t : T} {x : WE} {r : List WE} {o : List Int} (h : mixT 0 (wordT t x.at_) x.mask ≠ x.old) : wordsS t (x :: r) o = none := by rw [wordsS, if_neg h]
theorem kids_cons {t : T} {x : KEd} {r : List KEd} {o : List T} : kidsS t (x :: r) o = (oneS x.e (kidT t x.at_)).bind fun k => kidsS t r (setPad nilT o x.at_.toNat k) := by cases x; rw [kidsS]; rfl
set_option maxHeartbeats 1000000 in
theorem struct_any (B C N : Nat) (hBC : B + C ≤ 1000000000) (hOne : OneH B C N) (k : Int) (old new : T) (ws : List WE) (ks : List KEd) (lk : Int) (ops : List Opn) (t : T) (ev : Ev) (tv : Tv) (S : Nat → Prop) (w : World)
  (hws : ∀ x ∈ ws, 0 ≤ x.at_ ∧ x.at_ ≤ 65534) (hks : ∀ x ∈ ks, 0 ≤ x.at_ ∧ x.at_ ≤ 65534 ∧ dE x.e ≤ N ∧ okE x.e ∧ neatE x.e ∧ bdE B x.e) (ht : bdT C t) (he : EdAt w S (.mk k old new ws ks lk ops) ev) (hT : TreeAt w S t tv) (hS : ∀ b, S b → b < w.heap.size) :
  Calls Try.prog 36 #[.agg ev.arr, .agg tv.arr] w (OneP (structS ws ks t) S w) := by
 obtain ⟨hk, hlk, ekv, eov, hp⟩ := he.parts
 have hwl := hp.ws.len
 have hkl := hp.ks.len
 have hwf := hp.ws.row.few
 have hkf := hp.ks.row.few
 have hwin := hp.ws.in_
 obtain ⟨tk, tws, tks⟩ := t
 have hkind : tv.k = tk := hT.kind.symm
 have htb := bdT_iff.1 ht
 have hu64 := hT.words.u64
 have hwd : ∀ i, inW (wordT (.node tk tws tks) i) := fun i => wordT_bd hT i
 obtain ⟨tkv, hkids⟩ := hT.kids
 have M := Mm.begin (F := fun W S => (EdParts W S old new ws ks ops ev ekv eov ∧ TreeAt W S (.node tk tws tks) tv) ∧ KidsAt W S tv.K tv.m tv.d tks tkv) hS (((stable_parts _ _ _ _ _ _ _ _).and (stable_tree _ _)).and (stable_kids _ _ _ _ _)) ⟨⟨hp, hT⟩, hkids⟩
 clear hkids hp he hT hk hlk
 refine calls_fr (xs := [.agg ev.arr, .agg tv.arr]) Try.func36 rfl Try.ntmps36 rfl (fun a hF => ?_)
 refine wrgs rfl ?_
 obtain ⟨bk1, hbk1⟩ : ∃ g, w.heap.size = g := ⟨_, rfl⟩
 refine wlal hF M hbk1 rfl rfl rfl (rn_box (cs := (Ev.arr ev)) rfl rfl hbk1) ?_; clear hF M a; intro W1 a M hF
 obtain ⟨bk2, hbk2⟩ : ∃ g, W1.heap.size = g := ⟨_, rfl⟩
 refine wlal hF M hbk2 rfl rfl rfl (rn_box (cs := (Tv.arr tv)) rfl rfl hbk2) ?_; clear hF M a; intro W2 a M hF
 obtain ⟨bk3, hbk3⟩ : ∃ g, W2.heap.size = g := ⟨_, rfl⟩
 refine wlal hF M hbk3 rfl rfl rfl (rn_alloc rfl zc_T hbk3) ?_; clear hF M a; intro W3 a M hF
 revert a; refine qm (.bool false) rfl ?_; intro a hF; refine wl0 ?_
 generalize bk3 = gr at *; generalize bk2 = gt at *; generalize bk1 = ge at *
 by_cases c1 : tk = 1
 ·skip
  refine wp_seq ?_
  refine wrgs rfl ?_; revert a; refine qf gt 0 fo_T0 rfl rfl ?_; refine qV (.int .i64 tv.k) (rn_load rfl rfl (ld_one one_int ((M.b 1 rfl).cell 0))) rfl ?_; refine qV (.bool false) (rn_neq rfl rfl rfl (by rw [hkind, c1]; rfl)) rfl ?_; intro a hF; refine wl0 ?_; refine cd_false hF rfl rfl (wp_skip (nm_then ?_))
  refine wp_seq (wp_cut (fun a W => ∃ (f : Nat → Value) (gn : Nat) (A1 : Option Addr) (c1' : Nat) (K2 : Option Addr) (d2 : Nat), Fr a 107 f ∧ f 2 = .pointer (some ⟨ge, 0, none⟩) ∧ f 3 = .pointer (some ⟨gt, 0, none⟩) ∧ f 4 = .pointer (some ⟨gr, 0, none⟩) ∧ f 6 = .pointer (some ⟨gn, 0, none⟩) ∧ Mm S w W (⟨gn, 25, (Tv.arr ⟨1, A1, tws.length, c1', K2, tks.length, d2⟩)⟩ :: ⟨gr, 25, (Tv.arr Tv.nil)⟩ :: ⟨gt, 25, (Tv.arr tv)⟩ :: ⟨ge, 30, (Ev.arr ev)⟩ :: []) (⟨25, 3, K2, tks.length, d2, kidCells tkv⟩ :: ⟨45, 1, A1, tws.length, c1', tws.map (Value.int .u64)⟩ :: []) (fun W S => (EdParts W S old new ws ks ops ev ekv eov ∧ TreeAt W S (.node tk tws tks) tv) ∧ TreesAt W S tks tkv)) ?_ ?_)
  ·skip
   refine wdr (Un (rows ([])) W3.drew) (fun i => Nat.beq i 8) prog_mixed ?_
   have M0 := M.drew' _ rfl
   generalize W3.drew = W4 at *
   have M := M0; have hU := Un.refl (rows ([])) W4
   revert a; refine qo 0 gt 1 fo_T1 hU rfl rfl (by kernel_rfl) ?_; refine qt 1 (.slice tv.A tv.n tv.c) rfl (fun W' hw => (rn_load rfl rfl (ld_one one_lU ((M0.ub hw 1 rfl).cell 1)))) hU rfl (by kernel_rfl) ?_; refine qo 3 gt 2 fo_T2 hU rfl rfl (by kernel_rfl) ?_; refine qt 4 (.slice tv.K tv.m tv.d) rfl (fun W' hw => (rn_load rfl rfl (ld_one one_lT ((M0.ub hw 1 rfl).cell 2)))) hU rfl (by kernel_rfl) ?_; intro a hF
   refine g2 (i := 2) (j := 7) (by kernel_rfl) ?_ ?_
   ·skip
    refine gc1 hF (rn_call1 (u := .slice tv.A tv.n tv.c) rfl rfl rfl Try.call38) (cloneW_mm M M.fact.1.2.words) rfl rfl rfl rfl ?_; clear hF a
    rintro e W5 ⟨A8, c8, rfl, M, hb⟩; replace hU := hU.nil hb; clear hb; refine ⟨_, rfl, fun _ => hU, ?_⟩; intro a hF
    refine g2 (i := 5) (j := 7) (by kernel_rfl) ?_ ?_
    ·skip
     refine gc1 hF (rn_call1 (u := .slice tv.K tv.m tv.d) rfl rfl rfl Try.call58) (cloneK_mm M M.fact.2) rfl rfl rfl rfl ?_; clear hF a
     rintro e W6 ⟨A9, c9, rfl, M, hb⟩; replace hU := hU.nil hb; clear hb; refine ⟨_, rfl, fun _ => hU, ?_⟩; intro a hF
     revert a; refine qp 6 (.agg (Tv.arr ⟨1, A8, tws.length, c8, A9, tks.length, c9⟩)) rfl (rn_build (cs := (Tv.arr ⟨1, A8, tws.length, c8, A9, tks.length, c9⟩)) rfl (by kernel_rfl)) hU rfl (by kernel_rfl) ?_; intro a hF; refine g1 (i := 7) (by kernel_rfl) ?_
     obtain ⟨bk4, hbk4⟩ : ∃ g, W6.heap.size = g := ⟨_, rfl⟩
     refine wgal hF M hU hbk4 rfl rfl rfl rfl (rn_alloc rfl zc_T hbk4) ?_; clear hF M hU a; intro W7 a M hU hgebk4 hF
     refine g1 (i := 8) (by kernel_rfl) ?_
     refine wgst hF M 0 rfl (vs := (Tv.arr ⟨1, A8, tws.length, c8, A9, tks.length, c9⟩)) (by kernel_rfl) rfl rfl rfl rfl rfl rfl rfl rfl sz_T (Tv.arr_one _) (leb rfl) ?_; clear hF M a; intro W8 a M hF
     refine wgd (by kernel_rfl) ?_ _
     exact ⟨_, bk4, A8, c8, A9, c9, hF, rfl, rfl, rfl, rfl, M.imp (((stable_parts _ _ _ _ _ _ _ _).and (stable_tree _ _)).and (stable_trees _ _)) fun h => ⟨h.1, h.2.trees⟩⟩
    ·skip
     obtain ⟨bk5, hbk5⟩ : ∃ g, W5.heap.size = g := ⟨_, rfl⟩
     refine wgal hF M hU hbk5 rfl rfl rfl rfl (rn_alloc rfl zc_T hbk5) ?_; clear hF M hU a; intro W9 a M hU hgebk5 hF
     refine g1 (i := 5) (by kernel_rfl) ?_
     refine gc1 hF (rn_call1 (u := .slice tv.K tv.m tv.d) rfl rfl rfl Try.call58) (cloneK_mm M M.fact.2) rfl rfl rfl rfl ?_; clear hF a
     rintro e W10 ⟨A9, c9, rfl, M, hb⟩; replace hU := hU.nil hb; clear hb; refine ⟨_, rfl, fun _ => hU, ?_⟩; intro a hF
     revert a; refine qp 6 (.agg (Tv.arr ⟨1, A8, tws.length, c8, A9, tks.length, c9⟩)) rfl (rn_build (cs := (Tv.arr ⟨1, A8, tws.length, c8, A9, tks.length, c9⟩)) rfl (by kernel_rfl)) hU rfl (by kernel_rfl) ?_; intro a hF; refine g1 (i := 8) (by kernel_rfl) ?_
     refine wgst hF M 0 rfl (vs := (Tv.arr ⟨1, A8, tws.length, c8, A9, tks.length, c9⟩)) (by kernel_rfl) rfl rfl rfl rfl rfl rfl rfl rfl sz_T (Tv.arr_one _) (leb rfl) ?_; clear hF M a; intro W11 a M hF
     refine wgd (by kernel_rfl) ?_ _
     exact ⟨_, bk5, A8, c8, A9, c9, hF, rfl, rfl, rfl, rfl, M.imp (((stable_parts _ _ _ _ _ _ _ _).and (stable_tree _ _)).and (stable_trees _ _)) fun h => ⟨h.1, h.2.trees⟩⟩
   ·skip
    obtain ⟨bk6, hbk6⟩ : ∃ g, W4.heap.size = g := ⟨_, rfl⟩
    refine wgal hF M hU hbk6 rfl rfl rfl rfl (rn_alloc rfl zc_T hbk6) ?_; clear hF M hU a; intro W12 a M hU hgebk6 hF
    refine g1 (i := 2) (by kernel_rfl) ?_
    refine gc1 hF (rn_call1 (u := .slice tv.A tv.n tv.c) rfl rfl rfl Try.call38) (cloneW_mm M M.fact.1.2.words) rfl rfl rfl rfl ?_; clear hF a
    rintro e W13 ⟨A8, c8, rfl, M, hb⟩; replace hU := hU.nil hb; clear hb; refine ⟨_, rfl, fun _ => hU, ?_⟩; intro a hF
    refine g1 (i := 5) (by kernel_rfl) ?_
    refine gc1 hF (rn_call1 (u := .slice tv.K tv.m tv.d) rfl rfl rfl Try.call58) (cloneK_mm M M.fact.2) rfl rfl rfl rfl ?_; clear hF a
    rintro e W14 ⟨A9, c9, rfl, M, hb⟩; replace hU := hU.nil hb; clear hb; refine ⟨_, rfl, fun _ => hU, ?_⟩; intro a hF
    revert a; refine qp 6 (.agg (Tv.arr ⟨1, A8, tws.length, c8, A9, tks.length, c9⟩)) rfl (rn_build (cs := (Tv.arr ⟨1, A8, tws.length, c8, A9, tks.length, c9⟩)) rfl (by kernel_rfl)) hU rfl (by kernel_rfl) ?_; intro a hF; refine g1 (i := 8) (by kernel_rfl) ?_
    refine wgst hF M 0 rfl (vs := (Tv.arr ⟨1, A8, tws.length, c8, A9, tks.length, c9⟩)) (by kernel_rfl) rfl rfl rfl rfl rfl rfl rfl rfl sz_T (Tv.arr_one _) (leb rfl) ?_; clear hF M a; intro W15 a M hF
    refine wgd (by kernel_rfl) ?_ _
    exact ⟨_, bk6, A8, c8, A9, c9, hF, rfl, rfl, rfl, rfl, M.imp (((stable_parts _ _ _ _ _ _ _ _).and (stable_tree _ _)).and (stable_trees _ _)) fun h => ⟨h.1, h.2.trees⟩⟩
  clear hF M a
  rintro a W ⟨f, gn, A1, c1', K2, d2, hF, hf2, hf3, hf4, hf6, M⟩
  replace hF := ((((hF.same (d := 2) hf2).same (d := 3) hf3).same (d := 4) hf4).same (d := 6) hf6)
  refine nm_then ?_
  refine wp_seq ?_
  refine wrgs rfl ?_; revert a; refine qf ge 7 fo_E3 rfl rfl ?_; refine qV (.slice ev.W ev.wn ev.wc) (rn_load rfl rfl (ld_one one_lW ((M.b 3 rfl).cell 7))) rfl ?_; refine qV (.int .i64 (↑ev.wn)) (rn_len rfl rfl is_lW) rfl ?_; refine qm (.int .i64 0) rfl ?_; intro a hF; refine wl0 ?_
  refine wp_block (wlp (fun n a W => ∃ (f : Nat → Value) (q : Nat) (out : List Int) (A : Option Addr) (c : Nat), Fr a 107 f ∧ f 2 = .pointer (some ⟨ge, 0, none⟩) ∧ f 3 = .pointer (some ⟨gt, 0, none⟩) ∧ f 4 = .pointer (some ⟨gr, 0, none⟩) ∧ f 6 = .pointer (some ⟨gn, 0, none⟩) ∧ f 26 = .slice ev.W ev.wn ev.wc ∧ f 27 = .int .i64 (↑ev.wn : Int) ∧ f 28 = .int .i64 (↑q : Int) ∧ q + n = ev.wn ∧ u64L out ∧ out.length ≤ 1000000000 + 65535 ∧ wordsS (.node tk tws tks) ws tws = wordsS (.node tk tws tks) (ws.drop q) out ∧ Mm S w W (⟨gn, 25, (Tv.arr ⟨1, A, out.length, c, K2, tks.length, d2⟩)⟩ :: ⟨gr, 25, (Tv.arr Tv.nil)⟩ :: ⟨gt, 25, (Tv.arr tv)⟩ :: ⟨ge, 30, (Ev.arr ev)⟩ :: []) (⟨25, 3, K2, tks.length, d2, (kidCells tkv)⟩ :: ⟨45, 1, A, out.length, c, (out.map (Value.int .u64))⟩ :: []) (fun W S => (EdParts W S old new ws ks ops ev ekv eov ∧ TreeAt W S (.node tk tws tks) tv) ∧ TreesAt W S tks tkv)) ev.wn ⟨_, 0, tws, A1, c1', hF, rfl, rfl, rfl, rfl, rfl, rfl, rfl, by omega, hu64, by omega, rfl, M⟩ ?_)
  clear hF M a
  rintro n a W ⟨f, q, out, A, c, hF, hf2, hf3, hf4, hf6, hfa, hfb, hfc, hq, hou, hol, hw, M⟩
  replace hF := (((((((hF.same (d := 2) hf2).same (d := 3) hf3).same (d := 4) hf4).same (d := 6) hf6).same (d := 26) hfa).same (d := 27) hfb).same (d := 28) hfc)
  by_cases hlt : q < ev.wn
  ·skip
   have hqk : q < ws.length := by omega
   have hin := hwin _ (List.getElem_mem hqk); have hat := hws _ (List.getElem_mem hqk)
   have hdr : ws.drop q = ws[q] :: ws.drop (q + 1) := List.drop_eq_getElem_cons hqk
   rw [hdr] at hw; clear hdr
   refine wrgs rfl ?_; revert a; refine qV (.bool true) (rn_lss rfl rfl rfl (decide_eq_true (show (↑q : Int) < ↑ev.wn by omega))) rfl ?_; intro a hF; refine wl0 ?_
   refine wp_seq (cd_true hF rfl rfl (wp_skip (nm_then ?_)))
   refine wp_seq (wp_block ?_)
   obtain ⟨bo, oo, hWe, hbo, hR⟩ := M.fact.1.1.ws.rng hqk; clear hbo
   rw [hWe] at hF
   generalize hx : ws[q] = x at *
   refine wrgs rfl ?_; revert a; refine qV (.pointer (some ⟨bo, oo + q * 4, none⟩)) (rn_index (b := bo) (of := oo) (q := oo + q * 4) rfl rfl rfl (by omega) es_lW (by rw [Int.toNat_natCast])) rfl ?_; refine qV (.agg (wArr x)) (rn_load rfl rfl (ld_W rfl hR)) rfl ?_; intro a hF
   obtain ⟨bk7, hbk7⟩ : ∃ g, W.heap.size = g := ⟨_, rfl⟩
   refine wlal hF M hbk7 rfl rfl rfl (rn_alloc rfl zc_W hbk7) ?_; clear hF M a; intro W21 a M hF
   refine wlst hF M 0 rfl (vs := (wArr x)) rfl rfl rfl rfl rfl rfl rfl sz_W (wArr_one _) (leb rfl) ?_; clear hF M a; intro W22 a M hF
   refine wl0 ?_
   clear hR
   generalize bk7 = gx at *
   refine wrgs rfl ?_; revert a; refine qV (.agg (Tv.arr tv)) (rn_load rfl rfl (ld_T rfl (M.b 3 rfl).whole)) rfl ?_; refine qf gx 0 fo_W0 rfl rfl ?_; refine qV (.int .i64 x.at_) (rn_load rfl rfl (ld_one one_int ((M.b 0 rfl).cell 0))) rfl ?_; intro a hF
   refine wlc hF (rn_call2 (u := .agg (Tv.arr tv)) (u' := .int .i64 x.at_) rfl rfl rfl rfl Try.call56) (word_mm M M.fact.1.2) rfl rfl rfl ?_; clear hF a
   rintro e9 W31 ⟨rfl, M, _⟩; refine ⟨_, rfl, ?_⟩; intro a hF
   revert a; refine qm (.int .u64 (wordT (.node tk tws tks) x.at_)) rfl ?_; intro a hF; refine wl0 ?_
   have hwx := hwd x.at_; generalize hgy : wordT (.node tk tws tks) x.at_ = y at *
   by_cases c2 : mixT 0 y x.mask = x.old
   ·skip
    refine wp_seq ?_
    refine wdrs (Un (rows (⟨25, 3, K2, tks.length, d2, (kidCells tkv)⟩ :: ⟨45, 1, A, out.length, c, (out.map (Value.int .u64))⟩ :: [])) W31.drew) (fun i => false) prog_mixed ?_
    have M0 := M.drew' _ rfl
    generalize W31.drew = W32 at *
    have M := M0; have hU := Un.refl (rows (⟨25, 3, K2, tks.length, d2, (kidCells tkv)⟩ :: ⟨45, 1, A, out.length, c, (out.map (Value.int .u64))⟩ :: [])) W32
    revert a; refine qx 0 (.int .u64 y) hU rfl (by kernel_rfl) ?_; refine qo 1 gx 1 fo_W1 hU rfl rfl (by kernel_rfl) ?_; refine qt 2 (.int .u8 x.mask) rfl (fun W' hw => (rn_load rfl rfl (ld_one one_u8 ((M0.ub hw 0 rfl).cell 1)))) hU rfl (by kernel_rfl) ?_; refine qo 4 gx 2 fo_W2 hU rfl rfl (by kernel_rfl) ?_; refine qt 5 (.int .u64 x.old) rfl (fun W' hw => (rn_load rfl rfl (ld_one one_u64 ((M0.ub hw 0 rfl).cell 2)))) hU rfl (by kernel_rfl) ?_; intro a hF; refine g1 (i := 3) (by kernel_rfl) ?_
    refine gc1 hF (rn_call3 (u := .int .u64 0) (u' := .int .u64 y) (u'' := .int .u8 x.mask) rfl rfl rfl rfl rfl Try.call59) (mix_mm M zero_in hwx ⟨hin.1, hin.2.1⟩) rfl rfl rfl rfl ?_; clear hF a
    rintro e9 W9 ⟨rfl, hw9⟩; replace hw9 := hw9.symm; subst hw9; refine ⟨_, rfl, fun _ => hU, ?_⟩; intro a hF
    revert a; refine qp 6 (.bool false) rfl (rn_neq rfl rfl rfl (by rw [c2]; exact bne_self_eq_false _)) hU rfl (by kernel_rfl) ?_; intro a hF; refine wgd (by kernel_rfl) ?_ _; refine cd_false hF rfl rfl (wp_skip (nm_then ?_))
    refine wp_seq (wp_block (wlp (fun m a W => ∃ (f : Nat → Value) (cur : List Int) (A' : Option Addr) (c' : Nat), Fr a 107 f ∧ f 2 = .pointer (some ⟨ge, 0, none⟩) ∧ f 3 = .pointer (some ⟨gt, 0, none⟩) ∧ f 4 = .pointer (some ⟨gr, 0, none⟩) ∧ f 6 = .pointer (some ⟨gn, 0, none⟩) ∧ f 26 = .slice (some ⟨bo, oo, none⟩) ev.wn ev.wc ∧ f 27 = .int .i64 (↑ev.wn : Int) ∧ f 28 = .int .i64 (↑q : Int) ∧ f 8 = .pointer (some ⟨gx, 0, none⟩) ∧ f 9 = .int .u64 y ∧ m = x.at_.toNat + 1 - cur.length ∧ u64L cur ∧ cur.length ≤ 1000000000 + 65535 ∧ (∀ v, setPad 0 out x.at_.toNat v = setPad 0 cur x.at_.toNat v) ∧ Mm S w W (⟨gx, 52, (wArr x)⟩ :: ⟨gn, 25, (Tv.arr ⟨1, A', cur.length, c', K2, tks.length, d2⟩)⟩ :: ⟨gr, 25, (Tv.arr Tv.nil)⟩ :: ⟨gt, 25, (Tv.arr tv)⟩ :: ⟨ge, 30, (Ev.arr ev)⟩ :: []) (⟨25, 3, K2, tks.length, d2, (kidCells tkv)⟩ :: ⟨45, 1, A', cur.length, c', (cur.map (Value.int .u64))⟩ :: []) (fun W S => (EdParts W S old new ws ks ops ev ekv eov ∧ TreeAt W S (.node tk tws tks) tv) ∧ TreesAt W S tks tkv)) _ ⟨_, out, A, c, hF, rfl, rfl, rfl, rfl, rfl, rfl, rfl, rfl, rfl, rfl, hou, hol, fun _ => rfl, M⟩ ?_))
    clear hF M a
    rintro m a W ⟨f, cur, A, c, hF, hf2, hf3, hf4, hf6, hfa, hfb, hfc, hf8, hf9, hm, hou, hol, hsp, M⟩
    replace hF := (((((((((hF.same (d := 2) hf2).same (d := 3) hf3).same (d := 4) hf4).same (d := 6) hf6).same (d := 26) hfa).same (d := 27) hfb).same (d := 28) hfc).same (d := 8) hf8).same (d := 9) hf9)
    by_cases c3 : (↑cur.length : Int) ≤ x.at_
    ·skip
     refine wp_seq ?_
     refine wrgs rfl ?_; revert a; refine qf gn 1 fo_T1 rfl rfl ?_; refine qV (.slice A cur.length c) (rn_load rfl rfl (ld_one one_lU ((M.b 1 rfl).cell 1))) rfl ?_; refine qV (.int .i64 (↑cur.length)) (rn_len rfl rfl is_lU) rfl ?_; refine qf gx 0 fo_W0 rfl rfl ?_; refine qV (.int .i64 x.at_) (rn_load rfl rfl (ld_one one_int ((M.b 0 rfl).cell 0))) rfl ?_; refine qV (.bool true) (rn_leq rfl rfl rfl (decide_eq_true c3)) rfl ?_; intro a hF; refine wl0 ?_; refine cd_true hF rfl rfl (wp_skip (nm_then ?_))
     refine wp_block ?_
     refine wrg rfl ?_; revert a; refine qf gn 1 fo_T1 rfl rfl ?_; refine qV (.slice A cur.length c) (rn_load rfl rfl (ld_one one_lU ((M.b 1 rfl).cell 1))) rfl ?_; intro a hF
     obtain ⟨bk8, hbk8⟩ : ∃ g, W.heap.size = g := ⟨_, rfl⟩
     refine wlal hF M hbk8 rfl rfl rfl (rn_bs1 (cs := #[.int .u64 0]) ti_lU (by decide) rfl rfl rfl hbk8) ?_; clear hF M a; intro W41 a M hF
     refine wlap hF M 1 rfl ti_lU rfl rfl rfl rfl rfl ([.int .u64 0]) rfl rfl (src_box (M.b 0 rfl)) (int_one _ _) (by show (cur.length + 1) * 8 ≤ _; omega) (by show cur.length + 1 ≤ _; unfold maxLen; omega) ?_; clear hF M a; intro A42 c42 W42 a M hF
     revert a; refine qf gn 1 fo_T1 rfl rfl ?_; intro a hF
     refine wlst hF M 2 rfl (vs := #[.slice A42 (cur.length + 1) c42]) rfl rfl rfl rfl rfl rfl rfl sz_lU (sl_one _ _ _) (leb rfl) ?_; clear hF M a; intro W43 a M hF
     refine wl0 ?_
     replace M := M.tail
     refine nm_block (nm_then ⟨m - 1, by omega, _, cur ++ [0], A42, c42, hF, rfl, rfl, rfl, rfl, rfl, rfl, rfl, rfl, rfl, by rw [List.length_append, List.length_singleton]; omega, ?_, by rw [List.length_append, List.length_singleton]; omega, fun v => by rw [hsp, setPad_app 0 cur _ _ (by omega)], ?_⟩)
     ·intro z hz
      rcases List.mem_append.1 hz with h9 | h9
      ·exact hou z h9
      ·rw [List.mem_singleton.1 h9]; exact ⟨by decide, by decide⟩
     ·rw [List.map_append, List.length_append]; exact M
    ·skip
     refine wp_seq ?_
     refine wrgs rfl ?_; revert a; refine qf gn 1 fo_T1 rfl rfl ?_; refine qV (.slice A cur.length c) (rn_load rfl rfl (ld_one one_lU ((M.b 1 rfl).cell 1))) rfl ?_; refine qV (.int .i64 (↑cur.length)) (rn_len rfl rfl is_lU) rfl ?_; refine qf gx 0 fo_W0 rfl rfl ?_; refine qV (.int .i64 x.at_) (rn_load rfl rfl (ld_one one_int ((M.b 0 rfl).cell 0))) rfl ?_; refine qV (.bool false) (rn_leq rfl rfl rfl (decide_eq_false c3)) rfl ?_; intro a hF; refine wl0 ?_; refine cd_false hF rfl rfl (wp_exit (ex_then (ex_then (ex_here ?_)))); refine nm_then ?_
     have hjl : x.at_.toNat < cur.length := by omega
     obtain ⟨ga, rfl⟩ : ∃ g, A = some ⟨g, 0, none⟩ := M.at0 1 rfl (by show 0 < (cur.map _).length; rw [List.length_map]; omega)
     refine wdr (Un (rows (⟨25, 3, K2, tks.length, d2, (kidCells tkv)⟩ :: ⟨45, 1, (some ⟨ga, 0, none⟩), cur.length, c, (cur.map (Value.int .u64))⟩ :: [])) W.drew) (fun i => Nat.beq i 11) prog_mixed ?_
     have M0 := M.drew' _ rfl
     generalize W.drew = W44 at *
     have M := M0; have hU := Un.refl (rows (⟨25, 3, K2, tks.length, d2, (kidCells tkv)⟩ :: ⟨45, 1, (some ⟨ga, 0, none⟩), cur.length, c, (cur.map (Value.int .u64))⟩ :: [])) W44
     revert a; refine qo 0 gn 1 fo_T1 hU rfl rfl (by kernel_rfl) ?_; refine qt 1 (.slice (some ⟨ga, 0, none⟩) cur.length c) rfl (fun W' hw => (rn_load rfl rfl (ld_one one_lU ((M0.ub hw 1 rfl).cell 1)))) hU rfl (by kernel_rfl) ?_; refine qo 2 gx 0 fo_W0 hU rfl rfl (by kernel_rfl) ?_; refine qt 3 (.int .i64 x.at_) rfl (fun W' hw => (rn_load rfl rfl (ld_one one_int ((M0.ub hw 0 rfl).cell 0)))) hU rfl (by kernel_rfl) ?_; refine qx 4 (.int .u64 y) hU rfl (by kernel_rfl) ?_; refine qo 5 gx 3 fo_W3 hU rfl rfl (by kernel_rfl) ?_; refine qt 6 (.int .u64 x.new) rfl (fun W' hw => (rn_load rfl rfl (ld_one one_u64 ((M0.ub hw 0 rfl).cell 3)))) hU rfl (by kernel_rfl) ?_; refine qo 7 gx 1 fo_W1 hU rfl rfl (by kernel_rfl) ?_; refine qt 8 (.int .u8 x.mask) rfl (fun W' hw => (rn_load rfl rfl (ld_one one_u8 ((M0.ub hw 0 rfl).cell 1)))) hU rfl (by kernel_rfl) ?_; intro a hF; refine g1 (i := 9) (by kernel_rfl) ?_
     refine gc1 hF (rn_call3 (u := .int .u64 y) (u' := .int .u64 x.new) (u'' := .int .u8 x.mask) rfl rfl rfl rfl rfl Try.call59) (mix_mm M hwx hin.2.2.2 ⟨hin.1, hin.2.1⟩) rfl rfl rfl rfl ?_; clear hF a
     rintro e9 W9 ⟨rfl, hw9⟩; replace hw9 := hw9.symm; subst hw9; refine ⟨_, rfl, fun _ => hU, ?_⟩; intro a hF
     revert a; refine qp 10 (.pointer (some ⟨ga, x.at_.toNat, none⟩)) rfl (rn_index (b := ga) (of := 0) (q := x.at_.toNat) rfl rfl rfl (by omega) es_lU (by omega)) hU rfl (by kernel_rfl) ?_; intro a hF; refine g1 (i := 11) (by kernel_rfl) ?_
     refine gsrf hF M 1 rfl rfl (vs := #[.int .u64 (mixT y x.new x.mask)]) (by kernel_rfl) rfl rfl rfl rfl rfl rfl rfl rfl sz_u64 (int_one _ _) (by show x.at_.toNat + 1 ≤ (cur.map _).length; rw [List.length_map]; omega) ?_; clear hF M a; intro W45 a M hF
     refine wgd (by kernel_rfl) ?_ _
     rw [word_set _ _ _ hjl] at M
     replace M := M.tail
     refine nm_block (nm_then ?_); refine wrg rfl ?_; revert a; refine qV (.int .i64 (↑(q + 1) : Int)) (rn_add (q := (↑(q + 1) : Int)) rfl rfl rfl (by omega) (by omega) (by omega)) rfl ?_; refine qm (.int .i64 (↑(q + 1) : Int)) rfl ?_; intro a hF; refine wl0 ?_; refine nm_then ⟨n - 1, by omega, _, q + 1, cur.set x.at_.toNat (mixT y x.new x.mask), some ⟨ga, 0, none⟩, c, hF, rfl, rfl, rfl, rfl, hWe.symm ▸ rfl, rfl, rfl, by omega, ?_, by rw [List.length_set]; exact hol, ?_, ?_⟩
     ·intro z hz
      rcases List.mem_or_eq_of_mem_set hz with h9 | h9
      ·exact hou z h9
      ·rw [h9]; exact mixT_in _ _ _
     ·rw [hw, words_cons (by rw [hgy]; exact c2), hgy, hsp, setPad_set 0 cur _ _ hjl]
     ·rw [List.length_set]; exact M
   ·skip
    refine wp_seq ?_
    refine wdrs (Un (rows (⟨25, 3, K2, tks.length, d2, (kidCells tkv)⟩ :: ⟨45, 1, A, out.length, c, (out.map (Value.int .u64))⟩ :: [])) W31.drew) (fun i => false) prog_mixed ?_
    have M0 := M.drew' _ rfl
    generalize W31.drew = W46 at *
    have M := M0; have hU := Un.refl (rows (⟨25, 3, K2, tks.length, d2, (kidCells tkv)⟩ :: ⟨45, 1, A, out.length, c, (out.map (Value.int .u64))⟩ :: [])) W46
    revert a; refine qx 0 (.int .u64 y) hU rfl (by kernel_rfl) ?_; refine qo 1 gx 1 fo_W1 hU rfl rfl (by kernel_rfl) ?_; refine qt 2 (.int .u8 x.mask) rfl (fun W' hw => (rn_load rfl rfl (ld_one one_u8 ((M0.ub hw 0 rfl).cell 1)))) hU rfl (by kernel_rfl) ?_; refine qo 4 gx 2 fo_W2 hU rfl rfl (by kernel_rfl) ?_; refine qt 5 (.int .u64 x.old) rfl (fun W' hw => (rn_load rfl rfl (ld_one one_u64 ((M0.ub hw 0 rfl).cell 2)))) hU rfl (by kernel_rfl) ?_; intro a hF; refine g1 (i := 3) (by kernel_rfl) ?_
    refine gc1 hF (rn_call3 (u := .int .u64 0) (u' := .int .u64 y) (u'' := .int .u8 x.mask) rfl rfl rfl rfl rfl Try.call59) (mix_mm M zero_in hwx ⟨hin.1, hin.2.1⟩) rfl rfl rfl rfl ?_; clear hF a
    rintro e9 W9 ⟨rfl, hw9⟩; replace hw9 := hw9.symm; subst hw9; refine ⟨_, rfl, fun _ => hU, ?_⟩; intro a hF
    revert a; refine qp 6 (.bool true) rfl (rn_neq rfl rfl rfl (bne_iff_ne.2 c2)) hU rfl (by kernel_rfl) ?_; intro a hF; refine wgd (by kernel_rfl) ?_ _; refine cd_true hF rfl rfl ?_; refine wrgs rfl ?_; revert a; refine qV (.agg (Tv.arr Tv.nil)) (rn_build (cs := (Tv.arr Tv.nil)) rfl (by kernel_rfl)) rfl ?_; intro a hF
    refine wlst hF M 2 rfl (vs := (Tv.arr Tv.nil)) rfl rfl rfl rfl rfl rfl rfl sz_T (Tv.arr_one _) (leb rfl) ?_; clear hF M a; intro W47 a M hF
    revert a; refine qm (.bool false) rfl ?_; intro a hF; refine wl0 ?_
    refine wp_ret (?_ : bodyPost _ _ _ .ret _ _)
    refine res_cell1 Try.results36 rfl rfl hF rfl (ld_T rfl (M.b 2 rfl).whole) ?_
    have hres : structS ws ks (.node tk tws tks) = none := by rw [struct_eq c1, hw, words_no (by rw [hgy]; exact c2)]; rfl
    rw [hres]
    exact OneP.ret (d := none) M (fun u hu => by cases hu)
  ·skip
   have hqe : q = ev.wn := by omega
   refine wrgs rfl ?_; revert a; refine qV (.bool false) (rn_lss rfl rfl rfl (decide_eq_false (show ¬ (↑q : Int) < ↑ev.wn by omega))) rfl ?_; intro a hF; refine wl0 ?_
   refine wp_seq (cd_false hF rfl rfl (wp_exit (ex_then (ex_then (ex_here ?_)))))
   refine nm_then ?_
   rw [hqe, hwl, List.drop_length] at hw; clear hqe hq hlt
   have hw : wordsS (.node tk tws tks) ws tws = some out := by rw [hw, wordsS]
   refine wp_seq ?_
   refine wrgs rfl ?_; revert a; refine qf ge 8 fo_E4 rfl rfl ?_; refine qV (.slice ev.K ev.kn ev.kc) (rn_load rfl rfl (ld_one one_lK ((M.b 3 rfl).cell 8))) rfl ?_; refine qV (.int .i64 (↑ev.kn)) (rn_len rfl rfl is_lK) rfl ?_; refine qm (.int .i64 0) rfl ?_; intro a hF; refine wl0 ?_
   refine wp_block (wlp (fun n a W => ∃ (f : Nat → Value) (q : Nat) (kout : List T) (kvo : List Tv) (A' : Option Addr) (c' : Nat), Fr a 107 f ∧ f 2 = .pointer (some ⟨ge, 0, none⟩) ∧ f 3 = .pointer (some ⟨gt, 0, none⟩) ∧ f 4 = .pointer (some ⟨gr, 0, none⟩) ∧ f 6 = .pointer (some ⟨gn, 0, none⟩) ∧ f 68 = .slice ev.K ev.kn ev.kc ∧ f 69 = .int .i64 (↑ev.kn : Int) ∧ f 70 = .int .i64 (↑q : Int) ∧ q + n = ev.kn ∧ kout.length ≤ 1000000000 + 65535 ∧ kidsS (.node tk tws tks) ks tks = kidsS (.node tk tws tks) (ks.drop q) kout ∧ Mm S w W (⟨gn, 25, (Tv.arr ⟨1, A, out.length, c, A', kout.length, c'⟩)⟩ :: ⟨gr, 25, (Tv.arr Tv.nil)⟩ :: ⟨gt, 25, (Tv.arr tv)⟩ :: ⟨ge, 30, (Ev.arr ev)⟩ :: []) (⟨25, 3, A', kout.length, c', (kidCells kvo)⟩ :: ⟨45, 1, A, out.length, c, (out.map (Value.int .u64))⟩ :: []) (fun W S => (EdParts W S old new ws ks ops ev ekv eov ∧ TreeAt W S (.node tk tws tks) tv) ∧ TreesAt W S kout kvo)) ev.kn ⟨_, 0, tks, tkv, K2, d2, hF, rfl, rfl, rfl, rfl, rfl, rfl, rfl, by omega, by omega, rfl, M⟩ ?_)
   clear hF M a
   rintro n a W ⟨f, q, kout, kvo, A', c', hF, hf2, hf3, hf4, hf6, hfa, hfb, hfc, hq, hol2, hkd, M⟩
   replace hF := (((((((hF.same (d := 2) hf2).same (d := 3) hf3).same (d := 4) hf4).same (d := 6) hf6).same (d := 68) hfa).same (d := 69) hfb).same (d := 70) hfc)
   by_cases hlt : q < ev.kn
   ·skip
    have hqk : q < ks.length := by omega
    have hat := hks _ (List.getElem_mem hqk)
    have hdr : ks.drop q = ks[q] :: ks.drop (q + 1) := List.drop_eq_getElem_cons hqk
    rw [hdr, kids_cons] at hkd; clear hdr
    refine wrgs rfl ?_; revert a; refine qV (.bool true) (rn_lss rfl rfl rfl (decide_eq_true (show (↑q : Int) < ↑ev.kn by omega))) rfl ?_; intro a hF; refine wl0 ?_
    refine wp_seq (cd_true hF rfl rfl (wp_skip (nm_then ?_)))
    refine wp_seq (wp_block ?_)
    obtain ⟨bo, oo, kw, hWe, hbo, hR, hkat, hT9⟩ := M.fact.1.1.ks.rng hqk; clear hbo
    replace M := M.note (stable_ed _ _) hT9; clear hT9
    rw [hWe] at hF
    generalize hx : ks[q] = x at *
    refine wrgs rfl ?_; revert a; refine qV (.pointer (some ⟨bo, oo + q * 12, none⟩)) (rn_index (b := bo) (of := oo) (q := oo + q * 12) rfl rfl rfl (by omega) es_lK (by rw [Int.toNat_natCast])) rfl ?_; refine qV (.agg (Kv.arr kw)) (rn_load rfl rfl (ld_K rfl hR)) rfl ?_; intro a hF
    obtain ⟨bk9, hbk9⟩ : ∃ g, W.heap.size = g := ⟨_, rfl⟩
    refine wlal hF M hbk9 rfl rfl rfl (rn_alloc rfl zc_K hbk9) ?_; clear hF M a; intro W61 a M hF
    refine wlst hF M 0 rfl (vs := (Kv.arr kw)) rfl rfl rfl rfl rfl rfl rfl sz_K (Kv.arr_one _) (leb rfl) ?_; clear hF M a; intro W62 a M hF
    refine wl0 ?_
    clear hR
    generalize bk9 = gx at *
    refine wp_seq (wp_cut (fun a W => ∃ (f : Nat → Value) (go : Nat) (v12 : Tv), Fr a 107 f ∧ f 2 = .pointer (some ⟨ge, 0, none⟩) ∧ f 3 = .pointer (some ⟨gt, 0, none⟩) ∧ f 4 = .pointer (some ⟨gr, 0, none⟩) ∧ f 6 = .pointer (some ⟨gn, 0, none⟩) ∧ f 68 = .slice (some ⟨bo, oo, none⟩) ev.kn ev.kc ∧ f 69 = .int .i64 (↑ev.kn : Int) ∧ f 70 = .int .i64 (↑q : Int) ∧ f 11 = .pointer (some ⟨gx, 0, none⟩) ∧ f 12 = .pointer (some ⟨go, 0, none⟩) ∧ f 13 = .bool (oneS x.e (kidT (.node tk tws tks) x.at_)).isSome ∧ Mm S w W (⟨go, 25, (Tv.arr v12)⟩ :: ⟨gx, 55, (Kv.arr kw)⟩ :: ⟨gn, 25, (Tv.arr ⟨1, A, out.length, c, A', kout.length, c'⟩)⟩ :: ⟨gr, 25, (Tv.arr Tv.nil)⟩ :: ⟨gt, 25, (Tv.arr tv)⟩ :: ⟨ge, 30, (Ev.arr ev)⟩ :: []) (⟨25, 3, A', kout.length, c', (kidCells kvo)⟩ :: ⟨45, 1, A, out.length, c, (out.map (Value.int .u64))⟩ :: []) (fun W S => ((EdParts W S old new ws ks ops ev ekv eov ∧ TreeAt W S (.node tk tws tks) tv) ∧ TreesAt W S kout kvo) ∧ ∀ u, oneS x.e (kidT (.node tk tws tks) x.at_) = some u → TreeAt W S u v12)) ?_ ?_)
    ·skip
     refine wdr (Un (rows (⟨25, 3, A', kout.length, c', (kidCells kvo)⟩ :: ⟨45, 1, A, out.length, c, (out.map (Value.int .u64))⟩ :: [])) W62.drew) (fun i => Nat.beq i 11) prog_mixed ?_
     have M0 := M.drew' _ rfl
     generalize W62.drew = W63 at *
     have M := M0; have hU := Un.refl (rows (⟨25, 3, A', kout.length, c', (kidCells kvo)⟩ :: ⟨45, 1, A, out.length, c, (out.map (Value.int .u64))⟩ :: [])) W63
     revert a; refine qo 0 gx 1 fo_K1 hU rfl rfl (by kernel_rfl) ?_; refine qt 1 (.agg (Ev.arr kw.e)) rfl (fun W' hw => (rn_load rfl rfl (ld_E (cs := (Ev.arr kw.e)) rfl ((M0.ub hw 0 rfl).range 1 _ (sub_of rfl))))) hU rfl (by kernel_rfl) ?_; refine qt 2 (.agg (Tv.arr tv)) rfl (fun W' hw => (rn_load rfl rfl (ld_T rfl (M0.ub hw 3 rfl).whole))) hU rfl (by kernel_rfl) ?_; refine qo 3 gx 0 fo_K0 hU rfl rfl (by kernel_rfl) ?_; refine qt 4 (.int .i64 kw.at_) rfl (fun W' hw => (rn_load rfl rfl (ld_one one_int ((M0.ub hw 0 rfl).cell 0)))) hU rfl (by kernel_rfl) ?_; intro a hF
     refine g2 (i := 5) (j := 10) (by kernel_rfl) ?_ ?_
     ·skip
      refine gc1 hF (rn_call2 (u := .agg (Tv.arr tv)) (u' := .int .i64 kw.at_) rfl rfl rfl rfl Try.call57) (kid_mm M M.fact.1.1.2) rfl rfl rfl rfl ?_; clear hF a
      rintro e W64 ⟨v8, rfl, M, hb⟩; replace hU := hU.nil hb; clear hb; refine ⟨_, rfl, fun _ => hU, ?_⟩; intro a hF
      refine g2 (i := 6) (j := 10) (by kernel_rfl) ?_ ?_
      ·skip
       have hca := oneP_mm M (hOne x.e (kidT (.node tk tws tks) kw.at_) kw.e v8 _ _ hat.2.2.1 hat.2.2.2.1 hat.2.2.2.2.1 hat.2.2.2.2.2 (kidT_bd ht _) M.fact.1.2 M.fact.2 M.lts)
       refine gc1 hF (rn_call2 (u := .agg (Ev.arr kw.e)) (u' := .agg (Tv.arr v8)) rfl rfl rfl rfl Try.call20) hca rfl rfl rfl rfl ?_; clear hF a
       rintro e W65 ⟨v9, rfl, M, hb⟩; replace hU := hU.nil hb; clear hb; refine ⟨_, rfl, fun _ => hU, ?_⟩; intro a hF
       clear hca
       revert a; refine qx 7 (.tuple #[.agg (Tv.arr v9), .bool ((oneS x.e (kidT (.node tk tws tks) kw.at_)).isSome)]) hU rfl (by kernel_rfl) ?_; refine qp 8 (.agg (Tv.arr v9)) rfl (rn_extract rfl rfl rfl) hU rfl (by kernel_rfl) ?_; refine qp 9 (.bool ((oneS x.e (kidT (.node tk tws tks) kw.at_)).isSome)) rfl (rn_extract rfl rfl rfl) hU rfl (by kernel_rfl) ?_; intro a hF; refine g1 (i := 10) (by kernel_rfl) ?_
       obtain ⟨bk10, hbk10⟩ : ∃ g, W65.heap.size = g := ⟨_, rfl⟩
       refine wgal hF M hU hbk10 rfl rfl rfl rfl (rn_alloc rfl zc_T hbk10) ?_; clear hF M hU a; intro W66 a M hU hgebk10 hF
       refine g1 (i := 11) (by kernel_rfl) ?_
       refine wgst hF M 0 rfl (vs := (Tv.arr v9)) (by kernel_rfl) rfl rfl rfl rfl rfl rfl rfl rfl sz_T (Tv.arr_one _) (leb rfl) ?_; clear hF M a; intro W67 a M hF
       refine wgp (i := 12) (v := .bool ((oneS x.e (kidT (.node tk tws tks) kw.at_)).isSome)) hF (fun W' => (rn_assign rfl rfl)) rfl (by kernel_rfl) rfl rfl rfl (fin_no (by kernel_rfl)) ?_; clear hF a; intro a hF
       refine wgd (by kernel_rfl) ?_ _
       rw [hkat] at hF M
       exact ⟨_, bk10, v9, hF, rfl, rfl, rfl, rfl, rfl, rfl, rfl, rfl, rfl, rfl, M.imp ((((stable_parts _ _ _ _ _ _ _ _).and (stable_tree _ _)).and (stable_trees _ _)).and (stable_opt _ fun _ => stable_tree _ _)) fun h => ⟨h.1.1.1, h.2⟩⟩
      ·skip
       obtain ⟨bk11, hbk11⟩ : ∃ g, W64.heap.size = g := ⟨_, rfl⟩
       refine wgal hF M hU hbk11 rfl rfl rfl rfl (rn_alloc rfl zc_T hbk11) ?_; clear hF M hU a; intro W68 a M hU hgebk11 hF
       refine g1 (i := 6) (by kernel_rfl) ?_
       have hca := oneP_mm M (hOne x.e (kidT (.node tk tws tks) kw.at_) kw.e v8 _ _ hat.2.2.1 hat.2.2.2.1 hat.2.2.2.2.1 hat.2.2.2.2.2 (kidT_bd ht _) M.fact.1.2 M.fact.2 M.lts)
       refine gc1 hF (rn_call2 (u := .agg (Ev.arr kw.e)) (u' := .agg (Tv.arr v8)) rfl rfl rfl rfl Try.call20) hca rfl rfl rfl rfl ?_; clear hF a
       rintro e W69 ⟨v9, rfl, M, hb⟩; replace hU := hU.nil hb; clear hb; refine ⟨_, rfl, fun _ => hU, ?_⟩; intro a hF
       clear hca
       revert a; refine qx 7 (.tuple #[.agg (Tv.arr v9), .bool ((oneS x.e (kidT (.node tk tws tks) kw.at_)).isSome)]) hU rfl (by kernel_rfl) ?_; refine qp 8 (.agg (Tv.arr v9)) rfl (rn_extract rfl rfl rfl) hU rfl (by kernel_rfl) ?_; refine qp 9 (.bool ((oneS x.e (kidT (.node tk tws tks) kw.at_)).isSome)) rfl (rn_extract rfl rfl rfl) hU rfl (by kernel_rfl) ?_; intro a hF; refine g1 (i := 11) (by kernel_rfl) ?_
       refine wgst hF M 0 rfl (vs := (Tv.arr v9)) (by kernel_rfl) rfl rfl rfl rfl rfl rfl rfl rfl sz_T (Tv.arr_one _) (leb rfl) ?_; clear hF M a; intro W70 a M hF
       refine wgp (i := 12) (v := .bool ((oneS x.e (kidT (.node tk tws tks) kw.at_)).isSome)) hF (fun W' => (rn_assign rfl rfl)) rfl (by kernel_rfl) rfl rfl rfl (fin_no (by kernel_rfl)) ?_; clear hF a; intro a hF
       refine wgd (by kernel_rfl) ?_ _
       rw [hkat] at hF M
       exact ⟨_, bk11, v9, hF, rfl, rfl, rfl, rfl, rfl, rfl, rfl, rfl, rfl, rfl, M.imp ((((stable_parts _ _ _ _ _ _ _ _).and (stable_tree _ _)).and (stable_trees _ _)).and (stable_opt _ fun _ => stable_tree _ _)) fun h => ⟨h.1.1.1, h.2⟩⟩
     ·skip
      obtain ⟨bk12, hbk12⟩ : ∃ g, W63.heap.size = g := ⟨_, rfl⟩
      refine wgal hF M hU hbk12 rfl rfl rfl rfl (rn_alloc rfl zc_T hbk12) ?_; clear hF M hU a; intro W71 a M hU hgebk12 hF
      refine g1 (i := 5) (by kernel_rfl) ?_
      refine gc1 hF (rn_call2 (u := .agg (Tv.arr tv)) (u' := .int .i64 kw.at_) rfl rfl rfl rfl Try.call57) (kid_mm M M.fact.1.1.2) rfl rfl rfl rfl ?_; clear hF a
      rintro e W72 ⟨v8, rfl, M, hb⟩; replace hU := hU.nil hb; clear hb; refine ⟨_, rfl, fun _ => hU, ?_⟩; intro a hF
      refine g1 (i := 6) (by kernel_rfl) ?_
      have hca := oneP_mm M (hOne x.e (kidT (.node tk tws tks) kw.at_) kw.e v8 _ _ hat.2.2.1 hat.2.2.2.1 hat.2.2.2.2.1 hat.2.2.2.2.2 (kidT_bd ht _) M.fact.1.2 M.fact.2 M.lts)
      refine gc1 hF (rn_call2 (u := .agg (Ev.arr kw.e)) (u' := .agg (Tv.arr v8)) rfl rfl rfl rfl Try.call20) hca rfl rfl rfl rfl ?_; clear hF a
      rintro e W73 ⟨v9, rfl, M, hb⟩; replace hU := hU.nil hb; clear hb; refine ⟨_, rfl, fun _ => hU, ?_⟩; intro a hF
      clear hca
      revert a; refine qx 7 (.tuple #[.agg (Tv.arr v9), .bool ((oneS x.e (kidT (.node tk tws tks) kw.at_)).isSome)]) hU rfl (by kernel_rfl) ?_; refine qp 8 (.agg (Tv.arr v9)) rfl (rn_extract rfl rfl rfl) hU rfl (by kernel_rfl) ?_; refine qp 9 (.bool ((oneS x.e (kidT (.node tk tws tks) kw.at_)).isSome)) rfl (rn_extract rfl rfl rfl) hU rfl (by kernel_rfl) ?_; intro a hF; refine g1 (i := 11) (by kernel_rfl) ?_
      refine wgst hF M 0 rfl (vs := (Tv.arr v9)) (by kernel_rfl) rfl rfl rfl rfl rfl rfl rfl rfl sz_T (Tv.arr_one _) (leb rfl) ?_; clear hF M a; intro W74 a M hF
      refine wgp (i := 12) (v := .bool ((oneS x.e (kidT (.node tk tws tks) kw.at_)).isSome)) hF (fun W' => (rn_assign rfl rfl)) rfl (by kernel_rfl) rfl rfl rfl (fin_no (by kernel_rfl)) ?_; clear hF a; intro a hF
      refine wgd (by kernel_rfl) ?_ _
      rw [hkat] at hF M
      exact ⟨_, bk12, v9, hF, rfl, rfl, rfl, rfl, rfl, rfl, rfl, rfl, rfl, rfl, M.imp ((((stable_parts _ _ _ _ _ _ _ _).and (stable_tree _ _)).and (stable_trees _ _)).and (stable_opt _ fun _ => stable_tree _ _)) fun h => ⟨h.1.1.1, h.2⟩⟩
    clear hF M a
    rintro a W ⟨f, go, v12, hF, hf2, hf3, hf4, hf6, hfa, hfb, hfc, hf11, hf12, hf13, M⟩
    refine nm_then ?_
    replace hF := (((((((((hF.same (d := 2) hf2).same (d := 3) hf3).same (d := 4) hf4).same (d := 6) hf6).same (d := 68) hfa).same (d := 69) hfb).same (d := 70) hfc).same (d := 11) hf11).same (d := 12) hf12)
    cases hone : oneS x.e (kidT (.node tk tws tks) x.at_) with
    | none =>
     rw [hone] at hf13 hkd
     replace hF := hF.same (d := 13) (v := .bool false) hf13
     refine wp_seq ?_
     refine wrgs rfl ?_; revert a; refine qm (.bool false) rfl ?_; refine qV (.bool true) (rn_not rfl rfl rfl) rfl ?_; intro a hF; refine wl0 ?_; refine cd_true hF rfl rfl ?_; refine wrgs rfl ?_; revert a; refine qV (.agg (Tv.arr Tv.nil)) (rn_build (cs := (Tv.arr Tv.nil)) rfl (by kernel_rfl)) rfl ?_; intro a hF
     refine wlst hF M 3 rfl (vs := (Tv.arr Tv.nil)) rfl rfl rfl rfl rfl rfl rfl sz_T (Tv.arr_one _) (leb rfl) ?_; clear hF M a; intro W81 a M hF
     revert a; refine qm (.bool false) rfl ?_; intro a hF; refine wl0 ?_
     refine wp_ret (?_ : bodyPost _ _ _ .ret _ _)
     refine res_cell1 Try.results36 rfl rfl hF rfl (ld_T rfl (M.b 3 rfl).whole) ?_
     have hres : structS ws ks (.node tk tws tks) = none := by rw [struct_eq c1, hw, Option.bind_some, hkd]; rfl
     rw [hres]
     exact OneP.ret (d := none) M (fun u hu => by cases hu)
    | some kd =>
     rw [hone] at hf13 hkd
     replace hkd : kidsS (.node tk tws tks) ks tks = kidsS (.node tk tws tks) (ks.drop (q + 1)) (setPad nilT kout x.at_.toNat kd) := hkd
     replace hF := hF.same (d := 13) (v := .bool true) hf13
     replace M := M.imp (F' := fun W S => ((EdParts W S old new ws ks ops ev ekv eov ∧ TreeAt W S (.node tk tws tks) tv) ∧ TreesAt W S kout kvo) ∧ TreeAt W S kd v12) ((((stable_parts _ _ _ _ _ _ _ _).and (stable_tree _ _)).and (stable_trees _ _)).and (stable_tree _ _)) fun h => ⟨h.1, h.2 kd hone⟩
     refine wp_seq ?_
     refine wrgs rfl ?_; revert a; refine qm (.bool true) rfl ?_; refine qV (.bool false) (rn_not rfl rfl rfl) rfl ?_; intro a hF; refine wl0 ?_; refine cd_false hF rfl rfl (wp_skip (nm_then ?_))
     refine wp_seq (wp_block (wlp (fun m a W => ∃ (f : Nat → Value) (cur : List T) (cv : List Tv) (A9 : Option Addr) (c9 : Nat), Fr a 107 f ∧ f 2 = .pointer (some ⟨ge, 0, none⟩) ∧ f 3 = .pointer (some ⟨gt, 0, none⟩) ∧ f 4 = .pointer (some ⟨gr, 0, none⟩) ∧ f 6 = .pointer (some ⟨gn, 0, none⟩) ∧ f 68 = .slice (some ⟨bo, oo, none⟩) ev.kn ev.kc ∧ f 69 = .int .i64 (↑ev.kn : Int) ∧ f 70 = .int .i64 (↑q : Int) ∧ f 11 = .pointer (some ⟨gx, 0, none⟩) ∧ f 12 = .pointer (some ⟨go, 0, none⟩) ∧ m = x.at_.toNat + 1 - cur.length ∧ cur.length ≤ 1000000000 + 65535 ∧ (∀ v, setPad nilT kout x.at_.toNat v = setPad nilT cur x.at_.toNat v) ∧ Mm S w W (⟨go, 25, (Tv.arr v12)⟩ :: ⟨gx, 55, (Kv.arr kw)⟩ :: ⟨gn, 25, (Tv.arr ⟨1, A, out.length, c, A9, cur.length, c9⟩)⟩ :: ⟨gr, 25, (Tv.arr Tv.nil)⟩ :: ⟨gt, 25, (Tv.arr tv)⟩ :: ⟨ge, 30, (Ev.arr ev)⟩ :: []) (⟨25, 3, A9, cur.length, c9, (kidCells cv)⟩ :: ⟨45, 1, A, out.length, c, (out.map (Value.int .u64))⟩ :: []) (fun W S => ((EdParts W S old new ws ks ops ev ekv eov ∧ TreeAt W S (.node tk tws tks) tv) ∧ TreesAt W S cur cv) ∧ TreeAt W S kd v12)) _ ⟨_, kout, kvo, A', c', hF, rfl, rfl, rfl, rfl, rfl, rfl, rfl, rfl, rfl, rfl, hol2, fun _ => rfl, M⟩ ?_))
     clear hF M a
     rintro m a W ⟨f, cur, cv, A', c', hF, hf2, hf3, hf4, hf6, hfa, hfb, hfc, hf11, hf12, hm, hol2, hsp, M⟩
     replace hF := (((((((((hF.same (d := 2) hf2).same (d := 3) hf3).same (d := 4) hf4).same (d := 6) hf6).same (d := 68) hfa).same (d := 69) hfb).same (d := 70) hfc).same (d := 11) hf11).same (d := 12) hf12)
     have hcv : cv.length = cur.length := M.fact.1.2.1
     by_cases c3 : (↑cur.length : Int) ≤ kw.at_
     ·skip
      refine wp_seq ?_
      refine wrgs rfl ?_; revert a; refine qf gn 2 fo_T2 rfl rfl ?_; refine qV (.slice A' cur.length c') (rn_load rfl rfl (ld_one one_lT ((M.b 2 rfl).cell 2))) rfl ?_; refine qV (.int .i64 (↑cur.length)) (rn_len rfl rfl is_lT) rfl ?_; refine qf gx 0 fo_K0 rfl rfl ?_; refine qV (.int .i64 kw.at_) (rn_load rfl rfl (ld_one one_int ((M.b 1 rfl).cell 0))) rfl ?_; refine qV (.bool true) (rn_leq rfl rfl rfl (decide_eq_true c3)) rfl ?_; intro a hF; refine wl0 ?_; refine cd_true hF rfl rfl (wp_skip (nm_then ?_))
      refine wp_block ?_
      refine wrg rfl ?_; revert a; refine qf gn 2 fo_T2 rfl rfl ?_; refine qV (.slice A' cur.length c') (rn_load rfl rfl (ld_one one_lT ((M.b 2 rfl).cell 2))) rfl ?_; refine qV (.agg (Tv.arr Tv.nil)) (rn_build (cs := (Tv.arr Tv.nil)) rfl (by kernel_rfl)) rfl ?_; intro a hF
      obtain ⟨bk13, hbk13⟩ : ∃ g, W.heap.size = g := ⟨_, rfl⟩
      refine wlal hF M hbk13 rfl rfl rfl (rn_bs1 (cs := (Tv.arr Tv.nil)) ti_lT (by decide) rfl rfl rfl hbk13) ?_; clear hF M a; intro W101 a M hF
      refine wlap hF M 0 rfl ti_lT rfl rfl rfl rfl rfl (Tv.arr Tv.nil).toList rfl rfl (src_box (M.b 0 rfl)) (Tv.arr_one _) (by show (cur.length + 1) * 56 ≤ _; omega) (by show cur.length + 1 ≤ _; unfold maxLen; omega) ?_; clear hF M a; intro A102 c102 W102 a M hF
      revert a; refine qf gn 2 fo_T2 rfl rfl ?_; intro a hF
      refine wlst hF M 3 rfl (vs := #[.slice A102 (cur.length + 1) c102]) rfl rfl rfl rfl rfl rfl rfl sz_lT (sl_one _ _ _) (leb rfl) ?_; clear hF M a; intro W103 a M hF
      refine wl0 ?_
      replace M := M.tail
      rw [tSnoc] at M
      refine nm_block (nm_then ⟨m - 1, by omega, _, cur ++ [nilT], cv ++ [Tv.nil], A102, c102, hF, rfl, rfl, rfl, rfl, rfl, rfl, rfl, rfl, rfl, by rw [List.length_append, List.length_singleton]; omega, by rw [List.length_append, List.length_singleton]; omega, fun v => by rw [hsp, setPad_app nilT cur _ _ (by omega)], ?_⟩)
      rw [List.length_append]
      exact M.imp ((((stable_parts _ _ _ _ _ _ _ _).and (stable_tree _ _)).and (stable_trees _ _)).and (stable_tree _ _)) fun h => ⟨⟨h.1.1, h.1.2.app (TreesAt.one TreeAt.nil)⟩, h.2⟩
     ·skip
      refine wp_seq ?_
      refine wrgs rfl ?_; revert a; refine qf gn 2 fo_T2 rfl rfl ?_; refine qV (.slice A' cur.length c') (rn_load rfl rfl (ld_one one_lT ((M.b 2 rfl).cell 2))) rfl ?_; refine qV (.int .i64 (↑cur.length)) (rn_len rfl rfl is_lT) rfl ?_; refine qf gx 0 fo_K0 rfl rfl ?_; refine qV (.int .i64 kw.at_) (rn_load rfl rfl (ld_one one_int ((M.b 1 rfl).cell 0))) rfl ?_; refine qV (.bool false) (rn_leq rfl rfl rfl (decide_eq_false c3)) rfl ?_; intro a hF; refine wl0 ?_; refine cd_false hF rfl rfl (wp_exit (ex_then (ex_then (ex_here ?_)))); refine nm_then ?_
      have hjl : x.at_.toNat < cur.length := by omega
      obtain ⟨ga, rfl⟩ : ∃ g, A' = some ⟨g, 0, none⟩ := M.at0 0 rfl (by show 0 < (kidCells cv).length; rw [kidCells_len]; omega)
      refine wrg rfl ?_; revert a; refine qf gn 2 fo_T2 rfl rfl ?_; refine qV (.slice (some ⟨ga, 0, none⟩) cur.length c') (rn_load rfl rfl (ld_one one_lT ((M.b 2 rfl).cell 2))) rfl ?_; refine qf gx 0 fo_K0 rfl rfl ?_; refine qV (.int .i64 kw.at_) (rn_load rfl rfl (ld_one one_int ((M.b 1 rfl).cell 0))) rfl ?_; refine qV (.agg (Tv.arr v12)) (rn_load rfl rfl (ld_T rfl (M.b 0 rfl).whole)) rfl ?_; refine qV (.pointer (some ⟨ga, x.at_.toNat * 3, none⟩)) (rn_index (b := ga) (of := 0) (q := x.at_.toNat * 3) rfl rfl rfl (by omega) es_lT (by rw [hkat]; omega)) rfl ?_; intro a hF
      refine wlsr hF M 0 rfl rfl (vs := v12.arr) rfl rfl rfl rfl rfl rfl rfl sz_T (Tv.arr_one _) (by show x.at_.toNat * 3 + 3 ≤ (kidCells cv).length; rw [kidCells_len]; omega) ?_; clear hF M a; intro W104 a M hF
      refine wl0 ?_
      rw [kid_set _ _ _ (by omega)] at M
      replace M := M.tail.tail
      refine nm_block (nm_then ?_); refine wrg rfl ?_; revert a; refine qV (.int .i64 (↑(q + 1) : Int)) (rn_add (q := (↑(q + 1) : Int)) rfl rfl rfl (by omega) (by omega) (by omega)) rfl ?_; refine qm (.int .i64 (↑(q + 1) : Int)) rfl ?_; intro a hF; refine wl0 ?_; refine nm_then ⟨n - 1, by omega, _, q + 1, cur.set x.at_.toNat kd, cv.set x.at_.toNat v12, some ⟨ga, 0, none⟩, c', hF, rfl, rfl, rfl, rfl, hWe.symm ▸ rfl, rfl, rfl, by omega, by rw [List.length_set]; exact hol2, ?_, ?_⟩
      ·rw [hkd, hsp, setPad_set nilT cur _ _ hjl]
      ·rw [List.length_set]
       exact M.imp (((stable_parts _ _ _ _ _ _ _ _).and (stable_tree _ _)).and (stable_trees _ _)) fun h => ⟨h.1.1, h.1.2.set h.2 _⟩
   ·skip
    have hqe : q = ev.kn := by omega
    refine wrgs rfl ?_; revert a; refine qV (.bool false) (rn_lss rfl rfl rfl (decide_eq_false (show ¬ (↑q : Int) < ↑ev.kn by omega))) rfl ?_; intro a hF; refine wl0 ?_
    refine wp_seq (cd_false hF rfl rfl (wp_exit (ex_then (ex_then (ex_here ?_)))))
    refine nm_then ?_
    rw [hqe, hkl, List.drop_length] at hkd; clear hqe hq hlt
    have hkd : kidsS (.node tk tws tks) ks tks = some kout := by rw [hkd, kidsS]
    have M2 := M.done 1 (few := 17592186043904) rfl (by show out.length ≤ _; omega)
    have M3 := M2.done 0 (few := 2513169434843) rfl (by show kout.length ≤ _; omega)
    replace M := M3.unrow.unrow; clear M2 M3
    replace M := M.imp (F' := fun W S => TreeAt W S (.node 1 out kout) ⟨1, A, out.length, c, A', kout.length, c'⟩) (stable_tree _ _) fun h => TreeAt.of ⟨rfl, h.1.2.cap, h.1.2.capM, by omega, h.1.2.nil, h.1.2.read, hou⟩ (kids_of h.1.1.2 h.2)
    refine wrgs rfl ?_; revert a; refine qV (.agg (Tv.arr ⟨1, A, out.length, c, A', kout.length, c'⟩)) (rn_load rfl rfl (ld_T rfl (M.b 0 rfl).whole)) rfl ?_; intro a hF
    refine wlst hF M 1 rfl (vs := (Tv.arr ⟨1, A, out.length, c, A', kout.length, c'⟩)) rfl rfl rfl rfl rfl rfl rfl sz_T (Tv.arr_one _) (leb rfl) ?_; clear hF M a; intro W105 a M hF
    revert a; refine qm (.bool true) rfl ?_; intro a hF; refine wl0 ?_
    have hres : structS ws ks (.node tk tws tks) = some (.node 1 out kout) := by rw [struct_eq c1, hw, Option.bind_some, hkd]; rfl
    refine wp_ret (res_cell1 Try.results36 rfl rfl hF rfl (ld_T rfl (M.b 1 rfl).whole) ?_)
    rw [hres]
    exact OneP.ret (d := some _) M (fun u hu => by injection hu with hu; subst hu; exact M.grown)
 ·skip
  refine wp_seq ?_
  refine wrgs rfl ?_; revert a; refine qf gt 0 fo_T0 rfl rfl ?_; refine qV (.int .i64 tv.k) (rn_load rfl rfl (ld_one one_int ((M.b 1 rfl).cell 0))) rfl ?_; refine qV (.bool true) (rn_neq rfl rfl rfl (by rw [hkind]; exact bne_iff_ne.2 c1)) rfl ?_; intro a hF; refine wl0 ?_; refine cd_true hF rfl rfl ?_; refine wrgs rfl ?_; revert a; refine qV (.agg (Tv.arr Tv.nil)) (rn_build (cs := (Tv.arr Tv.nil)) rfl (by kernel_rfl)) rfl ?_; intro a hF
  refine wlst hF M 0 rfl (vs := (Tv.arr Tv.nil)) rfl rfl rfl rfl rfl rfl rfl sz_T (Tv.arr_one _) (leb rfl) ?_; clear hF M a; intro W106 a M hF
  revert a; refine qm (.bool false) rfl ?_; intro a hF; refine wl0 ?_
  refine wp_ret (?_ : bodyPost _ _ _ .ret _ _)
  refine res_cell1 Try.results36 rfl rfl hF rfl (ld_T rfl (M.b 0 rfl).whole) ?_
  have hres : structS ws ks (.node tk tws tks) = none := by unfold structS; exact if_neg c1
  rw [hres]
  exact OneP.ret (d := none) M (fun u hu => by cases hu)
end Go.Proofs.Ytbmjiokjigkdnaa
namespace Go.Proofs.Ytbmjiokjigkdnaa
open Go.RowKit Go.Proofs.Ytbmjiokjigkdnaa.Top
theorem okWs_ge : ∀ {l : List WE} {a : Int}, okWs a l → -1 ≤ a → ∀ x ∈ l, 0 ≤ x.at_
 | [], _, _, _, x, hx => by cases hx
 | w :: r, a, h, ha, x, hx => by
  rw [okWs] at h
  rcases List.mem_cons.1 hx with e | e
  ·rw [e]; omega
  ·exact okWs_ge h.2 (by omega) x e
theorem okKs_ge : ∀ {l : List KEd} {a : Int}, okKs a l → -1 ≤ a → ∀ x ∈ l, 0 ≤ x.at_ ∧ okE x.e
 | [], _, _, _, x, hx => by cases hx
 | .mk b e :: r, a, h, ha, x, hx => by
  rw [okKs] at h
  rcases List.mem_cons.1 hx with e | e
  ·rw [e]; exact ⟨by show 0 ≤ b; omega, h.2.2.1⟩
  ·exact okKs_ge h.2.2.2 (by omega) x e
theorem one_all (B C : Nat) (hBC : B + C ≤ 1000000000) : ∀ N, OneH B C N := by
 intro N
 induction N with
 | zero =>
  intro e t ev tv S w hd
  obtain ⟨kind, old, new, ws, ks, lk, ops⟩ := e
  rw [dE] at hd
  omega
 | succ N ih =>
  intro e t ev tv S w hd hok hnt hbd ht he hT hS
  obtain ⟨kind, old, new, ws, ks, lk, ops⟩ := e
  obtain ⟨hdk, hdo⟩ := dE_ks hd
  have hdo' : dO ops ≤ N := by rw [dE] at hd; omega
  rw [okE] at hok
  rw [neatE] at hnt
  rw [bdE] at hbd
  obtain ⟨hk, hlk, ekv, eov, hp⟩ := he.parts
  have M := Mm.begin (F := fun W S => EdAt W S (.mk kind old new ws ks lk ops) ev ∧ TreeAt W S t tv) hS ((stable_ed _ _).and (stable_tree _ _)) ⟨he, hT⟩
  show Calls Try.prog 20 #[.agg ev.arr, .agg tv.arr] w (OneP (oneS (.mk kind old new ws ks lk ops) t) S w)
  clear he hT hp
  refine calls_fr (xs := [.agg ev.arr, .agg tv.arr]) Try.func20 rfl Try.ntmps20 rfl (fun a hF => ?_)
  refine wrgs rfl ?_
  obtain ⟨bk1, hbk1⟩ : ∃ g, w.heap.size = g := ⟨_, rfl⟩
  refine wlal hF M hbk1 rfl rfl rfl (rn_box (cs := (Ev.arr ev)) rfl rfl hbk1) ?_; clear hF M a; intro W1 a M hF
  obtain ⟨bk2, hbk2⟩ : ∃ g, W1.heap.size = g := ⟨_, rfl⟩
  refine wlal hF M hbk2 rfl rfl rfl (rn_box (cs := (Tv.arr tv)) rfl rfl hbk2) ?_; clear hF M a; intro W2 a M hF
  obtain ⟨bk3, hbk3⟩ : ∃ g, W2.heap.size = g := ⟨_, rfl⟩
  refine wlal hF M hbk3 rfl rfl rfl (rn_alloc rfl zc_T hbk3) ?_; clear hF M a; intro W3 a M hF
  revert a; refine qm (.bool false) rfl ?_; intro a hF; refine wl0 ?_
  refine wp_seq ?_
  refine wrgs rfl ?_; revert a; refine qf bk1 0 fo_E0 rfl rfl ?_; refine qV (.int .i64 ev.k) (rn_load rfl rfl (ld_one one_int ((M.b 2 rfl).cell 0))) rfl ?_; intro a hF; refine wl0 ?_
  refine wp_block ?_
  by_cases k0 : kind = 0
  ·skip
   refine wrgs rfl ?_; revert a; refine qV (.bool true) (rn_eql rfl rfl rfl (by rw [hk, k0]; rfl)) rfl ?_; refine qm (.bool true) rfl ?_; intro a hF; refine wl0 ?_; refine cd_true hF rfl rfl ?_; refine wrgs rfl ?_; revert a; refine qV (.agg (Tv.arr tv)) (rn_load rfl rfl (ld_T rfl (M.b 1 rfl).whole)) rfl ?_; intro a hF
   refine wlst hF M 0 rfl (vs := (Tv.arr tv)) rfl rfl rfl rfl rfl rfl rfl sz_T (Tv.arr_one _) (leb rfl) ?_; clear hF M a; intro W4 a M hF
   revert a; refine qm (.bool true) rfl ?_; intro a hF; refine wl0 ?_
   refine wp_ret (?_ : bodyPost _ _ _ .ret _ _)
   refine res_cell1 Try.results20 rfl rfl hF rfl (ld_T rfl (M.b 0 rfl).whole) ?_
   rw [oneS, if_pos k0]
   exact OneP.ret (d := some t) M (fun u hu => by injection hu with hu; subst hu; exact M.grown.2)
  ·skip
   refine wrgs rfl ?_; revert a; refine qV (.bool false) (rn_eql rfl rfl rfl (by rw [hk]; exact beq_false_of_ne k0)) rfl ?_; refine qm (.bool false) rfl ?_; intro a hF; refine wl0 ?_; refine cd_false hF rfl rfl ?_
   by_cases k1 : kind = 1
   ·skip
    refine wrgs rfl ?_; revert a; refine qV (.bool true) (rn_eql rfl rfl rfl (by rw [hk, k1]; rfl)) rfl ?_; refine qm (.bool true) rfl ?_; intro a hF; refine wl0 ?_; refine cd_true hF rfl rfl ?_
    refine wdrs (Un (rows ([])) W3.drew) (fun i => Nat.beq i 6) prog_mixed ?_
    have M0 := M.drew' _ rfl
    generalize W3.drew = W5 at *
    have M := M0; have hU := Un.refl (rows ([])) W5
    revert a; refine qo 0 bk1 4 fo_E2 hU rfl rfl (by kernel_rfl) ?_; refine qt 1 (.agg (Tv.arr ev.new)) rfl (fun W' hw => (rn_load rfl rfl (ld_T (cs := (Tv.arr ev.new)) rfl ((M0.ub hw 2 rfl).range 4 _ (sub_of rfl))))) hU rfl (by kernel_rfl) ?_; refine qo 2 bk1 1 fo_E1 hU rfl rfl (by kernel_rfl) ?_; refine qt 3 (.agg (Tv.arr ev.old)) rfl (fun W' hw => (rn_load rfl rfl (ld_T (cs := (Tv.arr ev.old)) rfl ((M0.ub hw 2 rfl).range 1 _ (sub_of rfl))))) hU rfl (by kernel_rfl) ?_; refine qt 4 (.agg (Tv.arr tv)) rfl (fun W' hw => (rn_load rfl rfl (ld_T rfl (M0.ub hw 1 rfl).whole))) hU rfl (by kernel_rfl) ?_; intro a hF; refine g1 (i := 5) (by kernel_rfl) ?_
    obtain ⟨_, _, _, _, hp⟩ := M.fact.1.parts
    have hc5 := equal_mm M hp.old M.fact.2
    refine gc1 hF (rn_call2 (u := .agg (Tv.arr ev.old)) (u' := .agg (Tv.arr tv)) rfl rfl rfl rfl Try.call35) hc5 rfl rfl rfl rfl ?_; clear hF a hc5 hp
    rintro e9 W9 ⟨rfl, M, hb⟩; replace hU := hU.nil hb; clear hb; refine ⟨_, rfl, fun _ => hU, ?_⟩; intro a hF
    refine g1 (i := 6) (by kernel_rfl) ?_
    refine wgst hF M 0 rfl (vs := (Tv.arr ev.new)) (by kernel_rfl) rfl rfl rfl rfl rfl rfl rfl rfl sz_T (Tv.arr_one _) (leb rfl) ?_; clear hF M a; intro W10 a M hF
    refine wgp (i := 7) (v := .bool (eqT old t)) hF (fun W' => (rn_assign rfl rfl)) rfl (by kernel_rfl) rfl rfl rfl (fin_no (by kernel_rfl)) ?_; clear hF a; intro a hF
    refine wgd (by kernel_rfl) ?_ _
    have hone : oneS (.mk kind old new ws ks lk ops) t = if eqT old t then some new else none := by rw [oneS, if_neg k0, if_pos k1]
    refine wp_ret (?_ : bodyPost _ _ _ .ret _ _)
    refine res_cell1 Try.results20 rfl rfl hF rfl (ld_T rfl (M.b 0 rfl).whole) ?_
    obtain ⟨_, _, _, _, hp⟩ := M.grown.1.parts
    rw [hone]
    show OneP _ S w (.returned (.tuple #[_, .bool (eqT old t)])) _
    cases eqT old t with
    | false => exact OneP.ret (d := none) M (fun u hu => by cases hu)
    | true => exact OneP.ret (d := some new) M (fun u hu => by injection hu with hu; subst hu; exact hp.new)
   ·skip
    refine wrgs rfl ?_; revert a; refine qV (.bool false) (rn_eql rfl rfl rfl (by rw [hk]; exact beq_false_of_ne k1)) rfl ?_; refine qm (.bool false) rfl ?_; intro a hF; refine wl0 ?_; refine cd_false hF rfl rfl ?_
    by_cases k2 : kind = 2
    ·skip
     refine wrgs rfl ?_; revert a; refine qV (.bool true) (rn_eql rfl rfl rfl (by rw [hk, k2]; rfl)) rfl ?_; refine qm (.bool true) rfl ?_; intro a hF; refine wl0 ?_; refine cd_true hF rfl rfl ?_
     have hwk := (hok.2.2.2.1 k2)
     have hc := oneP_mm M (struct_any B C N hBC ih kind old new ws ks lk ops t ev tv _ _ (fun x hx => ⟨okWs_ge hwk.2.1 (by omega) x hx, hbd.2.2.2.1 x hx⟩) (fun x hx => ⟨(okKs_ge hwk.2.2 (by omega) x hx).1, (bdK_iff.1 hbd.2.2.2.2.2.1 x hx).1, hdk x hx, (okKs_ge hwk.2.2 (by omega) x hx).2, neatK_mem hnt.2.2.1 x hx, (bdK_iff.1 hbd.2.2.2.2.2.1 x hx).2⟩) ht M.fact.1 M.fact.2 M.lts)
     refine wrgs rfl ?_; revert a; refine qV (.agg (Ev.arr ev)) (rn_load rfl rfl (ld_E rfl (M.b 2 rfl).whole)) rfl ?_; refine qV (.agg (Tv.arr tv)) (rn_load rfl rfl (ld_T rfl (M.b 1 rfl).whole)) rfl ?_; intro a hF
     refine wlc hF (rn_call2 (u := .agg (Ev.arr ev)) (u' := .agg (Tv.arr tv)) rfl rfl rfl rfl Try.call36) hc rfl rfl rfl ?_; clear hF a
     clear hc; rintro e9 W7 ⟨v7, rfl, M, _⟩; refine ⟨_, rfl, ?_⟩; intro a hF
     revert a; refine qV (.agg (Tv.arr v7)) (rn_extract rfl rfl rfl) rfl ?_; refine qV (.bool ((structS ws ks t).isSome)) (rn_extract rfl rfl rfl) rfl ?_; intro a hF
     refine wlst hF M 0 rfl (vs := (Tv.arr v7)) rfl rfl rfl rfl rfl rfl rfl sz_T (Tv.arr_one _) (leb rfl) ?_; clear hF M a; intro W8 a M hF
     revert a; refine qm (.bool ((structS ws ks t).isSome)) rfl ?_; intro a hF; refine wl0 ?_
     refine wp_ret (?_ : bodyPost _ _ _ .ret _ _)
     refine res_cell1 Try.results20 rfl rfl hF rfl (ld_T rfl (M.b 0 rfl).whole) ?_
     rw [show oneS (.mk kind old new ws ks lk ops) t = structS ws ks t by rw [oneS, if_neg k0, if_neg k1, if_pos k2]; rfl]
     exact OneP.ret (d := structS ws ks t) M (fun u hu => M.grown.2 u hu)
    ·skip
     refine wrgs rfl ?_; revert a; refine qV (.bool false) (rn_eql rfl rfl rfl (by rw [hk]; exact beq_false_of_ne k2)) rfl ?_; refine qm (.bool false) rfl ?_; intro a hF; refine wl0 ?_; refine cd_false hF rfl rfl ?_
     have k3 : kind = 3 := by omega
     refine wrgs rfl ?_; revert a; refine qV (.bool true) (rn_eql rfl rfl rfl (by rw [hk, k3]; rfl)) rfl ?_; refine qm (.bool true) rfl ?_; intro a hF; refine wl0 ?_; refine cd_true hF rfl rfl ?_
     have hc := oneP_mm M (list_any B C N hBC ih kind old new ws ks lk ops t ev tv _ _ hdo' (hok.2.2.2.2 k3).2.2 hnt.2.2.2 hbd.2.2.2.2.2.2.2 hbd.2.2.2.2.2.2.1 ht M.fact.1 M.fact.2 M.lts)
     refine wrgs rfl ?_; revert a; refine qV (.agg (Ev.arr ev)) (rn_load rfl rfl (ld_E rfl (M.b 2 rfl).whole)) rfl ?_; refine qV (.agg (Tv.arr tv)) (rn_load rfl rfl (ld_T rfl (M.b 1 rfl).whole)) rfl ?_; intro a hF
     refine wlc hF (rn_call2 (u := .agg (Ev.arr ev)) (u' := .agg (Tv.arr tv)) rfl rfl rfl rfl Try.call37) hc rfl rfl rfl ?_; clear hF a
     clear hc; rintro e9 W7 ⟨v7, rfl, M, _⟩; refine ⟨_, rfl, ?_⟩; intro a hF
     revert a; refine qV (.agg (Tv.arr v7)) (rn_extract rfl rfl rfl) rfl ?_; refine qV (.bool ((listS lk ops t).isSome)) (rn_extract rfl rfl rfl) rfl ?_; intro a hF
     refine wlst hF M 0 rfl (vs := (Tv.arr v7)) rfl rfl rfl rfl rfl rfl rfl sz_T (Tv.arr_one _) (leb rfl) ?_; clear hF M a; intro W8 a M hF
     revert a; refine qm (.bool ((listS lk ops t).isSome)) rfl ?_; intro a hF; refine wl0 ?_
     refine wp_ret (?_ : bodyPost _ _ _ .ret _ _)
     refine res_cell1 Try.results20 rfl rfl hF rfl (ld_T rfl (M.b 0 rfl).whole) ?_
     rw [show oneS (.mk kind old new ws ks lk ops) t = listS lk ops t by rw [oneS, if_neg k0, if_neg k1, if_neg k2, if_pos k3]; rfl]
     exact OneP.ret (d := listS lk ops t) M (fun u hu => M.grown.2 u hu)
theorem apply_any (B C : Nat) (hBC : B + C ≤ 1000000000) (e : Ed) (t : T) (ev : Ev) (tv : Tv) (S : Nat → Prop) (w : World) (hr : rightE e) (hbd : bdE B e) (ht : bdT C t) (he : EdAt w S e ev) (hT : TreeAt w S t tv) (hS : ∀ b, S b → b < w.heap.size) :
  Calls Try.prog 10 #[.agg ev.arr, .agg tv.arr] w (OneP (applyS e t) S w) := by
 have M := Mm.begin (F := fun W S => EdAt W S e ev ∧ TreeAt W S t tv) hS ((stable_ed _ _).and (stable_tree _ _)) ⟨he, hT⟩
 clear he hT
 refine calls_fr (xs := [.agg ev.arr, .agg tv.arr]) Try.func10 rfl Try.ntmps10 rfl (fun a hF => ?_)
 refine wrgs rfl ?_
 obtain ⟨bk1, hbk1⟩ : ∃ g, w.heap.size = g := ⟨_, rfl⟩
 refine wlal hF M hbk1 rfl rfl rfl (rn_box (cs := (Ev.arr ev)) rfl rfl hbk1) ?_; clear hF M a; intro W1 a M hF
 obtain ⟨bk2, hbk2⟩ : ∃ g, W1.heap.size = g := ⟨_, rfl⟩
 refine wlal hF M hbk2 rfl rfl rfl (rn_box (cs := (Tv.arr tv)) rfl rfl hbk2) ?_; clear hF M a; intro W2 a M hF
 obtain ⟨bk3, hbk3⟩ : ∃ g, W2.heap.size = g := ⟨_, rfl⟩
 refine wlal hF M hbk3 rfl rfl rfl (rn_alloc rfl zc_T hbk3) ?_; clear hF M a; intro W3 a M hF
 revert a; refine qm (.bool false) rfl ?_; intro a hF; refine wl0 ?_
 have hc := oneP_mm M (one_all B C hBC _ e t ev tv _ _ (Nat.le_refl _) hr.1 hr.2 hbd ht M.fact.1 M.fact.2 M.lts)
 refine wrgs rfl ?_; revert a; refine qV (.agg (Ev.arr ev)) (rn_load rfl rfl (ld_E rfl (M.b 2 rfl).whole)) rfl ?_; refine qV (.agg (Tv.arr tv)) (rn_load rfl rfl (ld_T rfl (M.b 1 rfl).whole)) rfl ?_; intro a hF
 refine wlc hF (rn_call2 (u := .agg (Ev.arr ev)) (u' := .agg (Tv.arr tv)) rfl rfl rfl rfl Try.call20) hc rfl rfl rfl ?_; clear hF a
 clear hc; rintro e9 W7 ⟨v7, rfl, M, _⟩; refine ⟨_, rfl, ?_⟩; intro a hF
 revert a; refine qm (.tuple #[.agg (Tv.arr v7), .bool ((oneS e t).isSome)]) rfl ?_; refine qV (.agg (Tv.arr v7)) (rn_extract rfl rfl rfl) rfl ?_; refine qV (.bool ((oneS e t).isSome)) (rn_extract rfl rfl rfl) rfl ?_; intro a hF
 obtain ⟨bk4, hbk4⟩ : ∃ g, W7.heap.size = g := ⟨_, rfl⟩
 refine wlal hF M hbk4 rfl rfl rfl (rn_alloc rfl zc_T hbk4) ?_; clear hF M a; intro W8 a M hF
 refine wlst hF M 0 rfl (vs := (Tv.arr v7)) rfl rfl rfl rfl rfl rfl rfl sz_T (Tv.arr_one _) (leb rfl) ?_; clear hF M a; intro W9 a M hF
 revert a; refine qm (.bool ((oneS e t).isSome)) rfl ?_; intro a hF; refine wl0 ?_
 cases hone : oneS e t with
 | none =>
  rw [hone] at hF
  refine wp_seq ?_
  refine wrgs rfl ?_; revert a; refine qm (.bool false) rfl ?_; refine qV (.bool true) (rn_not rfl rfl rfl) rfl ?_; intro a hF; refine wl0 ?_; refine cd_true hF rfl rfl ?_; refine wrgs rfl ?_; revert a; refine qV (.agg (Tv.arr Tv.nil)) (rn_build (cs := (Tv.arr Tv.nil)) rfl (by kernel_rfl)) rfl ?_; intro a hF
  refine wlst hF M 1 rfl (vs := (Tv.arr Tv.nil)) rfl rfl rfl rfl rfl rfl rfl sz_T (Tv.arr_one _) (leb rfl) ?_; clear hF M a; intro W10 a M hF
  revert a; refine qm (.bool false) rfl ?_; intro a hF; refine wl0 ?_
  refine wp_ret (?_ : bodyPost _ _ _ .ret _ _)
  refine res_cell1 Try.results10 rfl rfl hF rfl (ld_T rfl (M.b 1 rfl).whole) ?_
  rw [show applyS e t = none by unfold applyS; rw [hone]; rfl]
  exact OneP.ret (d := none) M (fun u hu => by cases hu)
 | some d =>
  rw [hone] at hF
  refine wp_seq ?_
  refine wrgs rfl ?_; revert a; refine qm (.bool true) rfl ?_; refine qV (.bool false) (rn_not rfl rfl rfl) rfl ?_; intro a hF; refine wl0 ?_; refine cd_false hF rfl rfl (wp_skip (nm_then ?_)); refine wrgs rfl ?_; revert a; refine qV (.agg (Tv.arr v7)) (rn_load rfl rfl (ld_T rfl (M.b 0 rfl).whole)) rfl ?_; intro a hF
  refine wlc hF (rn_call1 (u := .agg (Tv.arr v7)) rfl rfl rfl Try.call21) (norm_mm M (M.fact.2 d hone)) rfl rfl rfl ?_; clear hF a
  rintro e9 W8 ⟨v8, rfl, M, _⟩; refine ⟨_, rfl, ?_⟩; intro a hF
  refine wlst hF M 1 rfl (vs := (Tv.arr v8)) rfl rfl rfl rfl rfl rfl rfl sz_T (Tv.arr_one _) (leb rfl) ?_; clear hF M a; intro W9 a M hF
  revert a; refine qm (.bool true) rfl ?_; intro a hF; refine wl0 ?_
  refine wp_ret (?_ : bodyPost _ _ _ .ret _ _)
  refine res_cell1 Try.results10 rfl rfl hF rfl (ld_T rfl (M.b 1 rfl).whole) ?_
  rw [show applyS e t = some (norm d) by unfold applyS; rw [hone]; rfl]
  exact OneP.ret (d := some _) M (fun u hu => by injection hu with hu; subst hu; exact M.grown.2)
end Go.Proofs.Ytbmjiokjigkdnaa
namespace Go.Proofs.Ytbmjiokjigkdnaa
open Go.RowKit Go.Proofs.Ytbmjiokjigkdnaa.Top
def WcO (r : Option WE) (w : World) (e : Ending) (w' : World) : Prop := ∃ z : WE, e = .returned (.tuple #[.agg (wArr z), .bool r.isSome]) ∧ Below w.heap.size w w' ∧ ∀ u, r = some u → u = z ∧ wIn u
theorem word_comp (x y : WE) (w : World) (hx : wIn x) (hy : wIn y) : Calls Try.prog 45 #[.agg (wArr x), .agg (wArr y)] w (WcO (WE.comp x y) w) := by
 have M := Mm.begin (S := fun _ => False) (w := w) (F := fun _ _ => True) (fun b hb => hb.elim) stable_true trivial
 have hxm : 0 ≤ x.mask ∧ x.mask ≤ 255 := ⟨hx.1, hx.2.1⟩
 have hym : 0 ≤ y.mask ∧ y.mask ≤ 255 := ⟨hy.1, hy.2.1⟩
 refine calls_fr (xs := [.agg (wArr x), .agg (wArr y)]) Try.func45 rfl Try.ntmps45 rfl (fun a hF => ?_)
 refine wrgs rfl ?_
 obtain ⟨bk1, hbk1⟩ : ∃ g, w.heap.size = g := ⟨_, rfl⟩
 refine wlal hF M hbk1 rfl rfl rfl (rn_box (cs := (wArr x)) rfl rfl hbk1) ?_; clear hF M a; intro W1 a M hF
 obtain ⟨bk2, hbk2⟩ : ∃ g, W1.heap.size = g := ⟨_, rfl⟩
 refine wlal hF M hbk2 rfl rfl rfl (rn_box (cs := (wArr y)) rfl rfl hbk2) ?_; clear hF M a; intro W2 a M hF
 obtain ⟨bk3, hbk3⟩ : ∃ g, W2.heap.size = g := ⟨_, rfl⟩
 refine wlal hF M hbk3 rfl rfl rfl (rn_alloc rfl zc_W hbk3) ?_; clear hF M a; intro W3 a M hF
 revert a; refine qm (.bool false) rfl ?_; intro a hF; refine wl0 ?_
 refine wp_seq ?_
 refine wrgs rfl ?_; revert a; refine qf bk1 1 fo_W1 rfl rfl ?_; refine qV (.int .u8 x.mask) (rn_load rfl rfl (ld_one one_u8 ((M.b 2 rfl).cell 1))) rfl ?_; refine qf bk2 1 fo_W1 rfl rfl ?_; refine qV (.int .u8 y.mask) (rn_load rfl rfl (ld_one one_u8 ((M.b 1 rfl).cell 1))) rfl ?_; refine qV (.int .u8 (mAnd x.mask y.mask)) (rn_and8 rfl rfl rfl hxm hym) rfl ?_; refine qm (.int .u8 (mAnd x.mask y.mask)) rfl ?_; intro a hF; refine wl0 ?_
 by_cases c : mixT 0 x.new (mAnd x.mask y.mask) = mixT 0 y.old (mAnd x.mask y.mask)
 ·skip
  refine wdrs (Un (rows ([])) W3.drew) (fun i => false) prog_mixed ?_
  have M0 := M.drew' _ rfl
  generalize W3.drew = W4 at *
  have M := M0; have hU := Un.refl (rows ([])) W4
  revert a; refine qo 0 bk1 3 fo_W3 hU rfl rfl (by kernel_rfl) ?_; refine qt 1 (.int .u64 x.new) rfl (fun W' hw => (rn_load rfl rfl (ld_one one_u64 ((M0.ub hw 2 rfl).cell 3)))) hU rfl (by kernel_rfl) ?_; refine qx 2 (.int .u8 (mAnd x.mask y.mask)) hU rfl (by kernel_rfl) ?_; refine qo 4 bk2 2 fo_W2 hU rfl rfl (by kernel_rfl) ?_; refine qt 5 (.int .u64 y.old) rfl (fun W' hw => (rn_load rfl rfl (ld_one one_u64 ((M0.ub hw 1 rfl).cell 2)))) hU rfl (by kernel_rfl) ?_; refine qx 6 (.int .u8 (mAnd x.mask y.mask)) hU rfl (by kernel_rfl) ?_; intro a hF; refine g1 (i := 3) (by kernel_rfl) ?_
  refine gc1 hF (rn_call3 (u := .int .u64 0) (u' := .int .u64 x.new) (u'' := .int .u8 (mAnd x.mask y.mask)) rfl rfl rfl rfl rfl Try.call59) (mix_mm M zero_in hx.2.2.2 (mAnd_u8 hxm hym)) rfl rfl rfl rfl ?_; clear hF a
  rintro e9 W9 ⟨rfl, hw9⟩; subst hw9; refine ⟨_, rfl, fun _ => hU, ?_⟩; intro a hF
  refine g1 (i := 7) (by kernel_rfl) ?_
  refine gc1 hF (rn_call3 (u := .int .u64 0) (u' := .int .u64 y.old) (u'' := .int .u8 (mAnd x.mask y.mask)) rfl rfl rfl rfl rfl Try.call59) (mix_mm M zero_in hy.2.2.1 (mAnd_u8 hxm hym)) rfl rfl rfl rfl ?_; clear hF a
  rintro e9 W9 ⟨rfl, hw9⟩; subst hw9; refine ⟨_, rfl, fun _ => hU, ?_⟩; intro a hF
  revert a; refine qp 8 (.bool false) rfl (rn_neq rfl rfl rfl (by rw [c]; exact bne_self_eq_false _)) hU rfl (by kernel_rfl) ?_; intro a hF; refine wgd (by kernel_rfl) ?_ _; refine cd_false hF rfl rfl (wp_skip (nm_then ?_))
  refine wdrs (Un (rows ([])) W4.drew) (fun i => Nat.beq i 22) prog_mixed ?_
  have M0 := M.drew' _ rfl
  generalize W4.drew = W5 at *
  have M := M0; have hU := Un.refl (rows ([])) W5
  revert a; refine qo 0 bk1 0 fo_W0 hU rfl rfl (by kernel_rfl) ?_; refine qt 1 (.int .i64 x.at_) rfl (fun W' hw => (rn_load rfl rfl (ld_one one_int ((M0.ub hw 2 rfl).cell 0)))) hU rfl (by kernel_rfl) ?_; refine qo 2 bk1 1 fo_W1 hU rfl rfl (by kernel_rfl) ?_; refine qt 3 (.int .u8 x.mask) rfl (fun W' hw => (rn_load rfl rfl (ld_one one_u8 ((M0.ub hw 2 rfl).cell 1)))) hU rfl (by kernel_rfl) ?_; refine qo 4 bk2 1 fo_W1 hU rfl rfl (by kernel_rfl) ?_; refine qt 5 (.int .u8 y.mask) rfl (fun W' hw => (rn_load rfl rfl (ld_one one_u8 ((M0.ub hw 1 rfl).cell 1)))) hU rfl (by kernel_rfl) ?_; refine qp 6 (.int .u8 (mOr x.mask y.mask)) rfl (rn_or8 rfl rfl rfl hxm hym) hU rfl (by kernel_rfl) ?_; refine qo 7 bk2 2 fo_W2 hU rfl rfl (by kernel_rfl) ?_; refine qt 8 (.int .u64 y.old) rfl (fun W' hw => (rn_load rfl rfl (ld_one one_u64 ((M0.ub hw 1 rfl).cell 2)))) hU rfl (by kernel_rfl) ?_; refine qo 9 bk1 2 fo_W2 hU rfl rfl (by kernel_rfl) ?_; refine qt 10 (.int .u64 x.old) rfl (fun W' hw => (rn_load rfl rfl (ld_one one_u64 ((M0.ub hw 2 rfl).cell 2)))) hU rfl (by kernel_rfl) ?_; refine qo 11 bk1 1 fo_W1 hU rfl rfl (by kernel_rfl) ?_; refine qt 12 (.int .u8 x.mask) rfl (fun W' hw => (rn_load rfl rfl (ld_one one_u8 ((M0.ub hw 2 rfl).cell 1)))) hU rfl (by kernel_rfl) ?_; refine qo 14 bk1 3 fo_W3 hU rfl rfl (by kernel_rfl) ?_; refine qt 15 (.int .u64 x.new) rfl (fun W' hw => (rn_load rfl rfl (ld_one one_u64 ((M0.ub hw 2 rfl).cell 3)))) hU rfl (by kernel_rfl) ?_; refine qo 16 bk2 3 fo_W3 hU rfl rfl (by kernel_rfl) ?_; refine qt 17 (.int .u64 y.new) rfl (fun W' hw => (rn_load rfl rfl (ld_one one_u64 ((M0.ub hw 1 rfl).cell 3)))) hU rfl (by kernel_rfl) ?_; refine qo 18 bk2 1 fo_W1 hU rfl rfl (by kernel_rfl) ?_; refine qt 19 (.int .u8 y.mask) rfl (fun W' hw => (rn_load rfl rfl (ld_one one_u8 ((M0.ub hw 1 rfl).cell 1)))) hU rfl (by kernel_rfl) ?_; intro a hF
  refine g1 (i := 13) (by kernel_rfl) ?_
  refine gc1 hF (rn_call3 (u := .int .u64 y.old) (u' := .int .u64 x.old) (u'' := .int .u8 x.mask) rfl rfl rfl rfl rfl Try.call59) (mix_mm M hy.2.2.1 hx.2.2.1 hxm) rfl rfl rfl rfl ?_; clear hF a
  rintro e9 W9 ⟨rfl, hw9⟩; subst hw9; refine ⟨_, rfl, fun _ => hU, ?_⟩; intro a hF
  refine g1 (i := 20) (by kernel_rfl) ?_
  refine gc1 hF (rn_call3 (u := .int .u64 x.new) (u' := .int .u64 y.new) (u'' := .int .u8 y.mask) rfl rfl rfl rfl rfl Try.call59) (mix_mm M hx.2.2.2 hy.2.2.2 hym) rfl rfl rfl rfl ?_; clear hF a
  rintro e9 W9 ⟨rfl, hw9⟩; subst hw9; refine ⟨_, rfl, fun _ => hU, ?_⟩; intro a hF
  revert a; refine qp 21 (.agg (wArr ⟨x.at_, mOr x.mask y.mask, (mixT y.old x.old x.mask), (mixT x.new y.new y.mask)⟩)) rfl (rn_build (cs := (wArr ⟨x.at_, mOr x.mask y.mask, (mixT y.old x.old x.mask), (mixT x.new y.new y.mask)⟩)) rfl (by kernel_rfl)) hU rfl (by kernel_rfl) ?_; intro a hF; refine g1 (i := 22) (by kernel_rfl) ?_
  refine wgst hF M 0 rfl (vs := (wArr ⟨x.at_, mOr x.mask y.mask, (mixT y.old x.old x.mask), (mixT x.new y.new y.mask)⟩)) (by kernel_rfl) rfl rfl rfl rfl rfl rfl rfl rfl sz_W (wArr_one _) (leb rfl) ?_; clear hF M a; intro W6 a M hF
  refine wgp (i := 23) (v := .bool true) hF (fun W' => (rn_assign rfl rfl)) rfl (by kernel_rfl) rfl rfl rfl (fin_no (by kernel_rfl)) ?_; clear hF a; intro a hF
  refine wgd (by kernel_rfl) ?_ _
  refine wp_ret (?_ : bodyPost _ _ _ .ret _ _)
  refine res_cell1 Try.results45 rfl rfl hF rfl (ld_W rfl (M.b 0 rfl).whole) ?_
  rw [show WE.comp x y = some (⟨x.at_, mOr x.mask y.mask, mixT y.old x.old x.mask, mixT x.new y.new y.mask⟩ : WE) from if_pos c]
  exact ⟨_, rfl, M.bel, fun u hu => by injection hu with hu; subst hu; exact ⟨rfl, (mOr_u8 hxm hym).1, (mOr_u8 hxm hym).2, mixT_in _ _ _, mixT_in _ _ _⟩⟩
 ·skip
  refine wdrs (Un (rows ([])) W3.drew) (fun i => false) prog_mixed ?_
  have M0 := M.drew' _ rfl
  generalize W3.drew = W7 at *
  have M := M0; have hU := Un.refl (rows ([])) W7
  revert a; refine qo 0 bk1 3 fo_W3 hU rfl rfl (by kernel_rfl) ?_; refine qt 1 (.int .u64 x.new) rfl (fun W' hw => (rn_load rfl rfl (ld_one one_u64 ((M0.ub hw 2 rfl).cell 3)))) hU rfl (by kernel_rfl) ?_; refine qx 2 (.int .u8 (mAnd x.mask y.mask)) hU rfl (by kernel_rfl) ?_; refine qo 4 bk2 2 fo_W2 hU rfl rfl (by kernel_rfl) ?_; refine qt 5 (.int .u64 y.old) rfl (fun W' hw => (rn_load rfl rfl (ld_one one_u64 ((M0.ub hw 1 rfl).cell 2)))) hU rfl (by kernel_rfl) ?_; refine qx 6 (.int .u8 (mAnd x.mask y.mask)) hU rfl (by kernel_rfl) ?_; intro a hF; refine g1 (i := 3) (by kernel_rfl) ?_
  refine gc1 hF (rn_call3 (u := .int .u64 0) (u' := .int .u64 x.new) (u'' := .int .u8 (mAnd x.mask y.mask)) rfl rfl rfl rfl rfl Try.call59) (mix_mm M zero_in hx.2.2.2 (mAnd_u8 hxm hym)) rfl rfl rfl rfl ?_; clear hF a
  rintro e9 W9 ⟨rfl, hw9⟩; subst hw9; refine ⟨_, rfl, fun _ => hU, ?_⟩; intro a hF
  refine g1 (i := 7) (by kernel_rfl) ?_
  refine gc1 hF (rn_call3 (u := .int .u64 0) (u' := .int .u64 y.old) (u'' := .int .u8 (mAnd x.mask y.mask)) rfl rfl rfl rfl rfl Try.call59) (mix_mm M zero_in hy.2.2.1 (mAnd_u8 hxm hym)) rfl rfl rfl rfl ?_; clear hF a
  rintro e9 W9 ⟨rfl, hw9⟩; subst hw9; refine ⟨_, rfl, fun _ => hU, ?_⟩; intro a hF
  revert a; refine qp 8 (.bool true) rfl (rn_neq rfl rfl rfl (bne_iff_ne.2 c)) hU rfl (by kernel_rfl) ?_; intro a hF; refine wgd (by kernel_rfl) ?_ _; refine cd_true hF rfl rfl ?_; refine wrgs rfl ?_; revert a; refine qV (.agg (wArr ⟨0, 0, 0, 0⟩)) (rn_build (cs := (wArr ⟨0, 0, 0, 0⟩)) rfl (by kernel_rfl)) rfl ?_; intro a hF
  refine wlst hF M 0 rfl (vs := (wArr ⟨0, 0, 0, 0⟩)) rfl rfl rfl rfl rfl rfl rfl sz_W (wArr_one _) (leb rfl) ?_; clear hF M a; intro W8 a M hF
  revert a; refine qm (.bool false) rfl ?_; intro a hF; refine wl0 ?_
  refine wp_ret (?_ : bodyPost _ _ _ .ret _ _)
  refine res_cell1 Try.results45 rfl rfl hF rfl (ld_W rfl (M.b 0 rfl).whole) ?_
  rw [show WE.comp x y = none from if_neg c]
  exact ⟨_, rfl, M.bel, fun u hu => by cases hu⟩
theorem at44_any (x : WE) (w : World) : Calls Try.prog 44 #[.agg (wArr x)] w fun e w' => e = .returned (.int .i64 x.at_) ∧ Below w.heap.size w w' := by
 have M := Mm.begin (S := fun _ => False) (w := w) (F := fun _ _ => True) (fun b hb => hb.elim) stable_true trivial
 refine calls_fr (xs := [.agg (wArr x)]) Try.func44 rfl Try.ntmps44 rfl (fun a hF => ?_)
 refine wrgs rfl ?_
 obtain ⟨bk1, hbk1⟩ : ∃ g, w.heap.size = g := ⟨_, rfl⟩
 refine wlal hF M hbk1 rfl rfl rfl (rn_box (cs := (wArr x)) rfl rfl hbk1) ?_; clear hF M a; intro W1 a M hF
 revert a; refine qm (.int .i64 0) rfl ?_; intro a hF; refine wl0 ?_; refine wrgs rfl ?_; revert a; refine qf bk1 0 fo_W0 rfl rfl ?_; refine qV (.int .i64 x.at_) (rn_load rfl rfl (ld_one one_int ((M.b 0 rfl).cell 0))) rfl ?_; refine qm (.int .i64 x.at_) rfl ?_; intro a hF; refine wl0 ?_
 exact wp_ret (res_slot Try.results44 rfl hF ⟨rfl, M.bel⟩)
theorem at47_any (v : Kv) (w : World) : Calls Try.prog 47 #[.agg v.arr] w fun e w' => e = .returned (.int .i64 v.at_) ∧ Below w.heap.size w w' := by
 have M := Mm.begin (S := fun _ => False) (w := w) (F := fun _ _ => True) (fun b hb => hb.elim) stable_true trivial
 refine calls_fr (xs := [.agg v.arr]) Try.func47 rfl Try.ntmps47 rfl (fun a hF => ?_)
 refine wrgs rfl ?_
 obtain ⟨bk1, hbk1⟩ : ∃ g, w.heap.size = g := ⟨_, rfl⟩
 refine wlal hF M hbk1 rfl rfl rfl (rn_box (cs := (Kv.arr v)) rfl rfl hbk1) ?_; clear hF M a; intro W1 a M hF
 revert a; refine qm (.int .i64 0) rfl ?_; intro a hF; refine wl0 ?_; refine wrgs rfl ?_; revert a; refine qf bk1 0 fo_K0 rfl rfl ?_; refine qV (.int .i64 v.at_) (rn_load rfl rfl (ld_one one_int ((M.b 0 rfl).cell 0))) rfl ?_; refine qm (.int .i64 v.at_) rfl ?_; intro a hF; refine wl0 ?_
 exact wp_ret (res_slot Try.results47 rfl hF ⟨rfl, M.bel⟩)
end Go.Proofs.Ytbmjiokjigkdnaa
namespace Go.Proofs.Ytbmjiokjigkdnaa
open Go.RowKit Go.Proofs.Ytbmjiokjigkdnaa.Top
section
variable {P : Program} {ops : Array Oper} {K : Act → World → Prop} {F : World → Prop} {fin : Nat → Bool} {fuel : Nat} {listed : Array Bool} {o : Oper} {a : Act} {n : Nat} {f : Nat → Value} {w w' : World}
theorem gcg1 {md : Region.Mode} {i d j e0 : Nat} {b : Bool} {g : FuncId} {xs : Array Value} {R : Ending → World → Prop} (hF : Fr a n f) (hr : (execOp (Eo f) o).run P w = .ok (.enter g xs) w) (hc : Calls P g xs w R) (hi : ops[i]? = some o) (hg : o.guard = some (j, b)) (hj : (ops[j]?).bind (·.dst) = some e0) (he : Nat.blt e0 n = true) (hv : f e0 = .bool b) (hd : o.dst = some d) (hn : opIn n o = true)
  (k : ∀ e w', R e w' → ∃ v, e = .returned v ∧ (finL fin (listed.setIfInBounds i true) = false → F w') ∧ ∀ a', Fr a' n (sl f d v) → wpG P md ops (Nm K) F fin fuel (listed.setIfInBounds i true) a' w') : wpG1 P md ops (Nm K) F fin fuel listed i a w := by
 unfold wpG1 wpOp
 simp only [hi]
 rw [wanted_eq hg hj he hF hv]
 simp only [beq_self_eq_true, if_true]
 exact .inl (wpOper_call (by rw [hF.exec hn]; exact hr) hc fun e w' hR => by
  obtain ⟨v, he, hf, hk⟩ := k e w' hR
  exact ⟨v, he, hf, by rw [hd]; exact hk _ (hF.put d v)⟩)
theorem gs1 {md : Region.Mode} {i d j e : Nat} {b : Bool} (hF : Fr a n f) (hi : ops[i]? = some o) (hg : o.guard = some (j, b)) (hj : (ops[j]?).bind (·.dst) = some e) (he : Nat.blt e n = true) (hv : f e = .bool (!b) ∨ f e = undef) (hd : o.dst = some d) (hFw : finL fin (listed.setIfInBounds i true) = false → F w)
  (k : ∀ a', Fr a' n (sl f d undef) → wpG P md ops (Nm K) F fin fuel (listed.setIfInBounds i true) a' w) : wpG1 P md ops (Nm K) F fin fuel listed i a w := by
 unfold wpG1 wpOp
 simp only [hi]
 have : Region.wanted o (yielded ops a.tmps) = false := by
  rcases hv with hv | hv
  ·rw [wanted_eq hg hj he hF hv]; cases b <;> rfl
  ·exact wanted_undef hg hj he hF hv
 rw [this]
 simp only [Bool.false_eq_true, if_false]
 rw [hd]
 exact ⟨hFw, k _ (hF.put d undef)⟩
end
section
variable {α : Type} {at_ : α → Int} {one : α → α → Option α}
theorem mg_end {n : Nat} (h : 0 < n) : mergeR at_ one n [] [] = some [] := by
 obtain ⟨k, rfl⟩ : ∃ k, n = k + 1 := ⟨n - 1, by omega⟩
 rw [mergeR]
theorem mg_right {n : Nat} {y : α} {q : List α} (h : q.length + 1 < n) : ∃ k, q.length < k ∧ mergeR at_ one n [] (y :: q) = (mergeR at_ one k [] q).map (y :: ·) := by
 obtain ⟨k, rfl⟩ : ∃ k, n = k + 2 := ⟨n - 2, by omega⟩
 exact ⟨k + 1, by omega, by rw [mergeR, mergeR]; rfl⟩
theorem mg_left {n : Nat} {x : α} {p : List α} (h : p.length + 1 < n) : ∃ k, p.length < k ∧ mergeR at_ one n (x :: p) [] = (mergeR at_ one k p []).map (x :: ·) := by
 obtain ⟨k, rfl⟩ : ∃ k, n = k + 2 := ⟨n - 2, by omega⟩
 refine ⟨k + 1, by omega, ?_⟩
 rw [mergeR]
 cases p with
 | nil => rw [mergeR]; rfl
 | cons z p => rw [mergeR]; rfl
theorem map_app1 (b : Option (List α)) (acc : List α) (x : α) : (b.map (x :: ·)).map (acc ++ ·) = b.map ((acc ++ [x]) ++ ·) := by cases b <;> simp
end
def WsO (r : Option (List WE)) (S : Nat → Prop) (w : World) (e : Ending) (w' : World) : Prop := ∃ (A : Option Addr) (n c : Nat), e = .returned (.tuple #[.slice A n c, .bool r.isSome]) ∧ Below w.heap.size w w' ∧ ∀ u, r = some u → WsAt w' (Grow S w w') A n c u
def KsO (r : Option (List KEd)) (S : Nat → Prop) (w : World) (e : Ending) (w' : World) : Prop := ∃ (A : Option Addr) (n c : Nat) (kv : List Kv), e = .returned (.tuple #[.slice A n c, .bool r.isSome]) ∧ Below w.heap.size w w' ∧ ∀ u, r = some u → KsAt w' (Grow S w w') A n c u kv
def KdO (r : Option KEd) (S : Nat → Prop) (w : World) (e : Ending) (w' : World) : Prop := ∃ v : Kv, e = .returned (.tuple #[.agg v.arr, .bool r.isSome]) ∧ Below w.heap.size w w' ∧ ∀ u, r = some u → v.at_ = u.at_ ∧ EdAt w' (Grow S w w') u.e v.e
theorem stable_ked (k : KEd) (v : Kv) : Stable fun W S => v.at_ = k.at_ ∧ EdAt W S k.e v.e := ⟨fun h hk => ⟨h.1, h.2.keep hk⟩, fun h hS => ⟨h.1, h.2.mono hS⟩⟩
theorem wc_mm {S : Nat → Prop} {w W : World} {l : List Box} {r : List Row} {F : World → (Nat → Prop) → Prop} {x y : WE} (M : Mm S w W l r F) (hx : wIn x) (hy : wIn y) :
  Calls Try.prog 45 #[.agg (wArr x), .agg (wArr y)] W fun e W' => ∃ z : WE, (∀ u, WE.comp x y = some u → u = z ∧ wIn u) ∧ e = .returned (.tuple #[.agg (wArr z), .bool (WE.comp x y).isSome]) ∧ Mm S w W' l r F ∧ Un [] W W' :=
 (word_comp x y W hx hy).mono fun _ _ ⟨z, he, hb, h⟩ => ⟨z, h, he, M.step hb, .of_below hb⟩
theorem kd_mm {S : Nat → Prop} {w W : World} {l : List Box} {r : List Row} {F : World → (Nat → Prop) → Prop} {xs : Array Value} {g : FuncId} {d : Option KEd} (M : Mm S w W l r F) (hc : Calls Try.prog g xs W (KdO d (mmS S w W l r) W)) :
  Calls Try.prog g xs W fun e W' => ∃ z : Kv, e = .returned (.tuple #[.agg z.arr, .bool d.isSome]) ∧ Mm S w W' l r (fun W S => F W S ∧ ∀ u, d = some u → z.at_ = u.at_ ∧ EdAt W S u.e z.e) ∧ Un [] W W' :=
 hc.mono fun _ _ ⟨z, he, hb, h⟩ => ⟨z, he, M.call hb (stable_opt _ fun _ => stable_ked _ _) h, .of_below hb⟩
theorem at44_mm {S : Nat → Prop} {w W : World} {l : List Box} {r : List Row} {F : World → (Nat → Prop) → Prop} (M : Mm S w W l r F) (x : WE) : Calls Try.prog 44 #[.agg (wArr x)] W fun e W' => e = .returned (.int .i64 x.at_) ∧ Mm S w W' l r F ∧ Un [] W W' :=
 (at44_any x W).mono fun _ _ ⟨he, hb⟩ => ⟨he, M.step hb, .of_below hb⟩
theorem at47_mm {S : Nat → Prop} {w W : World} {l : List Box} {r : List Row} {F : World → (Nat → Prop) → Prop} (M : Mm S w W l r F) (x : Kv) : Calls Try.prog 47 #[.agg x.arr] W fun e W' => e = .returned (.int .i64 x.at_) ∧ Mm S w W' l r F ∧ Un [] W W' :=
 (at47_any x W).mono fun _ _ ⟨he, hb⟩ => ⟨he, M.step hb, .of_below hb⟩
set_option maxHeartbeats 1000000 in
theorem merged43_any (P0 Q0 : List WE) (Ap0 : Option Addr) (np0 cp0 : Nat) (Aq0 : Option Addr) (nq0 cq0 : Nat) (S : Nat → Prop) (w : World) (hP : WsAt w S Ap0 np0 cp0 P0) (hQ : WsAt w S Aq0 nq0 cq0 Q0) (hB : P0.length + Q0.length ≤ 4398046511104) (hS : ∀ b, S b → b < w.heap.size) :
  Calls Try.prog 43 #[.slice Ap0 np0 cp0, .slice Aq0 nq0 cq0, .func (.func 44) #[] #[], .func (.func 45) #[] #[]] w (WsO (mergeR WE.at_ WE.comp (P0.length + Q0.length + 1) P0 Q0) S w) := by
 generalize hres : mergeR WE.at_ WE.comp (P0.length + Q0.length + 1) P0 Q0 = res
 have hfu : ∃ fu, P0.length + Q0.length < fu ∧ res = (mergeR WE.at_ WE.comp fu P0 Q0).map ([] ++ ·) := ⟨_, Nat.lt_succ_self _, by rw [hres]; simp⟩
 have hin : ∀ x ∈ P0, wIn x := hP.in_
 have hin' : ∀ x ∈ Q0, wIn x := hQ.in_
 have M := Mm.begin (F := fun W S => ((True ∧ WsAt W S Ap0 np0 cp0 P0) ∧ WsAt W S Aq0 nq0 cq0 Q0)) hS ((stable_true.and (stable_ws _ _ _ _)).and (stable_ws _ _ _ _)) ⟨⟨trivial, hP⟩, hQ⟩
 clear hres hP hQ
 refine calls_fr (xs := [.slice Ap0 np0 cp0, .slice Aq0 nq0 cq0, .func (.func 44) #[] #[], .func (.func 45) #[] #[]]) Try.func43 rfl Try.ntmps43 rfl (fun a hF => ?_)
 replace M := M.nilRow 52 4
 refine wrgs rfl ?_; revert a; refine qm (.slice none 0 0) rfl ?_; refine qm (.bool false) rfl ?_; intro a hF; refine wl0 ?_; refine wrgs rfl ?_; revert a; refine qm (.slice none 0 0) rfl ?_; intro a hF; refine wl0 ?_
 refine wp_seq (wp_block (wlp (fun n a W => ∃ (f : Nat → Value) (P Q acc : List WE) (Ap : Option Addr) (np cp : Nat) (Aq : Option Addr) (nq cq : Nat) (A : Option Addr) (c : Nat), ((∀ x ∈ P, x ∈ P0) ∧ (∀ x ∈ Q, x ∈ Q0) ∧ P.length + Q.length = n ∧ acc.length + n ≤ 4398046511104 ∧ (∀ x ∈ acc, wIn x) ∧ (∃ fu, P.length + Q.length < fu ∧ res = (mergeR WE.at_ WE.comp fu P Q).map (acc ++ ·))) ∧ Fr a 98 f ∧ f 0 = .slice Ap np cp ∧ f 1 = .slice Aq nq cq ∧ f 2 = .func (.func 44) #[] #[] ∧ f 3 = .func (.func 45) #[] #[] ∧ f 10 = .slice A acc.length c ∧ Mm S w W [] (⟨52, 4, A, acc.length, c, (wCellsL acc)⟩ :: []) (fun W S => ((True ∧ WsAt W S Ap np cp P) ∧ WsAt W S Aq nq cq Q))) _ ⟨_, P0, Q0, [], Ap0, np0, cp0, Aq0, nq0, cq0, none, 0, ⟨fun _ h => h, fun _ h => h, rfl, by simpa using hB, (fun _ h => by cases h), hfu⟩, hF, rfl, rfl, rfl, rfl, rfl, M⟩ ?_))
 clear hF M a hfu
 rintro n a W ⟨f, P, Q, acc, Ap, np, cp, Aq, nq, cq, A, c, ⟨hsp, hsq, hn, hB2, hacc, fu, hfu, hres⟩, hF, hf0, hf1, hf2, hf3, hf10, M⟩
 replace hF := (((((hF.same (d := 0) hf0).same (d := 1) hf1).same (d := 2) hf2).same (d := 3) hf3).same (d := 10) hf10)
 have hrl := M.len 0 rfl
 have hlp := M.fact.1.2.len; have hlq := M.fact.2.len
 cases P with
 | nil =>
  replace hlp : np = 0 := hlp
  cases Q with
  | nil =>
   replace hlq : nq = 0 := hlq
   simp only [List.length_cons, List.length_nil] at hn
   refine wp_seq ?_
   refine wrgs rfl ?_; revert a; refine qm (.slice Ap np cp) rfl ?_; refine qV (.int .i64 (↑np)) (rn_len rfl rfl is_lW) rfl ?_; refine qV (.bool false) (rn_gtr rfl rfl rfl (decide_eq_false (show ¬ (0 : Int) < ↑np by omega))) rfl ?_; refine qm (.bool false) rfl ?_; refine qn (.slice Aq nq cq) rfl ?_; refine qg (.int .i64 (↑nq)) (rn_len rfl rfl is_lW) rfl ?_; refine qg (.bool false) (rn_gtr rfl rfl rfl (decide_eq_false (show ¬ (0 : Int) < ↑nq by omega))) rfl ?_; refine qV (.bool false) (rn_pick rfl rfl rfl) rfl ?_; intro a hF; refine wl0 ?_; refine cd_false hF rfl rfl (wp_exit (ex_then (ex_then (ex_here ?_)))); refine nm_then ?_
   have hres2 : res = some acc := by rw [hres, mg_end (by omega)]; simp
   have M2 := M.done 0 (few := 4398046511104) rfl (by show acc.length ≤ _; omega)
   replace M := M2.unrow; clear M2
   refine wrgs rfl ?_; revert a; refine qm (.slice A acc.length c) rfl ?_; refine qm (.slice A acc.length c) rfl ?_; refine qm (.bool true) rfl ?_; intro a hF; refine wl0 ?_
   refine wp_ret (res_slots Try.results43 rfl rfl hF ?_)
   rw [hres2]
   exact ⟨A, acc.length, c, rfl, M.bel, fun u hu => by injection hu with hu; subst hu; exact ⟨M.grown.2, hacc⟩⟩
  | cons y Q1 =>
   replace hlq : nq = Q1.length + 1 := hlq
   obtain ⟨fu', hfu', he⟩ := mg_right (at_ := WE.at_) (one := WE.comp) (y := y) (q := Q1) (n := fu) (by simpa using hfu)
   rw [he, map_app1] at hres; clear he
   simp only [List.length_cons, List.length_nil] at hn
   refine wp_seq ?_
   refine wrgs rfl ?_; revert a; refine qm (.slice Ap np cp) rfl ?_; refine qV (.int .i64 (↑np)) (rn_len rfl rfl is_lW) rfl ?_; refine qV (.bool false) (rn_gtr rfl rfl rfl (decide_eq_false (show ¬ (0 : Int) < ↑np by omega))) rfl ?_; refine qm (.bool false) rfl ?_; refine qn (.slice Aq nq cq) rfl ?_; refine qg (.int .i64 (↑nq)) (rn_len rfl rfl is_lW) rfl ?_; refine qg (.bool true) (rn_gtr rfl rfl rfl (decide_eq_true (show (0 : Int) < ↑nq by omega))) rfl ?_; refine qV (.bool true) (rn_pick rfl rfl rfl) rfl ?_; intro a hF; refine wl0 ?_; refine cd_true hF rfl rfl (wp_skip (nm_then ?_))
   refine wp_block (wp_block ?_)
   obtain ⟨bq, oq, rfl, hbo, hR⟩ := M.fact.2.rng (i := 0) (by simp)
   replace M := M.note (stable_range bq oq (wArr y).toList) ⟨hbo, range0 hR⟩; clear hR hbo
   refine wdrs (Un (rows (⟨52, 4, A, acc.length, c, (wCellsL acc)⟩ :: [])) W.drew) (fun i => false) prog_mixed ?_
   have M0 := M.drew' _ rfl
   generalize W.drew = W1 at *
   have M := M0; have hU := Un.refl (rows (⟨52, 4, A, acc.length, c, (wCellsL acc)⟩ :: [])) W1
   revert a; refine qx 0 (.slice (some ⟨bq, oq, none⟩) nq cq) hU rfl (by kernel_rfl) ?_; refine qp 1 (.int .i64 (↑nq)) rfl (rn_len rfl rfl is_lW) hU rfl (by kernel_rfl) ?_; refine qp 2 (.bool false) rfl (rn_eql rfl rfl rfl (beq_false_of_ne (show (↑nq : Int) ≠ 0 by omega))) hU rfl (by kernel_rfl) ?_; refine qx 3 (.bool false) hU rfl (by kernel_rfl) ?_; refine qH 4 (.slice Ap np cp) hU rfl (by kernel_rfl) ?_; refine qG 5 (.int .i64 (↑np)) rfl (rn_len rfl rfl is_lW) hU rfl (by kernel_rfl) ?_; refine qG 6 (.bool false) rfl (rn_gtr rfl rfl rfl (decide_eq_false (show ¬ (0 : Int) < ↑np by omega))) hU rfl (by kernel_rfl) ?_; refine qH 7 (.bool false) hU rfl (by kernel_rfl) ?_; refine qs 8 hU rfl (by kernel_rfl) ?_; refine qs 9 hU rfl (by kernel_rfl) ?_; refine qs 10 hU rfl (by kernel_rfl) ?_; refine qs 11 hU rfl (by kernel_rfl) ?_; refine qs 13 hU rfl (by kernel_rfl) ?_; refine qs 14 hU rfl (by kernel_rfl) ?_; refine qs 15 hU rfl (by kernel_rfl) ?_; refine qs 16 hU rfl (by kernel_rfl) ?_; intro a hF; refine g1 (i := 12) (by kernel_rfl) ?_
   refine gs1 hF rfl rfl rfl rfl (.inl rfl) rfl (fun _ => hU) ?_; clear hF a; intro a hF
   refine g1 (i := 17) (by kernel_rfl) ?_
   refine gs1 hF rfl rfl rfl rfl (.inl rfl) rfl (fun _ => hU) ?_; clear hF a; intro a hF
   revert a; refine qs 18 hU rfl (by kernel_rfl) ?_; refine qG 19 (.bool false) rfl (rn_pick rfl rfl rfl) hU rfl (by kernel_rfl) ?_; refine qp 20 (.bool false) rfl (rn_pick rfl rfl rfl) hU rfl (by kernel_rfl) ?_; refine qx 21 (.bool false) hU rfl (by kernel_rfl) ?_; intro a hF; refine wgd (by kernel_rfl) ?_ _; refine cd_false hF rfl rfl ?_
   refine wdrs (Un (rows (⟨52, 4, A, acc.length, c, (wCellsL acc)⟩ :: [])) W1.drew) (fun i => false) prog_mixed ?_
   have M0 := M.drew' _ rfl
   generalize W1.drew = W2 at *
   have M := M0; have hU := Un.refl (rows (⟨52, 4, A, acc.length, c, (wCellsL acc)⟩ :: [])) W2
   revert a; refine qx 0 (.slice Ap np cp) hU rfl (by kernel_rfl) ?_; refine qp 1 (.int .i64 (↑np)) rfl (rn_len rfl rfl is_lW) hU rfl (by kernel_rfl) ?_; refine qp 2 (.bool true) rfl (rn_eql rfl rfl rfl (by rw [show np = 0 by omega]; rfl)) hU rfl (by kernel_rfl) ?_; refine qx 3 (.bool true) hU rfl (by kernel_rfl) ?_; refine qs 4 hU rfl (by kernel_rfl) ?_; refine qs 5 hU rfl (by kernel_rfl) ?_; refine qs 6 hU rfl (by kernel_rfl) ?_; refine qs 7 hU rfl (by kernel_rfl) ?_; refine qs 9 hU rfl (by kernel_rfl) ?_; refine qs 10 hU rfl (by kernel_rfl) ?_; refine qs 11 hU rfl (by kernel_rfl) ?_; refine qs 12 hU rfl (by kernel_rfl) ?_; intro a hF; refine g1 (i := 8) (by kernel_rfl) ?_
   refine gs1 hF rfl rfl rfl rfl (.inl rfl) rfl (fun _ => hU) ?_; clear hF a; intro a hF
   refine g1 (i := 13) (by kernel_rfl) ?_
   refine gs1 hF rfl rfl rfl rfl (.inl rfl) rfl (fun _ => hU) ?_; clear hF a; intro a hF
   revert a; refine qs 14 hU rfl (by kernel_rfl) ?_; refine qp 15 (.bool true) rfl (rn_pick rfl rfl rfl) hU rfl (by kernel_rfl) ?_; refine qx 16 (.bool true) hU rfl (by kernel_rfl) ?_; intro a hF; refine wgd (by kernel_rfl) ?_ _; refine cd_true hF rfl rfl ?_
   refine wdr (Un (rows (⟨52, 4, A, acc.length, c, (wCellsL acc)⟩ :: [])) W2.drew) (fun i => false) prog_mixed ?_
   have M0 := M.drew' _ rfl
   generalize W2.drew = W3 at *
   have M := M0; have hU := Un.refl (rows (⟨52, 4, A, acc.length, c, (wCellsL acc)⟩ :: [])) W3
   revert a; refine qx 0 (.slice A acc.length c) hU rfl (by kernel_rfl) ?_; refine qx 1 (.slice (some ⟨bq, oq, none⟩) nq cq) hU rfl (by kernel_rfl) ?_; refine qp 2 (.pointer (some ⟨bq, oq, none⟩)) rfl (rn_index (b := bq) (of := oq) (q := oq) rfl rfl rfl (by omega) es_lW (by rfl)) hU rfl (by kernel_rfl) ?_; refine qt 3 (.agg (wArr y)) rfl (fun W' hw => (rn_load rfl rfl (ld_W rfl (M0.uf hw).2.2))) hU rfl (by kernel_rfl) ?_; refine qx 6 (.slice (some ⟨bq, oq, none⟩) nq cq) hU rfl (by kernel_rfl) ?_; refine qp 7 (.slice (fromA (some ⟨bq, oq, none⟩) cq 1 4) Q1.length (cq - 1)) rfl (rn_from (k := 1) (m := Q1.length) (d := cq - 1) rfl rfl rfl es_lW (by omega) (by omega) rfl) hU rfl (by kernel_rfl) ?_; intro a hF; refine g1 (i := 4) (by kernel_rfl) ?_
   obtain ⟨bk1, hbk1⟩ : ∃ g, W3.heap.size = g := ⟨_, rfl⟩
   refine wgal hF M hU hbk1 rfl rfl rfl rfl (rn_bs1 (cs := (wArr y)) ti_lW (by decide) rfl rfl rfl hbk1) ?_; clear hF M hU a; intro W4 a M hU hgebk1 hF
   refine g1 (i := 5) (by kernel_rfl) ?_
   refine wgap hF M hU 0 rfl (rows_in (i := 0) rfl) ti_lW rfl rfl rfl rfl rfl rfl ((wArr y).toList) rfl rfl (src_box (M.b 0 rfl)) (wArr_one _) (by show (acc.length + 1) * 32 ≤ _; omega) (by show acc.length + 1 ≤ _; unfold maxLen; omega) ?_; clear hF M hU a; intro A5 c5 W5 a M hU hx5 hF
   obtain ⟨ga5, rfl⟩ : ∃ g, A5 = some ⟨g, 0, none⟩ := M.at0 0 rfl (pos_app _ _ (leb (a := 1) rfl))
   revert a; refine qx 8 (.slice (some ⟨ga5, 0, none⟩) (acc.length + 1) c5) hU rfl (by kernel_rfl) ?_; refine qx 9 (.slice (fromA (some ⟨bq, oq, none⟩) cq 1 4) Q1.length (cq - 1)) hU rfl (by kernel_rfl) ?_; intro a hF; refine wgd (by kernel_rfl) ?_ _
   replace M := M.tail
   rw [wSnoc] at M
   refine nm_block (nm_block (nm_then ?_))
   replace hfu' : ([] : List WE).length + Q1.length < fu' := by simpa using hfu'
   refine ⟨[].length + Q1.length, by (try simp only [List.length_cons, List.length_nil]); omega, _, [], Q1, acc ++ [y], Ap, np, cp, fromA (some ⟨bq, oq, none⟩) cq 1 4, Q1.length, cq - 1, (some ⟨ga5, 0, none⟩), c5, ⟨fun u hu => (by cases hu), fun u hu => hsq u (List.mem_cons_of_mem _ hu), rfl, by (try simp only [List.length_append, List.length_cons, List.length_nil]); omega, ?_, fu', hfu', hres⟩, hF, rfl, rfl, rfl, rfl, ?_, ?_⟩
   ·intro u hu
    rcases List.mem_append.1 hu with h9 | h9
    ·exact hacc u h9
    ·rw [List.mem_singleton.1 h9]; exact hin' y (hsq y List.mem_cons_self)
   ·rw [List.length_append]; rfl
   ·rw [List.length_append]; exact M.imp ((stable_true.and (stable_ws _ _ _ _)).and (stable_ws _ _ _ _)) fun h => ⟨⟨trivial, h.1.1.2⟩, h.1.2.tail⟩
 | cons x P1 =>
  replace hlp : np = P1.length + 1 := hlp
  cases Q with
  | nil =>
   replace hlq : nq = 0 := hlq
   obtain ⟨fu', hfu', he⟩ := mg_left (at_ := WE.at_) (one := WE.comp) (x := x) (p := P1) (n := fu) (by simpa using hfu)
   rw [he, map_app1] at hres; clear he
   simp only [List.length_cons, List.length_nil] at hn
   refine wp_seq ?_
   refine wrgs rfl ?_; revert a; refine qm (.slice Ap np cp) rfl ?_; refine qV (.int .i64 (↑np)) (rn_len rfl rfl is_lW) rfl ?_; refine qV (.bool true) (rn_gtr rfl rfl rfl (decide_eq_true (show (0 : Int) < ↑np by omega))) rfl ?_; refine qm (.bool true) rfl ?_; refine qi rfl ?_; refine qi rfl ?_; refine qi rfl ?_; refine qV (.bool true) (rn_pick rfl rfl rfl) rfl ?_; intro a hF; refine wl0 ?_; refine cd_true hF rfl rfl (wp_skip (nm_then ?_))
   refine wp_block (wp_block ?_)
   obtain ⟨bp, op, rfl, hbo, hR⟩ := M.fact.1.2.rng (i := 0) (by simp)
   replace M := M.note (stable_range bp op (wArr x).toList) ⟨hbo, range0 hR⟩; clear hR hbo
   refine wdrs (Un (rows (⟨52, 4, A, acc.length, c, (wCellsL acc)⟩ :: [])) W.drew) (fun i => false) prog_mixed ?_
   have M0 := M.drew' _ rfl
   generalize W.drew = W6 at *
   have M := M0; have hU := Un.refl (rows (⟨52, 4, A, acc.length, c, (wCellsL acc)⟩ :: [])) W6
   revert a; refine qx 0 (.slice Aq nq cq) hU rfl (by kernel_rfl) ?_; refine qp 1 (.int .i64 (↑nq)) rfl (rn_len rfl rfl is_lW) hU rfl (by kernel_rfl) ?_; refine qp 2 (.bool true) rfl (rn_eql rfl rfl rfl (by rw [show nq = 0 by omega]; rfl)) hU rfl (by kernel_rfl) ?_; refine qx 3 (.bool true) hU rfl (by kernel_rfl) ?_; refine qs 4 hU rfl (by kernel_rfl) ?_; refine qs 5 hU rfl (by kernel_rfl) ?_; refine qs 6 hU rfl (by kernel_rfl) ?_; refine qs 7 hU rfl (by kernel_rfl) ?_; intro a hF; refine wgts (i := 8) hF rfl (by kernel_rfl) rfl rfl rfl (.inr rfl) rfl (fun _ => hU) ?_; clear hF a; intro a hF; refine wgts (i := 9) hF rfl (by kernel_rfl) rfl rfl rfl (.inr rfl) rfl (fun _ => hU) ?_; clear hF a; intro a hF; refine wgts (i := 10) hF rfl (by kernel_rfl) rfl rfl rfl (.inr rfl) rfl (fun _ => hU) ?_; clear hF a; intro a hF; refine wgts (i := 11) hF rfl (by kernel_rfl) rfl rfl rfl (.inr rfl) rfl (fun _ => hU) ?_; clear hF a; intro a hF; refine wgts (i := 13) hF rfl (by kernel_rfl) rfl rfl rfl (.inr rfl) rfl (fun _ => hU) ?_; clear hF a; intro a hF; refine wgts (i := 14) hF rfl (by kernel_rfl) rfl rfl rfl (.inr rfl) rfl (fun _ => hU) ?_; clear hF a; intro a hF; refine wgts (i := 15) hF rfl (by kernel_rfl) rfl rfl rfl (.inr rfl) rfl (fun _ => hU) ?_; clear hF a; intro a hF; refine wgts (i := 16) hF rfl (by kernel_rfl) rfl rfl rfl (.inr rfl) rfl (fun _ => hU) ?_; clear hF a; intro a hF; refine g1 (i := 12) (by kernel_rfl) ?_
   refine gs1 hF rfl rfl rfl rfl (.inr rfl) rfl (fun _ => hU) ?_; clear hF a; intro a hF
   refine g1 (i := 17) (by kernel_rfl) ?_
   refine gs1 hF rfl rfl rfl rfl (.inr rfl) rfl (fun _ => hU) ?_; clear hF a; intro a hF
   refine wgts (i := 18) hF rfl (by kernel_rfl) rfl rfl rfl (.inr rfl) rfl (fun _ => hU) ?_; clear hF a; intro a hF; revert a; refine qs 19 hU rfl (by kernel_rfl) ?_; refine qp 20 (.bool true) rfl (rn_pick rfl rfl rfl) hU rfl (by kernel_rfl) ?_; refine qx 21 (.bool true) hU rfl (by kernel_rfl) ?_; intro a hF; refine wgd (by kernel_rfl) ?_ _; refine cd_true hF rfl rfl ?_
   refine wdr (Un (rows (⟨52, 4, A, acc.length, c, (wCellsL acc)⟩ :: [])) W6.drew) (fun i => false) prog_mixed ?_
   have M0 := M.drew' _ rfl
   generalize W6.drew = W7 at *
   have M := M0; have hU := Un.refl (rows (⟨52, 4, A, acc.length, c, (wCellsL acc)⟩ :: [])) W7
   revert a; refine qx 0 (.slice A acc.length c) hU rfl (by kernel_rfl) ?_; refine qx 1 (.slice (some ⟨bp, op, none⟩) np cp) hU rfl (by kernel_rfl) ?_; refine qp 2 (.pointer (some ⟨bp, op, none⟩)) rfl (rn_index (b := bp) (of := op) (q := op) rfl rfl rfl (by omega) es_lW (by rfl)) hU rfl (by kernel_rfl) ?_; refine qt 3 (.agg (wArr x)) rfl (fun W' hw => (rn_load rfl rfl (ld_W rfl (M0.uf hw).2.2))) hU rfl (by kernel_rfl) ?_; refine qx 6 (.slice (some ⟨bp, op, none⟩) np cp) hU rfl (by kernel_rfl) ?_; refine qp 7 (.slice (fromA (some ⟨bp, op, none⟩) cp 1 4) P1.length (cp - 1)) rfl (rn_from (k := 1) (m := P1.length) (d := cp - 1) rfl rfl rfl es_lW (by omega) (by omega) rfl) hU rfl (by kernel_rfl) ?_; intro a hF; refine g1 (i := 4) (by kernel_rfl) ?_
   obtain ⟨bk2, hbk2⟩ : ∃ g, W7.heap.size = g := ⟨_, rfl⟩
   refine wgal hF M hU hbk2 rfl rfl rfl rfl (rn_bs1 (cs := (wArr x)) ti_lW (by decide) rfl rfl rfl hbk2) ?_; clear hF M hU a; intro W8 a M hU hgebk2 hF
   refine g1 (i := 5) (by kernel_rfl) ?_
   refine wgap hF M hU 0 rfl (rows_in (i := 0) rfl) ti_lW rfl rfl rfl rfl rfl rfl ((wArr x).toList) rfl rfl (src_box (M.b 0 rfl)) (wArr_one _) (by show (acc.length + 1) * 32 ≤ _; omega) (by show acc.length + 1 ≤ _; unfold maxLen; omega) ?_; clear hF M hU a; intro A9 c9 W9 a M hU hx9 hF
   obtain ⟨ga9, rfl⟩ : ∃ g, A9 = some ⟨g, 0, none⟩ := M.at0 0 rfl (pos_app _ _ (leb (a := 1) rfl))
   revert a; refine qx 8 (.slice (some ⟨ga9, 0, none⟩) (acc.length + 1) c9) hU rfl (by kernel_rfl) ?_; refine qx 9 (.slice (fromA (some ⟨bp, op, none⟩) cp 1 4) P1.length (cp - 1)) hU rfl (by kernel_rfl) ?_; intro a hF; refine wgd (by kernel_rfl) ?_ _
   replace M := M.tail
   rw [wSnoc] at M
   refine nm_block (nm_block (nm_then ?_))
   replace hfu' : P1.length + ([] : List WE).length < fu' := by simpa using hfu'
   refine ⟨P1.length + [].length, by (try simp only [List.length_cons, List.length_nil]); omega, _, P1, [], acc ++ [x], fromA (some ⟨bp, op, none⟩) cp 1 4, P1.length, cp - 1, Aq, nq, cq, (some ⟨ga9, 0, none⟩), c9, ⟨fun u hu => hsp u (List.mem_cons_of_mem _ hu), fun u hu => (by cases hu), rfl, by (try simp only [List.length_append, List.length_cons, List.length_nil]); omega, ?_, fu', hfu', hres⟩, hF, rfl, rfl, rfl, rfl, ?_, ?_⟩
   ·intro u hu
    rcases List.mem_append.1 hu with h9 | h9
    ·exact hacc u h9
    ·rw [List.mem_singleton.1 h9]; exact hin x (hsp x List.mem_cons_self)
   ·rw [List.length_append]; rfl
   ·rw [List.length_append]; exact M.imp ((stable_true.and (stable_ws _ _ _ _)).and (stable_ws _ _ _ _)) fun h => ⟨⟨trivial, h.1.1.2.tail⟩, h.1.2⟩
  | cons y Q1 =>
   replace hlq : nq = Q1.length + 1 := hlq
   obtain ⟨fu', rfl⟩ : ∃ k, fu = k + 1 := ⟨fu - 1, by omega⟩
   simp only [List.length_cons] at hfu
   rw [mergeR] at hres
   simp only [List.length_cons, List.length_nil] at hn
   refine wp_seq ?_
   refine wrgs rfl ?_; revert a; refine qm (.slice Ap np cp) rfl ?_; refine qV (.int .i64 (↑np)) (rn_len rfl rfl is_lW) rfl ?_; refine qV (.bool true) (rn_gtr rfl rfl rfl (decide_eq_true (show (0 : Int) < ↑np by omega))) rfl ?_; refine qm (.bool true) rfl ?_; refine qi rfl ?_; refine qi rfl ?_; refine qi rfl ?_; refine qV (.bool true) (rn_pick rfl rfl rfl) rfl ?_; intro a hF; refine wl0 ?_; refine cd_true hF rfl rfl (wp_skip (nm_then ?_))
   refine wp_block (wp_block ?_)
   obtain ⟨bp, op, rfl, hbo, hR⟩ := M.fact.1.2.rng (i := 0) (by simp)
   replace M := M.note (stable_range bp op (wArr x).toList) ⟨hbo, range0 hR⟩; clear hR hbo
   obtain ⟨bq, oq, rfl, hbo, hR⟩ := M.fact.1.2.rng (i := 0) (by simp)
   replace M := M.note (stable_range bq oq (wArr y).toList) ⟨hbo, range0 hR⟩; clear hR hbo
   by_cases c1 : x.at_ < y.at_
   ·skip
    rw [if_pos (c1), map_app1] at hres
    refine wdrs (Un (rows (⟨52, 4, A, acc.length, c, (wCellsL acc)⟩ :: [])) W.drew) (fun i => false) prog_mixed ?_
    have M0 := M.drew' _ rfl
    generalize W.drew = W10 at *
    have M := M0; have hU := Un.refl (rows (⟨52, 4, A, acc.length, c, (wCellsL acc)⟩ :: [])) W10
    revert a; refine qx 0 (.slice (some ⟨bq, oq, none⟩) nq cq) hU rfl (by kernel_rfl) ?_; refine qp 1 (.int .i64 (↑nq)) rfl (rn_len rfl rfl is_lW) hU rfl (by kernel_rfl) ?_; refine qp 2 (.bool false) rfl (rn_eql rfl rfl rfl (beq_false_of_ne (show (↑nq : Int) ≠ 0 by omega))) hU rfl (by kernel_rfl) ?_; refine qx 3 (.bool false) hU rfl (by kernel_rfl) ?_; refine qH 4 (.slice (some ⟨bp, op, none⟩) np cp) hU rfl (by kernel_rfl) ?_; refine qG 5 (.int .i64 (↑np)) rfl (rn_len rfl rfl is_lW) hU rfl (by kernel_rfl) ?_; refine qG 6 (.bool true) rfl (rn_gtr rfl rfl rfl (decide_eq_true (show (0 : Int) < ↑np by omega))) hU rfl (by kernel_rfl) ?_; refine qH 7 (.bool true) hU rfl (by kernel_rfl) ?_; refine qH 8 (.func (.func 44) #[] #[]) hU rfl (by kernel_rfl) ?_; refine qH 9 (.slice (some ⟨bp, op, none⟩) np cp) hU rfl (by kernel_rfl) ?_; refine qG 10 (.pointer (some ⟨bp, op, none⟩)) rfl (rn_index (b := bp) (of := op) (q := op) rfl rfl rfl (by omega) es_lW (by rfl)) hU rfl (by kernel_rfl) ?_; intro a hF; refine wgtg (i := 11) (v := .agg (wArr x)) hF (fun W' hw => (rn_load rfl rfl (ld_W rfl (M0.uf hw).1.2.2))) rfl (by kernel_rfl) rfl rfl rfl rfl rfl rfl hU ?_; clear hF a; intro a hF; revert a; refine qH 13 (.func (.func 44) #[] #[]) hU rfl (by kernel_rfl) ?_; refine qH 14 (.slice (some ⟨bq, oq, none⟩) nq cq) hU rfl (by kernel_rfl) ?_; refine qG 15 (.pointer (some ⟨bq, oq, none⟩)) rfl (rn_index (b := bq) (of := oq) (q := oq) rfl rfl rfl (by omega) es_lW (by rfl)) hU rfl (by kernel_rfl) ?_; intro a hF
    refine wgtg (i := 16) (v := .agg (wArr y)) hF (fun W' hw => (rn_load rfl rfl (ld_W rfl (M0.uf hw).2.2))) rfl (by kernel_rfl) rfl rfl rfl rfl rfl rfl hU ?_; clear hF a; intro a hF; refine g1 (i := 12) (by kernel_rfl) ?_
    refine gcg1 hF (rn_call1 (u := .agg (wArr x)) rfl rfl rfl Try.call44) (at44_mm M x) rfl rfl rfl rfl rfl rfl rfl ?_; clear hF a
    rintro e9 W11 ⟨rfl, M, hb⟩; replace hU := hU.nil hb; clear hb; refine ⟨_, rfl, fun _ => hU, ?_⟩; intro a hF
    refine g1 (i := 17) (by kernel_rfl) ?_
    refine gcg1 hF (rn_call1 (u := .agg (wArr y)) rfl rfl rfl Try.call44) (at44_mm M y) rfl rfl rfl rfl rfl rfl rfl ?_; clear hF a
    rintro e9 W12 ⟨rfl, M, hb⟩; replace hU := hU.nil hb; clear hb; refine ⟨_, rfl, fun _ => hU, ?_⟩; intro a hF
    revert a; refine qG 18 (.bool true) rfl (rn_lss rfl rfl rfl (decide_eq_true c1)) hU rfl (by kernel_rfl) ?_; refine qG 19 (.bool true) rfl (rn_pick rfl rfl rfl) hU rfl (by kernel_rfl) ?_; refine qp 20 (.bool true) rfl (rn_pick rfl rfl rfl) hU rfl (by kernel_rfl) ?_; refine qx 21 (.bool true) hU rfl (by kernel_rfl) ?_; intro a hF; refine wgd (by kernel_rfl) ?_ _; refine cd_true hF rfl rfl ?_
    refine wdr (Un (rows (⟨52, 4, A, acc.length, c, (wCellsL acc)⟩ :: [])) W12.drew) (fun i => false) prog_mixed ?_
    have M0 := M.drew' _ rfl
    generalize W12.drew = W13 at *
    have M := M0; have hU := Un.refl (rows (⟨52, 4, A, acc.length, c, (wCellsL acc)⟩ :: [])) W13
    revert a; refine qx 0 (.slice A acc.length c) hU rfl (by kernel_rfl) ?_; refine qx 1 (.slice (some ⟨bp, op, none⟩) np cp) hU rfl (by kernel_rfl) ?_; refine qp 2 (.pointer (some ⟨bp, op, none⟩)) rfl (rn_index (b := bp) (of := op) (q := op) rfl rfl rfl (by omega) es_lW (by rfl)) hU rfl (by kernel_rfl) ?_; refine qt 3 (.agg (wArr x)) rfl (fun W' hw => (rn_load rfl rfl (ld_W rfl (M0.uf hw).1.2.2))) hU rfl (by kernel_rfl) ?_; refine qx 6 (.slice (some ⟨bp, op, none⟩) np cp) hU rfl (by kernel_rfl) ?_; refine qp 7 (.slice (fromA (some ⟨bp, op, none⟩) cp 1 4) P1.length (cp - 1)) rfl (rn_from (k := 1) (m := P1.length) (d := cp - 1) rfl rfl rfl es_lW (by omega) (by omega) rfl) hU rfl (by kernel_rfl) ?_; intro a hF; refine g1 (i := 4) (by kernel_rfl) ?_
    obtain ⟨bk3, hbk3⟩ : ∃ g, W13.heap.size = g := ⟨_, rfl⟩
    refine wgal hF M hU hbk3 rfl rfl rfl rfl (rn_bs1 (cs := (wArr x)) ti_lW (by decide) rfl rfl rfl hbk3) ?_; clear hF M hU a; intro W14 a M hU hgebk3 hF
    refine g1 (i := 5) (by kernel_rfl) ?_
    refine wgap hF M hU 0 rfl (rows_in (i := 0) rfl) ti_lW rfl rfl rfl rfl rfl rfl ((wArr x).toList) rfl rfl (src_box (M.b 0 rfl)) (wArr_one _) (by show (acc.length + 1) * 32 ≤ _; omega) (by show acc.length + 1 ≤ _; unfold maxLen; omega) ?_; clear hF M hU a; intro A15 c15 W15 a M hU hx15 hF
    obtain ⟨ga15, rfl⟩ : ∃ g, A15 = some ⟨g, 0, none⟩ := M.at0 0 rfl (pos_app _ _ (leb (a := 1) rfl))
    revert a; refine qx 8 (.slice (some ⟨ga15, 0, none⟩) (acc.length + 1) c15) hU rfl (by kernel_rfl) ?_; refine qx 9 (.slice (fromA (some ⟨bp, op, none⟩) cp 1 4) P1.length (cp - 1)) hU rfl (by kernel_rfl) ?_; intro a hF; refine wgd (by kernel_rfl) ?_ _
    replace M := M.tail
    rw [wSnoc] at M
    refine nm_block (nm_block (nm_then ?_))
    have hfu' : P1.length + (y :: Q1).length < fu' := by rw [List.length_cons]; omega
    refine ⟨P1.length + (y :: Q1).length, by (try simp only [List.length_cons, List.length_nil]); omega, _, P1, (y :: Q1), acc ++ [x], fromA (some ⟨bp, op, none⟩) cp 1 4, P1.length, cp - 1, some ⟨bq, oq, none⟩, nq, cq, (some ⟨ga15, 0, none⟩), c15, ⟨fun u hu => hsp u (List.mem_cons_of_mem _ hu), hsq, rfl, by (try simp only [List.length_append, List.length_cons, List.length_nil]); omega, ?_, fu', hfu', hres⟩, hF, rfl, rfl, rfl, rfl, ?_, ?_⟩
    ·intro u hu
     rcases List.mem_append.1 hu with h9 | h9
     ·exact hacc u h9
     ·rw [List.mem_singleton.1 h9]; exact hin x (hsp x List.mem_cons_self)
    ·rw [List.length_append]; rfl
    ·rw [List.length_append]; exact M.imp ((stable_true.and (stable_ws _ _ _ _)).and (stable_ws _ _ _ _)) fun h => ⟨⟨trivial, h.1.1.1.2.tail⟩, h.1.1.2⟩
   ·skip
    rw [if_neg (c1)] at hres
    refine wdrs (Un (rows (⟨52, 4, A, acc.length, c, (wCellsL acc)⟩ :: [])) W.drew) (fun i => false) prog_mixed ?_
    have M0 := M.drew' _ rfl
    generalize W.drew = W16 at *
    have M := M0; have hU := Un.refl (rows (⟨52, 4, A, acc.length, c, (wCellsL acc)⟩ :: [])) W16
    revert a; refine qx 0 (.slice (some ⟨bq, oq, none⟩) nq cq) hU rfl (by kernel_rfl) ?_; refine qp 1 (.int .i64 (↑nq)) rfl (rn_len rfl rfl is_lW) hU rfl (by kernel_rfl) ?_; refine qp 2 (.bool false) rfl (rn_eql rfl rfl rfl (beq_false_of_ne (show (↑nq : Int) ≠ 0 by omega))) hU rfl (by kernel_rfl) ?_; refine qx 3 (.bool false) hU rfl (by kernel_rfl) ?_; refine qH 4 (.slice (some ⟨bp, op, none⟩) np cp) hU rfl (by kernel_rfl) ?_; refine qG 5 (.int .i64 (↑np)) rfl (rn_len rfl rfl is_lW) hU rfl (by kernel_rfl) ?_; refine qG 6 (.bool true) rfl (rn_gtr rfl rfl rfl (decide_eq_true (show (0 : Int) < ↑np by omega))) hU rfl (by kernel_rfl) ?_; refine qH 7 (.bool true) hU rfl (by kernel_rfl) ?_; refine qH 8 (.func (.func 44) #[] #[]) hU rfl (by kernel_rfl) ?_; refine qH 9 (.slice (some ⟨bp, op, none⟩) np cp) hU rfl (by kernel_rfl) ?_; refine qG 10 (.pointer (some ⟨bp, op, none⟩)) rfl (rn_index (b := bp) (of := op) (q := op) rfl rfl rfl (by omega) es_lW (by rfl)) hU rfl (by kernel_rfl) ?_; intro a hF; refine wgtg (i := 11) (v := .agg (wArr x)) hF (fun W' hw => (rn_load rfl rfl (ld_W rfl (M0.uf hw).1.2.2))) rfl (by kernel_rfl) rfl rfl rfl rfl rfl rfl hU ?_; clear hF a; intro a hF; revert a; refine qH 13 (.func (.func 44) #[] #[]) hU rfl (by kernel_rfl) ?_; refine qH 14 (.slice (some ⟨bq, oq, none⟩) nq cq) hU rfl (by kernel_rfl) ?_; refine qG 15 (.pointer (some ⟨bq, oq, none⟩)) rfl (rn_index (b := bq) (of := oq) (q := oq) rfl rfl rfl (by omega) es_lW (by rfl)) hU rfl (by kernel_rfl) ?_; intro a hF
    refine wgtg (i := 16) (v := .agg (wArr y)) hF (fun W' hw => (rn_load rfl rfl (ld_W rfl (M0.uf hw).2.2))) rfl (by kernel_rfl) rfl rfl rfl rfl rfl rfl hU ?_; clear hF a; intro a hF; refine g1 (i := 12) (by kernel_rfl) ?_
    refine gcg1 hF (rn_call1 (u := .agg (wArr x)) rfl rfl rfl Try.call44) (at44_mm M x) rfl rfl rfl rfl rfl rfl rfl ?_; clear hF a
    rintro e9 W17 ⟨rfl, M, hb⟩; replace hU := hU.nil hb; clear hb; refine ⟨_, rfl, fun _ => hU, ?_⟩; intro a hF
    refine g1 (i := 17) (by kernel_rfl) ?_
    refine gcg1 hF (rn_call1 (u := .agg (wArr y)) rfl rfl rfl Try.call44) (at44_mm M y) rfl rfl rfl rfl rfl rfl rfl ?_; clear hF a
    rintro e9 W18 ⟨rfl, M, hb⟩; replace hU := hU.nil hb; clear hb; refine ⟨_, rfl, fun _ => hU, ?_⟩; intro a hF
    revert a; refine qG 18 (.bool false) rfl (rn_lss rfl rfl rfl (decide_eq_false c1)) hU rfl (by kernel_rfl) ?_; refine qG 19 (.bool false) rfl (rn_pick rfl rfl rfl) hU rfl (by kernel_rfl) ?_; refine qp 20 (.bool false) rfl (rn_pick rfl rfl rfl) hU rfl (by kernel_rfl) ?_; refine qx 21 (.bool false) hU rfl (by kernel_rfl) ?_; intro a hF; refine wgd (by kernel_rfl) ?_ _; refine cd_false hF rfl rfl ?_
    by_cases c2 : y.at_ < x.at_
    ·skip
     rw [if_pos (c2), map_app1] at hres
     refine wdrs (Un (rows (⟨52, 4, A, acc.length, c, (wCellsL acc)⟩ :: [])) W18.drew) (fun i => false) prog_mixed ?_
     have M0 := M.drew' _ rfl
     generalize W18.drew = W19 at *
     have M := M0; have hU := Un.refl (rows (⟨52, 4, A, acc.length, c, (wCellsL acc)⟩ :: [])) W19
     revert a; refine qx 0 (.slice (some ⟨bp, op, none⟩) np cp) hU rfl (by kernel_rfl) ?_; refine qp 1 (.int .i64 (↑np)) rfl (rn_len rfl rfl is_lW) hU rfl (by kernel_rfl) ?_; refine qp 2 (.bool false) rfl (rn_eql rfl rfl rfl (beq_false_of_ne (show (↑np : Int) ≠ 0 by omega))) hU rfl (by kernel_rfl) ?_; refine qx 3 (.bool false) hU rfl (by kernel_rfl) ?_; refine qH 4 (.func (.func 44) #[] #[]) hU rfl (by kernel_rfl) ?_; refine qH 5 (.slice (some ⟨bq, oq, none⟩) nq cq) hU rfl (by kernel_rfl) ?_; refine qG 6 (.pointer (some ⟨bq, oq, none⟩)) rfl (rn_index (b := bq) (of := oq) (q := oq) rfl rfl rfl (by omega) es_lW (by rfl)) hU rfl (by kernel_rfl) ?_; intro a hF; refine wgtg (i := 7) (v := .agg (wArr y)) hF (fun W' hw => (rn_load rfl rfl (ld_W rfl (M0.uf hw).2.2))) rfl (by kernel_rfl) rfl rfl rfl rfl rfl rfl hU ?_; clear hF a; intro a hF; revert a; refine qH 9 (.func (.func 44) #[] #[]) hU rfl (by kernel_rfl) ?_; refine qH 10 (.slice (some ⟨bp, op, none⟩) np cp) hU rfl (by kernel_rfl) ?_; refine qG 11 (.pointer (some ⟨bp, op, none⟩)) rfl (rn_index (b := bp) (of := op) (q := op) rfl rfl rfl (by omega) es_lW (by rfl)) hU rfl (by kernel_rfl) ?_; intro a hF; refine wgtg (i := 12) (v := .agg (wArr x)) hF (fun W' hw => (rn_load rfl rfl (ld_W rfl (M0.uf hw).1.2.2))) rfl (by kernel_rfl) rfl rfl rfl rfl rfl rfl hU ?_; clear hF a; intro a hF; refine g1 (i := 8) (by kernel_rfl) ?_
     refine gcg1 hF (rn_call1 (u := .agg (wArr y)) rfl rfl rfl Try.call44) (at44_mm M y) rfl rfl rfl rfl rfl rfl rfl ?_; clear hF a
     rintro e9 W20 ⟨rfl, M, hb⟩; replace hU := hU.nil hb; clear hb; refine ⟨_, rfl, fun _ => hU, ?_⟩; intro a hF
     refine g1 (i := 13) (by kernel_rfl) ?_
     refine gcg1 hF (rn_call1 (u := .agg (wArr x)) rfl rfl rfl Try.call44) (at44_mm M x) rfl rfl rfl rfl rfl rfl rfl ?_; clear hF a
     rintro e9 W21 ⟨rfl, M, hb⟩; replace hU := hU.nil hb; clear hb; refine ⟨_, rfl, fun _ => hU, ?_⟩; intro a hF
     revert a; refine qG 14 (.bool true) rfl (rn_lss rfl rfl rfl (decide_eq_true c2)) hU rfl (by kernel_rfl) ?_; refine qp 15 (.bool true) rfl (rn_pick rfl rfl rfl) hU rfl (by kernel_rfl) ?_; refine qx 16 (.bool true) hU rfl (by kernel_rfl) ?_; intro a hF; refine wgd (by kernel_rfl) ?_ _; refine cd_true hF rfl rfl ?_
     refine wdr (Un (rows (⟨52, 4, A, acc.length, c, (wCellsL acc)⟩ :: [])) W21.drew) (fun i => false) prog_mixed ?_
     have M0 := M.drew' _ rfl
     generalize W21.drew = W22 at *
     have M := M0; have hU := Un.refl (rows (⟨52, 4, A, acc.length, c, (wCellsL acc)⟩ :: [])) W22
     revert a; refine qx 0 (.slice A acc.length c) hU rfl (by kernel_rfl) ?_; refine qx 1 (.slice (some ⟨bq, oq, none⟩) nq cq) hU rfl (by kernel_rfl) ?_; refine qp 2 (.pointer (some ⟨bq, oq, none⟩)) rfl (rn_index (b := bq) (of := oq) (q := oq) rfl rfl rfl (by omega) es_lW (by rfl)) hU rfl (by kernel_rfl) ?_; refine qt 3 (.agg (wArr y)) rfl (fun W' hw => (rn_load rfl rfl (ld_W rfl (M0.uf hw).2.2))) hU rfl (by kernel_rfl) ?_; refine qx 6 (.slice (some ⟨bq, oq, none⟩) nq cq) hU rfl (by kernel_rfl) ?_; refine qp 7 (.slice (fromA (some ⟨bq, oq, none⟩) cq 1 4) Q1.length (cq - 1)) rfl (rn_from (k := 1) (m := Q1.length) (d := cq - 1) rfl rfl rfl es_lW (by omega) (by omega) rfl) hU rfl (by kernel_rfl) ?_; intro a hF; refine g1 (i := 4) (by kernel_rfl) ?_
     obtain ⟨bk4, hbk4⟩ : ∃ g, W22.heap.size = g := ⟨_, rfl⟩
     refine wgal hF M hU hbk4 rfl rfl rfl rfl (rn_bs1 (cs := (wArr y)) ti_lW (by decide) rfl rfl rfl hbk4) ?_; clear hF M hU a; intro W23 a M hU hgebk4 hF
     refine g1 (i := 5) (by kernel_rfl) ?_
     refine wgap hF M hU 0 rfl (rows_in (i := 0) rfl) ti_lW rfl rfl rfl rfl rfl rfl ((wArr y).toList) rfl rfl (src_box (M.b 0 rfl)) (wArr_one _) (by show (acc.length + 1) * 32 ≤ _; omega) (by show acc.length + 1 ≤ _; unfold maxLen; omega) ?_; clear hF M hU a; intro A24 c24 W24 a M hU hx24 hF
     obtain ⟨ga24, rfl⟩ : ∃ g, A24 = some ⟨g, 0, none⟩ := M.at0 0 rfl (pos_app _ _ (leb (a := 1) rfl))
     revert a; refine qx 8 (.slice (some ⟨ga24, 0, none⟩) (acc.length + 1) c24) hU rfl (by kernel_rfl) ?_; refine qx 9 (.slice (fromA (some ⟨bq, oq, none⟩) cq 1 4) Q1.length (cq - 1)) hU rfl (by kernel_rfl) ?_; intro a hF; refine wgd (by kernel_rfl) ?_ _
     replace M := M.tail
     rw [wSnoc] at M
     refine nm_block (nm_block (nm_then ?_))
     have hfu' : (x :: P1).length + Q1.length < fu' := by rw [List.length_cons]; omega
     refine ⟨(x :: P1).length + Q1.length, by (try simp only [List.length_cons, List.length_nil]); omega, _, (x :: P1), Q1, acc ++ [y], some ⟨bp, op, none⟩, np, cp, fromA (some ⟨bq, oq, none⟩) cq 1 4, Q1.length, cq - 1, (some ⟨ga24, 0, none⟩), c24, ⟨hsp, fun u hu => hsq u (List.mem_cons_of_mem _ hu), rfl, by (try simp only [List.length_append, List.length_cons, List.length_nil]); omega, ?_, fu', hfu', hres⟩, hF, rfl, rfl, rfl, rfl, ?_, ?_⟩
     ·intro u hu
      rcases List.mem_append.1 hu with h9 | h9
      ·exact hacc u h9
      ·rw [List.mem_singleton.1 h9]; exact hin' y (hsq y List.mem_cons_self)
     ·rw [List.length_append]; rfl
     ·rw [List.length_append]; exact M.imp ((stable_true.and (stable_ws _ _ _ _)).and (stable_ws _ _ _ _)) fun h => ⟨⟨trivial, h.1.1.1.2⟩, h.1.1.2.tail⟩
    ·skip
     rw [if_neg (c2)] at hres
     refine wdrs (Un (rows (⟨52, 4, A, acc.length, c, (wCellsL acc)⟩ :: [])) W18.drew) (fun i => false) prog_mixed ?_
     have M0 := M.drew' _ rfl
     generalize W18.drew = W25 at *
     have M := M0; have hU := Un.refl (rows (⟨52, 4, A, acc.length, c, (wCellsL acc)⟩ :: [])) W25
     revert a; refine qx 0 (.slice (some ⟨bp, op, none⟩) np cp) hU rfl (by kernel_rfl) ?_; refine qp 1 (.int .i64 (↑np)) rfl (rn_len rfl rfl is_lW) hU rfl (by kernel_rfl) ?_; refine qp 2 (.bool false) rfl (rn_eql rfl rfl rfl (beq_false_of_ne (show (↑np : Int) ≠ 0 by omega))) hU rfl (by kernel_rfl) ?_; refine qx 3 (.bool false) hU rfl (by kernel_rfl) ?_; refine qH 4 (.func (.func 44) #[] #[]) hU rfl (by kernel_rfl) ?_; refine qH 5 (.slice (some ⟨bq, oq, none⟩) nq cq) hU rfl (by kernel_rfl) ?_; refine qG 6 (.pointer (some ⟨bq, oq, none⟩)) rfl (rn_index (b := bq) (of := oq) (q := oq) rfl rfl rfl (by omega) es_lW (by rfl)) hU rfl (by kernel_rfl) ?_; intro a hF; refine wgtg (i := 7) (v := .agg (wArr y)) hF (fun W' hw => (rn_load rfl rfl (ld_W rfl (M0.uf hw).2.2))) rfl (by kernel_rfl) rfl rfl rfl rfl rfl rfl hU ?_; clear hF a; intro a hF; revert a; refine qH 9 (.func (.func 44) #[] #[]) hU rfl (by kernel_rfl) ?_; refine qH 10 (.slice (some ⟨bp, op, none⟩) np cp) hU rfl (by kernel_rfl) ?_; refine qG 11 (.pointer (some ⟨bp, op, none⟩)) rfl (rn_index (b := bp) (of := op) (q := op) rfl rfl rfl (by omega) es_lW (by rfl)) hU rfl (by kernel_rfl) ?_; intro a hF; refine wgtg (i := 12) (v := .agg (wArr x)) hF (fun W' hw => (rn_load rfl rfl (ld_W rfl (M0.uf hw).1.2.2))) rfl (by kernel_rfl) rfl rfl rfl rfl rfl rfl hU ?_; clear hF a; intro a hF; refine g1 (i := 8) (by kernel_rfl) ?_
     refine gcg1 hF (rn_call1 (u := .agg (wArr y)) rfl rfl rfl Try.call44) (at44_mm M y) rfl rfl rfl rfl rfl rfl rfl ?_; clear hF a
     rintro e9 W26 ⟨rfl, M, hb⟩; replace hU := hU.nil hb; clear hb; refine ⟨_, rfl, fun _ => hU, ?_⟩; intro a hF
     refine g1 (i := 13) (by kernel_rfl) ?_
     refine gcg1 hF (rn_call1 (u := .agg (wArr x)) rfl rfl rfl Try.call44) (at44_mm M x) rfl rfl rfl rfl rfl rfl rfl ?_; clear hF a
     rintro e9 W27 ⟨rfl, M, hb⟩; replace hU := hU.nil hb; clear hb; refine ⟨_, rfl, fun _ => hU, ?_⟩; intro a hF
     revert a; refine qG 14 (.bool false) rfl (rn_lss rfl rfl rfl (decide_eq_false c2)) hU rfl (by kernel_rfl) ?_; refine qp 15 (.bool false) rfl (rn_pick rfl rfl rfl) hU rfl (by kernel_rfl) ?_; refine qx 16 (.bool false) hU rfl (by kernel_rfl) ?_; intro a hF; refine wgd (by kernel_rfl) ?_ _; refine cd_false hF rfl rfl ?_
     refine wp_seq (wp_cut (fun a W => ∃ (f : Nat → Value) (go : Nat) (z : WE), Fr a 98 f ∧ f 0 = .slice (some ⟨bp, op, none⟩) np cp ∧ f 1 = .slice (some ⟨bq, oq, none⟩) nq cq ∧ f 2 = .func (.func 44) #[] #[] ∧ f 3 = .func (.func 45) #[] #[] ∧ f 10 = .slice A acc.length c ∧ f 11 = .pointer (some ⟨go, 0, none⟩) ∧ f 12 = .bool (WE.comp x y).isSome ∧ (∀ u, WE.comp x y = some u → u = z ∧ wIn u) ∧ Mm S w W (⟨go, 52, (wArr z)⟩ :: []) (⟨52, 4, A, acc.length, c, (wCellsL acc)⟩ :: []) (fun W S => (((((True ∧ WsAt W S (some ⟨bp, op, none⟩) np cp (x :: P1)) ∧ WsAt W S (some ⟨bq, oq, none⟩) nq cq (y :: Q1)) ∧ (S bp ∧ W.rangeAt bp op (wArr x).toList)) ∧ (S bq ∧ W.rangeAt bq oq (wArr y).toList))))) ?_ ?_)
     ·skip
      refine wdr (Un (rows (⟨52, 4, A, acc.length, c, (wCellsL acc)⟩ :: [])) W27.drew) (fun i => Nat.beq i 12) prog_mixed ?_
      have M0 := M.drew' _ rfl
      generalize W27.drew = W28 at *
      have M := M0; have hU := Un.refl (rows (⟨52, 4, A, acc.length, c, (wCellsL acc)⟩ :: [])) W28
      revert a; refine qx 0 (.func (.func 45) #[] #[]) hU rfl (by kernel_rfl) ?_; refine qx 1 (.slice (some ⟨bp, op, none⟩) np cp) hU rfl (by kernel_rfl) ?_; refine qp 2 (.pointer (some ⟨bp, op, none⟩)) rfl (rn_index (b := bp) (of := op) (q := op) rfl rfl rfl (by omega) es_lW (by rfl)) hU rfl (by kernel_rfl) ?_; refine qt 3 (.agg (wArr x)) rfl (fun W' hw => (rn_load rfl rfl (ld_W rfl (M0.uf hw).1.2.2))) hU rfl (by kernel_rfl) ?_; refine qx 4 (.slice (some ⟨bq, oq, none⟩) nq cq) hU rfl (by kernel_rfl) ?_; refine qp 5 (.pointer (some ⟨bq, oq, none⟩)) rfl (rn_index (b := bq) (of := oq) (q := oq) rfl rfl rfl (by omega) es_lW (by rfl)) hU rfl (by kernel_rfl) ?_; refine qt 6 (.agg (wArr y)) rfl (fun W' hw => (rn_load rfl rfl (ld_W rfl (M0.uf hw).2.2))) hU rfl (by kernel_rfl) ?_; intro a hF
      refine g2 (i := 7) (j := 11) (by kernel_rfl) ?_ ?_
      ·skip
       refine gc1 hF (rn_call2 (u := .agg (wArr x)) (u' := .agg (wArr y)) rfl rfl rfl rfl Try.call45) (wc_mm M (hin x (hsp x List.mem_cons_self)) (hin' y (hsq y List.mem_cons_self))) rfl rfl rfl rfl ?_; clear hF a
       rintro e W29 ⟨z, hz, rfl, M, hb⟩; replace hU := hU.nil hb; clear hb; refine ⟨_, rfl, fun _ => hU, ?_⟩; intro a hF
       revert a; refine qx 8 (.tuple #[.agg (wArr z), .bool ((WE.comp x y).isSome)]) hU rfl (by kernel_rfl) ?_; refine qp 9 (.agg (wArr z)) rfl (rn_extract rfl rfl rfl) hU rfl (by kernel_rfl) ?_; refine qp 10 (.bool ((WE.comp x y).isSome)) rfl (rn_extract rfl rfl rfl) hU rfl (by kernel_rfl) ?_; intro a hF; refine g1 (i := 11) (by kernel_rfl) ?_
       obtain ⟨bk5, hbk5⟩ : ∃ g, W29.heap.size = g := ⟨_, rfl⟩
       refine wgal hF M hU hbk5 rfl rfl rfl rfl (rn_alloc rfl zc_W hbk5) ?_; clear hF M hU a; intro W30 a M hU hgebk5 hF
       refine g1 (i := 12) (by kernel_rfl) ?_
       refine wgst hF M 0 rfl (vs := (wArr z)) (by kernel_rfl) rfl rfl rfl rfl rfl rfl rfl rfl sz_W (wArr_one _) (leb rfl) ?_; clear hF M a; intro W31 a M hF
       refine wgp (i := 13) (v := .bool ((WE.comp x y).isSome)) hF (fun W' => (rn_assign rfl rfl)) rfl (by kernel_rfl) rfl rfl rfl (fin_no (by kernel_rfl)) ?_; clear hF a; intro a hF
       refine wgd (by kernel_rfl) ?_ _
       exact ⟨_, bk5, z, hF, rfl, rfl, rfl, rfl, rfl, rfl, rfl, hz, M⟩
      ·skip
       obtain ⟨bk6, hbk6⟩ : ∃ g, W28.heap.size = g := ⟨_, rfl⟩
       refine wgal hF M hU hbk6 rfl rfl rfl rfl (rn_alloc rfl zc_W hbk6) ?_; clear hF M hU a; intro W32 a M hU hgebk6 hF
       refine g1 (i := 7) (by kernel_rfl) ?_
       refine gc1 hF (rn_call2 (u := .agg (wArr x)) (u' := .agg (wArr y)) rfl rfl rfl rfl Try.call45) (wc_mm M (hin x (hsp x List.mem_cons_self)) (hin' y (hsq y List.mem_cons_self))) rfl rfl rfl rfl ?_; clear hF a
       rintro e W33 ⟨z, hz, rfl, M, hb⟩; replace hU := hU.nil hb; clear hb; refine ⟨_, rfl, fun _ => hU, ?_⟩; intro a hF
       revert a; refine qx 8 (.tuple #[.agg (wArr z), .bool ((WE.comp x y).isSome)]) hU rfl (by kernel_rfl) ?_; refine qp 9 (.agg (wArr z)) rfl (rn_extract rfl rfl rfl) hU rfl (by kernel_rfl) ?_; refine qp 10 (.bool ((WE.comp x y).isSome)) rfl (rn_extract rfl rfl rfl) hU rfl (by kernel_rfl) ?_; intro a hF; refine g1 (i := 12) (by kernel_rfl) ?_
       refine wgst hF M 0 rfl (vs := (wArr z)) (by kernel_rfl) rfl rfl rfl rfl rfl rfl rfl rfl sz_W (wArr_one _) (leb rfl) ?_; clear hF M a; intro W34 a M hF
       refine wgp (i := 13) (v := .bool ((WE.comp x y).isSome)) hF (fun W' => (rn_assign rfl rfl)) rfl (by kernel_rfl) rfl rfl rfl (fin_no (by kernel_rfl)) ?_; clear hF a; intro a hF
       refine wgd (by kernel_rfl) ?_ _
       exact ⟨_, bk6, z, hF, rfl, rfl, rfl, rfl, rfl, rfl, rfl, hz, M⟩
     clear hF M a
     rintro a W ⟨f, go, z, hF, hf0, hf1, hf2, hf3, hf10, hf11, hf12, hz, M⟩
     refine nm_then ?_
     replace hF := ((((((hF.same (d := 0) hf0).same (d := 1) hf1).same (d := 2) hf2).same (d := 3) hf3).same (d := 10) hf10).same (d := 11) hf11)
     cases hone9 : WE.comp x y with
     | none =>
      rw [hone9] at hf12 hres
      replace hres : res = none := hres
      replace hF := hF.same (d := 12) (v := .bool false) hf12
      refine wp_seq ?_
      refine wrgs rfl ?_; revert a; refine qm (.bool false) rfl ?_; refine qV (.bool true) (rn_not rfl rfl rfl) rfl ?_; intro a hF; refine wl0 ?_; refine cd_true hF rfl rfl ?_; refine wrgs rfl ?_; revert a; refine qm (.slice none 0 0) rfl ?_; refine qm (.bool false) rfl ?_; intro a hF; refine wl0 ?_
      refine wp_ret (?_ : bodyPost _ _ _ .ret _ _)
      refine res_slots Try.results43 rfl rfl hF ?_
      rw [hres]
      exact ⟨none, 0, 0, rfl, M.bel, fun u hu => by cases hu⟩
     | some k =>
      rw [hone9] at hf12 hres
      replace hres : res = (((mergeR WE.at_ WE.comp fu' P1 Q1).map (k :: ·))).map (acc ++ ·) := hres
      rw [map_app1] at hres
      replace hF := hF.same (d := 12) (v := .bool true) hf12
      obtain ⟨hkz, hkin⟩ := hz k hone9; subst hkz
      refine wp_seq ?_
      refine wrgs rfl ?_; revert a; refine qm (.bool true) rfl ?_; refine qV (.bool false) (rn_not rfl rfl rfl) rfl ?_; intro a hF; refine wl0 ?_; refine cd_false hF rfl rfl (wp_skip (nm_then ?_))
      refine wdr (Un (rows (⟨52, 4, A, acc.length, c, (wCellsL acc)⟩ :: [])) W.drew) (fun i => false) prog_mixed ?_
      have M0 := M.drew' _ rfl
      generalize W.drew = W61 at *
      have M := M0; have hU := Un.refl (rows (⟨52, 4, A, acc.length, c, (wCellsL acc)⟩ :: [])) W61
      revert a; refine qx 0 (.slice A acc.length c) hU rfl (by kernel_rfl) ?_; refine qt 1 (.agg (wArr k)) rfl (fun W' hw => (rn_load rfl rfl (ld_W rfl (M0.ub hw 0 rfl).whole))) hU rfl (by kernel_rfl) ?_; refine qx 4 (.slice (some ⟨bp, op, none⟩) np cp) hU rfl (by kernel_rfl) ?_; refine qp 5 (.slice (fromA (some ⟨bp, op, none⟩) cp 1 4) P1.length (cp - 1)) rfl (rn_from (k := 1) (m := P1.length) (d := cp - 1) rfl rfl rfl es_lW (by omega) (by omega) rfl) hU rfl (by kernel_rfl) ?_; refine qx 6 (.slice (some ⟨bq, oq, none⟩) nq cq) hU rfl (by kernel_rfl) ?_; refine qp 7 (.slice (fromA (some ⟨bq, oq, none⟩) cq 1 4) Q1.length (cq - 1)) rfl (rn_from (k := 1) (m := Q1.length) (d := cq - 1) rfl rfl rfl es_lW (by omega) (by omega) rfl) hU rfl (by kernel_rfl) ?_; intro a hF; refine g1 (i := 2) (by kernel_rfl) ?_
      obtain ⟨bk7, hbk7⟩ : ∃ g, W61.heap.size = g := ⟨_, rfl⟩
      refine wgal hF M hU hbk7 rfl rfl rfl rfl (rn_bs1 (cs := (wArr k)) ti_lW (by decide) rfl rfl rfl hbk7) ?_; clear hF M hU a; intro W62 a M hU hgebk7 hF
      refine g1 (i := 3) (by kernel_rfl) ?_
      refine wgap hF M hU 0 rfl (rows_in (i := 0) rfl) ti_lW rfl rfl rfl rfl rfl rfl ((wArr k).toList) rfl rfl (src_box (M.b 0 rfl)) (wArr_one _) (by show (acc.length + 1) * 32 ≤ _; omega) (by show acc.length + 1 ≤ _; unfold maxLen; omega) ?_; clear hF M hU a; intro A63 c63 W63 a M hU hx63 hF
      obtain ⟨ga63, rfl⟩ : ∃ g, A63 = some ⟨g, 0, none⟩ := M.at0 0 rfl (pos_app _ _ (leb (a := 1) rfl))
      revert a; refine qx 8 (.slice (some ⟨ga63, 0, none⟩) (acc.length + 1) c63) hU rfl (by kernel_rfl) ?_; refine qx 9 (.slice (fromA (some ⟨bp, op, none⟩) cp 1 4) P1.length (cp - 1)) hU rfl (by kernel_rfl) ?_; refine qx 10 (.slice (fromA (some ⟨bq, oq, none⟩) cq 1 4) Q1.length (cq - 1)) hU rfl (by kernel_rfl) ?_; intro a hF; refine wgd (by kernel_rfl) ?_ _
      replace M := M.tail.tail
      rw [wSnoc] at M
      refine nm_block (nm_block (nm_then ?_))
      have hfu' : P1.length + Q1.length < fu' := by omega
      refine ⟨P1.length + Q1.length, by (try simp only [List.length_cons]); omega, _, P1, Q1, acc ++ [k], fromA (some ⟨bp, op, none⟩) cp 1 4, P1.length, cp - 1, fromA (some ⟨bq, oq, none⟩) cq 1 4, Q1.length, cq - 1, (some ⟨ga63, 0, none⟩), c63, ⟨fun u hu => hsp u (List.mem_cons_of_mem _ hu), fun u hu => hsq u (List.mem_cons_of_mem _ hu), rfl, by rw [List.length_append, List.length_singleton]; omega, ?_, fu', hfu', hres⟩, hF, rfl, rfl, rfl, rfl, ?_, ?_⟩
      ·intro u hu
       rcases List.mem_append.1 hu with h9 | h9
       ·exact hacc u h9
       ·rw [List.mem_singleton.1 h9]; exact hkin
      ·rw [List.length_append]; rfl
      ·rw [List.length_append]; exact M.imp ((stable_true.and (stable_ws _ _ _ _)).and (stable_ws _ _ _ _)) fun h => ⟨⟨trivial, h.1.1.1.2.tail⟩, h.1.1.2.tail⟩
set_option maxHeartbeats 1000000 in
theorem merged46_any (P0 Q0 : List KEd) (one : KEd → KEd → Option KEd)
  (hone : ∀ x ∈ P0, ∀ y ∈ Q0, ∀ (vx vy : Kv) (S' : Nat → Prop) (W : World), vx.at_ = x.at_ → EdAt W S' x.e vx.e → vy.at_ = y.at_ → EdAt W S' y.e vy.e → (∀ b, S' b → b < W.heap.size) → Calls Try.prog 48 #[.agg vx.arr, .agg vy.arr] W (KdO (one x y) S' W)) (Ap0 : Option Addr) (np0 cp0 : Nat) (Aq0 : Option Addr) (nq0 cq0 : Nat) (pv0 qv0 : List Kv) (S : Nat → Prop) (w : World) (hP : KsAt w S Ap0 np0 cp0 P0 pv0) (hQ : KsAt w S Aq0 nq0 cq0 Q0 qv0) (hB : P0.length + Q0.length ≤ 676622540169) (hS : ∀ b, S b → b < w.heap.size) :
  Calls Try.prog 46 #[.slice Ap0 np0 cp0, .slice Aq0 nq0 cq0, .func (.func 47) #[] #[], .func (.func 48) #[] #[]] w (KsO (mergeR KEd.at_ one (P0.length + Q0.length + 1) P0 Q0) S w) := by
 generalize hres : mergeR KEd.at_ one (P0.length + Q0.length + 1) P0 Q0 = res
 have hfu : ∃ fu, P0.length + Q0.length < fu ∧ res = (mergeR KEd.at_ one fu P0 Q0).map ([] ++ ·) := ⟨_, Nat.lt_succ_self _, by rw [hres]; simp⟩
 have M := Mm.begin (F := fun W S => ((KedsAt W S [] [] ∧ KsAt W S Ap0 np0 cp0 P0 pv0) ∧ KsAt W S Aq0 nq0 cq0 Q0 qv0)) hS (((stable_keds _ _).and (stable_ks _ _ _ _ _)).and (stable_ks _ _ _ _ _)) ⟨⟨KedsAt.nil, hP⟩, hQ⟩
 clear hres hP hQ
 refine calls_fr (xs := [.slice Ap0 np0 cp0, .slice Aq0 nq0 cq0, .func (.func 47) #[] #[], .func (.func 48) #[] #[]]) Try.func46 rfl Try.ntmps46 rfl (fun a hF => ?_)
 replace M := M.nilRow 55 12
 refine wrgs rfl ?_; revert a; refine qm (.slice none 0 0) rfl ?_; refine qm (.bool false) rfl ?_; intro a hF; refine wl0 ?_; refine wrgs rfl ?_; revert a; refine qm (.slice none 0 0) rfl ?_; intro a hF; refine wl0 ?_
 refine wp_seq (wp_block (wlp (fun n a W => ∃ (f : Nat → Value) (P Q acc : List KEd) (Ap : Option Addr) (np cp : Nat) (Aq : Option Addr) (nq cq : Nat) (A : Option Addr) (c : Nat) (pv qv kvs : List Kv), ((∀ x ∈ P, x ∈ P0) ∧ (∀ x ∈ Q, x ∈ Q0) ∧ P.length + Q.length = n ∧ acc.length + n ≤ 676622540169 ∧ (∃ fu, P.length + Q.length < fu ∧ res = (mergeR KEd.at_ one fu P Q).map (acc ++ ·))) ∧ Fr a 98 f ∧ f 0 = .slice Ap np cp ∧ f 1 = .slice Aq nq cq ∧ f 2 = .func (.func 47) #[] #[] ∧ f 3 = .func (.func 48) #[] #[] ∧ f 10 = .slice A acc.length c ∧ Mm S w W [] (⟨55, 12, A, acc.length, c, (kCellsL kvs)⟩ :: []) (fun W S => ((KedsAt W S acc kvs ∧ KsAt W S Ap np cp P pv) ∧ KsAt W S Aq nq cq Q qv))) _ ⟨_, P0, Q0, [], Ap0, np0, cp0, Aq0, nq0, cq0, none, 0, pv0, qv0, [], ⟨fun _ h => h, fun _ h => h, rfl, by simpa using hB, hfu⟩, hF, rfl, rfl, rfl, rfl, rfl, M⟩ ?_))
 clear hF M a hfu
 rintro n a W ⟨f, P, Q, acc, Ap, np, cp, Aq, nq, cq, A, c, pv, qv, kvs, ⟨hsp, hsq, hn, hB2, fu, hfu, hres⟩, hF, hf0, hf1, hf2, hf3, hf10, M⟩
 replace hF := (((((hF.same (d := 0) hf0).same (d := 1) hf1).same (d := 2) hf2).same (d := 3) hf3).same (d := 10) hf10)
 have hrl := M.len 0 rfl
 have hlp := M.fact.1.2.len; have hlq := M.fact.2.len
 cases P with
 | nil =>
  replace hlp : np = 0 := hlp
  cases Q with
  | nil =>
   replace hlq : nq = 0 := hlq
   simp only [List.length_cons, List.length_nil] at hn
   refine wp_seq ?_
   refine wrgs rfl ?_; revert a; refine qm (.slice Ap np cp) rfl ?_; refine qV (.int .i64 (↑np)) (rn_len rfl rfl is_lK) rfl ?_; refine qV (.bool false) (rn_gtr rfl rfl rfl (decide_eq_false (show ¬ (0 : Int) < ↑np by omega))) rfl ?_; refine qm (.bool false) rfl ?_; refine qn (.slice Aq nq cq) rfl ?_; refine qg (.int .i64 (↑nq)) (rn_len rfl rfl is_lK) rfl ?_; refine qg (.bool false) (rn_gtr rfl rfl rfl (decide_eq_false (show ¬ (0 : Int) < ↑nq by omega))) rfl ?_; refine qV (.bool false) (rn_pick rfl rfl rfl) rfl ?_; intro a hF; refine wl0 ?_; refine cd_false hF rfl rfl (wp_exit (ex_then (ex_then (ex_here ?_)))); refine nm_then ?_
   have hres2 : res = some acc := by rw [hres, mg_end (by omega)]; simp
   have M2 := M.done 0 (few := 676622540169) rfl (by show acc.length ≤ _; omega)
   replace M := M2.unrow; clear M2
   refine wrgs rfl ?_; revert a; refine qm (.slice A acc.length c) rfl ?_; refine qm (.slice A acc.length c) rfl ?_; refine qm (.bool true) rfl ?_; intro a hF; refine wl0 ?_
   refine wp_ret (res_slots Try.results46 rfl rfl hF ?_)
   rw [hres2]
   exact ⟨A, acc.length, c, kvs, rfl, M.bel, fun u hu => by injection hu with hu; subst hu; exact ⟨M.grown.1.1.1.1, M.grown.2, fun i a b => (M.grown.1.1.1.2 i a b).1, fun i a b => (M.grown.1.1.1.2 i a b).2⟩⟩
  | cons y Q1 =>
   replace hlq : nq = Q1.length + 1 := hlq
   obtain ⟨fu', hfu', he⟩ := mg_right (at_ := KEd.at_) (one := one) (y := y) (q := Q1) (n := fu) (by simpa using hfu)
   rw [he, map_app1] at hres; clear he
   simp only [List.length_cons, List.length_nil] at hn
   refine wp_seq ?_
   refine wrgs rfl ?_; revert a; refine qm (.slice Ap np cp) rfl ?_; refine qV (.int .i64 (↑np)) (rn_len rfl rfl is_lK) rfl ?_; refine qV (.bool false) (rn_gtr rfl rfl rfl (decide_eq_false (show ¬ (0 : Int) < ↑np by omega))) rfl ?_; refine qm (.bool false) rfl ?_; refine qn (.slice Aq nq cq) rfl ?_; refine qg (.int .i64 (↑nq)) (rn_len rfl rfl is_lK) rfl ?_; refine qg (.bool true) (rn_gtr rfl rfl rfl (decide_eq_true (show (0 : Int) < ↑nq by omega))) rfl ?_; refine qV (.bool true) (rn_pick rfl rfl rfl) rfl ?_; intro a hF; refine wl0 ?_; refine cd_true hF rfl rfl (wp_skip (nm_then ?_))
   refine wp_block (wp_block ?_)
   obtain ⟨bq, oq, vy, rfl, hbo, hR, haty, hT⟩ := M.fact.2.rng (i := 0) (by simp)
   replace haty : vy.at_ = y.at_ := haty; replace hT : EdAt _ _ y.e vy.e := hT
   replace M := (M.note (stable_ed _ _) hT).note (stable_range bq oq vy.arr.toList) ⟨hbo, range0 hR⟩; clear hR hbo hT
   refine wdrs (Un (rows (⟨55, 12, A, acc.length, c, (kCellsL kvs)⟩ :: [])) W.drew) (fun i => false) prog_mixed ?_
   have M0 := M.drew' _ rfl
   generalize W.drew = W1 at *
   have M := M0; have hU := Un.refl (rows (⟨55, 12, A, acc.length, c, (kCellsL kvs)⟩ :: [])) W1
   revert a; refine qx 0 (.slice (some ⟨bq, oq, none⟩) nq cq) hU rfl (by kernel_rfl) ?_; refine qp 1 (.int .i64 (↑nq)) rfl (rn_len rfl rfl is_lK) hU rfl (by kernel_rfl) ?_; refine qp 2 (.bool false) rfl (rn_eql rfl rfl rfl (beq_false_of_ne (show (↑nq : Int) ≠ 0 by omega))) hU rfl (by kernel_rfl) ?_; refine qx 3 (.bool false) hU rfl (by kernel_rfl) ?_; refine qH 4 (.slice Ap np cp) hU rfl (by kernel_rfl) ?_; refine qG 5 (.int .i64 (↑np)) rfl (rn_len rfl rfl is_lK) hU rfl (by kernel_rfl) ?_; refine qG 6 (.bool false) rfl (rn_gtr rfl rfl rfl (decide_eq_false (show ¬ (0 : Int) < ↑np by omega))) hU rfl (by kernel_rfl) ?_; refine qH 7 (.bool false) hU rfl (by kernel_rfl) ?_; refine qs 8 hU rfl (by kernel_rfl) ?_; refine qs 9 hU rfl (by kernel_rfl) ?_; refine qs 10 hU rfl (by kernel_rfl) ?_; refine qs 11 hU rfl (by kernel_rfl) ?_; refine qs 13 hU rfl (by kernel_rfl) ?_; refine qs 14 hU rfl (by kernel_rfl) ?_; refine qs 15 hU rfl (by kernel_rfl) ?_; refine qs 16 hU rfl (by kernel_rfl) ?_; intro a hF; refine g1 (i := 12) (by kernel_rfl) ?_
   refine gs1 hF rfl rfl rfl rfl (.inl rfl) rfl (fun _ => hU) ?_; clear hF a; intro a hF
   refine g1 (i := 17) (by kernel_rfl) ?_
   refine gs1 hF rfl rfl rfl rfl (.inl rfl) rfl (fun _ => hU) ?_; clear hF a; intro a hF
   revert a; refine qs 18 hU rfl (by kernel_rfl) ?_; refine qG 19 (.bool false) rfl (rn_pick rfl rfl rfl) hU rfl (by kernel_rfl) ?_; refine qp 20 (.bool false) rfl (rn_pick rfl rfl rfl) hU rfl (by kernel_rfl) ?_; refine qx 21 (.bool false) hU rfl (by kernel_rfl) ?_; intro a hF; refine wgd (by kernel_rfl) ?_ _; refine cd_false hF rfl rfl ?_
   refine wdrs (Un (rows (⟨55, 12, A, acc.length, c, (kCellsL kvs)⟩ :: [])) W1.drew) (fun i => false) prog_mixed ?_
   have M0 := M.drew' _ rfl
   generalize W1.drew = W2 at *
   have M := M0; have hU := Un.refl (rows (⟨55, 12, A, acc.length, c, (kCellsL kvs)⟩ :: [])) W2
   revert a; refine qx 0 (.slice Ap np cp) hU rfl (by kernel_rfl) ?_; refine qp 1 (.int .i64 (↑np)) rfl (rn_len rfl rfl is_lK) hU rfl (by kernel_rfl) ?_; refine qp 2 (.bool true) rfl (rn_eql rfl rfl rfl (by rw [show np = 0 by omega]; rfl)) hU rfl (by kernel_rfl) ?_; refine qx 3 (.bool true) hU rfl (by kernel_rfl) ?_; refine qs 4 hU rfl (by kernel_rfl) ?_; refine qs 5 hU rfl (by kernel_rfl) ?_; refine qs 6 hU rfl (by kernel_rfl) ?_; refine qs 7 hU rfl (by kernel_rfl) ?_; refine qs 9 hU rfl (by kernel_rfl) ?_; refine qs 10 hU rfl (by kernel_rfl) ?_; refine qs 11 hU rfl (by kernel_rfl) ?_; refine qs 12 hU rfl (by kernel_rfl) ?_; intro a hF; refine g1 (i := 8) (by kernel_rfl) ?_
   refine gs1 hF rfl rfl rfl rfl (.inl rfl) rfl (fun _ => hU) ?_; clear hF a; intro a hF
   refine g1 (i := 13) (by kernel_rfl) ?_
   refine gs1 hF rfl rfl rfl rfl (.inl rfl) rfl (fun _ => hU) ?_; clear hF a; intro a hF
   revert a; refine qs 14 hU rfl (by kernel_rfl) ?_; refine qp 15 (.bool true) rfl (rn_pick rfl rfl rfl) hU rfl (by kernel_rfl) ?_; refine qx 16 (.bool true) hU rfl (by kernel_rfl) ?_; intro a hF; refine wgd (by kernel_rfl) ?_ _; refine cd_true hF rfl rfl ?_
   refine wdr (Un (rows (⟨55, 12, A, acc.length, c, (kCellsL kvs)⟩ :: [])) W2.drew) (fun i => false) prog_mixed ?_
   have M0 := M.drew' _ rfl
   generalize W2.drew = W3 at *
   have M := M0; have hU := Un.refl (rows (⟨55, 12, A, acc.length, c, (kCellsL kvs)⟩ :: [])) W3
   revert a; refine qx 0 (.slice A acc.length c) hU rfl (by kernel_rfl) ?_; refine qx 1 (.slice (some ⟨bq, oq, none⟩) nq cq) hU rfl (by kernel_rfl) ?_; refine qp 2 (.pointer (some ⟨bq, oq, none⟩)) rfl (rn_index (b := bq) (of := oq) (q := oq) rfl rfl rfl (by omega) es_lK (by rfl)) hU rfl (by kernel_rfl) ?_; refine qt 3 (.agg (Kv.arr vy)) rfl (fun W' hw => (rn_load rfl rfl (ld_K rfl (M0.uf hw).2.2))) hU rfl (by kernel_rfl) ?_; refine qx 6 (.slice (some ⟨bq, oq, none⟩) nq cq) hU rfl (by kernel_rfl) ?_; refine qp 7 (.slice (fromA (some ⟨bq, oq, none⟩) cq 1 12) Q1.length (cq - 1)) rfl (rn_from (k := 1) (m := Q1.length) (d := cq - 1) rfl rfl rfl es_lK (by omega) (by omega) rfl) hU rfl (by kernel_rfl) ?_; intro a hF; refine g1 (i := 4) (by kernel_rfl) ?_
   obtain ⟨bk1, hbk1⟩ : ∃ g, W3.heap.size = g := ⟨_, rfl⟩
   refine wgal hF M hU hbk1 rfl rfl rfl rfl (rn_bs1 (cs := (Kv.arr vy)) ti_lK (by decide) rfl rfl rfl hbk1) ?_; clear hF M hU a; intro W4 a M hU hgebk1 hF
   refine g1 (i := 5) (by kernel_rfl) ?_
   refine wgap hF M hU 0 rfl (rows_in (i := 0) rfl) ti_lK rfl rfl rfl rfl rfl rfl ((Kv.arr vy).toList) rfl rfl (src_box (M.b 0 rfl)) (Kv.arr_one _) (by show (acc.length + 1) * 208 ≤ _; omega) (by show acc.length + 1 ≤ _; unfold maxLen; omega) ?_; clear hF M hU a; intro A5 c5 W5 a M hU hx5 hF
   obtain ⟨ga5, rfl⟩ : ∃ g, A5 = some ⟨g, 0, none⟩ := M.at0 0 rfl (pos_app _ _ (leb (a := 1) rfl))
   revert a; refine qx 8 (.slice (some ⟨ga5, 0, none⟩) (acc.length + 1) c5) hU rfl (by kernel_rfl) ?_; refine qx 9 (.slice (fromA (some ⟨bq, oq, none⟩) cq 1 12) Q1.length (cq - 1)) hU rfl (by kernel_rfl) ?_; intro a hF; refine wgd (by kernel_rfl) ?_ _
   replace M := M.tail
   rw [kSnoc] at M
   refine nm_block (nm_block (nm_then ?_))
   replace hfu' : ([] : List KEd).length + Q1.length < fu' := by simpa using hfu'
   refine ⟨[].length + Q1.length, by (try simp only [List.length_cons, List.length_nil]); omega, _, [], Q1, acc ++ [y], Ap, np, cp, fromA (some ⟨bq, oq, none⟩) cq 1 12, Q1.length, cq - 1, (some ⟨ga5, 0, none⟩), c5, pv, qv.drop 1, kvs ++ [vy], ⟨fun u hu => (by cases hu), fun u hu => hsq u (List.mem_cons_of_mem _ hu), rfl, by (try simp only [List.length_append, List.length_cons, List.length_nil]); omega, fu', hfu', hres⟩, hF, rfl, rfl, rfl, rfl, ?_, ?_⟩
   ·rw [List.length_append]; rfl
   ·rw [List.length_append]; exact M.imp (((stable_keds _ _).and (stable_ks _ _ _ _ _)).and (stable_ks _ _ _ _ _)) fun h => ⟨⟨h.1.1.1.1.app (KedsAt.one haty h.1.2), h.1.1.1.2⟩, h.1.1.2.tail⟩
 | cons x P1 =>
  replace hlp : np = P1.length + 1 := hlp
  cases Q with
  | nil =>
   replace hlq : nq = 0 := hlq
   obtain ⟨fu', hfu', he⟩ := mg_left (at_ := KEd.at_) (one := one) (x := x) (p := P1) (n := fu) (by simpa using hfu)
   rw [he, map_app1] at hres; clear he
   simp only [List.length_cons, List.length_nil] at hn
   refine wp_seq ?_
   refine wrgs rfl ?_; revert a; refine qm (.slice Ap np cp) rfl ?_; refine qV (.int .i64 (↑np)) (rn_len rfl rfl is_lK) rfl ?_; refine qV (.bool true) (rn_gtr rfl rfl rfl (decide_eq_true (show (0 : Int) < ↑np by omega))) rfl ?_; refine qm (.bool true) rfl ?_; refine qi rfl ?_; refine qi rfl ?_; refine qi rfl ?_; refine qV (.bool true) (rn_pick rfl rfl rfl) rfl ?_; intro a hF; refine wl0 ?_; refine cd_true hF rfl rfl (wp_skip (nm_then ?_))
   refine wp_block (wp_block ?_)
   obtain ⟨bp, op, vx, rfl, hbo, hR, hatx, hT⟩ := M.fact.1.2.rng (i := 0) (by simp)
   replace hatx : vx.at_ = x.at_ := hatx; replace hT : EdAt _ _ x.e vx.e := hT
   replace M := (M.note (stable_ed _ _) hT).note (stable_range bp op vx.arr.toList) ⟨hbo, range0 hR⟩; clear hR hbo hT
   refine wdrs (Un (rows (⟨55, 12, A, acc.length, c, (kCellsL kvs)⟩ :: [])) W.drew) (fun i => false) prog_mixed ?_
   have M0 := M.drew' _ rfl
   generalize W.drew = W6 at *
   have M := M0; have hU := Un.refl (rows (⟨55, 12, A, acc.length, c, (kCellsL kvs)⟩ :: [])) W6
   revert a; refine qx 0 (.slice Aq nq cq) hU rfl (by kernel_rfl) ?_; refine qp 1 (.int .i64 (↑nq)) rfl (rn_len rfl rfl is_lK) hU rfl (by kernel_rfl) ?_; refine qp 2 (.bool true) rfl (rn_eql rfl rfl rfl (by rw [show nq = 0 by omega]; rfl)) hU rfl (by kernel_rfl) ?_; refine qx 3 (.bool true) hU rfl (by kernel_rfl) ?_; refine qs 4 hU rfl (by kernel_rfl) ?_; refine qs 5 hU rfl (by kernel_rfl) ?_; refine qs 6 hU rfl (by kernel_rfl) ?_; refine qs 7 hU rfl (by kernel_rfl) ?_; intro a hF; refine wgts (i := 8) hF rfl (by kernel_rfl) rfl rfl rfl (.inr rfl) rfl (fun _ => hU) ?_; clear hF a; intro a hF; refine wgts (i := 9) hF rfl (by kernel_rfl) rfl rfl rfl (.inr rfl) rfl (fun _ => hU) ?_; clear hF a; intro a hF; refine wgts (i := 10) hF rfl (by kernel_rfl) rfl rfl rfl (.inr rfl) rfl (fun _ => hU) ?_; clear hF a; intro a hF; refine wgts (i := 11) hF rfl (by kernel_rfl) rfl rfl rfl (.inr rfl) rfl (fun _ => hU) ?_; clear hF a; intro a hF; refine wgts (i := 13) hF rfl (by kernel_rfl) rfl rfl rfl (.inr rfl) rfl (fun _ => hU) ?_; clear hF a; intro a hF; refine wgts (i := 14) hF rfl (by kernel_rfl) rfl rfl rfl (.inr rfl) rfl (fun _ => hU) ?_; clear hF a; intro a hF; refine wgts (i := 15) hF rfl (by kernel_rfl) rfl rfl rfl (.inr rfl) rfl (fun _ => hU) ?_; clear hF a; intro a hF; refine wgts (i := 16) hF rfl (by kernel_rfl) rfl rfl rfl (.inr rfl) rfl (fun _ => hU) ?_; clear hF a; intro a hF; refine g1 (i := 12) (by kernel_rfl) ?_
   refine gs1 hF rfl rfl rfl rfl (.inr rfl) rfl (fun _ => hU) ?_; clear hF a; intro a hF
   refine g1 (i := 17) (by kernel_rfl) ?_
   refine gs1 hF rfl rfl rfl rfl (.inr rfl) rfl (fun _ => hU) ?_; clear hF a; intro a hF
   refine wgts (i := 18) hF rfl (by kernel_rfl) rfl rfl rfl (.inr rfl) rfl (fun _ => hU) ?_; clear hF a; intro a hF; revert a; refine qs 19 hU rfl (by kernel_rfl) ?_; refine qp 20 (.bool true) rfl (rn_pick rfl rfl rfl) hU rfl (by kernel_rfl) ?_; refine qx 21 (.bool true) hU rfl (by kernel_rfl) ?_; intro a hF; refine wgd (by kernel_rfl) ?_ _; refine cd_true hF rfl rfl ?_
   refine wdr (Un (rows (⟨55, 12, A, acc.length, c, (kCellsL kvs)⟩ :: [])) W6.drew) (fun i => false) prog_mixed ?_
   have M0 := M.drew' _ rfl
   generalize W6.drew = W7 at *
   have M := M0; have hU := Un.refl (rows (⟨55, 12, A, acc.length, c, (kCellsL kvs)⟩ :: [])) W7
   revert a; refine qx 0 (.slice A acc.length c) hU rfl (by kernel_rfl) ?_; refine qx 1 (.slice (some ⟨bp, op, none⟩) np cp) hU rfl (by kernel_rfl) ?_; refine qp 2 (.pointer (some ⟨bp, op, none⟩)) rfl (rn_index (b := bp) (of := op) (q := op) rfl rfl rfl (by omega) es_lK (by rfl)) hU rfl (by kernel_rfl) ?_; refine qt 3 (.agg (Kv.arr vx)) rfl (fun W' hw => (rn_load rfl rfl (ld_K rfl (M0.uf hw).2.2))) hU rfl (by kernel_rfl) ?_; refine qx 6 (.slice (some ⟨bp, op, none⟩) np cp) hU rfl (by kernel_rfl) ?_; refine qp 7 (.slice (fromA (some ⟨bp, op, none⟩) cp 1 12) P1.length (cp - 1)) rfl (rn_from (k := 1) (m := P1.length) (d := cp - 1) rfl rfl rfl es_lK (by omega) (by omega) rfl) hU rfl (by kernel_rfl) ?_; intro a hF; refine g1 (i := 4) (by kernel_rfl) ?_
   obtain ⟨bk2, hbk2⟩ : ∃ g, W7.heap.size = g := ⟨_, rfl⟩
   refine wgal hF M hU hbk2 rfl rfl rfl rfl (rn_bs1 (cs := (Kv.arr vx)) ti_lK (by decide) rfl rfl rfl hbk2) ?_; clear hF M hU a; intro W8 a M hU hgebk2 hF
   refine g1 (i := 5) (by kernel_rfl) ?_
   refine wgap hF M hU 0 rfl (rows_in (i := 0) rfl) ti_lK rfl rfl rfl rfl rfl rfl ((Kv.arr vx).toList) rfl rfl (src_box (M.b 0 rfl)) (Kv.arr_one _) (by show (acc.length + 1) * 208 ≤ _; omega) (by show acc.length + 1 ≤ _; unfold maxLen; omega) ?_; clear hF M hU a; intro A9 c9 W9 a M hU hx9 hF
   obtain ⟨ga9, rfl⟩ : ∃ g, A9 = some ⟨g, 0, none⟩ := M.at0 0 rfl (pos_app _ _ (leb (a := 1) rfl))
   revert a; refine qx 8 (.slice (some ⟨ga9, 0, none⟩) (acc.length + 1) c9) hU rfl (by kernel_rfl) ?_; refine qx 9 (.slice (fromA (some ⟨bp, op, none⟩) cp 1 12) P1.length (cp - 1)) hU rfl (by kernel_rfl) ?_; intro a hF; refine wgd (by kernel_rfl) ?_ _
   replace M := M.tail
   rw [kSnoc] at M
   refine nm_block (nm_block (nm_then ?_))
   replace hfu' : P1.length + ([] : List KEd).length < fu' := by simpa using hfu'
   refine ⟨P1.length + [].length, by (try simp only [List.length_cons, List.length_nil]); omega, _, P1, [], acc ++ [x], fromA (some ⟨bp, op, none⟩) cp 1 12, P1.length, cp - 1, Aq, nq, cq, (some ⟨ga9, 0, none⟩), c9, pv.drop 1, qv, kvs ++ [vx], ⟨fun u hu => hsp u (List.mem_cons_of_mem _ hu), fun u hu => (by cases hu), rfl, by (try simp only [List.length_append, List.length_cons, List.length_nil]); omega, fu', hfu', hres⟩, hF, rfl, rfl, rfl, rfl, ?_, ?_⟩
   ·rw [List.length_append]; rfl
   ·rw [List.length_append]; exact M.imp (((stable_keds _ _).and (stable_ks _ _ _ _ _)).and (stable_ks _ _ _ _ _)) fun h => ⟨⟨h.1.1.1.1.app (KedsAt.one hatx h.1.2), h.1.1.1.2.tail⟩, h.1.1.2⟩
  | cons y Q1 =>
   replace hlq : nq = Q1.length + 1 := hlq
   obtain ⟨fu', rfl⟩ : ∃ k, fu = k + 1 := ⟨fu - 1, by omega⟩
   simp only [List.length_cons] at hfu
   rw [mergeR] at hres
   simp only [List.length_cons, List.length_nil] at hn
   refine wp_seq ?_
   refine wrgs rfl ?_; revert a; refine qm (.slice Ap np cp) rfl ?_; refine qV (.int .i64 (↑np)) (rn_len rfl rfl is_lK) rfl ?_; refine qV (.bool true) (rn_gtr rfl rfl rfl (decide_eq_true (show (0 : Int) < ↑np by omega))) rfl ?_; refine qm (.bool true) rfl ?_; refine qi rfl ?_; refine qi rfl ?_; refine qi rfl ?_; refine qV (.bool true) (rn_pick rfl rfl rfl) rfl ?_; intro a hF; refine wl0 ?_; refine cd_true hF rfl rfl (wp_skip (nm_then ?_))
   refine wp_block (wp_block ?_)
   obtain ⟨bp, op, vx, rfl, hbo, hR, hatx, hT⟩ := M.fact.1.2.rng (i := 0) (by simp)
   replace hatx : vx.at_ = x.at_ := hatx; replace hT : EdAt _ _ x.e vx.e := hT
   replace M := (M.note (stable_ed _ _) hT).note (stable_range bp op vx.arr.toList) ⟨hbo, range0 hR⟩; clear hR hbo hT
   obtain ⟨bq, oq, vy, rfl, hbo, hR, haty, hT⟩ := M.fact.1.1.2.rng (i := 0) (by simp)
   replace haty : vy.at_ = y.at_ := haty; replace hT : EdAt _ _ y.e vy.e := hT
   replace M := (M.note (stable_ed _ _) hT).note (stable_range bq oq vy.arr.toList) ⟨hbo, range0 hR⟩; clear hR hbo hT
   by_cases c1 : vx.at_ < vy.at_
   ·skip
    rw [if_pos (by rw [← hatx, ← haty]; exact c1), map_app1] at hres
    refine wdrs (Un (rows (⟨55, 12, A, acc.length, c, (kCellsL kvs)⟩ :: [])) W.drew) (fun i => false) prog_mixed ?_
    have M0 := M.drew' _ rfl
    generalize W.drew = W10 at *
    have M := M0; have hU := Un.refl (rows (⟨55, 12, A, acc.length, c, (kCellsL kvs)⟩ :: [])) W10
    revert a; refine qx 0 (.slice (some ⟨bq, oq, none⟩) nq cq) hU rfl (by kernel_rfl) ?_; refine qp 1 (.int .i64 (↑nq)) rfl (rn_len rfl rfl is_lK) hU rfl (by kernel_rfl) ?_; refine qp 2 (.bool false) rfl (rn_eql rfl rfl rfl (beq_false_of_ne (show (↑nq : Int) ≠ 0 by omega))) hU rfl (by kernel_rfl) ?_; refine qx 3 (.bool false) hU rfl (by kernel_rfl) ?_; refine qH 4 (.slice (some ⟨bp, op, none⟩) np cp) hU rfl (by kernel_rfl) ?_; refine qG 5 (.int .i64 (↑np)) rfl (rn_len rfl rfl is_lK) hU rfl (by kernel_rfl) ?_; refine qG 6 (.bool true) rfl (rn_gtr rfl rfl rfl (decide_eq_true (show (0 : Int) < ↑np by omega))) hU rfl (by kernel_rfl) ?_; refine qH 7 (.bool true) hU rfl (by kernel_rfl) ?_; refine qH 8 (.func (.func 47) #[] #[]) hU rfl (by kernel_rfl) ?_; refine qH 9 (.slice (some ⟨bp, op, none⟩) np cp) hU rfl (by kernel_rfl) ?_; refine qG 10 (.pointer (some ⟨bp, op, none⟩)) rfl (rn_index (b := bp) (of := op) (q := op) rfl rfl rfl (by omega) es_lK (by rfl)) hU rfl (by kernel_rfl) ?_; intro a hF; refine wgtg (i := 11) (v := .agg (Kv.arr vx)) hF (fun W' hw => (rn_load rfl rfl (ld_K rfl (M0.uf hw).1.1.2.2))) rfl (by kernel_rfl) rfl rfl rfl rfl rfl rfl hU ?_; clear hF a; intro a hF; revert a; refine qH 13 (.func (.func 47) #[] #[]) hU rfl (by kernel_rfl) ?_; refine qH 14 (.slice (some ⟨bq, oq, none⟩) nq cq) hU rfl (by kernel_rfl) ?_; refine qG 15 (.pointer (some ⟨bq, oq, none⟩)) rfl (rn_index (b := bq) (of := oq) (q := oq) rfl rfl rfl (by omega) es_lK (by rfl)) hU rfl (by kernel_rfl) ?_; intro a hF
    refine wgtg (i := 16) (v := .agg (Kv.arr vy)) hF (fun W' hw => (rn_load rfl rfl (ld_K rfl (M0.uf hw).2.2))) rfl (by kernel_rfl) rfl rfl rfl rfl rfl rfl hU ?_; clear hF a; intro a hF; refine g1 (i := 12) (by kernel_rfl) ?_
    refine gcg1 hF (rn_call1 (u := .agg (Kv.arr vx)) rfl rfl rfl Try.call47) (at47_mm M vx) rfl rfl rfl rfl rfl rfl rfl ?_; clear hF a
    rintro e9 W11 ⟨rfl, M, hb⟩; replace hU := hU.nil hb; clear hb; refine ⟨_, rfl, fun _ => hU, ?_⟩; intro a hF
    refine g1 (i := 17) (by kernel_rfl) ?_
    refine gcg1 hF (rn_call1 (u := .agg (Kv.arr vy)) rfl rfl rfl Try.call47) (at47_mm M vy) rfl rfl rfl rfl rfl rfl rfl ?_; clear hF a
    rintro e9 W12 ⟨rfl, M, hb⟩; replace hU := hU.nil hb; clear hb; refine ⟨_, rfl, fun _ => hU, ?_⟩; intro a hF
    revert a; refine qG 18 (.bool true) rfl (rn_lss rfl rfl rfl (decide_eq_true c1)) hU rfl (by kernel_rfl) ?_; refine qG 19 (.bool true) rfl (rn_pick rfl rfl rfl) hU rfl (by kernel_rfl) ?_; refine qp 20 (.bool true) rfl (rn_pick rfl rfl rfl) hU rfl (by kernel_rfl) ?_; refine qx 21 (.bool true) hU rfl (by kernel_rfl) ?_; intro a hF; refine wgd (by kernel_rfl) ?_ _; refine cd_true hF rfl rfl ?_
    refine wdr (Un (rows (⟨55, 12, A, acc.length, c, (kCellsL kvs)⟩ :: [])) W12.drew) (fun i => false) prog_mixed ?_
    have M0 := M.drew' _ rfl
    generalize W12.drew = W13 at *
    have M := M0; have hU := Un.refl (rows (⟨55, 12, A, acc.length, c, (kCellsL kvs)⟩ :: [])) W13
    revert a; refine qx 0 (.slice A acc.length c) hU rfl (by kernel_rfl) ?_; refine qx 1 (.slice (some ⟨bp, op, none⟩) np cp) hU rfl (by kernel_rfl) ?_; refine qp 2 (.pointer (some ⟨bp, op, none⟩)) rfl (rn_index (b := bp) (of := op) (q := op) rfl rfl rfl (by omega) es_lK (by rfl)) hU rfl (by kernel_rfl) ?_; refine qt 3 (.agg (Kv.arr vx)) rfl (fun W' hw => (rn_load rfl rfl (ld_K rfl (M0.uf hw).1.1.2.2))) hU rfl (by kernel_rfl) ?_; refine qx 6 (.slice (some ⟨bp, op, none⟩) np cp) hU rfl (by kernel_rfl) ?_; refine qp 7 (.slice (fromA (some ⟨bp, op, none⟩) cp 1 12) P1.length (cp - 1)) rfl (rn_from (k := 1) (m := P1.length) (d := cp - 1) rfl rfl rfl es_lK (by omega) (by omega) rfl) hU rfl (by kernel_rfl) ?_; intro a hF; refine g1 (i := 4) (by kernel_rfl) ?_
    obtain ⟨bk3, hbk3⟩ : ∃ g, W13.heap.size = g := ⟨_, rfl⟩
    refine wgal hF M hU hbk3 rfl rfl rfl rfl (rn_bs1 (cs := (Kv.arr vx)) ti_lK (by decide) rfl rfl rfl hbk3) ?_; clear hF M hU a; intro W14 a M hU hgebk3 hF
    refine g1 (i := 5) (by kernel_rfl) ?_
    refine wgap hF M hU 0 rfl (rows_in (i := 0) rfl) ti_lK rfl rfl rfl rfl rfl rfl ((Kv.arr vx).toList) rfl rfl (src_box (M.b 0 rfl)) (Kv.arr_one _) (by show (acc.length + 1) * 208 ≤ _; omega) (by show acc.length + 1 ≤ _; unfold maxLen; omega) ?_; clear hF M hU a; intro A15 c15 W15 a M hU hx15 hF
    obtain ⟨ga15, rfl⟩ : ∃ g, A15 = some ⟨g, 0, none⟩ := M.at0 0 rfl (pos_app _ _ (leb (a := 1) rfl))
    revert a; refine qx 8 (.slice (some ⟨ga15, 0, none⟩) (acc.length + 1) c15) hU rfl (by kernel_rfl) ?_; refine qx 9 (.slice (fromA (some ⟨bp, op, none⟩) cp 1 12) P1.length (cp - 1)) hU rfl (by kernel_rfl) ?_; intro a hF; refine wgd (by kernel_rfl) ?_ _
    replace M := M.tail
    rw [kSnoc] at M
    refine nm_block (nm_block (nm_then ?_))
    have hfu' : P1.length + (y :: Q1).length < fu' := by rw [List.length_cons]; omega
    refine ⟨P1.length + (y :: Q1).length, by (try simp only [List.length_cons, List.length_nil]); omega, _, P1, (y :: Q1), acc ++ [x], fromA (some ⟨bp, op, none⟩) cp 1 12, P1.length, cp - 1, some ⟨bq, oq, none⟩, nq, cq, (some ⟨ga15, 0, none⟩), c15, pv.drop 1, qv, kvs ++ [vx], ⟨fun u hu => hsp u (List.mem_cons_of_mem _ hu), hsq, rfl, by (try simp only [List.length_append, List.length_cons, List.length_nil]); omega, fu', hfu', hres⟩, hF, rfl, rfl, rfl, rfl, ?_, ?_⟩
    ·rw [List.length_append]; rfl
    ·rw [List.length_append]; exact M.imp (((stable_keds _ _).and (stable_ks _ _ _ _ _)).and (stable_ks _ _ _ _ _)) fun h => ⟨⟨h.1.1.1.1.1.1.app (KedsAt.one hatx h.1.1.1.2), h.1.1.1.1.1.2.tail⟩, h.1.1.1.1.2⟩
   ·skip
    rw [if_neg (by rw [← hatx, ← haty]; exact c1)] at hres
    refine wdrs (Un (rows (⟨55, 12, A, acc.length, c, (kCellsL kvs)⟩ :: [])) W.drew) (fun i => false) prog_mixed ?_
    have M0 := M.drew' _ rfl
    generalize W.drew = W16 at *
    have M := M0; have hU := Un.refl (rows (⟨55, 12, A, acc.length, c, (kCellsL kvs)⟩ :: [])) W16
    revert a; refine qx 0 (.slice (some ⟨bq, oq, none⟩) nq cq) hU rfl (by kernel_rfl) ?_; refine qp 1 (.int .i64 (↑nq)) rfl (rn_len rfl rfl is_lK) hU rfl (by kernel_rfl) ?_; refine qp 2 (.bool false) rfl (rn_eql rfl rfl rfl (beq_false_of_ne (show (↑nq : Int) ≠ 0 by omega))) hU rfl (by kernel_rfl) ?_; refine qx 3 (.bool false) hU rfl (by kernel_rfl) ?_; refine qH 4 (.slice (some ⟨bp, op, none⟩) np cp) hU rfl (by kernel_rfl) ?_; refine qG 5 (.int .i64 (↑np)) rfl (rn_len rfl rfl is_lK) hU rfl (by kernel_rfl) ?_; refine qG 6 (.bool true) rfl (rn_gtr rfl rfl rfl (decide_eq_true (show (0 : Int) < ↑np by omega))) hU rfl (by kernel_rfl) ?_; refine qH 7 (.bool true) hU rfl (by kernel_rfl) ?_; refine qH 8 (.func (.func 47) #[] #[]) hU rfl (by kernel_rfl) ?_; refine qH 9 (.slice (some ⟨bp, op, none⟩) np cp) hU rfl (by kernel_rfl) ?_; refine qG 10 (.pointer (some ⟨bp, op, none⟩)) rfl (rn_index (b := bp) (of := op) (q := op) rfl rfl rfl (by omega) es_lK (by rfl)) hU rfl (by kernel_rfl) ?_; intro a hF; refine wgtg (i := 11) (v := .agg (Kv.arr vx)) hF (fun W' hw => (rn_load rfl rfl (ld_K rfl (M0.uf hw).1.1.2.2))) rfl (by kernel_rfl) rfl rfl rfl rfl rfl rfl hU ?_; clear hF a; intro a hF; revert a; refine qH 13 (.func (.func 47) #[] #[]) hU rfl (by kernel_rfl) ?_; refine qH 14 (.slice (some ⟨bq, oq, none⟩) nq cq) hU rfl (by kernel_rfl) ?_; refine qG 15 (.pointer (some ⟨bq, oq, none⟩)) rfl (rn_index (b := bq) (of := oq) (q := oq) rfl rfl rfl (by omega) es_lK (by rfl)) hU rfl (by kernel_rfl) ?_; intro a hF
    refine wgtg (i := 16) (v := .agg (Kv.arr vy)) hF (fun W' hw => (rn_load rfl rfl (ld_K rfl (M0.uf hw).2.2))) rfl (by kernel_rfl) rfl rfl rfl rfl rfl rfl hU ?_; clear hF a; intro a hF; refine g1 (i := 12) (by kernel_rfl) ?_
    refine gcg1 hF (rn_call1 (u := .agg (Kv.arr vx)) rfl rfl rfl Try.call47) (at47_mm M vx) rfl rfl rfl rfl rfl rfl rfl ?_; clear hF a
    rintro e9 W17 ⟨rfl, M, hb⟩; replace hU := hU.nil hb; clear hb; refine ⟨_, rfl, fun _ => hU, ?_⟩; intro a hF
    refine g1 (i := 17) (by kernel_rfl) ?_
    refine gcg1 hF (rn_call1 (u := .agg (Kv.arr vy)) rfl rfl rfl Try.call47) (at47_mm M vy) rfl rfl rfl rfl rfl rfl rfl ?_; clear hF a
    rintro e9 W18 ⟨rfl, M, hb⟩; replace hU := hU.nil hb; clear hb; refine ⟨_, rfl, fun _ => hU, ?_⟩; intro a hF
    revert a; refine qG 18 (.bool false) rfl (rn_lss rfl rfl rfl (decide_eq_false c1)) hU rfl (by kernel_rfl) ?_; refine qG 19 (.bool false) rfl (rn_pick rfl rfl rfl) hU rfl (by kernel_rfl) ?_; refine qp 20 (.bool false) rfl (rn_pick rfl rfl rfl) hU rfl (by kernel_rfl) ?_; refine qx 21 (.bool false) hU rfl (by kernel_rfl) ?_; intro a hF; refine wgd (by kernel_rfl) ?_ _; refine cd_false hF rfl rfl ?_
    by_cases c2 : vy.at_ < vx.at_
    ·skip
     rw [if_pos (by rw [← hatx, ← haty]; exact c2), map_app1] at hres
     refine wdrs (Un (rows (⟨55, 12, A, acc.length, c, (kCellsL kvs)⟩ :: [])) W18.drew) (fun i => false) prog_mixed ?_
     have M0 := M.drew' _ rfl
     generalize W18.drew = W19 at *
     have M := M0; have hU := Un.refl (rows (⟨55, 12, A, acc.length, c, (kCellsL kvs)⟩ :: [])) W19
     revert a; refine qx 0 (.slice (some ⟨bp, op, none⟩) np cp) hU rfl (by kernel_rfl) ?_; refine qp 1 (.int .i64 (↑np)) rfl (rn_len rfl rfl is_lK) hU rfl (by kernel_rfl) ?_; refine qp 2 (.bool false) rfl (rn_eql rfl rfl rfl (beq_false_of_ne (show (↑np : Int) ≠ 0 by omega))) hU rfl (by kernel_rfl) ?_; refine qx 3 (.bool false) hU rfl (by kernel_rfl) ?_; refine qH 4 (.func (.func 47) #[] #[]) hU rfl (by kernel_rfl) ?_; refine qH 5 (.slice (some ⟨bq, oq, none⟩) nq cq) hU rfl (by kernel_rfl) ?_; refine qG 6 (.pointer (some ⟨bq, oq, none⟩)) rfl (rn_index (b := bq) (of := oq) (q := oq) rfl rfl rfl (by omega) es_lK (by rfl)) hU rfl (by kernel_rfl) ?_; intro a hF; refine wgtg (i := 7) (v := .agg (Kv.arr vy)) hF (fun W' hw => (rn_load rfl rfl (ld_K rfl (M0.uf hw).2.2))) rfl (by kernel_rfl) rfl rfl rfl rfl rfl rfl hU ?_; clear hF a; intro a hF; revert a; refine qH 9 (.func (.func 47) #[] #[]) hU rfl (by kernel_rfl) ?_; refine qH 10 (.slice (some ⟨bp, op, none⟩) np cp) hU rfl (by kernel_rfl) ?_; refine qG 11 (.pointer (some ⟨bp, op, none⟩)) rfl (rn_index (b := bp) (of := op) (q := op) rfl rfl rfl (by omega) es_lK (by rfl)) hU rfl (by kernel_rfl) ?_; intro a hF; refine wgtg (i := 12) (v := .agg (Kv.arr vx)) hF (fun W' hw => (rn_load rfl rfl (ld_K rfl (M0.uf hw).1.1.2.2))) rfl (by kernel_rfl) rfl rfl rfl rfl rfl rfl hU ?_; clear hF a; intro a hF; refine g1 (i := 8) (by kernel_rfl) ?_
     refine gcg1 hF (rn_call1 (u := .agg (Kv.arr vy)) rfl rfl rfl Try.call47) (at47_mm M vy) rfl rfl rfl rfl rfl rfl rfl ?_; clear hF a
     rintro e9 W20 ⟨rfl, M, hb⟩; replace hU := hU.nil hb; clear hb; refine ⟨_, rfl, fun _ => hU, ?_⟩; intro a hF
     refine g1 (i := 13) (by kernel_rfl) ?_
     refine gcg1 hF (rn_call1 (u := .agg (Kv.arr vx)) rfl rfl rfl Try.call47) (at47_mm M vx) rfl rfl rfl rfl rfl rfl rfl ?_; clear hF a
     rintro e9 W21 ⟨rfl, M, hb⟩; replace hU := hU.nil hb; clear hb; refine ⟨_, rfl, fun _ => hU, ?_⟩; intro a hF
     revert a; refine qG 14 (.bool true) rfl (rn_lss rfl rfl rfl (decide_eq_true c2)) hU rfl (by kernel_rfl) ?_; refine qp 15 (.bool true) rfl (rn_pick rfl rfl rfl) hU rfl (by kernel_rfl) ?_; refine qx 16 (.bool true) hU rfl (by kernel_rfl) ?_; intro a hF; refine wgd (by kernel_rfl) ?_ _; refine cd_true hF rfl rfl ?_
     refine wdr (Un (rows (⟨55, 12, A, acc.length, c, (kCellsL kvs)⟩ :: [])) W21.drew) (fun i => false) prog_mixed ?_
     have M0 := M.drew' _ rfl
     generalize W21.drew = W22 at *
     have M := M0; have hU := Un.refl (rows (⟨55, 12, A, acc.length, c, (kCellsL kvs)⟩ :: [])) W22
     revert a; refine qx 0 (.slice A acc.length c) hU rfl (by kernel_rfl) ?_; refine qx 1 (.slice (some ⟨bq, oq, none⟩) nq cq) hU rfl (by kernel_rfl) ?_; refine qp 2 (.pointer (some ⟨bq, oq, none⟩)) rfl (rn_index (b := bq) (of := oq) (q := oq) rfl rfl rfl (by omega) es_lK (by rfl)) hU rfl (by kernel_rfl) ?_; refine qt 3 (.agg (Kv.arr vy)) rfl (fun W' hw => (rn_load rfl rfl (ld_K rfl (M0.uf hw).2.2))) hU rfl (by kernel_rfl) ?_; refine qx 6 (.slice (some ⟨bq, oq, none⟩) nq cq) hU rfl (by kernel_rfl) ?_; refine qp 7 (.slice (fromA (some ⟨bq, oq, none⟩) cq 1 12) Q1.length (cq - 1)) rfl (rn_from (k := 1) (m := Q1.length) (d := cq - 1) rfl rfl rfl es_lK (by omega) (by omega) rfl) hU rfl (by kernel_rfl) ?_; intro a hF; refine g1 (i := 4) (by kernel_rfl) ?_
     obtain ⟨bk4, hbk4⟩ : ∃ g, W22.heap.size = g := ⟨_, rfl⟩
     refine wgal hF M hU hbk4 rfl rfl rfl rfl (rn_bs1 (cs := (Kv.arr vy)) ti_lK (by decide) rfl rfl rfl hbk4) ?_; clear hF M hU a; intro W23 a M hU hgebk4 hF
     refine g1 (i := 5) (by kernel_rfl) ?_
     refine wgap hF M hU 0 rfl (rows_in (i := 0) rfl) ti_lK rfl rfl rfl rfl rfl rfl ((Kv.arr vy).toList) rfl rfl (src_box (M.b 0 rfl)) (Kv.arr_one _) (by show (acc.length + 1) * 208 ≤ _; omega) (by show acc.length + 1 ≤ _; unfold maxLen; omega) ?_; clear hF M hU a; intro A24 c24 W24 a M hU hx24 hF
     obtain ⟨ga24, rfl⟩ : ∃ g, A24 = some ⟨g, 0, none⟩ := M.at0 0 rfl (pos_app _ _ (leb (a := 1) rfl))
     revert a; refine qx 8 (.slice (some ⟨ga24, 0, none⟩) (acc.length + 1) c24) hU rfl (by kernel_rfl) ?_; refine qx 9 (.slice (fromA (some ⟨bq, oq, none⟩) cq 1 12) Q1.length (cq - 1)) hU rfl (by kernel_rfl) ?_; intro a hF; refine wgd (by kernel_rfl) ?_ _
     replace M := M.tail
     rw [kSnoc] at M
     refine nm_block (nm_block (nm_then ?_))
     have hfu' : (x :: P1).length + Q1.length < fu' := by rw [List.length_cons]; omega
     refine ⟨(x :: P1).length + Q1.length, by (try simp only [List.length_cons, List.length_nil]); omega, _, (x :: P1), Q1, acc ++ [y], some ⟨bp, op, none⟩, np, cp, fromA (some ⟨bq, oq, none⟩) cq 1 12, Q1.length, cq - 1, (some ⟨ga24, 0, none⟩), c24, pv, qv.drop 1, kvs ++ [vy], ⟨hsp, fun u hu => hsq u (List.mem_cons_of_mem _ hu), rfl, by (try simp only [List.length_append, List.length_cons, List.length_nil]); omega, fu', hfu', hres⟩, hF, rfl, rfl, rfl, rfl, ?_, ?_⟩
     ·rw [List.length_append]; rfl
     ·rw [List.length_append]; exact M.imp (((stable_keds _ _).and (stable_ks _ _ _ _ _)).and (stable_ks _ _ _ _ _)) fun h => ⟨⟨h.1.1.1.1.1.1.app (KedsAt.one haty h.1.2), h.1.1.1.1.1.2⟩, h.1.1.1.1.2.tail⟩
    ·skip
     rw [if_neg (by rw [← hatx, ← haty]; exact c2)] at hres
     refine wdrs (Un (rows (⟨55, 12, A, acc.length, c, (kCellsL kvs)⟩ :: [])) W18.drew) (fun i => false) prog_mixed ?_
     have M0 := M.drew' _ rfl
     generalize W18.drew = W25 at *
     have M := M0; have hU := Un.refl (rows (⟨55, 12, A, acc.length, c, (kCellsL kvs)⟩ :: [])) W25
     revert a; refine qx 0 (.slice (some ⟨bp, op, none⟩) np cp) hU rfl (by kernel_rfl) ?_; refine qp 1 (.int .i64 (↑np)) rfl (rn_len rfl rfl is_lK) hU rfl (by kernel_rfl) ?_; refine qp 2 (.bool false) rfl (rn_eql rfl rfl rfl (beq_false_of_ne (show (↑np : Int) ≠ 0 by omega))) hU rfl (by kernel_rfl) ?_; refine qx 3 (.bool false) hU rfl (by kernel_rfl) ?_; refine qH 4 (.func (.func 47) #[] #[]) hU rfl (by kernel_rfl) ?_; refine qH 5 (.slice (some ⟨bq, oq, none⟩) nq cq) hU rfl (by kernel_rfl) ?_; refine qG 6 (.pointer (some ⟨bq, oq, none⟩)) rfl (rn_index (b := bq) (of := oq) (q := oq) rfl rfl rfl (by omega) es_lK (by rfl)) hU rfl (by kernel_rfl) ?_; intro a hF; refine wgtg (i := 7) (v := .agg (Kv.arr vy)) hF (fun W' hw => (rn_load rfl rfl (ld_K rfl (M0.uf hw).2.2))) rfl (by kernel_rfl) rfl rfl rfl rfl rfl rfl hU ?_; clear hF a; intro a hF; revert a; refine qH 9 (.func (.func 47) #[] #[]) hU rfl (by kernel_rfl) ?_; refine qH 10 (.slice (some ⟨bp, op, none⟩) np cp) hU rfl (by kernel_rfl) ?_; refine qG 11 (.pointer (some ⟨bp, op, none⟩)) rfl (rn_index (b := bp) (of := op) (q := op) rfl rfl rfl (by omega) es_lK (by rfl)) hU rfl (by kernel_rfl) ?_; intro a hF; refine wgtg (i := 12) (v := .agg (Kv.arr vx)) hF (fun W' hw => (rn_load rfl rfl (ld_K rfl (M0.uf hw).1.1.2.2))) rfl (by kernel_rfl) rfl rfl rfl rfl rfl rfl hU ?_; clear hF a; intro a hF; refine g1 (i := 8) (by kernel_rfl) ?_
     refine gcg1 hF (rn_call1 (u := .agg (Kv.arr vy)) rfl rfl rfl Try.call47) (at47_mm M vy) rfl rfl rfl rfl rfl rfl rfl ?_; clear hF a
     rintro e9 W26 ⟨rfl, M, hb⟩; replace hU := hU.nil hb; clear hb; refine ⟨_, rfl, fun _ => hU, ?_⟩; intro a hF
     refine g1 (i := 13) (by kernel_rfl) ?_
     refine gcg1 hF (rn_call1 (u := .agg (Kv.arr vx)) rfl rfl rfl Try.call47) (at47_mm M vx) rfl rfl rfl rfl rfl rfl rfl ?_; clear hF a
     rintro e9 W27 ⟨rfl, M, hb⟩; replace hU := hU.nil hb; clear hb; refine ⟨_, rfl, fun _ => hU, ?_⟩; intro a hF
     revert a; refine qG 14 (.bool false) rfl (rn_lss rfl rfl rfl (decide_eq_false c2)) hU rfl (by kernel_rfl) ?_; refine qp 15 (.bool false) rfl (rn_pick rfl rfl rfl) hU rfl (by kernel_rfl) ?_; refine qx 16 (.bool false) hU rfl (by kernel_rfl) ?_; intro a hF; refine wgd (by kernel_rfl) ?_ _; refine cd_false hF rfl rfl ?_
     refine wp_seq (wp_cut (fun a W => ∃ (f : Nat → Value) (go : Nat) (z : Kv), Fr a 98 f ∧ f 0 = .slice (some ⟨bp, op, none⟩) np cp ∧ f 1 = .slice (some ⟨bq, oq, none⟩) nq cq ∧ f 2 = .func (.func 47) #[] #[] ∧ f 3 = .func (.func 48) #[] #[] ∧ f 10 = .slice A acc.length c ∧ f 11 = .pointer (some ⟨go, 0, none⟩) ∧ f 12 = .bool (one x y).isSome ∧ Mm S w W (⟨go, 55, (Kv.arr z)⟩ :: []) (⟨55, 12, A, acc.length, c, (kCellsL kvs)⟩ :: []) (fun W S => (((((((KedsAt W S acc kvs ∧ KsAt W S (some ⟨bp, op, none⟩) np cp (x :: P1) pv) ∧ KsAt W S (some ⟨bq, oq, none⟩) nq cq (y :: Q1) qv) ∧ EdAt W S x.e vx.e) ∧ (S bp ∧ W.rangeAt bp op vx.arr.toList)) ∧ EdAt W S y.e vy.e) ∧ (S bq ∧ W.rangeAt bq oq vy.arr.toList))) ∧ ∀ u, one x y = some u → z.at_ = u.at_ ∧ EdAt W S u.e z.e)) ?_ ?_)
     ·skip
      refine wdr (Un (rows (⟨55, 12, A, acc.length, c, (kCellsL kvs)⟩ :: [])) W27.drew) (fun i => Nat.beq i 12) prog_mixed ?_
      have M0 := M.drew' _ rfl
      generalize W27.drew = W28 at *
      have M := M0; have hU := Un.refl (rows (⟨55, 12, A, acc.length, c, (kCellsL kvs)⟩ :: [])) W28
      revert a; refine qx 0 (.func (.func 48) #[] #[]) hU rfl (by kernel_rfl) ?_; refine qx 1 (.slice (some ⟨bp, op, none⟩) np cp) hU rfl (by kernel_rfl) ?_; refine qp 2 (.pointer (some ⟨bp, op, none⟩)) rfl (rn_index (b := bp) (of := op) (q := op) rfl rfl rfl (by omega) es_lK (by rfl)) hU rfl (by kernel_rfl) ?_; refine qt 3 (.agg (Kv.arr vx)) rfl (fun W' hw => (rn_load rfl rfl (ld_K rfl (M0.uf hw).1.1.2.2))) hU rfl (by kernel_rfl) ?_; refine qx 4 (.slice (some ⟨bq, oq, none⟩) nq cq) hU rfl (by kernel_rfl) ?_; refine qp 5 (.pointer (some ⟨bq, oq, none⟩)) rfl (rn_index (b := bq) (of := oq) (q := oq) rfl rfl rfl (by omega) es_lK (by rfl)) hU rfl (by kernel_rfl) ?_; refine qt 6 (.agg (Kv.arr vy)) rfl (fun W' hw => (rn_load rfl rfl (ld_K rfl (M0.uf hw).2.2))) hU rfl (by kernel_rfl) ?_; intro a hF
      refine g2 (i := 7) (j := 11) (by kernel_rfl) ?_ ?_
      ·skip
       have hc := kd_mm M (hone x (hsp x List.mem_cons_self) y (hsq y List.mem_cons_self) vx vy _ _ hatx M.fact.1.1.1.2 haty M.fact.1.2 M.lts)
       refine gc1 hF (rn_call2 (u := .agg (Kv.arr vx)) (u' := .agg (Kv.arr vy)) rfl rfl rfl rfl Try.call48) hc rfl rfl rfl rfl ?_; clear hF a
       rintro e W29 ⟨z, rfl, M, hb⟩; replace hU := hU.nil hb; clear hb; refine ⟨_, rfl, fun _ => hU, ?_⟩; intro a hF
       clear hc
       revert a; refine qx 8 (.tuple #[.agg (Kv.arr z), .bool ((one x y).isSome)]) hU rfl (by kernel_rfl) ?_; refine qp 9 (.agg (Kv.arr z)) rfl (rn_extract rfl rfl rfl) hU rfl (by kernel_rfl) ?_; refine qp 10 (.bool ((one x y).isSome)) rfl (rn_extract rfl rfl rfl) hU rfl (by kernel_rfl) ?_; intro a hF; refine g1 (i := 11) (by kernel_rfl) ?_
       obtain ⟨bk5, hbk5⟩ : ∃ g, W29.heap.size = g := ⟨_, rfl⟩
       refine wgal hF M hU hbk5 rfl rfl rfl rfl (rn_alloc rfl zc_K hbk5) ?_; clear hF M hU a; intro W30 a M hU hgebk5 hF
       refine g1 (i := 12) (by kernel_rfl) ?_
       refine wgst hF M 0 rfl (vs := (Kv.arr z)) (by kernel_rfl) rfl rfl rfl rfl rfl rfl rfl rfl sz_K (Kv.arr_one _) (leb rfl) ?_; clear hF M a; intro W31 a M hF
       refine wgp (i := 13) (v := .bool ((one x y).isSome)) hF (fun W' => (rn_assign rfl rfl)) rfl (by kernel_rfl) rfl rfl rfl (fin_no (by kernel_rfl)) ?_; clear hF a; intro a hF
       refine wgd (by kernel_rfl) ?_ _
       exact ⟨_, bk5, z, hF, rfl, rfl, rfl, rfl, rfl, rfl, rfl, M⟩
      ·skip
       obtain ⟨bk6, hbk6⟩ : ∃ g, W28.heap.size = g := ⟨_, rfl⟩
       refine wgal hF M hU hbk6 rfl rfl rfl rfl (rn_alloc rfl zc_K hbk6) ?_; clear hF M hU a; intro W32 a M hU hgebk6 hF
       refine g1 (i := 7) (by kernel_rfl) ?_
       have hc := kd_mm M (hone x (hsp x List.mem_cons_self) y (hsq y List.mem_cons_self) vx vy _ _ hatx M.fact.1.1.1.2 haty M.fact.1.2 M.lts)
       refine gc1 hF (rn_call2 (u := .agg (Kv.arr vx)) (u' := .agg (Kv.arr vy)) rfl rfl rfl rfl Try.call48) hc rfl rfl rfl rfl ?_; clear hF a
       rintro e W33 ⟨z, rfl, M, hb⟩; replace hU := hU.nil hb; clear hb; refine ⟨_, rfl, fun _ => hU, ?_⟩; intro a hF
       clear hc
       revert a; refine qx 8 (.tuple #[.agg (Kv.arr z), .bool ((one x y).isSome)]) hU rfl (by kernel_rfl) ?_; refine qp 9 (.agg (Kv.arr z)) rfl (rn_extract rfl rfl rfl) hU rfl (by kernel_rfl) ?_; refine qp 10 (.bool ((one x y).isSome)) rfl (rn_extract rfl rfl rfl) hU rfl (by kernel_rfl) ?_; intro a hF; refine g1 (i := 12) (by kernel_rfl) ?_
       refine wgst hF M 0 rfl (vs := (Kv.arr z)) (by kernel_rfl) rfl rfl rfl rfl rfl rfl rfl rfl sz_K (Kv.arr_one _) (leb rfl) ?_; clear hF M a; intro W34 a M hF
       refine wgp (i := 13) (v := .bool ((one x y).isSome)) hF (fun W' => (rn_assign rfl rfl)) rfl (by kernel_rfl) rfl rfl rfl (fin_no (by kernel_rfl)) ?_; clear hF a; intro a hF
       refine wgd (by kernel_rfl) ?_ _
       exact ⟨_, bk6, z, hF, rfl, rfl, rfl, rfl, rfl, rfl, rfl, M⟩
     clear hF M a
     rintro a W ⟨f, go, z, hF, hf0, hf1, hf2, hf3, hf10, hf11, hf12, M⟩
     refine nm_then ?_
     replace hF := ((((((hF.same (d := 0) hf0).same (d := 1) hf1).same (d := 2) hf2).same (d := 3) hf3).same (d := 10) hf10).same (d := 11) hf11)
     cases hone9 : one x y with
     | none =>
      rw [hone9] at hf12 hres
      replace hres : res = none := hres
      replace hF := hF.same (d := 12) (v := .bool false) hf12
      refine wp_seq ?_
      refine wrgs rfl ?_; revert a; refine qm (.bool false) rfl ?_; refine qV (.bool true) (rn_not rfl rfl rfl) rfl ?_; intro a hF; refine wl0 ?_; refine cd_true hF rfl rfl ?_; refine wrgs rfl ?_; revert a; refine qm (.slice none 0 0) rfl ?_; refine qm (.bool false) rfl ?_; intro a hF; refine wl0 ?_
      refine wp_ret (?_ : bodyPost _ _ _ .ret _ _)
      refine res_slots Try.results46 rfl rfl hF ?_
      rw [hres]
      exact ⟨none, 0, 0, [], rfl, M.bel, fun u hu => by cases hu⟩
     | some k =>
      rw [hone9] at hf12 hres
      replace hres : res = (((mergeR KEd.at_ one fu' P1 Q1).map (k :: ·))).map (acc ++ ·) := hres
      rw [map_app1] at hres
      replace hF := hF.same (d := 12) (v := .bool true) hf12
      refine wp_seq ?_
      refine wrgs rfl ?_; revert a; refine qm (.bool true) rfl ?_; refine qV (.bool false) (rn_not rfl rfl rfl) rfl ?_; intro a hF; refine wl0 ?_; refine cd_false hF rfl rfl (wp_skip (nm_then ?_))
      refine wdr (Un (rows (⟨55, 12, A, acc.length, c, (kCellsL kvs)⟩ :: [])) W.drew) (fun i => false) prog_mixed ?_
      have M0 := M.drew' _ rfl
      generalize W.drew = W61 at *
      have M := M0; have hU := Un.refl (rows (⟨55, 12, A, acc.length, c, (kCellsL kvs)⟩ :: [])) W61
      revert a; refine qx 0 (.slice A acc.length c) hU rfl (by kernel_rfl) ?_; refine qt 1 (.agg (Kv.arr z)) rfl (fun W' hw => (rn_load rfl rfl (ld_K rfl (M0.ub hw 0 rfl).whole))) hU rfl (by kernel_rfl) ?_; refine qx 4 (.slice (some ⟨bp, op, none⟩) np cp) hU rfl (by kernel_rfl) ?_; refine qp 5 (.slice (fromA (some ⟨bp, op, none⟩) cp 1 12) P1.length (cp - 1)) rfl (rn_from (k := 1) (m := P1.length) (d := cp - 1) rfl rfl rfl es_lK (by omega) (by omega) rfl) hU rfl (by kernel_rfl) ?_; refine qx 6 (.slice (some ⟨bq, oq, none⟩) nq cq) hU rfl (by kernel_rfl) ?_; refine qp 7 (.slice (fromA (some ⟨bq, oq, none⟩) cq 1 12) Q1.length (cq - 1)) rfl (rn_from (k := 1) (m := Q1.length) (d := cq - 1) rfl rfl rfl es_lK (by omega) (by omega) rfl) hU rfl (by kernel_rfl) ?_; intro a hF; refine g1 (i := 2) (by kernel_rfl) ?_
      obtain ⟨bk7, hbk7⟩ : ∃ g, W61.heap.size = g := ⟨_, rfl⟩
      refine wgal hF M hU hbk7 rfl rfl rfl rfl (rn_bs1 (cs := (Kv.arr z)) ti_lK (by decide) rfl rfl rfl hbk7) ?_; clear hF M hU a; intro W62 a M hU hgebk7 hF
      refine g1 (i := 3) (by kernel_rfl) ?_
      refine wgap hF M hU 0 rfl (rows_in (i := 0) rfl) ti_lK rfl rfl rfl rfl rfl rfl ((Kv.arr z).toList) rfl rfl (src_box (M.b 0 rfl)) (Kv.arr_one _) (by show (acc.length + 1) * 208 ≤ _; omega) (by show acc.length + 1 ≤ _; unfold maxLen; omega) ?_; clear hF M hU a; intro A63 c63 W63 a M hU hx63 hF
      obtain ⟨ga63, rfl⟩ : ∃ g, A63 = some ⟨g, 0, none⟩ := M.at0 0 rfl (pos_app _ _ (leb (a := 1) rfl))
      revert a; refine qx 8 (.slice (some ⟨ga63, 0, none⟩) (acc.length + 1) c63) hU rfl (by kernel_rfl) ?_; refine qx 9 (.slice (fromA (some ⟨bp, op, none⟩) cp 1 12) P1.length (cp - 1)) hU rfl (by kernel_rfl) ?_; refine qx 10 (.slice (fromA (some ⟨bq, oq, none⟩) cq 1 12) Q1.length (cq - 1)) hU rfl (by kernel_rfl) ?_; intro a hF; refine wgd (by kernel_rfl) ?_ _
      replace M := M.tail.tail
      rw [kSnoc] at M
      refine nm_block (nm_block (nm_then ?_))
      have hfu' : P1.length + Q1.length < fu' := by omega
      refine ⟨P1.length + Q1.length, by (try simp only [List.length_cons]); omega, _, P1, Q1, acc ++ [k], fromA (some ⟨bp, op, none⟩) cp 1 12, P1.length, cp - 1, fromA (some ⟨bq, oq, none⟩) cq 1 12, Q1.length, cq - 1, (some ⟨ga63, 0, none⟩), c63, pv.drop 1, qv.drop 1, kvs ++ [z], ⟨fun u hu => hsp u (List.mem_cons_of_mem _ hu), fun u hu => hsq u (List.mem_cons_of_mem _ hu), rfl, by rw [List.length_append, List.length_singleton]; omega, fu', hfu', hres⟩, hF, rfl, rfl, rfl, rfl, ?_, ?_⟩
      ·rw [List.length_append]; rfl
      ·rw [List.length_append]; exact M.imp (((stable_keds _ _).and (stable_ks _ _ _ _ _)).and (stable_ks _ _ _ _ _)) fun h => ⟨⟨h.1.1.1.1.1.1.1.app (KedsAt.one (h.2 k hone9).1 (h.2 k hone9).2), h.1.1.1.1.1.1.2.tail⟩, h.1.1.1.1.1.2.tail⟩
end Go.Proofs.Ytbmjiokjigkdnaa
