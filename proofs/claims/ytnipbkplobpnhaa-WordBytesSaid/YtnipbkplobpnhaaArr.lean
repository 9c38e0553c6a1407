/-
  Arrays of integers, compared.
-/
import Derived.Test.YtnipbkplobpnhaaLib
import Derived.ChangeKeysEq
namespace Go.Proofs.Ytnipbkplobpnhaa
open Go.RowKit

/-! ### arrays of integers, compared -/
section
variable {P : Program} (w : World)
theorem run_part_int {e : TypeId} {cs : Array Value} {j : Nat} {v : Value} (ha : ∀ w, (isAgg e).run P w = .ok false w) (hv : cs[j]? = some v) : (part e cs j).run P w = .ok v w := by
  simp [part, ha, hv, go_sem]
theorem run_eqItems_ints {e : TypeId} {k : IntKind} (d : Nat) (he : P.underlying e = some (.int k)) (ha : ∀ w, (isAgg e).run P w = .ok false w) (xs ys : List Int) : ∀ is : List Nat, (∀ i ∈ is, i < xs.length ∧ i < ys.length) →
    (Op.eqItems (d + 1) e 1 (xs.map (Value.int k)).toArray (ys.map (Value.int k)).toArray is).run P w = .ok (is.all fun i => xs.getD i 0 == ys.getD i 0) w
  | [], _ => by simp [Op.eqItems]
  | i :: is, h => by
    obtain ⟨h1, h2⟩ := h i (List.mem_cons_self ..)
    have ih := run_eqItems_ints d he ha xs ys is (fun j hj => h j (List.mem_cons_of_mem _ hj))
    have px : (part e (xs.map (Value.int k)).toArray (i * 1)).run P w = .ok (.int k xs[i]) w := run_part_int w ha (by simp [h1])
    have py : (part e (ys.map (Value.int k)).toArray (i * 1)).run P w = .ok (.int k ys[i]) w := run_part_int w ha (by simp [h2])
    have pe : (Op.equalIn (d + 1) e (.int k xs[i]) (.int k ys[i])).run P w = .ok (xs[i] == ys[i]) w := run_equalIn_int w d e k k _ _ he
    have gx : xs.getD i 0 = xs[i] := by rw [List.getD_eq_getElem?_getD, List.getElem?_eq_getElem h1]; rfl
    have gy : ys.getD i 0 = ys[i] := by rw [List.getD_eq_getElem?_getD, List.getElem?_eq_getElem h2]; rfl
    simp only [Op.eqItems, Sem.run_bind, px, py, pe, Result.andThen_ok]
    cases hr : xs[i] == ys[i]
    · simp only [List.all_cons, gx, gy, hr, Bool.not_false, if_true, Sem.run_pure, Bool.false_and]
    · simp only [List.all_cons, gx, gy, hr, Bool.not_true, Bool.false_eq_true, if_false, ih, Bool.true_and]
theorem run_equalIn_ints {t e : TypeId} {k : IntKind} {n : Nat} {i : TypeInfo} (d : Nat) (hu : P.underlying t = some (.array n e)) (hi : P.info? e = some i) (hs : i.size = 1) (he : P.underlying e = some (.int k)) (ha : ∀ w, (isAgg e).run P w = .ok false w)
    (xs ys : List Int) (hx : xs.length = n) (hy : ys.length = n) :
    (Op.equalIn (d + 2) t (.agg (xs.map (Value.int k)).toArray) (.agg (ys.map (Value.int k)).toArray)).run P w = .ok (xs == ys) w := by
  have hc : P.cellsOf e = 1 := by simp [Program.cellsOf, hi, hs]
  rw [run_equalIn_array w (d + 1) _ _ hu hi, hc, run_eqItems_ints w d he ha xs ys _ (fun j hj => by have := List.mem_range.1 hj; omega)]
  congr 1
  rw [Bool.eq_iff_iff, List.all_eq_true, beq_iff_eq]
  constructor
  · intro h
    apply List.ext_getElem (by omega)
    intro j h1 h2
    have := h j (List.mem_range.2 (by omega))
    simpa [List.getD_eq_getElem?_getD, h1, h2] using this
  · rintro rfl j _
    simp
end

end Go.Proofs.Ytnipbkplobpnhaa
