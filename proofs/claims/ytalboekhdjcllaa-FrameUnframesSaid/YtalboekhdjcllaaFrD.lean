/-
  What Unframe of package frame and of its reference reads: sizes.
-/
import Derived.Test.YtalboekhdjcllaaFrB
namespace Go.Proofs.Ytalboekhdjcllaa
open Go.RowKit

theorem rd_drop (bs : List Int) (k j : Nat) : rd (bs.drop k) j = rd bs (k + j) := by
  unfold rd
  simp only [List.getD_eq_getElem?_getD, List.getElem?_drop, Nat.add_assoc]
theorem getD_bd255 (bs : List Int) (hw : ∀ x ∈ bs, 0 ≤ x ∧ x ≤ 255) (i : Nat) : 0 ≤ bs.getD i 0 ∧ bs.getD i 0 ≤ 255 := by
  by_cases h : i < bs.length
  · rw [List.getD_eq_getElem?_getD, List.getElem?_eq_getElem h]; exact hw _ (List.getElem_mem h)
  · rw [List.getD_eq_getElem?_getD, List.getElem?_eq_none (by omega)]; exact ⟨by decide, by decide⟩
theorem rd_bd (bs : List Int) (hw : ∀ x ∈ bs, 0 ≤ x ∧ x ≤ 255) (k : Nat) : 0 ≤ rd bs k ∧ rd bs k ≤ 4294967295 := by
  have h0 := getD_bd255 bs hw k
  have h1 := getD_bd255 bs hw (k + 1)
  have h2 := getD_bd255 bs hw (k + 2)
  have h3 := getD_bd255 bs hw (k + 3)
  unfold rd
  omega

set_option maxHeartbeats 1000000 in
theorem refRead_any (A : Option Addr) (n c b0 k : Nat) (bs : List Int) (w : World) (hn : n = bs.length) (h4 : k + 4 ≤ n) (hr : Reads w b0 A (bs.map (Value.int .u8))) (hw : ∀ x ∈ bs, 0 ≤ x ∧ x ≤ 255) (hm : n ≤ maxLen) :
    Calls Try.prog 21 #[.slice A n c, .int .i64 k] w fun e w' => e = .returned (.int .i64 (rd bs k)) ∧ w = w' := by
  subst hn
  unfold maxLen at hm
  obtain ⟨bx, ox, rfl, _, cx⟩ := hr.all (by simp; omega)
  have CC : ∀ j (hj : j < bs.length), w.cell? ⟨bx, ox + j, none⟩ = some (.int .u8 (bs.getD j 0)) := fun j hj => by
    apply cx j
    simp [hj]
  have c0 := CC k (by omega)
  have c1 := CC (k + 1) (by omega)
  have c2 := CC (k + 2) (by omega)
  have c3 := CC (k + 3) (by omega)
  have b0 := getD_bd255 bs hw k
  have b1 := getD_bd255 bs hw (k + 1)
  have b2 := getD_bd255 bs hw (k + 2)
  have b3 := getD_bd255 bs hw (k + 3)
  clear CC cx hw hr
  unfold rd
  generalize bs.getD k 0 = y0, bs.getD (k + 1) 0 = y1, bs.getD (k + 2) 0 = y2, bs.getD (k + 3) 0 = y3 at *
  go_enter Try.func21, Try.ntmps21
  go_wp2
  go_rounds 5
  go_ret
  exact ⟨ret_int (by omega), rfl⟩

/-- the words of bytes that are segments; an error -/
def anyBig (bs : List Int) (n : Nat) : Bool := (List.range n).any fun i => decide (rd bs (4 + 4 * i) > 65536)
def anyPad (bs : List Int) (n p : Nat) : Bool := (List.range p).any fun i => bs.getD (4 + 4 * n + i) 0 != 0
def nSegs (bs : List Int) : Nat := (rd bs 0).toNat + 1
def headErr (bs : List Int) : Int :=
  if bs.length < 4 then 4 else if nSegs bs > 16 then 3 else if bs.length < 4 + 4 * nSegs bs + padN (nSegs bs) then 4 else
  if anyBig bs (nSegs bs) then 3 else if anyPad bs (nSegs bs) (padN (nSegs bs)) then 5 else 0
def sizesOf (bs : List Int) (n : Nat) : List Int := (List.range n).map fun i => rd bs (4 + 4 * i)
theorem sizesOf_snoc (bs : List Int) (n : Nat) : sizesOf bs (n + 1) = sizesOf bs n ++ [rd bs (4 + 4 * n)] := by
  simp [sizesOf, List.range_succ]
theorem sizesOf_len (bs : List Int) (n : Nat) : (sizesOf bs n).length = n := by simp [sizesOf]
theorem anyBig_succ (bs : List Int) (n : Nat) : anyBig bs (n + 1) = (anyBig bs n || decide (rd bs (4 + 4 * n) > 65536)) := by
  simp [anyBig, List.range_succ]
theorem anyBig_hit (bs : List Int) (n k : Nat) (hk : k < n) (h : rd bs (4 + 4 * k) > 65536) : anyBig bs n = true := by
  unfold anyBig
  rw [List.any_eq_true]
  exact ⟨k, List.mem_range.2 hk, decide_eq_true h⟩
theorem anyPad_succ (bs : List Int) (n p : Nat) : anyPad bs n (p + 1) = (anyPad bs n p || (bs.getD (4 + 4 * n + p) 0 != 0)) := by
  simp [anyPad, List.range_succ]
theorem anyPad_hit (bs : List Int) (n p k : Nat) (hk : k < p) (h : bs.getD (4 + 4 * n + k) 0 ≠ 0) : anyPad bs n p = true := by
  unfold anyPad
  rw [List.any_eq_true]
  exact ⟨k, List.mem_range.2 hk, by simpa using h⟩

def SizesPost (bs : List Int) (w : World) (e : Ending) (w' : World) : Prop :=
  Below w.heap.size w w' ∧ ((headErr bs ≠ 0 ∧ e = .returned (.tuple #[.slice none 0 0, .int .i64 (headErr bs)])) ∨
    (headErr bs = 0 ∧ ∃ A c, e = .returned (.tuple #[.slice A (nSegs bs) c, .int .i64 0]) ∧ Reads w' w'.heap.size A ((sizesOf bs (nSegs bs)).map (Value.int .i64))))
end Go.Proofs.Ytalboekhdjcllaa
