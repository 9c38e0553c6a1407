/-
  Numbers of four bytes, the head's size: package frame and its reference.
-/
import Derived.Test.YtalboekhdjcllaaWd03
import Derived.Lib.QuoteBits
namespace Go.Proofs.Ytalboekhdjcllaa
open Go.RowKit

theorem i64_or_nat (a b : Nat) (ha : a < 9223372036854775808) (hb : b < 9223372036854775808) : bits .or .i64 (a : Int) (b : Int) = ((a ||| b : Nat) : Int) := by
  have hx : a ||| b < 2 ^ 63 := Nat.or_lt_two_pow (by omega) (by omega)
  show IntKind.i64.wrap ((BitVec.ofInt 64 (a : Int) ||| BitVec.ofInt 64 (b : Int)).toNat : Int) = _
  rw [BitVec.toNat_or, ofInt_u64 a (by omega), ofInt_u64 b (by omega)]
  rw [IntKind.wrap_i64]
  omega
theorem i64_join (i : Nat) (m x y : Int) (hm : m = 2 ^ i) (hx : 0 ≤ x) (hxm : x < m) (hx2 : x < 9223372036854775808) (hy : 0 ≤ y) (hy2 : y < 9223372036854775808) (hd : y % m = 0) :
    bits .or .i64 x y = x + y := by
  obtain ⟨X, rfl⟩ := Int.eq_ofNat_of_zero_le hx
  obtain ⟨Y, rfl⟩ := Int.eq_ofNat_of_zero_le hy
  subst hm
  rw [i64_or_nat X Y (by omega) (by omega), Nat.or_comm, nat_join i Y X]
  · omega
  · have e : ((Y % 2 ^ i : Nat) : Int) = 0 := by rw [Int.natCast_emod, Int.natCast_pow]; exact hd
    exact_mod_cast e
  · have e : (X : Int) < ((2 ^ i : Nat) : Int) := by rw [Int.natCast_pow]; exact hxm
    exact_mod_cast e

def numB (n : Int) : List Int := [n % 256, n / 256 % 256, n / 65536 % 256, n / 16777216 % 256]
def rd (bs : List Int) (k : Nat) : Int := bs.getD k 0 + 256 * bs.getD (k + 1) 0 + 65536 * bs.getD (k + 2) 0 + 16777216 * bs.getD (k + 3) 0
def hd (n : Int) : Int := (4 + 4 * n + 7) / 8 * 8
theorem numB_len (n : Int) : (numB n).length = 4 := rfl

def OwnPost (ys : List Int) (w : World) (e : Ending) (w' : World) : Prop :=
  Below w.heap.size w w' ∧ ∃ v, e = .returned v ∧ w'.ownsRow w.heap.size 5 1 v ys.length (ys.map (Value.int .u8))
theorem OwnPost.bytes {ys : List Int} {w w' : World} {e : Ending} (h : OwnPost ys w e w') : BytesPost ys w e w' := by
  obtain ⟨hb, v, he, hown⟩ := h
  obtain ⟨A', c', hv, hle, hA'⟩ := ownsRow_slice hown
  exact ⟨hb, A', _, c', by rw [he, hv], rfl, hle, ownsRow_cap (by rw [← hv]; exact hown), hA', Reads.of_own hown hv⟩
theorem Reads.src {w : World} {B : Nat} {A : Option Addr} {xs : List Value} (h : Reads w B A xs) : ∀ j u, xs[j]? = some u → ∃ ad, A = some ad ∧ w.cell? (ad.add j) = some u := fun j u hu => by
  obtain ⟨b, o, e, _, hc⟩ := h j u hu
  exact ⟨_, e, by rw [add_lit]; exact hc⟩

theorem head_any (n : Int) (h0 : 0 ≤ n) (h1 : n ≤ 1048576) (w : World) :
    Calls Try.prog 14 #[.int .i64 n] w fun e w' => e = .returned (.int .i64 (hd n)) ∧ w = w' := by
  go_enter Try.func14, Try.ntmps14
  go_wp2
  go_ret
  refine ⟨ret_int ?_, rfl⟩
  unfold hd
  omega

set_option maxHeartbeats 1000000 in
theorem number_any (n : Int) (h0 : 0 ≤ n) (h1 : n ≤ 4294967295) (w : World) :
    Calls Try.prog 13 #[.int .i64 n] w (OwnPost (numB n) w) := by
  have e7 : n / 16777216 % 256 = n / 16777216 := by omega
  go_enter Try.func13, Try.ntmps13
  go_wp2
  go_ret
  refine ⟨(Below.refl _ _).alloc (Nat.le_refl _) _, _, rfl, ?_⟩
  have h := World.ownsRow_lit (base := w.heap.size) (e := 5) (size := 1) w #[.int .u8 (n % 256), .int .u8 (n / 256 % 256), .int .u8 (n / 65536 % 256), .int .u8 (n / 16777216)] 4 (Nat.le_refl _) (by decide) rfl
  have e8 : (numB n).map (Value.int .u8) = [.int .u8 (n % 256), .int .u8 (n / 256 % 256), .int .u8 (n / 65536 % 256), .int .u8 (n / 16777216)] := by
    rw [numB, e7]; rfl
  rw [e8]
  exact h

set_option maxHeartbeats 1000000 in
theorem refNumber_any (n : Int) (h0 : 0 ≤ n) (h1 : n ≤ 4294967295) (w : World) :
    Calls Try.prog 16 #[.int .i64 n] w (OwnPost (numB n) w) := by
  obtain ⟨i0, hi, hz0, hz1, hz2⟩ := info_parts infoByte
  go_enter Try.func16, Try.ntmps16
  go_wp2_with fail
  go_loopw [0, 3, 4] (fun v o i wr => ∃ (k : Nat) (x : Int), k ≤ 4 ∧ i = .int .i64 k ∧ v = .int .i64 x ∧ 0 ≤ x ∧ x ≤ 4294967295 ∧ Hid (x = n / 256 ^ k) ∧ wr.ownsRow w.heap.size 5 1 o k (((numB n).take k).map (Value.int .u8)) ∧ Below w.heap.size w wr) (fun _ _ i _ => 4 - (intOf i).toNat)
  case atStart => exact ⟨0, n, by omega, rfl, rfl, h0, h1, by show n = n / 256 ^ 0; omega, World.ownsRow_nil _ _ _ _, Below.refl _ _⟩
  case round =>
    obtain ⟨k, x, hk, rfl, rfl, hx0, hx1, hx, hown, hbe⟩ := hrel
    by_cases hlt : k < 4
    · have hx3 : Hid (x / 256 = n / 256 ^ (k + 1)) := by
        show x / 256 = n / 256 ^ (k + 1)
        rw [hx.out, Int.ediv_ediv_of_nonneg (by have := Int.pow_pos (n := 256) (by decide : (0:Int) < 256) (m := k); omega), Int.pow_succ]
      have hnb : Hid ((numB n).take (k + 1) = (numB n).take k ++ [x % 256]) := by
        show (numB n).take (k + 1) = (numB n).take k ++ [x % 256]
        rw [List.take_succ_eq_append_getElem (by rw [numB_len]; exact hlt), hx.out]
        have : k = 0 ∨ k = 1 ∨ k = 2 ∨ k = 3 := by omega
        rcases this with h | h | h | h <;> subst h <;> simp [numB]
      have hnew : ∀ j u, ([x % 256].map (Value.int .u8))[j]? = some u → ∃ ad, some (⟨wr.heap.size, 0, none⟩ : Addr) = some ad ∧ (wr.alloc (.cells #[.int .u8 (x % 256)] 5)).cell? (ad.add j) = some u := fun j u hu => by
        refine ⟨_, rfl, ?_⟩
        rw [add_lit, Nat.zero_add, (Blk.new wr _ _).cell]
        simpa using hu
      have HNEW := hide hnew
      clear hnew
      go_wp2_with (at_builtin; refine wpList_append_any _ rfl (.tmp 9) (.tmp 13) _ rfl w.heap.size 5 i0 _ 1 1 Try.underlying23 hi hz0 hz1 hz2 rfl (by decide) _ _ _ rfl (hown.alloc _) (some ⟨wr.heap.size, 0, none⟩) 1 1 ([x % 256].map (Value.int .u8)) rfl rfl HNEW.out (oneCells _ _) (by unfold maxLen; omega) (by omega) (by have := hbe.size; simp; omega) ?_; intro v1 w2 hown2 hg2 hat2)
      go_roundw
      case rel =>
        refine ⟨k + 1, x / 256, by omega, by go_num, by go_num, by omega, by omega, hx3, ?_, (hbe.alloc hbe.size _).grown hg2 (by have := hbe.size; simp; omega) (fun k hk => (hown.lt k hk).1)⟩
        rw [hnb.out, List.map_append]
        exact hown2
      case measure => simp [intOf]; omega
    · have hke : k = 4 := by omega
      subst hke
      go_wp2_with fail
      go_ret
      exact ⟨hbe, _, rfl, hown⟩

set_option maxHeartbeats 1000000 in
theorem read_any (A : Option Addr) (n c b0 : Nat) (bs : List Int) (w : World) (hn : n = bs.length) (h4 : 4 ≤ n) (hr : Reads w b0 A (bs.map (Value.int .u8))) (hw : ∀ x ∈ bs, 0 ≤ x ∧ x ≤ 255) (hm : n ≤ maxLen) :
    Calls Try.prog 25 #[.slice A n c] w fun e w' => e = .returned (.int .i64 (rd bs 0)) ∧ ∃ k, w' = w.drewN k := by
  subst hn
  unfold maxLen at hm
  obtain ⟨bx, ox, rfl, _, cx⟩ := hr.all (by simp; omega)
  have CC : ∀ j (hj : j < bs.length), w.cell? ⟨bx, ox + j, none⟩ = some (.int .u8 (bs.getD j 0)) := fun j hj => by
    apply cx j
    simp [hj]
  have c0 : w.cell? ⟨bx, ox, none⟩ = _ := CC 0 (by omega)
  have c1 := CC 1 (by omega)
  have c2 := CC 2 (by omega)
  have c3 := CC 3 (by omega)
  have HB : ∀ i, i < bs.length → 0 ≤ bs.getD i 0 ∧ bs.getD i 0 ≤ 255 := fun i h => by
    rw [List.getD_eq_getElem?_getD, List.getElem?_eq_getElem h]; exact hw _ (List.getElem_mem h)
  have b0 := HB 0 (by omega)
  have b1 := HB 1 (by omega)
  have b2 := HB 2 (by omega)
  have b3 := HB 3 (by omega)
  clear CC HB cx hw hr
  unfold rd
  simp only [Nat.zero_add]
  generalize bs.getD 0 0 = y0, bs.getD 1 0 = y1, bs.getD 2 0 = y2, bs.getD 3 0 = y3 at *
  have j1 : bits .or .i64 y0 (y1 * 256) = y0 + y1 * 256 := i64_join 8 256 _ _ (by decide) (by omega) (by omega) (by omega) (by omega) (by omega) (by omega)
  have j2 : bits .or .i64 (y0 + y1 * 256) (y2 * 65536) = y0 + y1 * 256 + y2 * 65536 := i64_join 16 65536 _ _ (by decide) (by omega) (by omega) (by omega) (by omega) (by omega) (by omega)
  have j3 : bits .or .i64 (y0 + y1 * 256 + y2 * 65536) (y3 * 16777216) = y0 + y1 * 256 + y2 * 65536 + y3 * 16777216 := i64_join 24 16777216 _ _ (by decide) (by omega) (by omega) (by omega) (by omega) (by omega) (by omega)
  go_enter Try.func25, Try.ntmps25
  go_wp2_with fail
  go_quiet (fail)
  go_wp2_with fail
  go_ret
  refine ⟨ret_int (by omega), _, rfl⟩
end Go.Proofs.Ytalboekhdjcllaa
