/-
  Words of package word and of its reference; bytes compared.
-/
import Derived.Test.YtnipbkplobpnhaaFlatA
import Derived.Deep.MidRow
namespace Go.Proofs.Ytnipbkplobpnhaa
open Go.RowKit

/-- the words of bytes -/
def wordAt (ys : List Int) (k : Nat) : Int := join8 fun j => ys.getD (8 * k + j) 0
def wordsOf (ys : List Int) (k : Nat) : List Int := (List.range k).map (wordAt ys)
theorem wordsOf_len (ys : List Int) (k : Nat) : (wordsOf ys k).length = k := by simp [wordsOf]
theorem wordsOf_snoc (ys : List Int) (k : Nat) : wordsOf ys (k + 1) = wordsOf ys k ++ [wordAt ys k] := by
  simp [wordsOf, List.range_succ]
def lenV : Value → Nat
  | .slice _ n _ => n
  | _ => 0
def WordsPost (ys : List Int) (w : World) (e : Ending) (w' : World) : Prop :=
  Below w.heap.size w w' ∧ ((ys.length % 8 ≠ 0 ∧ e = .returned (.tuple #[.slice none 0 0, .bool false])) ∨
    (ys.length % 8 = 0 ∧ ∃ A n c, e = .returned (.tuple #[.slice A n c, .bool true]) ∧ n = ys.length / 8 ∧ Reads w' w'.heap.size A ((wordsOf ys (ys.length / 8)).map (Value.int .u64))))

theorem sameBytes_any (A B : Option Addr) (c d b0 n m : Nat) (xs ys : List Int) (w : World) (hn : n = xs.length) (hm : m = ys.length)
   (hx : Reads w b0 A (xs.map (Value.int .u8))) (hy : Reads w b0 B (ys.map (Value.int .u8)))
   (lx : n ≤ maxLen) (ly : m ≤ maxLen) :
    Calls Try.prog 30 #[.slice A n c, .slice B m d] w fun e w' => e = .returned (.bool (xs == ys)) ∧ ∃ k, w' = w.drewN k := by
  subst hn hm
  unfold maxLen at lx ly
  by_cases hl : xs.length = ys.length
  · have hl' : ((xs.length : Int) != (ys.length : Int)) = false := by rw [hl]; simp
    have HL := Lib.hid hl
    clear hl
    go_enter Try.func30, Try.ntmps30
    go_wp2
    go_loopw [5] (fun i wr => ∃ k : Nat, k ≤ xs.length ∧ i = .int .i64 k ∧ Hid (xs.take k = ys.take k) ∧ ∃ m, wr = w.drewN m) (fun i _ => xs.length - (intOf i).toNat)
    case atStart => exact ⟨0, by omega, rfl, by exact rfl, 0, rfl⟩
    case round =>
      obtain ⟨k, hk, rfl, he, m, rfl⟩ := hrel
      by_cases hlt : k < xs.length
      · have hlt2 : k < ys.length := by rw [← HL.out]; exact hlt
        obtain ⟨bx, ox, rfl, _, cx⟩ := hx.intAt hlt
        obtain ⟨bY, oy, rfl, _, cy⟩ := hy.intAt hlt2
        go_wp2
        go_quiet (fail)
        go_wp2
        · have ht : (xs[k] != ys[k]) = true := by assumption
          go_ret
          refine ⟨ret_bool ?_, m + nq, by first | rfl | rw [World.drewN_drewN]⟩
          have hne : xs ≠ ys := fun e => by subst e; simp at ht
          simp [hne]
        · go_roundw
          case rel =>
            have ht : (xs[k] != ys[k]) = false := by assumption
            have he2 : xs[k] = ys[k] := by simpa using ht
            refine ⟨k + 1, by omega, by go_num, ?_, _, rfl⟩
            have h1 := he.out
            show xs.take (k + 1) = ys.take (k + 1)
            rw [List.take_succ_eq_append_getElem hlt, List.take_succ_eq_append_getElem hlt2, h1, he2]
          case measure => simp [intOf]; omega
      · go_wp2
        go_ret
        refine ⟨ret_bool ?_, _, rfl⟩
        have h1 := he.out
        rw [List.take_of_length_le (by omega), List.take_of_length_le (by have := HL.out; omega)] at h1
        simp [h1]
  · have hl' : ((xs.length : Int) != (ys.length : Int)) = true := by rw [bne_iff_ne]; omega
    go_enter Try.func30, Try.ntmps30
    go_wp2
    go_ret
    exact ⟨ret_bool (by simp; intro h; exact absurd (by rw [h]) hl), 0, rfl⟩

set_option maxHeartbeats 2000000 in
theorem refWords_any (A : Option Addr) (n c b0 : Nat) (xs : List Int) (w : World) (hn : n = xs.length) (hr : Reads w b0 A (xs.map (Value.int .u8))) (hb0 : b0 ≤ w.heap.size) (hw : ∀ x ∈ xs, 0 ≤ x ∧ x ≤ 255) (hs : n ≤ 140737488351232) :
    Calls Try.prog 32 #[.slice A n c] w (WordsPost xs w) := by
  subst hn
  obtain ⟨i0, hi, hz0, hz1, hz2⟩ := info_parts infoWord
  have HB : Hid (∀ i, 0 ≤ xs.getD i 0 ∧ xs.getD i 0 ≤ 255) := fun i => by
    by_cases h : i < xs.length
    · rw [List.getD_eq_getElem?_getD, List.getElem?_eq_getElem h]; exact hw _ (List.getElem_mem h)
    · rw [List.getD_eq_getElem?_getD, List.getElem?_eq_none (by omega)]; exact ⟨by decide, by decide⟩
  have HR := hide hr
  clear hw hr
  by_cases hm : xs.length % 8 = 0
  · have hm' : decide ((xs.length : Int) % 8 > 0) = false := by simp; omega
    have HM := hide hm
    go_enter Try.func32, Try.ntmps32
    go_wp2_with fail
    go_loopw [4, 5] (fun v i wr => ∃ k : Nat, 8 * k ≤ xs.length ∧ i = .int .i64 (8 * k : Nat) ∧ wr.ownsRow w.heap.size 22 1 v k ((wordsOf xs k).map (Value.int .u64)) ∧ Below w.heap.size w wr) (fun _ i _ => xs.length - (intOf i).toNat)
    case atStart => exact ⟨0, by omega, rfl, World.ownsRow_nil _ _ _ _, Below.refl _ _⟩
    case round =>
      obtain ⟨k, hk, rfl, hown, hbe⟩ := hrel
      by_cases hlt : 8 * k < xs.length
      · obtain ⟨bx, ox, rfl, hbx, cx⟩ := (HR.out.below hbe hb0).all (by simp; omega)
        go_wp2_with fail
        refine (refOf_any bx ox xs.length c (8 * k : Nat) (fun j => xs.getD (8 * k + j) 0) (fun i => HB.out _) _ (by omega) (by omega) (by unfold maxLen; omega) ?_).mono ?_
        · intro i hi
          rw [Int.toNat_natCast]
          refine cx (8 * k + i) _ ?_
          have : 8 * k + i < xs.length := by omega
          simp [this]
        rintro e w1 ⟨rfl, rfl⟩
        rw [show (join8 fun j => xs.getD (8 * k + j) 0) = wordAt xs k from rfl]
        have hnew : ∀ j u, ([wordAt xs k].map (Value.int .u64))[j]? = some u → ∃ ad, some (⟨wr.heap.size, 0, none⟩ : Addr) = some ad ∧ (wr.alloc (.cells #[.int .u64 (wordAt xs k)] 22)).cell? (ad.add j) = some u := fun j u hu => by
          refine ⟨_, rfl, ?_⟩
          rw [add_lit, Nat.zero_add, (Blk.new wr _ _).cell]
          simpa using hu
        have HNEW := hide hnew
        clear hnew
        go_wp2_with (at_builtin; refine wpList_append_any _ rfl (.tmp 16) (.tmp 20) _ rfl w.heap.size 22 i0 _ 1 8 Try.underlying32 hi hz0 hz1 hz2 rfl (by decide) _ _ _ rfl (hown.alloc _) (some ⟨wr.heap.size, 0, none⟩) 1 1 ([wordAt xs k].map (Value.int .u64)) rfl rfl HNEW.out (oneCells _ _) (by unfold maxLen; omega) (by omega) (by have := hbe.size; simp; omega) ?_; intro v1 w2 hown2 hg2 hat2)
        go_roundw
        case rel =>
          refine ⟨k + 1, by omega, by go_num, ?_, (hbe.alloc hbe.size _).grown hg2 (by have := hbe.size; simp; omega) (fun k hk => (hown.lt k hk).1)⟩
          rw [wordsOf_snoc, List.map_append]
          exact hown2
        case measure => simp [intOf]; omega
      · have HM8 : Hid (8 * k = xs.length) := by have := HM.out; exact hide (by omega)
        go_wp2_with fail
        go_ret2
        obtain ⟨A', c', hv, hle, hA'⟩ := ownsRow_slice hown
        have h8 := HM8.out
        have hke : xs.length / 8 = k := by omega
        refine ⟨hbe, .inr ⟨HM.out, A', _, c', by rw [← hv]; rfl, hke.symm, ?_⟩⟩
        rw [hke]
        exact Reads.of_own hown hv
  · have hm' : decide ((xs.length : Int) % 8 > 0) = true := by simp; omega
    have HM := hide hm
    clear hm
    go_enter Try.func32, Try.ntmps32
    go_wp2_with fail
    go_ret2
    exact ⟨Below.refl _ _, .inl ⟨HM.out, rfl⟩⟩

theorem wordsRun (b o c : Nat) (n : Nat) (w : World) (hn : 8 ≤ n) : (Instr.arrayAt 28 (.slice (some ⟨b, o, none⟩) n c)).run Try.prog w = .ok (.pointer (some ⟨b, o, none⟩)) w :=
  run_arrayAt (P := Try.prog) w _ _ 8 _ _ _ Try.underlying28 hn
set_option maxHeartbeats 2000000 in
theorem words_any (A : Option Addr) (n c b0 : Nat) (xs : List Int) (w : World) (hn : n = xs.length) (hr : Reads w b0 A (xs.map (Value.int .u8))) (hb0 : b0 ≤ w.heap.size) (hw : ∀ x ∈ xs, 0 ≤ x ∧ x ≤ 255) (hnc : n ≤ c) (hc : c ≤ maxLen) (hs : n ≤ 140737488351232) :
    Calls Try.prog 29 #[.slice A n c] w (WordsPost xs w) := by
  subst hn
  unfold maxLen at hc
  obtain ⟨i0, hi, hz0, hz1, hz2⟩ := info_parts infoWord
  have HB : Hid (∀ i, 0 ≤ xs.getD i 0 ∧ xs.getD i 0 ≤ 255) := fun i => by
    by_cases h : i < xs.length
    · rw [List.getD_eq_getElem?_getD, List.getElem?_eq_getElem h]; exact hw _ (List.getElem_mem h)
    · rw [List.getD_eq_getElem?_getD, List.getElem?_eq_none (by omega)]; exact ⟨by decide, by decide⟩
  have HR := hide hr
  clear hw hr
  by_cases hm : xs.length % 8 = 0
  · have hm' : ((xs.length : Int) % 8 != 0) = false := by simp; omega
    have HM := hide hm
    go_enter Try.func29, Try.ntmps29
    go_wp2_with fail
    go_loopw [0, 4] (fun s v wr => ∃ (k n' c' : Nat) (A' : Option Addr), 8 * k + n' = xs.length ∧ 8 * k + c' = c ∧ s = .slice A' n' c' ∧ Hid (Reads w b0 A' ((xs.drop (8 * k)).map (Value.int .u8))) ∧ wr.ownsRow w.heap.size 22 1 v k ((wordsOf xs k).map (Value.int .u64)) ∧ Below w.heap.size w wr) (fun s _ _ => lenV s)
    case atStart => exact ⟨0, xs.length, c, A, by omega, by omega, rfl, by simpa using HR, World.ownsRow_nil _ _ _ _, Below.refl _ _⟩
    case round =>
      obtain ⟨k, n', c', A', hkn, hkc, rfl, hrk, hown, hbe⟩ := hrel
      by_cases hlt : 0 < n'
      · have h8 : 8 ≤ n' := by have := HM.out; omega
        obtain ⟨bx, ox, rfl, hbx, cx⟩ := (hrk.out.below hbe hb0).all (by simp; omega)
        have CX := hide cx
        clear cx
        have CC : ∀ j, j < 8 → wr.cell? ⟨bx, ox + j, none⟩ = some (.int .u8 (xs.getD (8 * k + j) 0)) := fun j hj => by
          apply CX.out j
          have : 8 * k + j < xs.length := by omega
          simp [this]
        have c0 : wr.cell? ⟨bx, ox, none⟩ = _ := CC 0 (by omega)
        have c1 := CC 1 (by omega)
        have c2 := CC 2 (by omega)
        have c3 := CC 3 (by omega)
        have c4 := CC 4 (by omega)
        have c5 := CC 5 (by omega)
        have c6 := CC 6 (by omega)
        have c7 := CC 7 (by omega)
        clear CC
        have har := fun w => wordsRun bx ox c' 8 w (by omega)
        have HO := of_any _ _ _ _ _ _ _ _ (HB.out (8 * k + 0)) (HB.out (8 * k + 1)) (HB.out (8 * k + 2)) (HB.out (8 * k + 3)) (HB.out (8 * k + 4)) (HB.out (8 * k + 5)) (HB.out (8 * k + 6)) (HB.out (8 * k + 7)) wr
        have hwa : (xs.getD (8 * k + 0) 0 + 256 * xs.getD (8 * k + 1) 0 + 65536 * xs.getD (8 * k + 2) 0 + 16777216 * xs.getD (8 * k + 3) 0 + 4294967296 * xs.getD (8 * k + 4) 0 + 1099511627776 * xs.getD (8 * k + 5) 0 + 281474976710656 * xs.getD (8 * k + 6) 0 + 72057594037927936 * xs.getD (8 * k + 7) 0) = wordAt xs k := rfl
        rw [hwa] at HO
        have HO := hide HO
        clear hwa
        generalize xs.getD (8 * k + 0) 0 = y0, xs.getD (8 * k + 1) 0 = y1, xs.getD (8 * k + 2) 0 = y2, xs.getD (8 * k + 3) 0 = y3, xs.getD (8 * k + 4) 0 = y4, xs.getD (8 * k + 5) 0 = y5, xs.getD (8 * k + 6) 0 = y6, xs.getD (8 * k + 7) 0 = y7 at *
        go_wp2_with fail
        refine HO.out.mono ?_
        rintro e w1 ⟨rfl, hb1⟩
        have hown1 := ownsRow_below hown hb1
        have hbe1 := hbe.trans (hb1.mono hbe.size)
        have hnew : ∀ j u, ([wordAt xs k].map (Value.int .u64))[j]? = some u → ∃ ad, some (⟨w1.heap.size, 0, none⟩ : Addr) = some ad ∧ (w1.alloc (.cells #[.int .u64 (wordAt xs k)] 22)).cell? (ad.add j) = some u := fun j u hu => by
          refine ⟨_, rfl, ?_⟩
          rw [add_lit, Nat.zero_add, (Blk.new w1 _ _).cell]
          simpa using hu
        have HNEW := hide hnew
        clear hnew
        go_wp2_with (at_builtin; refine wpList_append_any _ rfl (.tmp 14) (.tmp 20) _ rfl w.heap.size 22 i0 _ 1 8 Try.underlying32 hi hz0 hz1 hz2 rfl (by decide) _ _ _ rfl (hown1.alloc _) (some ⟨w1.heap.size, 0, none⟩) 1 1 ([wordAt xs k].map (Value.int .u64)) rfl rfl HNEW.out (oneCells _ _) (by unfold maxLen; omega) (by omega) (by have := hbe1.size; simp; omega) ?_; intro v1 w2 hown2 hg2 hat2)
        go_roundw
        case rel =>
          refine ⟨k + 1, n' - 8, c' - 8, _, by omega, by omega, rfl, ?_, ?_, (hbe1.alloc hbe1.size _).grown hg2 (by have := hbe1.size; simp; omega) (fun k hk => (hown1.lt k hk).1)⟩
          · have h := hrk.out.cut (k := 8) (cap := c') (by simp; omega)
            rw [← List.map_drop, List.drop_drop] at h
            rw [show 8 * (k + 1) = 8 * k + 8 from by omega]
            have e : (if c' = 8 then some (⟨bx, ox, none⟩ : Addr) else some ⟨bx, ox + 8, none⟩) = (if c' = 8 then some (⟨bx, ox, none⟩ : Addr) else (some (⟨bx, ox, none⟩ : Addr)).map (·.add 8)) := by
              rw [Option.map_some, add_lit]
            rw [e]
            exact h
          · rw [wordsOf_snoc, List.map_append]
            exact hown2
        case measure => simp [lenV]; omega
      · have HM8 : Hid (8 * k = xs.length) := by have := HM.out; exact hide (by omega)
        go_wp2_with fail
        go_ret2
        obtain ⟨A', c', hv, hle, hA'⟩ := ownsRow_slice hown
        have h8 := HM8.out
        have hke : xs.length / 8 = k := by omega
        refine ⟨hbe, .inr ⟨HM.out, A', _, c', by rw [← hv]; rfl, hke.symm, ?_⟩⟩
        rw [hke]
        exact Reads.of_own hown hv
  · have hm' : ((xs.length : Int) % 8 != 0) = true := by simp; omega
    have HM := hide hm
    clear hm
    go_enter Try.func29, Try.ntmps29
    go_wp2_with fail
    go_ret2
    exact ⟨Below.refl _ _, .inl ⟨HM.out, rfl⟩⟩

/-- flat words are told again -/
theorem wordAt_flat (xs : List Int) (hx : ∀ x ∈ xs, 0 ≤ x ∧ x ≤ 18446744073709551615) : wordsOf (flatOf xs) xs.length = xs := by
  have key : ∀ (ys : List Int) (k : Nat), (∀ x ∈ ys, 0 ≤ x ∧ x ≤ 18446744073709551615) → k < ys.length → wordAt (flatOf ys) k = ys.getD k 0 := by
    intro ys
    induction ys with
    | nil => intro k _ h; simp at h
    | cons y r ih =>
      intro k hb hk
      have hy := hb y (List.mem_cons_self ..)
      have e : flatOf (y :: r) = bytesOf y ++ flatOf r := by simp [flatOf]
      cases k with
      | zero =>
        unfold wordAt
        rw [e, join8_congr _ (bt y), join8_bt y hy.1 hy.2]
        · rfl
        intro i hi
        rw [List.getD_eq_getElem?_getD, List.getElem?_append_left (by rw [bytesOf_len]; omega), ← List.getD_eq_getElem?_getD]
        have : i = 0 ∨ i = 1 ∨ i = 2 ∨ i = 3 ∨ i = 4 ∨ i = 5 ∨ i = 6 ∨ i = 7 := by omega
        rcases this with h | h | h | h | h | h | h | h <;> subst h <;> rfl
      | succ k =>
        have h2 := ih k (fun x hx => hb x (List.mem_cons_of_mem _ hx)) (by simpa using hk)
        rw [List.getD_cons_succ, ← h2]
        unfold wordAt
        refine join8_congr _ _ fun i hi => ?_
        rw [e, List.getD_eq_getElem?_getD, List.getElem?_append_right (by rw [bytesOf_len]; omega), ← List.getD_eq_getElem?_getD, bytesOf_len]
        congr 1
        omega
  apply List.ext_getElem
  · rw [wordsOf_len]
  intro i h1 h2
  have h := key xs i hx h2
  rw [List.getD_eq_getElem?_getD, List.getElem?_eq_getElem h2] at h
  simpa [wordsOf] using h
end Go.Proofs.Ytnipbkplobpnhaa
