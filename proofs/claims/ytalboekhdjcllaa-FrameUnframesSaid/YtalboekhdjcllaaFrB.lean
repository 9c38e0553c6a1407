/-
  Frame of package frame and of its reference.
-/
import Derived.Test.YtalboekhdjcllaaFrA
import Derived.Test.YtalboekhdjcllaaAppZ
namespace Go.Proofs.Ytalboekhdjcllaa
open Go.RowKit

/-- a slice of words -/
def SegOk (w : World) (B : Nat) (v : Value) (xs : List Int) : Prop := ∃ A n c, v = .slice A n c ∧ n = xs.length ∧ Reads w B A (xs.map (Value.int .u64)) ∧ (∀ x ∈ xs, 0 ≤ x ∧ x ≤ 18446744073709551615) ∧ n * 8 ≤ 140737488351232
def SegsAt (w : World) (B : Nat) (A : Option Addr) (vs : List Value) (ls : List (List Int)) : Prop :=
  Reads w B A vs ∧ vs.length = ls.length ∧ ∀ i (h1 : i < vs.length) (h2 : i < ls.length), SegOk w B vs[i] ls[i]
section
variable {w w' : World} {B : Nat} {A : Option Addr} {v : Value} {xs : List Int} {vs : List Value} {ls : List (List Int)}
theorem SegOk.keep (h : SegOk w B v xs) (hk : ∀ p : Addr, p.block < B → w'.cell? p = w.cell? p) : SegOk w' B v xs := by
  obtain ⟨A, n, c, h1, h2, h5, h6⟩ := h
  exact ⟨A, n, c, h1, h2, h5.keep hk, h6⟩
theorem SegOk.more {B' : Nat} (h : SegOk w B v xs) (hB : B ≤ B') : SegOk w B' v xs := by
  obtain ⟨A, n, c, h1, h2, h5, h6⟩ := h
  exact ⟨A, n, c, h1, h2, h5.more hB, h6⟩
theorem SegsAt.keep (h : SegsAt w B A vs ls) (hk : ∀ p : Addr, p.block < B → w'.cell? p = w.cell? p) : SegsAt w' B A vs ls :=
  ⟨h.1.keep hk, h.2.1, fun i h1 h2 => (h.2.2 i h1 h2).keep hk⟩
theorem SegsAt.below {C : Nat} (h : SegsAt w B A vs ls) (hb : Below C w w') (hC : B ≤ C) : SegsAt w' B A vs ls := h.keep fun _ hp => hb.cell (by omega)
theorem SegsAt.more {B' : Nat} (h : SegsAt w B A vs ls) (hB : B ≤ B') : SegsAt w B' A vs ls := ⟨h.1.more hB, h.2.1, fun i h1 h2 => (h.2.2 i h1 h2).more hB⟩
theorem SegsAt.at_ (h : SegsAt w B A vs ls) {k : Nat} (hk : k < ls.length) : ∃ b o A1 n1 c1, A = some ⟨b, o, none⟩ ∧ b < B ∧ w.cell? ⟨b, o + k, none⟩ = some (.slice A1 n1 c1) ∧ n1 = ls[k].length ∧ Reads w B A1 (ls[k].map (Value.int .u64)) ∧ (∀ x ∈ ls[k], 0 ≤ x ∧ x ≤ 18446744073709551615) ∧ n1 * 8 ≤ 140737488351232 := by
  have hk' : k < vs.length := by rw [h.2.1]; exact hk
  obtain ⟨b, o, e, hb, hc⟩ := h.1.cellAt hk'
  obtain ⟨A1, n1, c1, hv, h2, h5, h6, h7⟩ := h.2.2 k hk' hk
  rw [hv] at hc
  exact ⟨b, o, A1, n1, c1, e, hb, hc, h2, h5, h6, h7⟩
end

def okSegs (ls : List (List Int)) : Bool := decide (1 ≤ ls.length) && decide (ls.length ≤ 16) && ls.all fun x => decide (x.length ≤ 65536)
def padN (n : Nat) : Nat := if n % 2 = 0 then 4 else 0
def lensB (ls : List (List Int)) : List Int := ls.flatMap fun x => numB x.length
def lenB (ls : List (List Int)) : List Int := numB ((ls.length : Int) - 1) ++ lensB ls
def headB (ls : List (List Int)) : List Int := lenB ls ++ List.replicate (padN ls.length) 0
def frameB (ls : List (List Int)) : List Int := headB ls ++ ls.flatMap flatOf
theorem lensB_len (ls : List (List Int)) : (lensB ls).length = 4 * ls.length := by
  unfold lensB
  induction ls with
  | nil => rfl
  | cons x r ih => rw [List.flatMap_cons, List.length_append, ih, numB_len, List.length_cons]; omega
theorem flats_len (ls : List (List Int)) (h : ∀ x ∈ ls, x.length ≤ 65536) : (ls.flatMap flatOf).length ≤ 524288 * ls.length := by
  induction ls with
  | nil => simp
  | cons x r ih =>
    rw [List.flatMap_cons, List.length_append, flatOf_len, List.length_cons]
    have h1 := h x (List.mem_cons_self ..)
    have h2 := ih fun y hy => h y (List.mem_cons_of_mem _ hy)
    omega
theorem hd_pad (n : Nat) : hd (n : Int) = ((4 + 4 * n + padN n : Nat) : Int) := by
  unfold hd padN
  split <;> omega
theorem lensB_snoc (ls : List (List Int)) (k : Nat) (h : k < ls.length) : lensB (ls.take (k + 1)) = lensB (ls.take k) ++ numB (ls[k].length : Nat) := by
  unfold lensB
  rw [List.take_succ_eq_append_getElem h, List.flatMap_append, List.flatMap_cons, List.flatMap_nil, List.append_nil]
theorem flats_snoc (ls : List (List Int)) (k : Nat) (h : k < ls.length) : (ls.take (k + 1)).flatMap flatOf = (ls.take k).flatMap flatOf ++ flatOf ls[k] := by
  rw [List.take_succ_eq_append_getElem h, List.flatMap_append, List.flatMap_cons, List.flatMap_nil, List.append_nil]

def FramePost (ls : List (List Int)) (w : World) (e : Ending) (w' : World) : Prop :=
  Below w.heap.size w w' ∧ ((okSegs ls = false ∧ e = .returned (.tuple #[.slice none 0 0, .bool false])) ∨
    (okSegs ls = true ∧ ∃ A n c, e = .returned (.tuple #[.slice A n c, .bool true]) ∧ n = (frameB ls).length ∧ n ≤ c ∧ c ≤ maxLen ∧ Reads w' w'.heap.size A ((frameB ls).map (Value.int .u8))))

set_option maxHeartbeats 4000000 in
theorem frame_any (A : Option Addr) (n c b0 : Nat) (vs : List Value) (ls : List (List Int)) (w : World) (hn : n = ls.length) (hs : SegsAt w b0 A vs ls) (hb0 : b0 ≤ w.heap.size) (hm : n ≤ maxLen) :
    Calls Try.prog 6 #[.slice A n c] w (FramePost ls w) := by
  obtain ⟨i0, hi, hz0, hz1, hz2⟩ := info_parts infoByte
  unfold maxLen at hm
  have HS := hide hs
  clear hs
  by_cases h16 : 1 ≤ n ∧ n ≤ 16
  · obtain ⟨h1, h2⟩ := h16
    have HN := hide hn
    have hP : n + 1 ≤ 17 := by omega
    clear hn
    go_enter Try.func6, Try.ntmps6
    go_wp2_with fail
    refine (number_any ((n : Int) - 1) (by omega) (by omega) _).mono ?_
    rintro e w1 ⟨hb1, v1, rfl, hown1⟩
    have hown1' : w1.ownsRow w.heap.size 5 1 v1 4 ((numB ((n : Int) - 1)).map (Value.int .u8)) := hown1
    clear hown1
    go_wp2_with fail
    go_loopw [5, 23] (fun v i wr => ∃ k : Nat, k ≤ n ∧ i = .int .i64 k ∧ Hid (∀ j (h : j < ls.length), j < k → ls[j].length ≤ 65536) ∧ wr.ownsRow w.heap.size 5 1 v (4 + 4 * k) ((numB ((n : Int) - 1) ++ lensB (ls.take k)).map (Value.int .u8)) ∧ Below w.heap.size w wr) (fun _ i _ => n - (intOf i).toNat)
    case atStart => exact ⟨0, by omega, rfl, fun j h h0 => by omega, by simpa [lensB] using hown1', hb1⟩
    case round =>
      obtain ⟨k, hk, rfl, hall, hown, hbe⟩ := hrel
      by_cases hlt : k < n
      · have hlt' : k < ls.length := by rw [← HN.out]; exact hlt
        obtain ⟨b, o, A1, n1, c1, rfl, hbx, cx, hn1, -⟩ := (HS.out.below hbe hb0).at_ hlt'
        have HN1 := hide hn1
        have HLS := hide (lensB_snoc ls k hlt')
        rw [← hn1] at HLS
        clear hn1
        by_cases hbig : n1 ≤ 65536
        · go_wp2_with fail
          refine (number_any (n1 : Int) (by omega) (by omega) _).mono ?_
          rintro e w2 ⟨hb2, v2, rfl, hown2⟩
          obtain ⟨A2, c2, rfl, hle2, hA2⟩ := ownsRow_slice hown2
          have hr2 := hide (Reads.of_own hown2 rfl)
          have hown' := ownsRow_below hown hb2
          have hbe2 := hbe.trans (hb2.mono hbe.size)
          go_wp2_with (at_builtin; refine wpList_append_any _ rfl (.tmp 30) (.tmp 33) _ rfl w.heap.size 5 i0 _ 1 1 Try.underlying23 hi hz0 hz1 hz2 rfl (by decide) _ _ _ rfl hown' A2 4 c2 ((numB n1).map (Value.int .u8)) rfl rfl hr2.out.src (oneCells _ _) (by unfold maxLen; omega) (by omega) hbe2.size ?_; intro v3 w3 hown3 hg3 hat3)
          go_roundw
          case rel =>
            refine ⟨k + 1, by omega, by go_num, fun j h h0 => ?_, ?_, hbe2.grown hg3 hbe2.size (fun k hk => (hown'.lt k hk).1)⟩
            · by_cases hj : j < k
              · exact hall.out j h hj
              · have : j = k := by omega
                subst this
                rw [← HN1.out]; exact hbig
            · rw [HLS.out, ← List.append_assoc, List.map_append, show 4 + 4 * (k + 1) = 4 + 4 * k + 4 from by omega]
              exact hown3
          case measure => simp [intOf]; omega
        · go_wp2_with fail
          go_ret2
          refine ⟨hbe, .inl ⟨?_, rfl⟩⟩
          unfold okSegs
          have : (ls.all fun x => decide (x.length ≤ 65536)) = false := by
            rw [List.all_eq_false]
            exact ⟨ls[k], List.getElem_mem hlt', by simp; rw [← HN1.out]; omega⟩
          rw [this, Bool.and_false]
      · have hke : k = n := by omega
        subst hke
        rw [show ls.take k = ls from List.take_of_length_le (by rw [HN.out]; exact Nat.le_refl _)] at hown
        have HALL : Hid (∀ x ∈ ls, x.length ≤ 65536) := fun x hx => by
          obtain ⟨j, hj, rfl⟩ := List.mem_iff_getElem.1 hx
          exact hall.out j hj (by rw [HN.out]; exact hj)
        clear hall
        have hpd : padN k ≤ 4 := by unfold padN; split <;> omega
        have HPD := hide (hd_pad k)
        go_wp2_with fail
        refine (head_any k (by omega) (by omega) _).mono ?_
        rintro e w2 ⟨rfl, rfl⟩
        rw [HPD.out]
        have HPN : Hid (padN k = padN k) := rfl
        generalize hpe : padN k = pd at *
        have HPE := hide hpe
        clear hpe HPN
        have hlen4 : ∀ v cap, v = Value.slice A (4 + 4 * k) cap → True := fun _ _ _ => trivial
        clear hlen4
        obtain ⟨A5, c5, rfl, hle5, hA5⟩ := ownsRow_slice hown
        go_wp2_with (at_builtin; refine wpList_append_zeros _ rfl (.tmp 36) (.tmp 41) _ 3 rfl w.heap.size 5 i0 (.int .u8 0) 1 Try.underlying23 Try.underlying3 hi hz0 hz1 hz2 rfl rfl _ _ _ rfl hown (by omega) pd (congrArg (Value.int .i64) (by omega)) (by unfold maxLen; omega) (by omega) (by omega) hbe.size ?_; intro v3 w3 hown3 hg3 hat3)
        have hbe3 : Below w.heap.size w w3 := hbe.grown hg3 hbe.size (fun k hk => (hown.lt k hk).1)
        clear hown hg3 hat3
        have HHD : Hid ((numB ((k : Int) - 1) ++ lensB ls).map (Value.int .u8) ++ List.replicate pd (Value.int .u8 0) = (headB ls).map (Value.int .u8)) := by
          show _ = _
          unfold headB lenB
          rw [← HN.out, HPE.out, List.map_append, List.map_append, List.map_replicate, ← List.map_append]
        rw [HHD.out] at hown3
        have HOWN3 := hide hown3
        clear hown3 HHD HPE HPD
        go_loopw [5, 45] (fun v i wr => ∃ j : Nat, j ≤ k ∧ i = .int .i64 j ∧ wr.ownsRow w.heap.size 5 1 v (4 + 4 * k + pd + ((ls.take j).flatMap flatOf).length) ((headB ls ++ (ls.take j).flatMap flatOf).map (Value.int .u8)) ∧ Below w.heap.size w wr) (fun _ i _ => k - (intOf i).toNat)
        case atStart => exact ⟨0, by omega, rfl, by simpa using HOWN3.out, hbe3⟩
        case round =>
          obtain ⟨j, hj, rfl, hown, hbe⟩ := hrel
          by_cases hlt : j < k
          · have hlt' : j < ls.length := by rw [← HN.out]; exact hlt
            obtain ⟨b, o, A1, n1, c1, rfl, hbx, cx, hn1, hr1, hw1, hs1⟩ := (HS.out.below hbe hb0).at_ hlt'
            have HN1 := hide hn1
            have HFS := hide (flats_snoc ls j hlt')
            have hlb : ((ls.take j).flatMap flatOf).length ≤ 524288 * 16 := by
              have h1 := flats_len (ls.take j) (fun x hx => HALL.out x (List.mem_of_mem_take hx))
              have h2 : (ls.take j).length ≤ 16 := by rw [List.length_take]; omega
              omega
            have hlb2 : (flatOf ls[j]).length ≤ 524288 := by
              rw [flatOf_len]
              have := HALL.out _ (List.getElem_mem hlt')
              omega
            have HFL : Hid (((ls.take j).flatMap flatOf ++ flatOf ls[j]).length = ((ls.take j).flatMap flatOf).length + (flatOf ls[j]).length) := List.length_append
            clear hn1
            generalize ls[j] = x at *
            generalize ((ls.take j).flatMap flatOf) = fl at *
            go_wp2_with fail
            refine (flat_any A1 n1 c1 b0 x _ HN1.out hr1 (by have := hbe.size; omega) hw1 hs1).mono ?_
            rintro e w4 ⟨hb4, A4, n4, c4, rfl, hn4, hnc4, hc4, hA4, hr4⟩
            have HN4 := hide hn4
            have HR4 := hide hr4
            have hown' := ownsRow_below hown hb4
            have hbe4 := hbe.trans (hb4.mono hbe.size)
            rw [← hn4] at hlb2
            clear hn4 hr4 hA4
            go_wp2_with (at_builtin; refine wpList_append_any _ rfl (.tmp 49) (.tmp 51) _ rfl w.heap.size 5 i0 _ 1 1 Try.underlying23 hi hz0 hz1 hz2 rfl (by decide) _ _ _ rfl hown' A4 n4 c4 ((flatOf x).map (Value.int .u8)) rfl (by rw [List.length_map, HN4.out]; omega) HR4.out.src (oneCells _ _) (by unfold maxLen; omega) (by omega) hbe4.size ?_; intro v5 w5 hown5 hg5 hat5)
            go_roundw
            case rel =>
              refine ⟨j + 1, by omega, by go_num, ?_, hbe4.grown hg5 hbe4.size (fun k hk => (hown'.lt k hk).1)⟩
              rw [HFS.out, HFL.out, ← HN4.out, ← List.append_assoc, List.map_append, ← Nat.add_assoc]
              exact hown5
            case measure => simp [intOf]; omega
          · have hje : j = k := by omega
            subst hje
            rw [show ls.take j = ls from List.take_of_length_le (by rw [HN.out]; exact Nat.le_refl _)] at hown
            have HFL : Hid (4 + 4 * j + pd + (ls.flatMap flatOf).length = (frameB ls).length) := by
              have := hown.1
              show _ = _
              rw [List.length_map] at this
              unfold frameB
              rw [this, Nat.mul_one]
            go_wp2_with fail
            go_ret2
            obtain ⟨A', c', hv, hle, hA'⟩ := ownsRow_slice hown
            refine ⟨hbe, .inr ⟨?_, A', _, c', by rw [← hv]; rfl, HFL.out, hle, ownsRow_cap (by rw [← hv]; exact hown), Reads.of_own hown hv⟩⟩
            unfold okSegs
            have h3 : (ls.all fun x => decide (x.length ≤ 65536)) = true := List.all_eq_true.2 fun x hx => decide_eq_true (HALL.out x hx)
            rw [h3, ← HN.out]
            simp
            omega
  · have hok : okSegs ls = false := by
      unfold okSegs
      rw [hn] at h16
      by_cases h1 : 1 ≤ ls.length
      · have : ¬ (ls.length ≤ 16) := by omega
        simp [this]
      · simp [h1]
    have HOK := hide hok
    clear hok
    by_cases h0 : n < 1
    · go_enter Try.func6, Try.ntmps6
      go_wp2_with fail
      go_ret2
      exact ⟨Below.refl _ _, .inl ⟨HOK.out, rfl⟩⟩
    · have h17 : 16 < n := by omega
      go_enter Try.func6, Try.ntmps6
      go_wp2_with fail
      go_ret2
      exact ⟨Below.refl _ _, .inl ⟨HOK.out, rfl⟩⟩
end Go.Proofs.Ytalboekhdjcllaa
