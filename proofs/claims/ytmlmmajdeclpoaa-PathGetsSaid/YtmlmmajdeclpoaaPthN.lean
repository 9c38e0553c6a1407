/-
  Norm of package tree.
-/
import Derived.Test.YtmlmmajdeclpoaaPthK
import Derived.Test.YtmlmmajdeclpoaaOnly
import Derived.Deep.RegionHeldLaw
import Derived.Deep.RegionLaw
import Derived.Deep.CutBlock
import Derived.Deep.DeepCutAuto
import Derived.Laws.OwnMore
namespace Go.Proofs.Ytmlmmajdeclpoaa
open Go.RowKit

theorem infoWord : (Try.prog.info? 38).map (fun i => (i.zero, i.size, i.bytes)) = some (some (.int .u64 0), 1, 8) := by kernel_rfl
theorem infoTree : (Try.prog.info? 25).map (fun i => (i.zero, i.size, i.bytes)) = some (some (.agg #[.int .i64 0, .slice none 0 0, .slice none 0 0]), 3, 56) := by kernel_rfl
theorem oneCells (K : IntKind) (xs : List Int) : ∀ u ∈ xs.map (Value.int K), u.oneCell' = true := ints_oneCell K xs
theorem ownsRow_cap {w : World} {base : Nat} {e : TypeId} {size n : Nat} {A : Option Addr} {m c : Nat} {xs : List Value} (h : w.ownsRow base e size (.slice A m c) n xs) : c ≤ maxLen := by
  rcases h.2 with ⟨hv, _⟩ | ⟨g, cap, cur, hv, _, _, _, hc, _⟩
  · injection hv with _ _ h3
    omega
  · injection hv with _ _ h3
    omega
theorem RdS.of_own {w : World} {base : Nat} {e : TypeId} {n c : Nat} {A : Option Addr} {xs : List Value} (h : w.ownsRow base e 1 (.slice A n c) n xs) : RdS w (fun b => base ≤ b ∧ b < w.heap.size) A xs := fun j u hu => by
  obtain ⟨b, o, e, hb, hc⟩ := Reads.of_own h rfl j u hu
  exact ⟨b, o, e, h.lt b (by rw [e]; rfl), hc⟩

def CloneS (ws : List Int) (w : World) (e : Ending) (w' : World) : Prop := Below w.heap.size w w' ∧ ∃ A' n' c', e = .returned (.slice A' n' c') ∧ WordsAt w' (fun b => w.heap.size ≤ b ∧ b < w'.heap.size) A' n' c' ws
set_option maxHeartbeats 1000000 in
theorem clone_any (A : Option Addr) (n c : Nat) (S : Nat → Prop) (ws : List Int) (w : World) (h : WordsAt w S A n c ws) (hS : ∀ b, S b → b < w.heap.size) :
    Calls Try.prog 26 #[.slice A n c] w (CloneS ws w) := by
  have hn := h.len
  have hf := h.few
  have hx := h.read.reads hS
  have hu := h.u64
  rcases A with _ | a
  · have h0 : n = 0 := by have := h.nil rfl; have := h.cap; omega
    subst h0
    have hxs : ws = [] := List.eq_nil_of_length_eq_zero hn.symm
    subst hxs
    have hq : ∀ W, (binOp .eql 22 (.slice none 0 c) (.slice none 0 0)).run Try.prog W = .ok (.bool true) W := fun W => Lib.run_eql_slice_nil W _ _ none 0 c 0 0 Try.underlying22
    clear hx hn h
    go_enter Try.func26, Try.ntmps26
    go_wp2
    go_ret
    exact ⟨Below.refl _ _, none, 0, 0, rfl, WordsAt.none_⟩
  · clear h
    subst hn
    obtain ⟨i0, hi, hz0, hz1, hz2⟩ := info_parts infoWord
    have hq : ∀ W, (binOp .eql 22 (.slice (some a) ws.length c) (.slice none 0 0)).run Try.prog W = .ok (.bool false) W := fun W => Lib.run_eql_slice_nil W _ _ (some a) ws.length c 0 0 Try.underlying22
    have HU := hide hu
    clear hu
    go_enter Try.func26, Try.ntmps26
    have hown : (w.alloc (.cells #[] 38)).ownsRow w.heap.size 38 1 (.slice (some ⟨w.heap.size, 0, none⟩) 0 0) 0 [] := World.ownsRow_made w #[] 0 (Nat.le_refl _) (by decide) rfl
    have hxa := hx.alloc (Nat.le_refl _) (.cells #[] 38)
    go_wp2_with (at_builtin; refine wpList_append_any _ rfl (.tmp 5) (.tmp 6) _ rfl w.heap.size 38 i0 _ 1 8 Try.underlying22 hi hz0 hz1 hz2 rfl (by decide) _ 0 [] rfl hown (some a) ws.length c (ws.map (Value.int .u64)) rfl (by simp) (fun j u hu => by obtain ⟨b, o, e, _, hc⟩ := hxa j u hu; exact ⟨⟨b, o, none⟩, e, by rw [add_lit]; exact hc⟩) (oneCells _ _) (by unfold maxLen; omega) (by omega) (by simp) ?_; intro v1 w1 hown1 hg1 hat1)
    go_ret
    obtain ⟨A', c', rfl, hle, hA'⟩ := ownsRow_slice hown1
    rw [Nat.zero_add] at hown1 hle
    refine ⟨((Below.refl _ _).alloc (Nat.le_refl _) _).grown hg1 (by simp) (fun k hk => by
      have hk' : some w.heap.size = some k := hk
      injection hk' with h
      omega), A', _, c', by rw [Nat.zero_add]; rfl, rfl, hle, ownsRow_cap hown1, hf, hA', ?_, HU.out⟩
    have := RdS.of_own hown1
    simpa using this

section
variable {P : Program} {w : World}
/-- an append of any source at a step of a region that draws its order: for go_region_law -/
theorem step_append_any {ops : Array Oper} {o : Oper} {a : Act} {K : Act → World → Prop} {Q : Exit → Act → World → Prop} {E : Prop} (hgd : o.guard = none) (s x : Operand) (t : TypeId)
    (ho : o.op = .call { callee := .builtin .append, args := #[s, x], argTypes := #[t, t] })
    (base : Nat) (e : TypeId) (i : TypeInfo) (z : Value) (size bytes : Nat) (ht : P.underlying t = some (.slice e)) (hi : P.info? e = some i) (hz : i.zero = some z)
    (hsize : i.size = size) (hby : i.bytes = bytes) (hzs : z.cells.size = size) (hsz : 0 < size)
    (v : Value) (n : Nat) (xs : List Value) (hs : a.eval s = v) (hown : w.ownsRow base e size v n xs)
    (A : Option Addr) (m c : Nat) (news : List Value) (hx : a.eval x = .slice A m c) (hl : news.length = m * size) (hr : ∀ j u, news[j]? = some u → ∃ ad, A = some ad ∧ w.cell? (ad.add j) = some u) (h1 : ∀ u ∈ news, u.oneCell' = true)
    (h63 : n + m ≤ maxLen) (hbytes : (n + m) * bytes ≤ 140737488355328) (hbase : base ≤ w.heap.size)
    (h : ∀ v' w', w'.ownsRow base e size v' (n + m) (xs ++ news) → w.grownBy w' v.ownBlock → (v'.ownBlock = v.ownBlock ∨ v'.ownBlock = some w.heap.size) → K (a.put o.dst v') w') :
    if Region.wanted o (yielded ops a.tmps) = true then Oper.wp P o a w K Q else E := by
  have hw : Region.wanted o (yielded ops a.tmps) = true := by simp [Region.wanted, hgd]
  rw [if_pos hw]
  exact wp_append_any w s x t ho base e i z size bytes ht hi hz hsize hby hzs hsz v n xs hs hown A m c news hx hl hr h1 h63 hbytes hbase fun v' w' h2 h3 h4 => h v' w' h2 h3 h4
end

theorem step_chk {P : Program} {w : World} {ops : Array Oper} {o : Oper} {a : Act} {K : Act → World → Prop} {Q : Exit → Act → World → Prop} {E : Prop} (s x : Operand) (t : TypeId)
    (_ : o.op = .call { callee := .builtin .append, args := #[s, x], argTypes := #[t, t] }) (h : if Region.wanted o (yielded ops a.tmps) = true then Oper.wp P o a w K Q else E) : if Region.wanted o (yielded ops a.tmps) = true then Oper.wp P o a w K Q else E := h

theorem src_lit {w : World} {g : Nat} {t : TypeId} {cs : List Value} (h : Blk w g t cs.toArray) : ∀ j u, cs[j]? = some u → ∃ ad, some (⟨g, 0, none⟩ : Addr) = some ad ∧ w.cell? (ad.add j) = some u := fun j u hu => by
  refine ⟨_, rfl, ?_⟩
  rw [add_lit, Nat.zero_add, h.cell]
  simpa using hu

theorem normL_get (l : List T) (j : Nat) (h : j < l.length) (h' : j < (normL l).length) : (normL l)[j] = norm l[j] := by
  induction l generalizing j with
  | nil => simp at h
  | cons t r ih =>
    cases j with
    | zero => simp [normL]
    | succ j => simp only [normL, List.getElem_cons_succ]; exact ih j (by simpa using h) _
theorem RdS.of_own3 {w : World} {base size : Nat} {e : TypeId} {n c : Nat} {A : Option Addr} {xs : List Value} (h : w.ownsRow base e size (.slice A n c) n xs) : RdS w (fun b => base ≤ b ∧ b < w.heap.size) A xs := fun j u hu => by
  have hl : j < xs.length := (List.getElem?_eq_some_iff.1 hu).1
  have h1 := h.1
  rcases h.2 with ⟨hv', hn⟩ | ⟨g, cap, cur, hv', hb, hg, _⟩
  · subst hn
    omega
  · injection hv' with hA
    subst hA
    have := h.cells (g := g) rfl j u hu
    rw [add_lit] at this
    exact ⟨g, 0, rfl, ⟨hb, (Array.getElem?_eq_some_iff.1 hg).1⟩, this⟩
theorem kidCells_take (l : List Tv) (q : Nat) : kidCells (l.take q) = (kidCells l).take (q * 3) := by
  induction l generalizing q with
  | nil => simp [kidCells]
  | cons v r ih =>
    cases q with
    | zero => simp [kidCells]
    | succ q =>
      have e : kidCells (v :: r) = v.cells ++ kidCells r := rfl
      have e' : kidCells ((v :: r).take (q + 1)) = v.cells ++ kidCells (r.take q) := rfl
      have hl : v.cells.length = 3 := rfl
      rw [e, e', ih, List.take_append, hl, List.take_of_length_le (l := v.cells) (by rw [hl]; omega), show (q + 1) * 3 - 3 = q * 3 from by omega]
theorem KidsAt.take {w : World} {S : Nat → Prop} {K : Option Addr} {m d : Nat} {ks : List T} {kv : List Tv} (h : KidsAt w S K m d ks kv) (q : Nat) (hq : q ≤ m) : KidsAt w S K q d (ks.take q) (kv.take q) :=
  ⟨by rw [List.length_take, ← h.len]; omega, Nat.le_trans hq h.cap, h.capM, by have := h.few; rw [List.length_take]; omega, by rw [List.length_take, List.length_take, h.kvl], by rw [kidCells_take]; exact h.read.take _, fun i h1 h2 => by
    rw [List.length_take] at h1 h2
    rw [List.getElem_take, List.getElem_take]
    exact h.kid i (by omega) (by omega)⟩
theorem WordsAt.take {w : World} {S : Nat → Prop} {A : Option Addr} {n c : Nat} {ws : List Int} (h : WordsAt w S A n c ws) (q : Nat) (hq : q ≤ n) : WordsAt w S A q c (ws.take q) :=
  ⟨by rw [List.length_take, ← h.len]; omega, Nat.le_trans hq h.cap, h.capM, by have := h.few; rw [List.length_take]; omega, h.nil, by rw [List.map_take]; exact h.read.take _, fun x hx => h.u64 x (List.mem_of_mem_take hx)⟩
theorem norm_fin {w wz : World} {S : Nat → Prop} {k : Int} {A K : Option Addr} {n c m d : Nat} {ws : List Int} {ks : List T} {kv : List Tv} (a b cc : Value) (hS : ∀ b, S b → w.heap.size + 1 < b ∧ b < wz.heap.size) (hW : WordsAt wz S A n c ws) (hK : KidsAt wz S K m d ks kv) (hb : Below w.heap.size w wz) :
    TreeAt (((wz.setCell ⟨w.heap.size + 1, 0, none⟩ a).setCell ⟨w.heap.size + 1, 1, none⟩ b).setCell ⟨w.heap.size + 1, 2, none⟩ cc) (fun b => w.heap.size ≤ b ∧ b < wz.heap.size) (.node k ws ks) ⟨k, A, n, c, K, m, d⟩ ∧ Below w.heap.size w (((wz.setCell ⟨w.heap.size + 1, 0, none⟩ a).setCell ⟨w.heap.size + 1, 1, none⟩ b).setCell ⟨w.heap.size + 1, 2, none⟩ cc) := by
  refine ⟨?_, ((hb.setCell (by show w.heap.size ≤ w.heap.size + 1; omega) _).setCell (by show w.heap.size ≤ w.heap.size + 1; omega) _).setCell (by show w.heap.size ≤ w.heap.size + 1; omega) _⟩
  have hk : ∀ p : Addr, S p.block → (((wz.setCell ⟨w.heap.size + 1, 0, none⟩ a).setCell ⟨w.heap.size + 1, 1, none⟩ b).setCell ⟨w.heap.size + 1, 2, none⟩ cc).cell? p = wz.cell? p := fun p hp => by
    have h1 : p.block ≠ w.heap.size + 1 := by have := hS _ hp; omega
    rw [World.cell?_of_block (Below.heap_setCell _ _ _ _ h1), World.cell?_of_block (Below.heap_setCell _ _ _ _ h1), World.cell?_of_block (Below.heap_setCell _ _ _ _ h1)]
  exact ((TreeAt.of hW hK).keep hk).mono fun b hb => by have := hS _ hb; omega

set_option maxRecDepth 100000 in
set_option maxHeartbeats 8000000 in
theorem norm_any (N : Nat) : ∀ (t : T) (v : Tv) (S : Nat → Prop) (w : World), SizeOf.sizeOf t ≤ N → TreeAt w S t v → (∀ b, S b → b < w.heap.size) →
    Calls Try.prog 19 #[v.val] w fun e w' => ∃ v', e = .returned v'.val ∧ TreeAt w' (fun b => w.heap.size ≤ b ∧ b < w'.heap.size) (norm t) v' ∧ Below w.heap.size w w' := by
  induction N with
  | zero =>
    intro t v S w hN
    obtain ⟨k, ws, ks⟩ := t
    rw [T.node.sizeOf_spec] at hN
    omega
  | succ N ih =>
    intro t v S w hN h hS
    obtain ⟨k, ws, ks⟩ := t
    have hW := h.words
    obtain ⟨kv, hK⟩ := h.kids
    have hkk : k = v.k := h.kind
    obtain ⟨k', A, n, c, K, m, d⟩ := v
    simp only at hW hK hkk
    subst hkk
    have HIH : Hid (∀ i (hi : i < ks.length), SizeOf.sizeOf ks[i] ≤ N) := fun i hi => by have := T.size_kid (k := k) (ws := ws) hi; omega
    have HM := hide hK.len
    have HW := hide hW
    have HK := hide hK
    have HS := hide hS
    clear h hN hW hK hS
    show Calls _ _ #[.agg #[.int .i64 k, .slice A n c, .slice K m d]] _ _
    by_cases h0 : k = 0
    · have e0 : (k == 0) = true := by simpa using h0
      have HN0 : Hid (norm (.node k ws ks) = nilT) := by show _ = _; unfold norm; rw [if_pos h0]
      clear h0
      go_enter Try.func19, Try.ntmps19
      go_wp2_with fail
      go_returns
      rw [HN0.out]
      exact ⟨⟨0, none, 0, 0, none, 0, 0⟩, rfl, TreeAt.nil, two_below _ _ _⟩
    · have e0 : (k == 0) = false := by simpa using h0
      go_enter Try.func19, Try.ntmps19
      go_upto_region 3 with (fail)
      have hB1 := (Blk.new w 25 #[.int .i64 k, .slice A n c, .slice K m d]).alloc (.cells #[.int .i64 0, .slice none 0 0, .slice none 0 0] 25)
      have hB2 := Blk.new (w.alloc (.cells #[.int .i64 k, .slice A n c, .slice K m d] 25)) 25 #[.int .i64 0, .slice none 0 0, .slice none 0 0]
      have hbe2 := two_below w (.cells #[.int .i64 k, .slice A n c, .slice K m d] 25) (.cells #[.int .i64 0, .slice none 0 0, .slice none 0 0] 25)
      have hsz2 : ((w.alloc (.cells #[.int .i64 k, .slice A n c, .slice K m d] 25)).alloc (.cells #[.int .i64 0, .slice none 0 0, .slice none 0 0] 25)).heap.size = w.heap.size + 2 := by simp
      rw [World.size_alloc] at hB2
      generalize ((w.alloc (.cells #[.int .i64 k, .slice A n c, .slice K m d] 25)).alloc (.cells #[.int .i64 0, .slice none 0 0, .slice none 0 0] 25)) = w2 at *
      have c0 := hB1.cell 0
      have c1 := hB1.cell 1
      have c2 := hB1.cell 2
      simp at c0 c1 c2
      have hwe : Below w.heap.size w w2.drew := hbe2.drew
      have hsz3 : w2.drew.heap.size = w.heap.size + 2 := hsz2
      have hwe4 : Below w.heap.size w (w2.alloc (.cells #[.int .i64 0, .slice none 0 0, .slice none 0 0] 25)).drew := (hbe2.alloc (by omega) _).drew
      have hsz4 : (w2.alloc (.cells #[.int .i64 0, .slice none 0 0, .slice none 0 0] 25)).drew.heap.size = w.heap.size + 3 := by show (w2.alloc _).heap.size = _; simp; omega
      have hB4 : Blk (w2.alloc (.cells #[.int .i64 0, .slice none 0 0, .slice none 0 0] 25)).drew (w.heap.size + 2) 25 #[.int .i64 0, .slice none 0 0, .slice none 0 0] := by
        rw [← hsz2]; exact Blk.new w2 _ _
      have hw24 : Below (w.heap.size + 2) w2 (w2.alloc (.cells #[.int .i64 0, .slice none 0 0, .slice none 0 0] 25)).drew := ((Below.refl _ _).alloc (by omega) _).drew
      go_cut [3] (fun s3 wx => ∃ g3 A3 n3 c3, s3 = .pointer (some ⟨g3, 0, none⟩) ∧ Blk wx g3 25 #[.int .i64 k, .slice A3 n3 c3, .slice none 0 0] ∧ WordsAt wx (fun b => w.heap.size + 1 < b ∧ b < wx.heap.size ∧ b ≠ g3) A3 n3 c3 ws ∧ w.heap.size + 1 < g3 ∧ Below (w.heap.size + 2) w2 wx)
      case first =>
        have d0 := c0
        have d1 := c1
        go_region_held_law (fun w' => w'.cell? ⟨w.heap.size, 0, none⟩ = some (.int .i64 k) ∧ w'.cell? ⟨w.heap.size, 1, none⟩ = some (.slice A n c)) (first | exact ⟨d0, d1⟩ | go_keep)
          (first
            | (go_at_call 26; refine (clone_any A n c S ws w2.drew (HW.out.keep (fun p hp => hwe.cell (HS.out _ hp))) (fun b hb => by have := HS.out b hb; omega)).mono ?_; rintro e w3 ⟨hb3, A3, n3, c3, rfl, hw3⟩; have d0 := (hb3.cell (p := ⟨w.heap.size, 0, none⟩) (by show w.heap.size < _; omega)).trans d0; have d1 := (hb3.cell (p := ⟨w.heap.size, 1, none⟩) (by show w.heap.size < _; omega)).trans d1; have HW3 := hide hw3; clear hw3)
            | (go_at_call 26; refine (clone_any A n c S ws (w2.alloc (.cells #[.int .i64 0, .slice none 0 0, .slice none 0 0] 25)).drew (HW.out.keep (fun p hp => hwe4.cell (HS.out _ hp))) (fun b hb => by have := HS.out b hb; omega)).mono ?_; rintro e w3 ⟨hb3, A3, n3, c3, rfl, hw3⟩; have d0 := (hb3.cell (p := ⟨w.heap.size, 0, none⟩) (by show w.heap.size < _; omega)).trans ((hw24.cell (p := ⟨w.heap.size, 0, none⟩) (by show w.heap.size < _; omega)).trans d0); have d1 := (hb3.cell (p := ⟨w.heap.size, 1, none⟩) (by show w.heap.size < _; omega)).trans ((hw24.cell (p := ⟨w.heap.size, 1, none⟩) (by show w.heap.size < _; omega)).trans d1); have hB5 := hB4.below hb3 (by omega); have HW3 := hide hw3; clear hw3; have f0 := hB5.frozen 0; have f1 := hB5.frozen 1; have f2 := hB5.frozen 2; have b0 := hB5.cell 0; have b1 := hB5.cell 1; have b2 := hB5.cell 2; simp at b0 b1 b2))
        all_goals (go_wp2_with fail)
        all_goals go_meet
        case rel =>
          refine ⟨w3.heap.size, A3, n3, c3, rfl, Blk.new w3 _ _, (HW3.out.keep ?_).mono ?_, ?_, ?_⟩
          · intro p hp
            exact ((Below.refl w3.heap.size w3).alloc (Nat.le_refl _) _).cell hp.2
          · intro b hb
            have : w2.drew.heap.size ≤ b := hb.1
            have : b < w3.heap.size := hb.2
            rw [World.size_alloc]
            omega
          · have := hb3.size
            omega
          · exact ((Below.refl _ _).drew.trans (hb3.mono (by omega))).alloc (by have := hb3.size; omega) _
        case rel =>
          have hB6 := ((hB5.set_ 0 (.int .i64 k)).set_ 1 (.slice A3 n3 c3)).set_ 2 (.slice none 0 0)
          have hsz5 := hb3.size
          refine ⟨w.heap.size + 2, A3, n3, c3, rfl, hB6, (HW3.out.keep ?_).mono ?_, by omega, ?_⟩
          · intro p hp
            have hp1 : w.heap.size + 2 < p.block := by
              have : (w2.alloc (.cells #[.int .i64 0, .slice none 0 0, .slice none 0 0] 25)).drew.heap.size ≤ p.block := hp.1
              omega
            rw [World.cell?_of_block (Below.heap_setCell _ _ _ _ (by show p.block ≠ w.heap.size + 2; omega)), World.cell?_of_block (Below.heap_setCell _ _ _ _ (by show p.block ≠ w.heap.size + 2; omega)), World.cell?_of_block (Below.heap_setCell _ _ _ _ (by show p.block ≠ w.heap.size + 2; omega))]
          · intro b hb
            have : (w2.alloc (.cells #[.int .i64 0, .slice none 0 0, .slice none 0 0] 25)).drew.heap.size ≤ b := hb.1
            have : b < w3.heap.size := hb.2
            simp only [World.size_setCell]
            omega
          · exact (((hw24.trans (hb3.mono (by omega))).setCell (Nat.le_refl _) _).setCell (Nat.le_refl _) _).setCell (Nat.le_refl _) _
      case rest =>
        obtain ⟨g3, A3, n3, c3, rfl, hB3, hw3, hg3, hb3⟩ := hcut
        have hbw : Below w.heap.size w wc := hbe2.trans (hb3.mono (by omega))
        have hszc := hb3.size
        have hB1c := hB1.below hb3 (by omega)
        have hB2c := hB2.below hb3 (by omega)
        have hg3c := hB3.lt
        have HW3 := hide hw3
        clear hw3 hB1 hB2 hwe hwe4 hsz3 hsz4 hB4 hw24 c0 c1 c2
        have c2 := hB1c.cell 2
        simp at c2
        obtain ⟨i0, hi, hz0, hz1, hz2⟩ := info_parts infoTree
        go_wp2_with fail
        go_loopw [19] (fun ix wr => ∃ (i c5 : Nat) (A5 : Option Addr) (kvs : List Tv), i ≤ m ∧ ix = .int .i64 i ∧ Blk wr g3 25 #[.int .i64 k, .slice A3 n3 c3, .slice A5 i c5] ∧ Hid (kvs.length = i) ∧ wr.ownsRow wc.heap.size 25 3 (.slice A5 i c5) i (kidCells kvs) ∧ Only [g3] wc wr ∧ Hid (∀ j (hj : j < ks.length) (hj' : j < kvs.length), TreeAt wr (fun b => wc.heap.size ≤ b ∧ b < wr.heap.size ∧ (Value.slice A5 i c5).ownBlock ≠ some b) (norm ks[j]) kvs[j])) (fun ix _ => m - (intOf ix).toNat)
        case atStart =>
          exact ⟨0, 0, none, [], by omega, rfl, hB3, rfl, World.ownsRow_nil _ _ _ _, Only.refl _ _, fun j hj hj' => by simp at hj'⟩
        case round =>
          obtain ⟨i, c5, A5, kvs, hq, rfl, hB3r, HKL, hown, honly, HT⟩ := hrel
          have hbr : Below w.heap.size w wr := hbw.trans (honly.to_below (by intro x hx; simp at hx; omega) (by omega))
          have hszr := honly.size
          by_cases hlt : i < m
          · obtain ⟨bK, oK, v, eK, hbK, x0, x1, x2, hkt⟩ := HK.out.at (i := i) (by rw [← HM.out]; exact hlt)
            obtain ⟨k1, A1, n1, c1, K1, m1, d1⟩ := v
            subst eK
            have hbK' := HS.out bK hbK
            have y0 := (hbr.cell (p := ⟨bK, oK + i * 3, none⟩) hbK').trans x0
            have y1 := (hbr.cell (p := ⟨bK, oK + i * 3 + 1, none⟩) hbK').trans x1
            have y2 := (hbr.cell (p := ⟨bK, oK + i * 3 + 2, none⟩) hbK').trans x2
            simp only at y0 y1 y2
            clear x0 x1 x2
            have HCALL : Hid (∀ W, Below w.heap.size w W → Calls Try.prog 19 #[.agg #[.int .i64 k1, .slice A1 n1 c1, .slice K1 m1 d1]] W fun e w' => ∃ k2 A2 n2 c2 K2 m2 d2, e = .returned (.agg #[.int .i64 k2, .slice A2 n2 c2, .slice K2 m2 d2]) ∧ TreeAt w' (fun b => W.heap.size ≤ b ∧ b < w'.heap.size) (norm (ks[i]'(by rw [← HM.out]; exact hlt))) ⟨k2, A2, n2, c2, K2, m2, d2⟩ ∧ Below W.heap.size W w') := fun W hW => by
              refine (ih _ ⟨k1, A1, n1, c1, K1, m1, d1⟩ S W (HIH.out i (by rw [← HM.out]; exact hlt)) (hkt.keep (fun p hp => hW.cell (HS.out _ hp))) (fun b hb => Nat.lt_of_lt_of_le (HS.out b hb) hW.size)).mono ?_
              rintro e w' ⟨⟨k2, A2, n2, c2, K2, m2, d2⟩, rfl, h1, h2⟩
              exact ⟨k2, A2, n2, c2, K2, m2, d2, rfl, h1, h2⟩
            have hfew : m ≤ 2513169434843 := by rw [HM.out]; exact HK.out.few
            have hB5 : Blk (wr.alloc (.cells #[.int .i64 k1, .slice A1 n1 c1, .slice K1 m1 d1] 25)).drew wr.heap.size 25 #[.int .i64 k1, .slice A1 n1 c1, .slice K1 m1 d1] := Blk.new _ _ _
            have hBW : Blk (wr.alloc (.cells #[.int .i64 k1, .slice A1 n1 c1, .slice K1 m1 d1] 25)).drew g3 25 #[.int .i64 k, .slice A3 n3 c3, .slice A5 i c5] := (hB3r.alloc _).drew
            have hrW : Below wr.heap.size wr (wr.alloc (.cells #[.int .i64 k1, .slice A1 n1 c1, .slice K1 m1 d1] 25)).drew := ((Below.refl _ _).alloc (Nat.le_refl _) _).drew
            have hbW : Below w.heap.size w (wr.alloc (.cells #[.int .i64 k1, .slice A1 n1 c1, .slice K1 m1 d1] 25)).drew := hbr.trans (hrW.mono (by omega))
            have hsW : (wr.alloc (.cells #[.int .i64 k1, .slice A1 n1 c1, .slice K1 m1 d1] 25)).drew.heap.size = wr.heap.size + 1 := by show (wr.alloc _).heap.size = _; simp
            have e0 := hB5.cell 0
            have e1 := hB5.cell 1
            have e2 := hB5.cell 2
            have e3 := hBW.cell 2
            simp at e0 e1 e2 e3
            go_wp2_with fail
            clear y0 y1 y2
            go_region_law ((first
              | (refine step_chk (.tmp 24) (.tmp 27) _ (by rfl) ?_; refine step_append_any (by rfl) (.tmp 24) (.tmp 27) _ (by rfl) wc.heap.size 25 i0 _ 3 56 Try.underlying23 hi hz0 hz1 hz2 (by rfl) (by decide) _ _ _ (by rfl) (hown8.alloc _) (some ⟨w8.heap.size, 0, none⟩) 1 1 [.int .i64 k2, .slice A2 n2 c2, .slice K2 m2 d2] (by rfl) (by rfl) (src_lit hBL) (by simp [Value.oneCell']) (by unfold maxLen; omega) (by omega) (by rw [World.size_alloc]; omega) ?_; intro v9 w9 hown9 hg9 hat9; obtain ⟨A9, c9, rfl, hle9, hA9⟩ := ownsRow_slice hown9; have hB10 := hB9.grown hg9 (fun e => by have := ((hown8.alloc (.cells #[.int .i64 k2, .slice A2 n2 c2, .slice K2 m2 d2] 25)).lt _ e.symm).1; omega); have f3 := hB10.cell 2; have f4 := hB10.frozen 2; simp at f3)
              | (go_simp; go_at_call 19; (refine (HCALL.out _ hbW).mono ?_; rintro e w8 ⟨k2, A2, n2, c2, K2, m2, d2, rfl, hT8, hb8⟩; have HT8 := hide hT8; clear hT8; have hr8 := below_then hrW hb8 (by omega); have hown8 := ownsRow_below hown hr8; have hB8 := hBW.below hb8 (by have := hB3r.lt; omega); have e3 := hB8.cell 2; simp at e3; have hs8 := hb8.size; have hBL := Blk.new w8 25 #[.int .i64 k2, .slice A2 n2 c2, .slice K2 m2 d2]; have hB9 := hB8.alloc (.cells #[.int .i64 k2, .slice A2 n2 c2, .slice K2 m2 d2] 25); have f3 := hB9.cell 2; simp at f3))))
            all_goals go_wp2_with fail
            all_goals
              go_roundw
              case rel =>
                have hg8 := hB8.lt
                have hw8 : w8.heap.size ≤ w9.heap.size := by have := hg9.size; rw [World.size_alloc] at this; omega
                have hol : ∀ b, (Value.slice A5 i c5).ownBlock = some b → wc.heap.size ≤ b ∧ b < wr.heap.size := fun b hb => ⟨(hown.lt b hb).1, (hown.lt b hb).2⟩
                have hcell : ∀ p : Addr, p.block < w8.heap.size → (Value.slice A5 i c5).ownBlock ≠ some p.block → p.block ≠ g3 → (w9.setCell ⟨g3, 2, none⟩ (.slice A9 (i + 1) c9)).cell? p = w8.cell? p := by
                  intro p h1 h2 h3
                  refine World.cell?_of_block ((Below.heap_setCell _ _ _ _ h3).trans ?_)
                  refine (hg9.block _ (by rw [World.size_alloc]; omega) (fun e => h2 e.symm)).trans ?_
                  exact Below.heap_alloc _ _ _ h1
                have hnew : ∀ b, b < w8.heap.size → (Value.slice A5 i c5).ownBlock ≠ some b → (Value.slice A9 (i + 1) c9).ownBlock ≠ some b := by
                  intro b h1 h2 h3
                  rcases hat9 with h | h
                  · exact h2 (h ▸ h3)
                  · rw [h] at h3
                    injection h3 with h3
                    rw [World.size_alloc] at h3
                    omega
                refine ⟨i + 1, c9, A9, kvs ++ [⟨k2, A2, n2, c2, K2, m2, d2⟩], by omega, by simp, hB10.set_ 2 _, by show _ = _; rw [List.length_append, HKL.out]; rfl, ?_, ?_, ?_⟩
                · rw [kidCells_app, kidCells_one]
                  exact ownsRow_far hown9 (fun e => by have h1 : wc.heap.size ≤ g3 := (hown9.lt _ e).1; omega) _
                · exact (((honly.trans (Only.of_below hr8)).alloc _).grown hg9 (fun b hb => .inr (hol b hb).1)).setCell (by simp) _
                · intro j hj hj'
                  rw [List.length_append, List.length_singleton] at hj'
                  by_cases hjj : j < kvs.length
                  · rw [List.getElem_append_left hjj]
                    refine ((HT.out j hj hjj).keep (fun p hp => ?_)).mono (fun b hb => ?_)
                    · have h1 : wc.heap.size ≤ p.block ∧ p.block < wr.heap.size ∧ (Value.slice A5 i c5).ownBlock ≠ some p.block := hp
                      exact (hcell p (by omega) h1.2.2 (by omega)).trans (hr8.cell h1.2.1)
                    · have h1 : wc.heap.size ≤ b ∧ b < wr.heap.size ∧ (Value.slice A5 i c5).ownBlock ≠ some b := hb
                      exact ⟨h1.1, by rw [World.size_setCell]; omega, hnew b (by omega) h1.2.2⟩
                  · have hje : j = i := by have := HKL.out; omega
                    subst hje
                    rw [List.getElem_append_right (by omega)]
                    have hz : j - kvs.length = 0 := by omega
                    simp only [hz, List.getElem_cons_zero]
                    refine (HT8.out.keep (fun p hp => ?_)).mono (fun b hb => ?_)
                    · have h1 : (wr.alloc (.cells #[.int .i64 k1, .slice A1 n1 c1, .slice K1 m1 d1] 25)).drew.heap.size ≤ p.block ∧ p.block < w8.heap.size := hp
                      exact hcell p h1.2 (fun e => by have := hol _ e; omega) (by omega)
                    · have h1 : (wr.alloc (.cells #[.int .i64 k1, .slice A1 n1 c1, .slice K1 m1 d1] 25)).drew.heap.size ≤ b ∧ b < w8.heap.size := hb
                      exact ⟨by omega, by rw [World.size_setCell]; omega, hnew b h1.2 (fun e => by have := hol _ e; omega)⟩
              case measure => simp [intOf]; omega
          · have hqe : m = i := by omega
            subst hqe
            have hB1r := honly.blk hB1c (by simp; omega)
            have hB2r := honly.blk hB2c (by simp; omega)
            obtain ⟨_, _, e9, hle5, hA5⟩ := ownsRow_slice hown
            injection e9 with e9 _ e10
            subst e9 e10
            have HKD : Hid (KidsAt wr (fun b => w.heap.size + 1 < b ∧ b < wr.heap.size ∧ b ≠ g3) A5 m c5 (normL ks) kvs) := by
              refine ⟨by rw [normL_len]; exact HM.out, hle5, ownsRow_cap hown, by rw [normL_len]; exact HK.out.few, by rw [normL_len, ← HM.out]; exact HKL.out, (RdS.of_own3 hown).mono (fun b hb => ⟨by omega, hb.2, by omega⟩), fun j h1 h2 => ?_⟩
              rw [normL_len] at h1
              rw [normL_get _ _ h1]
              exact (HT.out j h1 h2).mono (fun b hb => ⟨by have := hb.1; omega, hb.2.1, by have := hb.1; omega⟩)
            have HWD : Hid (WordsAt wr (fun b => w.heap.size + 1 < b ∧ b < wr.heap.size ∧ b ≠ g3) A3 n3 c3 ws) := by
              refine (HW3.out.keep (fun p hp => ?_)).mono (fun b hb => ⟨hb.1, by have := hb.2.1; omega, hb.2.2⟩)
              have hp1 : w.heap.size + 1 < p.block ∧ p.block < wc.heap.size ∧ p.block ≠ g3 := hp
              exact World.cell?_of_block (honly.block _ hp1.2.1 (by simp; exact hp1.2.2))
            have HNORM : Hid (norm (.node k ws ks) = .node k (if k = 1 then trimW ws else ws) (if k = 1 then trimK (normL ks) else normL ks)) := by
              show _ = _
              unfold norm
              rw [if_neg h0]
              by_cases h1 : k = 1
              · subst h1; rfl
              · rw [if_neg h1, if_neg h1, if_neg h1]
            have b0 := hB1r.cell 0
            simp at b0
            clear HW3 hown honly HT HKL c2 hB1c hB2c hB3
            rename World => wk
            go_upto_if 33 with (fail)
            go_cut [33] (fun _ wx => ∃ nw mk kv', Blk wx g3 25 #[.int .i64 k, .slice A3 nw c3, .slice A5 mk c5] ∧ WordsAt wx (fun b => w.heap.size + 1 < b ∧ b < wk.heap.size ∧ b ≠ g3) A3 nw c3 (if k = 1 then trimW ws else ws) ∧ KidsAt wx (fun b => w.heap.size + 1 < b ∧ b < wk.heap.size ∧ b ≠ g3) A5 mk c5 (if k = 1 then trimK (normL ks) else normL ks) kv' ∧ Only [g3] wk wx ∧ wx.heap.size = wk.heap.size)
            case first =>
              by_cases h1 : k = 1
              · have e1 : (k == 1) = true := by simpa using h1
                subst h1
                go_upto_block 2 with fail
                have HL := HWD.out.len
                go_cut [] (fun wx => ∃ nw, nw ≤ n3 ∧ Hid (ws.take nw = trimW ws) ∧ Blk wx g3 25 #[.int .i64 1, .slice A3 nw c3, .slice A5 m c5] ∧ Only [g3] wk wx ∧ wx.heap.size = wk.heap.size)
                case first =>
                  go_wp2_with fail
                  go_loopw [] (fun wl => ∃ nw, nw ≤ n3 ∧ Hid (trimW (ws.take nw) = trimW ws) ∧ Blk wl g3 25 #[.int .i64 1, .slice A3 nw c3, .slice A5 m c5] ∧ Only [g3] wk wl ∧ wl.heap.size = wk.heap.size) (fun wl => match wl.cell? ⟨g3, 1, none⟩ with | some (.slice _ nw _) => nw | _ => 0)
                  case atStart =>
                    exact ⟨n3, Nat.le_refl _, by show _ = _; rw [List.take_of_length_le (by omega)], hB3r, Only.refl _ _, rfl⟩
                  case round =>
                    obtain ⟨nw, hnw, HTR, hB3l, honl, hszl⟩ := hrel
                    have HONL := hide honl
                    have HSZL := hide hszl
                    clear honl hszl
                    have d1 := hB3l.cell 1
                    have f1 := hB3l.frozen 1
                    simp at d1
                    rcases nw with _ | q
                    · go_wp2_with fail
                      go_meet
                      case rel => exact ⟨0, by omega, by show _ = _; rw [← HTR.out]; rfl, hB3l, HONL.out, HSZL.out⟩
                    · have hq1 : q < ws.length := by omega
                      obtain ⟨bA, oA, rfl, hbA, x0⟩ := HWD.out.at hq1
                      have hbA' : w.heap.size + 1 < bA ∧ bA < wk.heap.size ∧ bA ≠ g3 := hbA
                      have y0 := (HONL.out.cell (o := oA + q) hbA'.2.1 (by simp; exact hbA'.2.2)).trans x0
                      have HSN : Hid (trimW (ws.take (q + 1)) = if ws[q] = 0 then trimW (ws.take q) else ws.take (q + 1)) := by
                        show _ = _
                        rw [List.take_succ_eq_append_getElem hq1, trimW_snoc]
                      have hqc : (q : Int) + 1 ≤ c3 := by have := HWD.out.cap; omega
                      have hcm : c3 ≤ 9223372036854775807 := by have := HWD.out.capM; unfold maxLen at this; exact this
                      clear x0
                      by_cases hx : ws[q] = 0
                      · rw [if_pos hx] at HSN
                        rw [hx] at y0
                        clear hx
                        go_wp2_with fail
                        refine ⟨⟨q, by omega, by show _ = _; rw [← HSN.out, HTR.out], hB3l.set_ 1 _, HONL.out.setCell (by simp) _, by rw [World.size_setCell]; exact HSZL.out⟩, ?_⟩
                        have h1 := (hB3l.set_ 1 (.slice (some ⟨bA, oA, none⟩) q c3)).cell 1
                        simp at h1
                        simp [h1, d1]
                      · have ex : (ws[q] == 0) = false := by simpa using hx
                        rw [if_neg hx] at HSN
                        generalize ws[q] = x at *
                        go_wp2_with fail
                        go_meet
                        case rel => exact ⟨q + 1, hnw, by show _ = _; rw [← HTR.out, HSN.out], hB3l, HONL.out, HSZL.out⟩
                case rest =>
                  rename World => w5
                  obtain ⟨nw, hnw, HTW, hB5, honl5, hsz5⟩ := hcut
                  have HML : Hid ((normL ks).length = m) := by show _ = _; rw [normL_len]; exact HM.out.symm
                  have e1 : ((1 : Int) == 1) = true := rfl
                  go_wp2_with fail
                  go_loopw [] (fun wl => ∃ mk, mk ≤ m ∧ Hid (trimK ((normL ks).take mk) = trimK (normL ks)) ∧ Blk wl g3 25 #[.int .i64 1, .slice A3 nw c3, .slice A5 mk c5] ∧ Only [g3] wk wl ∧ wl.heap.size = wk.heap.size) (fun wl => match wl.cell? ⟨g3, 2, none⟩ with | some (.slice _ mk _) => mk | _ => 0)
                  case atStart =>
                    exact ⟨m, Nat.le_refl _, by show _ = _; rw [List.take_of_length_le (by rw [HML.out]; omega)], hB5, honl5, hsz5⟩
                  case round =>
                    obtain ⟨mk, hmk, HTR, hB3l, honl, hszl⟩ := hrel
                    have HONL := hide honl
                    have HSZL := hide hszl
                    clear honl hszl honl5 hsz5 hB5
                    have d1 := hB3l.cell 2
                    have f1 := hB3l.frozen 2
                    simp at d1
                    have HKEEP : Hid (∀ p : Addr, w.heap.size + 1 < p.block ∧ p.block < wk.heap.size ∧ p.block ≠ g3 → wr.cell? p = wk.cell? p) := fun p hp => World.cell?_of_block (HONL.out.block _ hp.2.1 (by simp; exact hp.2.2))
                    have HEND : Hid (trimK ((normL ks).take mk) = (normL ks).take mk → ∃ nw mk kv', Blk wr g3 25 #[.int .i64 1, .slice A3 nw c3, .slice A5 mk c5] ∧ WordsAt wr (fun b => w.heap.size + 1 < b ∧ b < wk.heap.size ∧ b ≠ g3) A3 nw c3 (if (1 : Int) = 1 then trimW ws else ws) ∧ KidsAt wr (fun b => w.heap.size + 1 < b ∧ b < wk.heap.size ∧ b ≠ g3) A5 mk c5 (if (1 : Int) = 1 then trimK (normL ks) else normL ks) kv' ∧ Only [g3] wk wr ∧ wr.heap.size = wk.heap.size) := by
                      intro h
                      rw [if_pos rfl, if_pos rfl, ← HTW.out, ← HTR.out, h]
                      exact ⟨nw, mk, kvs.take mk, hB3l, (HWD.out.take nw hnw).keep HKEEP.out, (HKD.out.take mk hmk).keep HKEEP.out, HONL.out, HSZL.out⟩
                    rcases mk with _ | q
                    · go_wp2_with fail
                      go_meet
                      case rel => exact HEND.out rfl
                    · have hq1 : q < (normL ks).length := by rw [HML.out]; omega
                      obtain ⟨bA, oA, v, rfl, hbA, x0, x1, x2, hkt⟩ := HKD.out.at hq1
                      have y0 := (HKEEP.out ⟨bA, oA + q * 3, none⟩ hbA).trans x0
                      have hkind := hkt.kind
                      have HSN : Hid (trimK ((normL ks).take (q + 1)) = if v.k = 0 then trimK ((normL ks).take q) else (normL ks).take (q + 1)) := by
                        show _ = _
                        rw [List.take_succ_eq_append_getElem hq1, trimK_snoc, hkind]
                      have hqc : (q : Int) + 1 ≤ c5 := by have := HKD.out.cap; omega
                      have hcm : c5 ≤ 9223372036854775807 := by have := HKD.out.capM; unfold maxLen at this; exact this
                      clear x0 x1 x2 hkt hkind
                      by_cases hx : v.k = 0
                      · rw [if_pos hx] at HSN
                        rw [hx] at y0
                        clear hx
                        go_wp2_with fail
                        refine ⟨⟨q, by omega, by show _ = _; rw [← HSN.out, HTR.out], hB3l.set_ 2 _, HONL.out.setCell (by simp) _, by rw [World.size_setCell]; exact HSZL.out⟩, ?_⟩
                        have h1 := (hB3l.set_ 2 (.slice (some ⟨bA, oA, none⟩) q c5)).cell 2
                        simp at h1
                        simp [h1, d1]
                      · have ex : (v.k == 0) = false := by simpa using hx
                        rw [if_neg hx] at HSN
                        generalize v.k = x at *
                        go_wp2_with fail
                        go_meet
                        case rel => exact HEND.out HSN.out
              · have e1 : (k == 1) = false := by simpa using h1
                go_wp2_with fail
                go_meet
                case rel =>
                  rw [if_neg h1, if_neg h1]
                  exact ⟨n3, m, kvs, hB3r, HWD.out, HKD.out, Only.refl _ _, rfl⟩
            case rest =>
              rename World => w5
              obtain ⟨nw, mk, kv', hB5, hw5, hk5, honl5, hsz5⟩ := hcut
              have hbw5 : Below w.heap.size w w5 := hbr.trans (honl5.to_below (by intro x hx; simp at hx; omega) (by omega))
              have hB25 := honl5.blk hB2r (by simp; omega)
              have g0 := hB5.cell 0
              have g1 := hB5.cell 1
              have g2 := hB5.cell 2
              have o0 := hB25.cell 0
              have o1 := hB25.cell 1
              have o2 := hB25.cell 2
              have p0 := hB25.frozen 0
              have p1 := hB25.frozen 1
              have p2 := hB25.frozen 2
              simp at g0 g1 g2 o0 o1 o2
              have HF := fun a b cc => hide (norm_fin (k := k) a b cc (fun b hb => ⟨hb.1, by omega⟩) hw5 hk5 hbw5)
              have q0 : (w5.setCell ⟨w.heap.size + 1, 0, none⟩ (.int .i64 k)).cell? ⟨w.heap.size + 1, 0, none⟩ = some (.int .i64 k) := by rw [(hB25.set_ 0 _).cell]; rfl
              have q1 : ((w5.setCell ⟨w.heap.size + 1, 0, none⟩ (.int .i64 k)).setCell ⟨w.heap.size + 1, 1, none⟩ (.slice A3 nw c3)).cell? ⟨w.heap.size + 1, 1, none⟩ = some (.slice A3 nw c3) := by rw [((hB25.set_ 0 _).set_ 1 _).cell]; rfl
              have q2 : (((w5.setCell ⟨w.heap.size + 1, 0, none⟩ (.int .i64 k)).setCell ⟨w.heap.size + 1, 1, none⟩ (.slice A3 nw c3)).setCell ⟨w.heap.size + 1, 2, none⟩ (.slice A5 mk c5)).cell? ⟨w.heap.size + 1, 2, none⟩ = some (.slice A5 mk c5) := by rw [(((hB25.set_ 0 _).set_ 1 _).set_ 2 _).cell]; rfl
              clear hw5 hk5 honl5 hB1r hB2r hB3r b0 hB25 hB5
              go_wp2_with fail
              (try simp only [Exit.inBlock, Exit.then])
              refine bodyPost_ret (by simp [results, Try.results19, go_sem, q0, q1, q2]; try rfl) rfl ?_
              rw [HNORM.out]
              have h9 := (HF (.int .i64 k) (.slice A3 nw c3) (.slice A5 mk c5)).out
              refine ⟨⟨k, A3, nw, c3, A5, mk, c5⟩, rfl, ?_, h9.2⟩
              simp only [World.size_setCell]
              exact h9.1
end Go.Proofs.Ytmlmmajdeclpoaa
