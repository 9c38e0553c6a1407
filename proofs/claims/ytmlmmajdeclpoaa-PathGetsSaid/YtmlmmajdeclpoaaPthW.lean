/-
  awake of chapter 31.
-/
import Derived.Test.YtmlmmajdeclpoaaPthG
import Derived.Test.YtmlmmajdeclpoaaPthS
namespace Go.Proofs.Ytmlmmajdeclpoaa
open Go.RowKit

theorem kids_lit {w : World} {S : Nat → Prop} {g n : Nat} {t : TypeId} {ks : List T} {kv : List Tv} (hB : Blk w g t (kidCells kv).toArray) (hn : n = ks.length) (hl : kv.length = ks.length) (hf : ks.length ≤ 2513169434843) (hS : S g) (hk : ∀ i (h : i < ks.length) (h' : i < kv.length), TreeAt w S ks[i] kv[i]) :
    KidsAt w S (some ⟨g, 0, none⟩) n n ks kv :=
  ⟨hn, Nat.le_refl _, by unfold maxLen; omega, hf, hl, fun j u hu => ⟨g, 0, rfl, hS, by rw [Nat.zero_add, hB.cell]; simpa using hu⟩, hk⟩
def atomT (n : Int) : T := .node 10 [n] []
def exT : T := .node 1 [1] [.node 4 [] [atomT 5, atomT 6]]
theorem ex1 : getP exT [(0, 0), (0, 1)] = (atomT 6, true) := by simp [getP, exT, atomT, kidT, T.kind, T.ks, norm, normL, isList]
theorem ex2 : getP exT [(1, 0)] = (.node 1 [1] [], true) := by simp [getP, exT, atomT, wordT, T.kind, T.ks, T.ws, norm, normL, isList, trimW, trimK]
theorem ex3 : getP exT [(0, 0), (2, 2)] = (.node 4 [] [], true) := by simp [getP, exT, atomT, kidT, T.kind, T.ks, isList]

set_option maxRecDepth 100000 in
set_option maxHeartbeats 8000000 in
theorem awake_any (w : World) : Calls Try.prog 7 #[] w fun e w' => e = .returned (.bool true) ∧ Below w.heap.size w w' := by
  have HAT : Hid (∀ (n : Int) (W : World), 0 ≤ n → n ≤ 1000 → Calls Try.prog 16 #[.int .u64 n] W fun e w' => ∃ k A n1 c K m d, e = .returned (.agg #[.int .i64 k, .slice A n1 c, .slice K m d]) ∧ TreeAt w' (fun b => W.heap.size ≤ b ∧ b < w'.heap.size) (atomT n) ⟨k, A, n1, c, K, m, d⟩ ∧ Below W.heap.size W w') := fun n W h0 h1 => by
    refine (atom_any n ⟨h0, by omega⟩ W).mono ?_
    rintro e w' ⟨⟨k, A, n1, c, K, m, d⟩, rfl, h2, h3⟩
    exact ⟨k, A, n1, c, K, m, d, rfl, h2, h3⟩
  go_enter Try.func7, Try.ntmps7
  go_wp2_with fail
  refine (HAT.out 5 _ (by decide) (by decide)).mono ?_
  rintro e w2 ⟨k5, A5, n5, c5, K5, m5, d5, rfl, hT5, hb2⟩
  go_wp2_with fail
  refine (HAT.out 6 _ (by decide) (by decide)).mono ?_
  rintro e w3 ⟨k6, A6, n6, c6, K6, m6, d6, rfl, hT6, hb3⟩
  have hb01 : Below w.heap.size w (w.alloc (.cells #[.int .u64 1] 38)) := (Below.refl _ _).alloc (Nat.le_refl _) _
  have hB0 := Blk.new w 38 #[.int .u64 1]
  have hs1 : (w.alloc (.cells #[.int .u64 1] 38)).heap.size = w.heap.size + 1 := by simp
  generalize w.alloc (.cells #[.int .u64 1] 38) = w1 at *
  have hs2 := hb2.size
  have hs3 := hb3.size
  have hB03 := (hB0.below hb2 (by omega)).below hb3 (by omega)
  have hT53 : TreeAt w3 (fun b => b < w3.heap.size) (atomT 5) ⟨k5, A5, n5, c5, K5, m5, d5⟩ := (hT5.bel hb3 (fun b hb => hb.2)).mono (fun b hb => by have := hb.2; omega)
  have hT63 : TreeAt w3 (fun b => b < w3.heap.size) (atomT 6) ⟨k6, A6, n6, c6, K6, m6, d6⟩ := hT6.mono (fun b hb => hb.2)
  have hb3' : Below w.heap.size w w3 := hb01.trans ((hb2.mono (by omega)).trans (hb3.mono (by omega)))
  have hEX : ∃ wx, wx = (((w3.alloc (.cells #[.int .i64 k5, .slice A5 n5 c5, .slice K5 m5 d5, .int .i64 k6, .slice A6 n6 c6, .slice K6 m6 d6] 25)).alloc (.cells #[.int .i64 4, .slice none 0 0, .slice (some ⟨w3.heap.size, 0, none⟩) 2 2] 25)).alloc (.cells #[.int .i64 1, .slice (some ⟨w.heap.size, 0, none⟩) 1 1, .slice (some ⟨w3.heap.size + 1, 0, none⟩) 1 1] 25)) := ⟨_, rfl⟩
  obtain ⟨wx, hwx⟩ := hEX
  have hTX : TreeAt wx (fun b => b < wx.heap.size) exT ⟨1, some ⟨w.heap.size, 0, none⟩, 1, 1, some ⟨w3.heap.size + 1, 0, none⟩, 1, 1⟩ := by
    have hsx : wx.heap.size = w3.heap.size + 3 := by rw [hwx]; simp
    have hbx : Below w3.heap.size w3 wx := by rw [hwx]; exact (((Below.refl _ _).alloc (Nat.le_refl _) _).alloc (by simp) _).alloc (by simp; omega) _
    have hBa : Blk wx w3.heap.size 25 (kidCells [⟨k5, A5, n5, c5, K5, m5, d5⟩, ⟨k6, A6, n6, c6, K6, m6, d6⟩]).toArray := by
      rw [hwx]; exact ((Blk.new w3 _ _).alloc _).alloc _
    have hBb : Blk wx (w3.heap.size + 1) 25 (kidCells [⟨4, none, 0, 0, some ⟨w3.heap.size, 0, none⟩, 2, 2⟩]).toArray := by
      have h := (Blk.new (w3.alloc (.cells #[.int .i64 k5, .slice A5 n5 c5, .slice K5 m5 d5, .int .i64 k6, .slice A6 n6 c6, .slice K6 m6 d6] 25)) 25 #[.int .i64 4, .slice none 0 0, .slice (some ⟨w3.heap.size, 0, none⟩) 2 2]).alloc (.cells #[.int .i64 1, .slice (some ⟨w.heap.size, 0, none⟩) 1 1, .slice (some ⟨w3.heap.size + 1, 0, none⟩) 1 1] 25)
      rw [← hwx, World.size_alloc] at h
      exact h
    refine TreeAt.of ⟨rfl, Nat.le_refl _, by decide, by decide, fun h => (by cases h), fun j u hu => ⟨w.heap.size, 0, rfl, by show w.heap.size < wx.heap.size; omega, ?_⟩, fun x hx => by rw [List.mem_singleton.1 hx]; decide⟩ (kids_lit (kv := [⟨4, none, 0, 0, some ⟨w3.heap.size, 0, none⟩, 2, 2⟩]) hBb rfl rfl (by decide) (by show w3.heap.size + 1 < wx.heap.size; omega) ?_)
    · rw [Nat.zero_add, (hB03.below hbx (by omega)).cell]
      simpa using hu
    · intro i h h'
      have hi : i = 0 := by simp at h; omega
      subst hi
      refine TreeAt.of WordsAt.none_ (kids_lit (kv := [⟨k5, A5, n5, c5, K5, m5, d5⟩, ⟨k6, A6, n6, c6, K6, m6, d6⟩]) hBa rfl rfl (by decide) (by show w3.heap.size < wx.heap.size; omega) ?_)
      intro i h h'
      have hi : i = 0 ∨ i = 1 := by simp at h; omega
      rcases hi with rfl | rfl
      · exact (hT53.bel hbx (fun b hb => hb)).mono (fun b hb => by have hb' : b < w3.heap.size := hb; omega)
      · exact (hT63.bel hbx (fun b hb => hb)).mono (fun b hb => by have hb' : b < w3.heap.size := hb; omega)
  have hbx : Below w.heap.size w wx := by rw [hwx]; exact ((hb3'.alloc hb3'.size _).alloc (by simp; omega) _).alloc (by simp; omega) _
  have HTX := hide hTX
  have HWX := hide hwx
  clear hT5 hT6 hT53 hT63 hTX hwx
  go_upto_region 3 with fail
  rw [← HWX.out]
  have hBX : Blk wx (w3.heap.size + 1 + 1) 25 #[.int .i64 1, .slice (some ⟨w.heap.size, 0, none⟩) 1 1, .slice (some ⟨w3.heap.size + 1, 0, none⟩) 1 1] := by
    have h := Blk.new (((w3.alloc (.cells #[.int .i64 k5, .slice A5 n5 c5, .slice K5 m5 d5, .int .i64 k6, .slice A6 n6 c6, .slice K6 m6 d6] 25)).alloc (.cells #[.int .i64 4, .slice none 0 0, .slice (some ⟨w3.heap.size, 0, none⟩) 2 2] 25))) 25 #[.int .i64 1, .slice (some ⟨w.heap.size, 0, none⟩) 1 1, .slice (some ⟨w3.heap.size + 1, 0, none⟩) 1 1]
    rw [← HWX.out, World.size_alloc, World.size_alloc] at h
    exact h
  have HGET : Hid (∀ (W : World) (st : List Step) (n : Nat), Below wx.heap.size wx W → n = st.length → n ≤ 100 → Calls Try.prog 8 #[.agg #[.int .i64 1, .slice (some ⟨w.heap.size, 0, none⟩) 1 1, .slice (some ⟨w3.heap.size + 1, 0, none⟩) 1 1], .slice (some ⟨W.heap.size, 0, none⟩) n n] (W.alloc (.cells (stepCells st).toArray 41)) fun e w' => ∃ k A n1 c K m d, e = .returned (.tuple #[.agg #[.int .i64 k, .slice A n1 c, .slice K m d], .bool (getP exT st).2]) ∧ TreeAt w' (fun b => W.heap.size < b ∧ b < w'.heap.size) (getP exT st).1 ⟨k, A, n1, c, K, m, d⟩ ∧ Below W.heap.size W w') := by
    intro W st n hW hn hl
    have hx : Reads (W.alloc (.cells (stepCells st).toArray 41)) (W.alloc (.cells (stepCells st).toArray 41)).heap.size (some ⟨W.heap.size, 0, none⟩) (stepCells st) := Reads.of_lit (by simp) fun j u hu => by
      rw [Nat.zero_add, (Blk.new W _ _).cell]
      simpa using hu
    have hWA : Below wx.heap.size wx (W.alloc (.cells (stepCells st).toArray 41)) := hW.alloc hW.size _
    refine (get_any exT ⟨1, some ⟨w.heap.size, 0, none⟩, 1, 1, some ⟨w3.heap.size + 1, 0, none⟩, 1, 1⟩ (fun b => b < wx.heap.size) (some ⟨W.heap.size, 0, none⟩) n n _ st _ (HTX.out.bel hWA (fun b hb => hb)) (fun b hb => Nat.lt_of_lt_of_le hb hWA.size) hn hx (Nat.le_refl _) (by unfold maxLen; omega)).mono ?_
    rintro e w' ⟨⟨k, A, n1, c, K, m, d⟩, rfl, h1, h2⟩
    exact ⟨k, A, n1, c, K, m, d, rfl, h1.mono (fun b hb => by rw [World.size_alloc] at hb; omega), ((Below.refl _ _).alloc (Nat.le_refl _) _).trans (h2.mono (by simp))⟩
  have H1 := HGET.out wx [(0, 0), (0, 1)] 2 (Below.refl _ _) rfl (by decide)
  rw [ex1] at H1
  have x0 := hBX.cell 0
  have x1 := hBX.cell 1
  have x2 := hBX.cell 2
  simp at x0 x1 x2
  have HH1 : Hid (Calls Try.prog 8 #[.agg #[.int .i64 1, .slice (some ⟨w.heap.size, 0, none⟩) 1 1, .slice (some ⟨w3.heap.size + 1, 0, none⟩) 1 1], .slice (some ⟨wx.heap.size, 0, none⟩) 2 2] (wx.alloc (.cells #[.int .i64 0, .int .i64 0, .int .i64 0, .int .i64 1] 41)) fun e w' => ∃ k A n1 c K m d, e = .returned (.tuple #[.agg #[.int .i64 k, .slice A n1 c, .slice K m d], .bool true]) ∧ TreeAt w' (fun b => wx.heap.size < b ∧ b < w'.heap.size) (atomT 6) ⟨k, A, n1, c, K, m, d⟩ ∧ Below wx.heap.size wx w') := H1
  clear H1
  go_wp2_with fail
  refine HH1.out.mono ?_
  rintro e w4 ⟨ka, Aa, na, ca, Ka, ma, da, rfl, hTa, hb4⟩
  go_upto_region 4 with fail
  have hs4 := hb4.size
  have hBa := Blk.new w4 25 #[.int .i64 ka, .slice Aa na ca, .slice Ka ma da]
  have hba : Below wx.heap.size wx (w4.alloc (.cells #[.int .i64 ka, .slice Aa na ca, .slice Ka ma da] 25)) := (hb4.alloc hb4.size _)
  have hTa' : TreeAt (w4.alloc (.cells #[.int .i64 ka, .slice Aa na ca, .slice Ka ma da] 25)) (fun b => b < w4.heap.size) (atomT 6) ⟨ka, Aa, na, ca, Ka, ma, da⟩ := (hTa.bel ((Below.refl w4.heap.size w4).alloc (Nat.le_refl _) _) (fun b hb => hb.2)).mono (fun b hb => hb.2)
  have hsa : (w4.alloc (.cells #[.int .i64 ka, .slice Aa na ca, .slice Ka ma da] 25)).heap.size = w4.heap.size + 1 := by simp
  generalize w4.alloc (.cells #[.int .i64 ka, .slice Aa na ca, .slice Ka ma da] 25) = wa at *
  have HSA := hide hsa
  clear hsa
  have HTa := hide hTa'
  clear hTa hTa' hb4 HH1
  have hBXa := hBX.below hba hBX.lt
  have x0 := hBXa.cell 0
  have x1 := hBXa.cell 1
  have x2 := hBXa.cell 2
  simp at x0 x1 x2
  have H1 := HGET.out wa [(1, 0)] 1 hba rfl (by decide)
  rw [ex2] at H1
  have HH1 : Hid (Calls Try.prog 8 #[.agg #[.int .i64 1, .slice (some ⟨w.heap.size, 0, none⟩) 1 1, .slice (some ⟨w3.heap.size + 1, 0, none⟩) 1 1], .slice (some ⟨wa.heap.size, 0, none⟩) 1 1] (wa.alloc (.cells #[.int .i64 1, .int .i64 0] 41)) fun e w' => ∃ k A n1 c K m d, e = .returned (.tuple #[.agg #[.int .i64 k, .slice A n1 c, .slice K m d], .bool true]) ∧ TreeAt w' (fun b => wa.heap.size < b ∧ b < w'.heap.size) (.node 1 [1] []) ⟨k, A, n1, c, K, m, d⟩ ∧ Below wa.heap.size wa w') := H1
  clear H1
  go_wp2_with fail
  refine HH1.out.mono ?_
  rintro e w5 ⟨kb, Ab, nb, cb, Kb, mb, db, rfl, hTb, hb5⟩
  go_upto_region 5 with fail
  have hs5 := hb5.size
  have hBb := Blk.new w5 25 #[.int .i64 kb, .slice Ab nb cb, .slice Kb mb db]
  have hbb : Below wa.heap.size wa (w5.alloc (.cells #[.int .i64 kb, .slice Ab nb cb, .slice Kb mb db] 25)) := (hb5.alloc hb5.size _)
  have hTb' : TreeAt (w5.alloc (.cells #[.int .i64 kb, .slice Ab nb cb, .slice Kb mb db] 25)) (fun b => b < w5.heap.size) (.node 1 [1] []) ⟨kb, Ab, nb, cb, Kb, mb, db⟩ := (hTb.bel ((Below.refl w5.heap.size w5).alloc (Nat.le_refl _) _) (fun b hb => hb.2)).mono (fun b hb => hb.2)
  have hsb : (w5.alloc (.cells #[.int .i64 kb, .slice Ab nb cb, .slice Kb mb db] 25)).heap.size = w5.heap.size + 1 := by simp
  generalize w5.alloc (.cells #[.int .i64 kb, .slice Ab nb cb, .slice Kb mb db] 25) = wb at *
  have HSB := hide hsb
  clear hsb
  have HTb := hide hTb'
  clear hTb hTb' hb5 HH1 x0 x1 x2
  have hba2 : Below wx.heap.size wx wb := hba.trans (hbb.mono hba.size)
  have hBXb := hBX.below hba2 hBX.lt
  have x0 := hBXb.cell 0
  have x1 := hBXb.cell 1
  have x2 := hBXb.cell 2
  simp at x0 x1 x2
  have H1 := HGET.out wb [(0, 0), (2, 2)] 2 hba2 rfl (by decide)
  rw [ex3] at H1
  have HH1 : Hid (Calls Try.prog 8 #[.agg #[.int .i64 1, .slice (some ⟨w.heap.size, 0, none⟩) 1 1, .slice (some ⟨w3.heap.size + 1, 0, none⟩) 1 1], .slice (some ⟨wb.heap.size, 0, none⟩) 2 2] (wb.alloc (.cells #[.int .i64 0, .int .i64 0, .int .i64 2, .int .i64 2] 41)) fun e w' => ∃ k A n1 c K m d, e = .returned (.tuple #[.agg #[.int .i64 k, .slice A n1 c, .slice K m d], .bool true]) ∧ TreeAt w' (fun b => wb.heap.size < b ∧ b < w'.heap.size) (.node 4 [] []) ⟨k, A, n1, c, K, m, d⟩ ∧ Below wb.heap.size wb w') := H1
  clear H1
  go_wp2_with fail
  refine HH1.out.mono ?_
  rintro e w6 ⟨kc, Ac, nc, cc, Kc, mc, dc, rfl, hTc, hb6⟩
  go_upto_region 6 with fail
  have hs6 := hb6.size
  have hBc := Blk.new w6 25 #[.int .i64 kc, .slice Ac nc cc, .slice Kc mc dc]
  have hbc : Below wb.heap.size wb (w6.alloc (.cells #[.int .i64 kc, .slice Ac nc cc, .slice Kc mc dc] 25)) := (hb6.alloc hb6.size _)
  have hsc : (w6.alloc (.cells #[.int .i64 kc, .slice Ac nc cc, .slice Kc mc dc] 25)).heap.size = w6.heap.size + 1 := by simp
  obtain ⟨_, hkc⟩ := hTc.kids
  have hmc : mc = 0 := hkc.len
  have hkc2 : 4 = kc := hTc.kind
  have hkb2 : 1 = kb := HTb.out.kind
  have hnb : nb = 1 := HTb.out.words.len
  subst hmc hkc2 hkb2 hnb
  obtain ⟨bw, ow, hAb, hbw, hcw⟩ := HTb.out.words.at (i := 0) (by decide)
  subst hAb
  generalize w6.alloc (.cells #[.int .i64 4, .slice Ac nc cc, .slice Kc 0 dc] 25) = wc at *
  have hs5' := HSB.out
  have hs4' := HSA.out
  have hbwl : bw < w5.heap.size := hbw
  have hbbc := hbb.size
  have hBac := (hBa.below hbb (by omega)).below hbc (by omega)
  have hBbc := hBb.below hbc (by omega)
  have hbac : Below wa.heap.size wa wc := hbb.trans (hbc.mono (by omega))
  have hcw' : wc.cell? ⟨bw, ow, none⟩ = some (.int .u64 1) := (hbc.cell (p := ⟨bw, ow, none⟩) (by show bw < _; omega)).trans hcw
  have HTac : Hid (TreeAt wc (fun b => b < w4.heap.size) (atomT 6) ⟨ka, Aa, na, ca, Ka, ma, da⟩) := HTa.out.bel hbac (fun b hb => by have hb' : b < w4.heap.size := hb; omega)
  have hF : ∀ W, Below wc.heap.size wc W → W.cell? ⟨w4.heap.size, 0, none⟩ = some (.int .i64 ka) ∧ W.cell? ⟨w4.heap.size, 1, none⟩ = some (.slice Aa na ca) ∧ W.cell? ⟨w4.heap.size, 2, none⟩ = some (.slice Ka ma da) ∧ W.cell? ⟨w5.heap.size, 0, none⟩ = some (.int .i64 1) ∧ W.cell? ⟨w5.heap.size, 1, none⟩ = some (.slice (some ⟨bw, ow, none⟩) 1 cb) ∧ W.cell? ⟨bw, ow, none⟩ = some (.int .u64 1) ∧ W.cell? ⟨w6.heap.size, 0, none⟩ = some (.int .i64 4) ∧ W.cell? ⟨w6.heap.size, 2, none⟩ = some (.slice Kc 0 dc) := by
    intro W hW
    refine ⟨?_, ?_, ?_, ?_, ?_, ?_, ?_, ?_⟩
    · rw [hW.cell (by show w4.heap.size < _; omega), hBac.cell]; rfl
    · rw [hW.cell (by show w4.heap.size < _; omega), hBac.cell]; rfl
    · rw [hW.cell (by show w4.heap.size < _; omega), hBac.cell]; rfl
    · rw [hW.cell (by show w5.heap.size < _; omega), hBbc.cell]; rfl
    · rw [hW.cell (by show w5.heap.size < _; omega), hBbc.cell]; rfl
    · rw [hW.cell (by show bw < _; omega)]; exact hcw'
    · rw [hW.cell (by show w6.heap.size < _; omega), hBc.cell]; rfl
    · rw [hW.cell (by show w6.heap.size < _; omega), hBc.cell]; rfl
  have HF := hide hF
  have HSAME : Hid (∀ (W : World) (k : Int) (A : Option Addr) (n c : Nat) (K : Option Addr) (m d : Nat), Below wc.heap.size wc W → TreeAt W (fun b => b < W.heap.size) (atomT 6) ⟨k, A, n, c, K, m, d⟩ → Calls Try.prog 10 #[.agg #[.int .i64 ka, .slice Aa na ca, .slice Ka ma da], .agg #[.int .i64 k, .slice A n c, .slice K m d]] W fun e w' => e = .returned (.bool true) ∧ Below W.heap.size W w') := fun W k A n c K m d hW hT =>
    sameT_any _ (atomT 6) ⟨ka, Aa, na, ca, Ka, ma, da⟩ ⟨k, A, n, c, K, m, d⟩ (fun b => b < W.heap.size) W (Nat.le_refl _) ((HTac.out.bel hW (fun b hb => by have hb' : b < w4.heap.size := hb; omega)).mono (fun b hb => by have hb' : b < w4.heap.size := hb; have := hW.size; omega)) hT (fun b hb => hb)
  have hall : Below w.heap.size w wc := hbx.trans (hba2.mono hbx.size |>.trans (hbc.mono (by have := hba2.size; have := hbx.size; omega)))
  have HALL := hide hall
  have hcur : Below wc.heap.size wc wc.drew := (Below.refl _ _).drew
  clear hF hsc hs6 hs5' hs4' hbbc hBac hBbc hBa hBb hBc hcw hcw' hall hba hbb hbc hbac x0 x1 x2 hTc hkc
  go_region_held3 (fun w' => w'.cell? ⟨w4.heap.size, 0, none⟩ = some (.int .i64 ka) ∧ w'.cell? ⟨w4.heap.size, 1, none⟩ = some (.slice Aa na ca) ∧ w'.cell? ⟨w4.heap.size, 2, none⟩ = some (.slice Ka ma da) ∧ w'.cell? ⟨w5.heap.size, 0, none⟩ = some (.int .i64 1) ∧ w'.cell? ⟨w5.heap.size, 1, none⟩ = some (.slice (some ⟨bw, ow, none⟩) 1 cb) ∧ w'.cell? ⟨bw, ow, none⟩ = some (.int .u64 1) ∧ w'.cell? ⟨w6.heap.size, 0, none⟩ = some (.int .i64 4) ∧ w'.cell? ⟨w6.heap.size, 2, none⟩ = some (.slice Kc 0 dc))
    (exact HF.out _ hcur)
    ((first
      | (go_at_call 16; (refine (HAT.out 6 _ (by decide) (by decide)).mono ?_; rintro e w8 ⟨k8, A8, n8, c8, K8, m8, d8, rfl, hT8, hb8⟩; have HT8 := hide hT8; clear hT8; have hcur := hcur.trans (hb8.mono hcur.size)))
      | (go_at_call 10; (refine (HSAME.out w8 k8 A8 n8 c8 K8 m8 d8 hcur (HT8.out.mono (fun b hb => hb.2))).mono ?_; rintro e w9 ⟨rfl, hb9⟩; have hcur := hcur.trans (hb9.mono hcur.size)))))
  go_wp2_with fail
  go_ret
  exact ⟨rfl, HALL.out.trans (hcur.mono (HALL.out.size))⟩
end Go.Proofs.Ytmlmmajdeclpoaa
