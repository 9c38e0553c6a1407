/-
  A tree as an argument.
-/
import Derived.Test.YtmlmmajdeclpoaaPthO
import Derived.Test.YtmlmmajdeclpoaaPthT
namespace Go.Proofs.Ytmlmmajdeclpoaa
open Go.ChangeShapes Go.WideShapes Go.ChangeAt Go.RowKit Go.Deep

section
variable {H : Type} {enc : TypeId × Value → H} {P : Program} {W : World}
/-- as Opens.elems; each element's data is less -/
theorem Opens.elemsZ {t e : TypeId} {C : Nat} {cs : List Value} {y : DataW H × List MemPlace} (ht : P.underlying t = some (.slice e)) (hC : P.cellsOf e = C) (hC0 : 0 < C) (h : Opens enc P W t cs y) :
    ∃ (A : Option Addr) (n c : Nat), cs = [.slice A n c] ∧ n ≤ c ∧ c ≤ maxLen ∧ (A = none → n = 0 ∧ c = 0) ∧ n * P.bytesOf e ≤ reachBytes ∧
      ∀ i, i < n → ∃ (b o : Nat) (cs' : List Value) (y' : DataW H × List MemPlace), A = some ⟨b, o, none⟩ ∧ b < W.heap.size ∧ cs'.length = C ∧ (∀ j u, cs'[j]? = some u → W.cell? ⟨b, o + i * C + j, none⟩ = some u) ∧ Opens enc P W e cs' y' ∧ SizeOf.sizeOf y'.1 < SizeOf.sizeOf y.1 := by
  obtain ⟨⟨fuel, hf⟩, hw⟩ := h
  have hlt := DataW.trod_lt fuel _ _ _ hf
  subst hC
  rcases open_slice ht hf with ⟨rfl, rfl⟩ | ⟨a, len, cap, m, n, D, Pl, rfl, _, hl, hm, hmm, hx, hi⟩
  · exact ⟨none, 0, 0, rfl, Nat.le_refl _, Nat.zero_le _, fun _ => ⟨rfl, rfl⟩, by simp, fun i hi => by omega⟩
  · simp only [if_true] at hmm
    subst hmm
    have hy1 : y.1 = .slice ((List.range len).map D) ((List.range (m - len)).map fun j => D (len + j)) := by rw [hx]
    rw [hy1] at hw
    simp only [DataW.weights, ht] at hw
    have hsz := hw _ (List.mem_cons_self ..)
    simp only [List.length_map, List.length_range] at hsz
    refine ⟨some a, len, m, rfl, hl, hm, (fun h => by cases h), ?_, fun i hil => ?_⟩
    · exact Nat.le_trans (Nat.mul_le_mul_right _ (by omega)) hsz
    · obtain ⟨cs0, hc0, _⟩ := hi 0 (by omega)
      obtain ⟨_, hl0, hat0⟩ := World.cells?_some hc0
      have h00 := hat0 0 hC0
      rw [List.getElem?_eq_getElem (by omega)] at h00
      have hs : a.spot = none := by simpa [Addr.add] using spot_none h00
      obtain ⟨cs', hc', ht'⟩ := hi i (by omega)
      obtain ⟨_, hl', hat'⟩ := World.cells?_some hc'
      refine ⟨a.block, a.off, cs', (D i, Pl i), ?_, ?_, hl', fun j u hu => ?_, ⟨⟨n, ht'⟩, fun k hk => ?_⟩, ?_⟩
      · cases a
        simp only at hs
        subst hs
        rfl
      · have hb := World.block_lt_of_cell? W _ h00
        simpa [Addr.add] using hb
      · have hj : j < P.cellsOf e := by
          have := (List.getElem?_eq_some_iff.1 hu).1
          omega
        have h1 := hat' j hj
        rw [hu, add_of_add, add_of_spot hs, ← Nat.add_assoc] at h1
        exact h1
      · exact hw k (List.mem_cons_of_mem _ (List.mem_append.2 (.inl (weights_all (List.mem_map.2 ⟨i, List.mem_range.2 hil, rfl⟩) k hk))))
      · rw [hy1, DataW.slice.sizeOf_spec]
        have := List.sizeOf_lt_of_mem (List.mem_map.2 ⟨i, List.mem_range.2 hil, rfl⟩ : D i ∈ (List.range len).map D)
        show SizeOf.sizeOf (D i) < _
        omega
/-- as Opens.fields; each field's data is less -/
theorem Opens.fieldsZ {t : TypeId} {fs : Array Field} {cs : List Value} {y : DataW H × List MemPlace} (ht : P.underlying t = some (.struct fs)) (h : Opens enc P W t cs y) :
    cs.length = P.cellsOf t ∧ ∀ (i : Nat) (f : Field), fs[i]? = some f → ∃ y', Opens enc P W f.type ((cs.drop f.offset).take (P.cellsOf f.type)) y' ∧ SizeOf.sizeOf y'.1 < SizeOf.sizeOf y.1 := by
  obtain ⟨⟨fuel, hf⟩, hw⟩ := h
  obtain ⟨xs, n, _, hx, hlen, hsz, hg⟩ := DataW.trod_struct ht hf
  refine ⟨hlen, fun i f hi => ?_⟩
  have hlt : i < fs.size := (Array.getElem?_eq_some_iff.1 hi).1
  have h1 := hg i f hi
  have hxi : xs[i]? = some (xs[i]'(by omega)) := List.getElem?_eq_getElem (by omega)
  rw [hxi] at h1
  refine ⟨_, ⟨⟨n, h1⟩, fun k hk => hw k ?_⟩, ?_⟩
  · rw [hx]
    simp only [DataW.weights, ht]
    refine DataW.weights_mem_each (j := i) (t := f.type) (d := (xs[i]'(by omega)).1) ?_ ?_ k hk
    · rw [List.getElem?_map, Array.getElem?_toList, hi]; rfl
    · rw [List.getElem?_map, hxi]; rfl
  · rw [hx]
    have := List.sizeOf_lt_of_mem (List.mem_map.2 ⟨xs[i]'(by omega), List.getElem_mem _, rfl⟩ : (xs[i]'(by omega)).1 ∈ xs.map (·.1))
    simp only [DataW.agg.sizeOf_spec]
    omega
theorem Opens.cellZ {t : TypeId} {fs : Array Field} {cs : List Value} {y : DataW H × List MemPlace} (ht : P.underlying t = some (.struct fs)) (hone : oneCellFields P fs = true) (h : Opens enc P W t cs y) {i : Nat} {ti : TypeId} {c : Value}
    (hi : (fs[i]?).map (·.type) = some ti) (hc : cs[i]? = some c) : ∃ y', Opens enc P W ti [c] y' ∧ SizeOf.sizeOf y'.1 < SizeOf.sizeOf y.1 := by
  obtain ⟨f, hf, rfl⟩ := Option.map_eq_some_iff.1 hi
  obtain ⟨ho, hk⟩ := hone_of hone i f hf
  obtain ⟨y', h', hz⟩ := (h.fieldsZ ht).2 i f hf
  rw [ho, hk] at h'
  have hlt : i < cs.length := (List.getElem?_eq_some_iff.1 hc).1
  have e : (cs.drop i).take 1 = [c] := by
    rw [List.drop_eq_getElem_cons hlt]
    rw [List.getElem?_eq_getElem hlt] at hc
    injection hc with hc
    rw [hc]
    rfl
  rw [e] at h'
  exact ⟨y', h', hz⟩
end

section
variable {H : Type} {enc : TypeId × Value → H} {W : World}
theorem kidCells_get (l : List Tv) (j : Nat) (h : j < l.length * 3) : ∃ (hq : j / 3 < l.length), (kidCells l)[j]? = (l[j / 3]).cells[j % 3]? := by
  have hq : j / 3 < l.length := by omega
  refine ⟨hq, ?_⟩
  have hr : j % 3 < 3 := by omega
  have hj : j = j / 3 * 3 + j % 3 := by omega
  generalize j / 3 = q at *
  generalize j % 3 = r at *
  subst hj
  obtain ⟨e0, e1, e2⟩ := kidCells_at l q hq
  rcases (show r = 0 ∨ r = 1 ∨ r = 2 by omega) with h0 | h0 | h0
  · subst h0; exact e0
  · subst h0; exact e1
  · subst h0; exact e2
theorem open_tree (N : Nat) : ∀ (cs : List Value) (y : DataW H × List MemPlace), SizeOf.sizeOf y.1 ≤ N → Opens enc Try.prog W 25 cs y → ∃ (t : T) (v : Tv), cs = v.cells ∧ TreeAt W (fun b => b < W.heap.size) t v := by
  induction N with
  | zero => 
    intro cs y hN h
    have := (h.fieldsZ Try.underlying25).2 0 _ rfl
    obtain ⟨y', _, hz⟩ := this
    omega
  | succ N ih =>
    intro cs y hN h
    obtain ⟨hlen, _⟩ := h.fieldsZ Try.underlying25
    rw [show Try.prog.cellsOf 25 = 3 from by kernel_rfl] at hlen
    match cs, hlen with
    | [c0, c1, c2], _ =>
      have hone : oneCellFields Try.prog (match Try.prog.underlying 25 with | some (.struct fs) => fs | _ => #[]) = true := by kernel_rfl
      rw [Try.underlying25] at hone
      obtain ⟨y0, h0, _⟩ := h.cellZ (i := 0) Try.underlying25 hone rfl rfl
      obtain ⟨y1, h1, _⟩ := h.cellZ (i := 1) Try.underlying25 hone rfl rfl
      obtain ⟨y2, h2, hz2⟩ := h.cellZ (i := 2) Try.underlying25 hone rfl rfl
      obtain ⟨k, e0, _⟩ := h0.int Try.underlying3
      obtain ⟨A, n, c, ws, e1, hn, hnc, hcm, hA, hr, hu, hb⟩ := h1.ints Try.underlying22 Try.underlying38 (by kernel_rfl)
      obtain ⟨K, m, d, e2, hmd, hdm, hKn, hbk, hel⟩ := h2.elemsZ (C := 3) Try.underlying23 (by kernel_rfl) (by decide)
      rw [show Try.prog.bytesOf 38 = 8 from by kernel_rfl] at hb
      rw [show Try.prog.bytesOf 25 = 56 from by kernel_rfl] at hbk
      unfold reachBytes at hb hbk
      have hall : ∀ i, i < m → ∃ p : T × Tv, ∃ b o, K = some ⟨b, o, none⟩ ∧ b < W.heap.size ∧ (∀ j u, p.2.cells[j]? = some u → W.cell? ⟨b, o + i * 3 + j, none⟩ = some u) ∧ TreeAt W (fun b => b < W.heap.size) p.1 p.2 := fun i hi => by
        obtain ⟨b, o, cs', y', hA', hb', _, hat, ho, hz⟩ := hel i hi
        obtain ⟨t, v, rfl, ht⟩ := ih cs' y' (by omega) ho
        exact ⟨(t, v), b, o, hA', hb', hat, ht⟩
      obtain ⟨l, hl, hx⟩ := list_of _ hall
      simp only [List.cons.injEq, and_true] at e0 e1 e2
      refine ⟨.node k ws (l.map (·.1)), ⟨k, A, n, c, K, m, d⟩, by rw [e0, e1, e2]; rfl, TreeAt.of (kv := l.map (·.2)) ⟨hn, hnc, hcm, by omega, fun h => (hA h).2, fun j u hj => hr j u hj, fun x hx => wf_u64 (hu x hx)⟩ ⟨by rw [List.length_map, hl], hmd, hdm, by rw [List.length_map]; omega, by rw [List.length_map, List.length_map], fun j u hu => ?_, fun i hi hi' => ?_⟩⟩
      · have hj := (List.getElem?_eq_some_iff.1 hu).1
        rw [kidCells_len] at hj
        obtain ⟨hq, hg⟩ := kidCells_get (l.map (·.2)) j hj
        rw [hg, List.getElem_map] at hu
        rw [List.length_map] at hq
        obtain ⟨b, o, hA', hb', hc, _⟩ := hx (j / 3) _ (List.getElem?_eq_getElem hq)
        refine ⟨b, o, hA', hb', ?_⟩
        have h3 := hc (j % 3) u hu
        rwa [show o + j / 3 * 3 + j % 3 = o + j from by omega] at h3
      · rw [List.getElem_map, List.getElem_map]
        rw [List.length_map] at hi
        obtain ⟨_, _, _, _, _, ht⟩ := hx i _ (List.getElem?_eq_getElem hi)
        exact ht
theorem open_tree1 {cs : List Value} {y : DataW H × List MemPlace} (h : Opens enc Try.prog W 25 cs y) : ∃ (t : T) (v : Tv), cs = v.cells ∧ TreeAt W (fun b => b < W.heap.size) t v := open_tree _ cs y (Nat.le_refl _) h
end
end Go.Proofs.Ytmlmmajdeclpoaa
