/-
  The arguments of a law, opened to any depth: slices of whatever elements, structs, and what the reach says of each.
-/
import Derived.Test.YtmlmmajdeclpoaaOpen
import Derived.Deep.Slices
import Derived.Deep.Fields
namespace Go.Proofs.Ytmlmmajdeclpoaa
open Go.ChangeShapes Go.WideShapes Go.ChangeAt Go.RowKit Go.Deep

theorem list_of {α : Type} {n : Nat} (Q : Nat → α → Prop) (h : ∀ i, i < n → ∃ x, Q i x) : ∃ xs : List α, xs.length = n ∧ ∀ i x, xs[i]? = some x → Q i x := by
  induction n with
  | zero => exact ⟨[], rfl, fun i x hx => by simp at hx⟩
  | succ n ih =>
    obtain ⟨xs, hl, hx⟩ := ih (fun i hi => h i (by omega))
    obtain ⟨z, hz⟩ := h n (by omega)
    refine ⟨xs ++ [z], by simp [hl], fun i x hi => ?_⟩
    by_cases e : i < n
    · rw [List.getElem?_append_left (by omega)] at hi
      exact hx i x hi
    · have : i = n := by
        have := (List.getElem?_eq_some_iff.1 hi).1
        simp [hl] at this
        omega
      subst this
      rw [List.getElem?_append_right (by omega), hl, Nat.sub_self] at hi
      injection hi with hi
      subst hi
      exact hz

section
variable {H : Type} {enc : TypeId × Value → H} {P : Program} {W : World}

theorem weights_all {e : TypeId} {ds : List (DataW H)} {d : DataW H} (h : d ∈ ds) : ∀ n ∈ d.weights P e, n ∈ DataW.weightsAll P e ds := by
  induction ds with
  | nil => cases h
  | cons x r ih =>
    intro n hn
    simp only [DataW.weightsAll, List.mem_append]
    rcases List.mem_cons.1 h with rfl | h
    · exact .inl hn
    · exact .inr (ih h n hn)

/-- what is read, and that each of its slices is within the reach -/
def Opens (enc : TypeId × Value → H) (P : Program) (W : World) (t : TypeId) (cs : List Value) (y : DataW H × List MemPlace) : Prop :=
  (∃ fuel, DataW.trod enc P W 0 (fun _ => true) true fuel t cs = some y) ∧ ∀ n ∈ y.1.weights P t, n ≤ reachBytes

theorem opens_top {ts : List TypeId} {ds : List (DataW H)} {j : Nat} {t : TypeId} {v : Value} {d : DataW H} {p : List MemPlace} (hsz : (DataW.weightsEach P ts ds).all (· ≤ reachBytes) = true) (ht : ts[j]? = some t) (hd : ds[j]? = some d)
    (h : DataW.Trod enc P W 0 (fun _ => true) true t v d p) : Opens enc P W t v.cells.toList (d, p) := by
  refine ⟨h, fun n hn => ?_⟩
  have := List.all_eq_true.1 hsz _ (DataW.weights_mem_each ht hd n hn)
  simpa using this

/-- an integer -/
theorem Opens.int {t : TypeId} {k : IntKind} {cs : List Value} {y : DataW H × List MemPlace} (ht : P.underlying t = some (.int k)) (h : Opens enc P W t cs y) : ∃ n, cs = [.int k n] ∧ (Lit.int k n).wf = true := by
  obtain ⟨⟨fuel, hf⟩, _⟩ := h
  obtain ⟨n, e, _, hw⟩ := DataW.trod_int ht hf
  exact ⟨n, e, hw⟩

/-- a slice: its elements' cells, each with its own reading -/
theorem Opens.elems {t e : TypeId} {C : Nat} {cs : List Value} {y : DataW H × List MemPlace} (ht : P.underlying t = some (.slice e)) (hC : P.cellsOf e = C) (hC0 : 0 < C) (h : Opens enc P W t cs y) :
    ∃ (A : Option Addr) (n c : Nat), cs = [.slice A n c] ∧ n ≤ c ∧ c ≤ maxLen ∧ (A = none → n = 0 ∧ c = 0) ∧ n * P.bytesOf e ≤ reachBytes ∧
      ∀ i, i < n → ∃ (b o : Nat) (cs' : List Value) (y' : DataW H × List MemPlace), A = some ⟨b, o, none⟩ ∧ b < W.heap.size ∧ cs'.length = C ∧ (∀ j u, cs'[j]? = some u → W.cell? ⟨b, o + i * C + j, none⟩ = some u) ∧ Opens enc P W e cs' y' := by
  obtain ⟨⟨fuel, hf⟩, hw⟩ := h
  have hlt := DataW.trod_lt fuel _ _ _ hf
  subst hC
  rcases open_slice ht hf with ⟨rfl, rfl⟩ | ⟨a, len, cap, m, n, D, Pl, rfl, _, hl, hm, hmm, hx, hi⟩
  · exact ⟨none, 0, 0, rfl, Nat.le_refl _, Nat.zero_le _, fun _ => ⟨rfl, rfl⟩, by simp, fun i hi => by omega⟩
  · simp only [if_true] at hmm
    subst hmm
    have hy1 : y.1 = .slice ((List.range len).map D) ((List.range (m - len)).map fun j => D (len + j)) := by rw [hx]
    rw [hy1] at hw
    simp only [DataW.weights, ht] at hw
    have hsz := hw _ (List.mem_cons_self ..)
    simp only [List.length_map, List.length_range] at hsz
    refine ⟨some a, len, m, rfl, hl, hm, (fun h => by cases h), ?_, fun i hil => ?_⟩
    · exact Nat.le_trans (Nat.mul_le_mul_right _ (by omega)) hsz
    · obtain ⟨cs0, hc0, _⟩ := hi 0 (by omega)
      obtain ⟨_, hl0, hat0⟩ := World.cells?_some hc0
      have h00 := hat0 0 hC0
      rw [List.getElem?_eq_getElem (by omega)] at h00
      have hs : a.spot = none := by simpa [Addr.add] using spot_none h00
      obtain ⟨cs', hc', ht'⟩ := hi i (by omega)
      obtain ⟨_, hl', hat'⟩ := World.cells?_some hc'
      refine ⟨a.block, a.off, cs', (D i, Pl i), ?_, ?_, hl', fun j u hu => ?_, ⟨n, ht'⟩, fun k hk => ?_⟩
      · cases a
        simp only at hs
        subst hs
        rfl
      · have hb := World.block_lt_of_cell? W _ h00
        simpa [Addr.add] using hb
      · have hj : j < P.cellsOf e := by
          have := (List.getElem?_eq_some_iff.1 hu).1
          omega
        have h1 := hat' j hj
        rw [hu, add_of_add, add_of_spot hs, ← Nat.add_assoc] at h1
        exact h1
      · exact hw k (List.mem_cons_of_mem _ (List.mem_append.2 (.inl (weights_all (List.mem_map.2 ⟨i, List.mem_range.2 hil, rfl⟩) k hk))))

/-- a struct: each field's cells, each with its own reading -/
theorem Opens.fields {t : TypeId} {fs : Array Field} {cs : List Value} {y : DataW H × List MemPlace} (ht : P.underlying t = some (.struct fs)) (h : Opens enc P W t cs y) :
    cs.length = P.cellsOf t ∧ ∀ (i : Nat) (f : Field), fs[i]? = some f → ∃ y', Opens enc P W f.type ((cs.drop f.offset).take (P.cellsOf f.type)) y' := by
  obtain ⟨⟨fuel, hf⟩, hw⟩ := h
  obtain ⟨xs, n, _, hx, hlen, hsz, hg⟩ := DataW.trod_struct ht hf
  refine ⟨hlen, fun i f hi => ?_⟩
  have hlt : i < fs.size := (Array.getElem?_eq_some_iff.1 hi).1
  have h1 := hg i f hi
  have hxi : xs[i]? = some (xs[i]'(by omega)) := List.getElem?_eq_getElem (by omega)
  rw [hxi] at h1
  refine ⟨_, ⟨n, h1⟩, fun k hk => hw k ?_⟩
  rw [hx]
  simp only [DataW.weights, ht]
  refine DataW.weights_mem_each (j := i) (t := f.type) (d := (xs[i]'(by omega)).1) ?_ ?_ k hk
  · rw [List.getElem?_map, Array.getElem?_toList, hi]; rfl
  · rw [List.getElem?_map, hxi]; rfl

/-- a field of one cell -/
theorem Opens.cell {t : TypeId} {fs : Array Field} {cs : List Value} {y : DataW H × List MemPlace} (ht : P.underlying t = some (.struct fs)) (hone : oneCellFields P fs = true) (h : Opens enc P W t cs y) {i : Nat} {ti : TypeId} {c : Value}
    (hi : (fs[i]?).map (·.type) = some ti) (hc : cs[i]? = some c) : ∃ y', Opens enc P W ti [c] y' := by
  obtain ⟨f, hf, rfl⟩ := Option.map_eq_some_iff.1 hi
  obtain ⟨ho, hk⟩ := hone_of hone i f hf
  obtain ⟨y', h'⟩ := (h.fields ht).2 i f hf
  rw [ho, hk] at h'
  have hlt : i < cs.length := (List.getElem?_eq_some_iff.1 hc).1
  have e : (cs.drop i).take 1 = [c] := by
    rw [List.drop_eq_getElem_cons hlt]
    rw [List.getElem?_eq_getElem hlt] at hc
    injection hc with hc
    rw [hc]
    rfl
  rw [e] at h'
  exact ⟨y', h'⟩

/-- a slice of integers reads as a list -/
theorem Opens.ints {t e : TypeId} {k : IntKind} {cs : List Value} {y : DataW H × List MemPlace} (ht : P.underlying t = some (.slice e)) (he : P.underlying e = some (.int k)) (hc : P.cellsOf e = 1) (h : Opens enc P W t cs y) :
    ∃ (A : Option Addr) (n c : Nat) (xs : List Int), cs = [.slice A n c] ∧ n = xs.length ∧ n ≤ c ∧ c ≤ maxLen ∧ (A = none → n = 0 ∧ c = 0) ∧ Reads W W.heap.size A (xs.map (Value.int k)) ∧ (∀ x ∈ xs, (Lit.int k x).wf = true) ∧ n * P.bytesOf e ≤ reachBytes := by
  obtain ⟨A, n, c, hcs, hnc, hcm, hA, hb, hel⟩ := h.elems ht hc (by decide)
  have hall : ∀ i, i < n → ∃ z, (Lit.int k z).wf = true ∧ ∃ b o, A = some ⟨b, o, none⟩ ∧ b < W.heap.size ∧ W.cell? ⟨b, o + i, none⟩ = some (.int k z) := by
    intro i hi
    obtain ⟨b, o, cs', y', hA', hb', hl', hat, ho⟩ := hel i hi
    obtain ⟨z, rfl, hz⟩ := ho.int he
    refine ⟨z, hz, b, o, hA', hb', ?_⟩
    have := hat 0 _ rfl
    rwa [Nat.mul_one, Nat.add_zero] at this
  obtain ⟨xs, hl, hx⟩ := list_of _ hall
  refine ⟨A, n, c, xs, hcs, hl.symm, hnc, hcm, hA, fun j u hu => ?_, fun x hxm => ?_, hb⟩
  · rw [List.getElem?_map] at hu
    obtain ⟨z, hz, rfl⟩ := Option.map_eq_some_iff.1 hu
    exact (hx j z hz).2
  · obtain ⟨i, hi⟩ := List.getElem?_of_mem hxm
    exact (hx i x hi).1
end
end Go.Proofs.Ytmlmmajdeclpoaa
