/-
  Slots as a state: which messages stand where; what of it stays when other memory turns.
-/
import Derived.Test.YtipgobmnpheikaaSlotA
import Derived.Test.YtipgobmnpheikaaClone
namespace Go.Proofs.Ytipgobmnpheikaa
open Go.RowKit

/-- Only the blocks of a list, and what is new, have turned. -/
structure Only (bs : List Nat) (w w' : World) : Prop where
  os : w'.os = w.os
  tape : w'.tape = w.tape
  output : w'.output = w.output
  size : w.heap.size ≤ w'.heap.size
  block : ∀ k, k < w.heap.size → k ∉ bs → w'.heap[k]? = w.heap[k]?
section
variable {bs : List Nat} {a b c : World}
theorem Only.refl (bs : List Nat) (w : World) : Only bs w w := ⟨rfl, rfl, rfl, Nat.le_refl _, fun _ _ _ => rfl⟩
theorem Only.trans (h : Only bs a b) (k : Only bs b c) : Only bs a c :=
  ⟨k.os.trans h.os, k.tape.trans h.tape, k.output.trans h.output, Nat.le_trans h.size k.size, fun i hi hn => (k.block i (Nat.lt_of_lt_of_le hi h.size) hn).trans (h.block i hi hn)⟩
theorem Only.mono {cs : List Nat} (h : Only bs a b) (hs : ∀ x ∈ bs, x ∈ cs) : Only cs a b := ⟨h.os, h.tape, h.output, h.size, fun i hi hn => h.block i hi (fun hm => hn (hs i hm))⟩
theorem Only.of_below (h : Below a.heap.size a b) : Only bs a b := ⟨h.os, h.tape, h.output, h.size, fun i hi _ => h.block i hi⟩
theorem Only.drewN (h : Only bs a b) (n : Nat) : Only bs a (b.drewN n) := ⟨h.os, h.tape, h.output, h.size, h.block⟩
theorem Only.drew (h : Only bs a b) : Only bs a b.drew := ⟨h.os, h.tape, h.output, h.size, h.block⟩
theorem Only.setCell (h : Only bs a b) {p : Addr} (hp : p.block ∈ bs) (u : Value) : Only bs a (b.setCell p u) :=
  h.trans ⟨rfl, rfl, rfl, by simp [World.setCell], fun i _ hn => Below.heap_setCell _ _ _ _ (fun e => hn (e ▸ hp))⟩
theorem Only.to_below {B : Nat} (h : Only bs a b) (hB : ∀ x ∈ bs, B ≤ x) (hs : B ≤ a.heap.size) : Below B a b :=
  ⟨h.os, h.tape, h.output, h.size, fun i hi => h.block i (by omega) (fun hm => by have := hB i hm; omega)⟩
end

def IsSlots (w : World) (g : Nat) : Prop := ∃ t sl on, Blk w g t (slotCells sl on) ∧ ∀ i, ∃ A n c, sl i = .slice A n c
theorem slot_no_int {w : World} {g : Nat} (h : IsSlots w g) {o : Nat} {k : IntKind} {n : Int} (hc : w.cell? ⟨g, o, none⟩ = some (.int k n)) : False := by
  obtain ⟨t, sl, on, hb, hs⟩ := h
  rw [hb.cell] at hc
  by_cases h1 : o < 16
  · obtain ⟨A, m, c, e⟩ := hs o
    rw [slotCells_sl _ _ o h1, e] at hc
    cases hc
  · by_cases h2 : o < 32
    · obtain ⟨j, rfl⟩ : ∃ j, o = 16 + j := ⟨o - 16, by omega⟩
      rw [slotCells_on _ _ j (by omega)] at hc
      cases hc
    · rw [Array.getElem?_eq_none (by simp [slotCells]; omega)] at hc
      cases hc
theorem Reads.only {w w' : World} {bs : List Nat} {B : Nat} {A : Option Addr} {k : IntKind} {xs : List Int} (h : Reads w B A (xs.map (Value.int k))) (ho : Only bs w w') (hbs : ∀ b ∈ bs, IsSlots w b) (hB : B ≤ w.heap.size) : Reads w' B A (xs.map (Value.int k)) := fun j u hu => by
  obtain ⟨b, o, e, hb, hc⟩ := h j u hu
  have hu' : ∃ n, u = .int k n := by
    rw [List.getElem?_map] at hu
    obtain ⟨n, _, rfl⟩ := Option.map_eq_some_iff.1 hu
    exact ⟨n, rfl⟩
  obtain ⟨n, rfl⟩ := hu'
  refine ⟨b, o, e, hb, ?_⟩
  rw [World.cell?_of_block (w := w) (ho.block b (by omega) (fun hm => slot_no_int (hbs b hm) hc))]
  exact hc

theorem Blk.reads' {w : World} {g : Nat} {t : TypeId} {vs : List Value} (h : Blk w g t vs.toArray) : Reads w w.heap.size (some ⟨g, 0, none⟩) vs := fun j u hu =>
  ⟨g, 0, rfl, h.lt, by rw [h.cell]; simpa using hu⟩
def SlotOk (w : World) (v : Value) (xs : List Int) : Prop := ∃ A n c, v = .slice A n c ∧ n = xs.length ∧ (A = none → n = 0) ∧ Reads w w.heap.size A (xs.map (Value.int .u64)) ∧ n * 8 ≤ 140737488351232
theorem SlotOk.only {w w' : World} {bs : List Nat} {v : Value} {xs : List Int} (h : SlotOk w v xs) (ho : Only bs w w') (hbs : ∀ b ∈ bs, IsSlots w b) : SlotOk w' v xs := by
  obtain ⟨A, n, c, e, hn, h0, hr, hs⟩ := h
  exact ⟨A, n, c, e, hn, h0, (hr.only ho hbs (Nat.le_refl _)).more ho.size, hs⟩

def SlotsAt (w : World) (g : Nat) (t : TypeId) (st : Nat → Option (List Int)) : Prop :=
  ∃ sl, Blk w g t (slotCells sl (fun i => (st i).isSome)) ∧ (∀ i, ∃ A n c, sl i = .slice A n c) ∧ ∀ i xs, st i = some xs → SlotOk w (sl i) xs
theorem SlotsAt.is {w : World} {g : Nat} {t : TypeId} {st : Nat → Option (List Int)} (h : SlotsAt w g t st) : IsSlots w g := by
  obtain ⟨sl, hb, hs, _⟩ := h
  exact ⟨t, sl, _, hb, hs⟩
theorem SlotsAt.only {w w' : World} {bs : List Nat} {g : Nat} {t : TypeId} {st : Nat → Option (List Int)} (h : SlotsAt w g t st) (ho : Only bs w w') (hg : g ∉ bs) (hbs : ∀ b ∈ bs, IsSlots w b) : SlotsAt w' g t st := by
  obtain ⟨sl, hb, hs, hx⟩ := h
  exact ⟨sl, (ho.block g hb.lt hg).trans hb, hs, fun i xs e => (hx i xs e).only ho hbs⟩
theorem SlotsAt.below {w w' : World} {g : Nat} {t : TypeId} {st : Nat → Option (List Int)} (h : SlotsAt w g t st) (hb : Below w.heap.size w w') : SlotsAt w' g t st :=
  h.only (bs := []) (Only.of_below hb) (by simp) (by simp)
theorem IsSlots.below {w w' : World} {g : Nat} (h : IsSlots w g) (hb : Below w.heap.size w w') : IsSlots w' g := by
  obtain ⟨t, sl, on, hk, hs⟩ := h
  exact ⟨t, sl, on, hk.below hb hk.lt, hs⟩

def upd (st : Nat → Option (List Int)) (i : Nat) (x : Option (List Int)) : Nat → Option (List Int) := fun j => if j = i then x else st j

theorem slots_set {w : World} {g : Nat} {t : TypeId} {st : Nat → Option (List Int)} (h : SlotsAt w g t st) {k : Nat} (hk : k < 16) {v : Value} (hv : ∃ A n c, v = .slice A n c) (x : Option (List Int))
    (hx : ∀ xs, x = some xs → SlotOk w v xs) (b : Bool) (hb : b = x.isSome) :
    SlotsAt ((w.setCell ⟨g, k, none⟩ v).setCell ⟨g, 16 + k, none⟩ (.bool b)) g t (upd st k x) := by
  have his := h.is
  have ho : Only [g] w ((w.setCell ⟨g, k, none⟩ v).setCell ⟨g, 16 + k, none⟩ (.bool b)) := ((Only.refl [g] w).setCell (p := ⟨g, k, none⟩) (by simp) _).setCell (p := ⟨g, 16 + k, none⟩) (by simp) _
  have hbs : ∀ b ∈ [g], IsSlots w b := fun b hb => by rw [List.mem_singleton.1 hb]; exact his
  obtain ⟨sl, hblk, hs, hok⟩ := h
  have h1 := hblk.set_ k v
  rw [slotCells_setSl _ _ k hk] at h1
  have h2 := h1.set_ (16 + k) (.bool b)
  rw [slotCells_setOn _ _ k hk] at h2
  refine ⟨fun j => if j = k then v else sl j, ?_, fun i => ?_, fun i xs e => ?_⟩
  · have : (fun j => if j = k then b else (st j).isSome) = fun i => (upd st k x i).isSome := by
      funext j
      unfold upd
      by_cases e : j = k
      · simp [e, hb]
      · simp [e]
    rw [this] at h2
    exact h2
  · by_cases e : i = k
    · simp only [e, if_true]; exact hv
    · simp only [e, if_false]; exact hs i
  · unfold upd at e
    by_cases hi : i = k
    · simp only [hi, if_true] at e ⊢
      exact (hx xs e).only ho hbs
    · simp only [hi, if_false] at e ⊢
      exact (hok i xs e).only ho hbs

/-- what is put, all or none; the error -/
def putS (st : Nat → Option (List Int)) (ats : List Int) (ls : List (List Int)) : Int × (Nat → Option (List Int)) :=
  if ats.length = ls.length then (if ats.all inB then (0, (ats.zip ls).foldl (fun s p => upd s p.1.toNat (some p.2)) st) else (15, st)) else (2, st)
def dropS (st : Nat → Option (List Int)) (i : Int) : Int × (Nat → Option (List Int)) :=
  if inB i && (st i.toNat).isSome then (0, upd st i.toNat none) else (15, st)
/-- which have a message -/
def fullS (st : Nat → Option (List Int)) (k : Nat) : List Int := ((List.range k).filter fun i => (st i).isSome).map fun (i : Nat) => (i : Int)
theorem fullS_succ (st : Nat → Option (List Int)) (k : Nat) : fullS st (k + 1) = fullS st k ++ (if (st k).isSome then [(k : Int)] else []) := by
  unfold fullS
  rw [List.range_succ, List.filter_append, List.map_append]
  cases h : (st k).isSome <;> simp [h]
theorem fullS_len (st : Nat → Option (List Int)) (k : Nat) : (fullS st k).length ≤ k := by
  unfold fullS
  rw [List.length_map]
  have := List.length_filter_le (fun i => (st i).isSome) (List.range k)
  rwa [List.length_range] at this
end Go.Proofs.Ytipgobmnpheikaa
