/-
  Trees in plain Lean, and in memory.
-/
import Derived.Test.YtmlmmajdeclpoaaPthA
namespace Go.Proofs.Ytmlmmajdeclpoaa
open Go.RowKit

inductive T where
  | node (k : Int) (ws : List Int) (ks : List T)
def T.kind : T → Int | .node k _ _ => k
def T.ws : T → List Int | .node _ ws _ => ws
def T.ks : T → List T | .node _ _ ks => ks
def nilT : T := .node 0 [] []
/-- words without noughts at the end -/
def trimW : List Int → List Int
  | [] => []
  | x :: r => match trimW r with
    | [] => if x = 0 then [] else [x]
    | y :: q => x :: y :: q
def trimK : List T → List T
  | [] => []
  | x :: r => match trimK r with
    | [] => if x.kind = 0 then [] else [x]
    | y :: q => x :: y :: q
mutual
def norm : T → T
  | .node k ws ks => if k = 0 then nilT else if k = 1 then .node 1 (trimW ws) (trimK (normL ks)) else .node k ws (normL ks)
def normL : List T → List T
  | [] => []
  | t :: r => norm t :: normL r
end
theorem normL_len (l : List T) : (normL l).length = l.length := by
  induction l with
  | nil => rfl
  | cons t r ih => rw [normL, List.length_cons, ih, List.length_cons]
theorem normL_snoc (l : List T) (k : Nat) (h : k < l.length) : normL (l.take (k + 1)) = normL (l.take k) ++ [norm l[k]] := by
  induction l generalizing k with
  | nil => simp at h
  | cons t r ih =>
    cases k with
    | zero => simp [normL]
    | succ k =>
      rw [List.take_succ_cons, normL, List.take_succ_cons, normL, ih k (by simpa using h)]
      rfl
theorem trimW_snoc (l : List Int) (x : Int) : trimW (l ++ [x]) = if x = 0 then trimW l else l ++ [x] := by
  induction l with
  | nil => simp [trimW]
  | cons y r ih =>
    rw [List.cons_append, trimW, ih]
    by_cases h : x = 0
    · rw [if_pos h, if_pos h, trimW]
    · rw [if_neg h, if_neg h]
      cases r with
      | nil => rfl
      | cons z q => rfl
theorem trimK_snoc (l : List T) (x : T) : trimK (l ++ [x]) = if x.kind = 0 then trimK l else l ++ [x] := by
  induction l with
  | nil => simp [trimK]
  | cons y r ih =>
    rw [List.cons_append, trimK, ih]
    by_cases h : x.kind = 0
    · rw [if_pos h, if_pos h, trimK]
    · rw [if_neg h, if_neg h]
      cases r with
      | nil => rfl
      | cons z q => rfl

/-- a tree's value -/
structure Tv where
  k : Int
  A : Option Addr
  n : Nat
  c : Nat
  K : Option Addr
  m : Nat
  d : Nat
def Tv.cells (v : Tv) : List Value := [.int .i64 v.k, .slice v.A v.n v.c, .slice v.K v.m v.d]
def Tv.val (v : Tv) : Value := .agg #[.int .i64 v.k, .slice v.A v.n v.c, .slice v.K v.m v.d]
def kidCells (l : List Tv) : List Value := l.flatMap Tv.cells
theorem kidCells_app (l k : List Tv) : kidCells (l ++ k) = kidCells l ++ kidCells k := by
  unfold kidCells
  rw [List.flatMap_append]
theorem kidCells_one (v : Tv) : kidCells [v] = v.cells := by simp [kidCells]
theorem kidCells_len (l : List Tv) : (kidCells l).length = l.length * 3 := by
  unfold kidCells
  induction l with
  | nil => rfl
  | cons s r ih => rw [List.flatMap_cons, List.length_append, ih, List.length_cons]; simp [Tv.cells]; omega
theorem kidCells_at (l : List Tv) (k : Nat) (h : k < l.length) : (kidCells l)[k * 3]? = some (.int .i64 l[k].k) ∧ (kidCells l)[k * 3 + 1]? = some (.slice l[k].A l[k].n l[k].c) ∧ (kidCells l)[k * 3 + 2]? = some (.slice l[k].K l[k].m l[k].d) := by
  induction l generalizing k with
  | nil => simp at h
  | cons s r ih =>
    have e : kidCells (s :: r) = s.cells ++ kidCells r := rfl
    cases k with
    | zero => rw [e]; exact ⟨rfl, rfl, rfl⟩
    | succ k =>
      have hl : s.cells.length = 3 := rfl
      rw [e, List.getElem?_append_right (by omega), List.getElem?_append_right (by omega), List.getElem?_append_right (by omega), hl]
      have := ih k (by simpa using h)
      simpa [show (k + 1) * 3 - 3 = k * 3 from by omega, show (k + 1) * 3 + 1 - 3 = k * 3 + 1 from by omega, show (k + 1) * 3 + 2 - 3 = k * 3 + 2 from by omega] using this
theorem kidCells_one1 (l : List Tv) : ∀ u ∈ kidCells l, u.oneCell' = true := by
  intro u hu
  unfold kidCells at hu
  obtain ⟨s, _, h⟩ := List.mem_flatMap.1 hu
  unfold Tv.cells at h
  simp only [List.mem_cons, List.not_mem_nil, or_false] at h
  rcases h with h | h | h <;> subst h <;> rfl
def u64L (l : List Int) : Prop := ∀ x ∈ l, 0 ≤ x ∧ x ≤ 18446744073709551615

/-- cells that stand in blocks of a set -/
def RdS (w : World) (S : Nat → Prop) (A : Option Addr) (xs : List Value) : Prop := ∀ j u, xs[j]? = some u → ∃ b o, A = some ⟨b, o, none⟩ ∧ S b ∧ w.cell? ⟨b, o + j, none⟩ = some u
section
variable {w w' : World} {S S' : Nat → Prop} {A : Option Addr} {xs : List Value}
theorem RdS.keep (h : RdS w S A xs) (hk : ∀ p : Addr, S p.block → w'.cell? p = w.cell? p) : RdS w' S A xs := fun j u hu => by
  obtain ⟨b, o, e, hb, hc⟩ := h j u hu
  exact ⟨b, o, e, hb, (hk _ hb).trans hc⟩
theorem RdS.mono (h : RdS w S A xs) (hS : ∀ b, S b → S' b) : RdS w S' A xs := fun j u hu => by
  obtain ⟨b, o, e, hb, hc⟩ := h j u hu
  exact ⟨b, o, e, hS b hb, hc⟩
theorem RdS.reads {B : Nat} (h : RdS w S A xs) (hS : ∀ b, S b → b < B) : Reads w B A xs := fun j u hu => by
  obtain ⟨b, o, e, hb, hc⟩ := h j u hu
  exact ⟨b, o, e, hS b hb, hc⟩
theorem Reads.rds {B : Nat} (h : Reads w B A xs) : RdS w (fun b => b < B) A xs := h
theorem RdS.all (h : RdS w S A xs) (hk : 0 < xs.length) : ∃ b o, A = some ⟨b, o, none⟩ ∧ S b ∧ ∀ j u, xs[j]? = some u → w.cell? ⟨b, o + j, none⟩ = some u := by
  obtain ⟨b, o, e, hb, _⟩ := h 0 xs[0] (List.getElem?_eq_getElem hk)
  refine ⟨b, o, e, hb, fun j u hu => ?_⟩
  obtain ⟨b', o', e', _, hc⟩ := h j u hu
  rw [e] at e'
  injection e' with e'
  injection e' with e1 e2
  subst e1 e2
  exact hc
theorem RdS.take (h : RdS w S A xs) (k : Nat) : RdS w S A (xs.take k) := fun j u hu => by
  rw [List.getElem?_take] at hu
  split at hu
  · exact h j u hu
  · cases hu
theorem RdS.none_ : RdS w S A [] := fun j u h => by simp at h
end

/-- a tree in memory, in blocks of a set -/
inductive TreeAt (w : World) (S : Nat → Prop) : T → Tv → Prop
  | mk (ws : List Int) (ks : List T) (v : Tv) (kv : List Tv) : v.n = ws.length → v.n ≤ v.c → v.c ≤ maxLen → ws.length ≤ 17592186043904 → (v.A = none → v.c = 0) → RdS w S v.A (ws.map (Value.int .u64)) → u64L ws →
      v.m = ks.length → v.m ≤ v.d → v.d ≤ maxLen → ks.length ≤ 2513169434843 → kv.length = ks.length → RdS w S v.K (kidCells kv) →
      (∀ i (h : i < ks.length) (h' : i < kv.length), TreeAt w S ks[i] kv[i]) → TreeAt w S (.node v.k ws ks) v
theorem TreeAt.keep {w w' : World} {S : Nat → Prop} {t : T} {v : Tv} (h : TreeAt w S t v) (hk : ∀ p : Addr, S p.block → w'.cell? p = w.cell? p) : TreeAt w' S t v := by
  induction h with
  | mk ws ks v kv h1 h2 h3 h4 h5 h6 h7 h8 h9 h10 h11 h12 h13 _ ih => exact .mk ws ks v kv h1 h2 h3 h4 h5 (h6.keep hk) h7 h8 h9 h10 h11 h12 (h13.keep hk) ih
theorem TreeAt.mono {w : World} {S S' : Nat → Prop} {t : T} {v : Tv} (h : TreeAt w S t v) (hS : ∀ b, S b → S' b) : TreeAt w S' t v := by
  induction h with
  | mk ws ks v kv h1 h2 h3 h4 h5 h6 h7 h8 h9 h10 h11 h12 h13 _ ih => exact .mk ws ks v kv h1 h2 h3 h4 h5 (h6.mono hS) h7 h8 h9 h10 h11 h12 (h13.mono hS) ih
theorem TreeAt.bel {w w' : World} {S : Nat → Prop} {C : Nat} {t : T} {v : Tv} (h : TreeAt w S t v) (hb : Below C w w') (hC : ∀ b, S b → b < C) : TreeAt w' S t v := h.keep fun _ hp => hb.cell (hC _ hp)
theorem TreeAt.kind {w : World} {S : Nat → Prop} {t : T} {v : Tv} (h : TreeAt w S t v) : t.kind = v.k := by cases h; rfl
theorem TreeAt.nil {w : World} {S : Nat → Prop} : TreeAt w S nilT ⟨0, none, 0, 0, none, 0, 0⟩ :=
  .mk [] [] ⟨0, none, 0, 0, none, 0, 0⟩ [] rfl (Nat.le_refl _) (by decide) (by decide) (fun _ => rfl) RdS.none_ (fun x hx => by simp at hx) rfl (Nat.le_refl _) (by decide) (by decide) rfl (by intro j u hu; simp [kidCells] at hu) (fun i h => by simp at h)
structure WordsAt (w : World) (S : Nat → Prop) (A : Option Addr) (n c : Nat) (ws : List Int) : Prop where
  len : n = ws.length
  cap : n ≤ c
  capM : c ≤ maxLen
  few : ws.length ≤ 17592186043904
  nil : A = none → c = 0
  read : RdS w S A (ws.map (Value.int .u64))
  u64 : u64L ws
structure KidsAt (w : World) (S : Nat → Prop) (K : Option Addr) (m d : Nat) (ks : List T) (kv : List Tv) : Prop where
  len : m = ks.length
  cap : m ≤ d
  capM : d ≤ maxLen
  few : ks.length ≤ 2513169434843
  kvl : kv.length = ks.length
  read : RdS w S K (kidCells kv)
  kid : ∀ i (h : i < ks.length) (h' : i < kv.length), TreeAt w S ks[i] kv[i]
theorem WordsAt.keep {w w' : World} {S : Nat → Prop} {A : Option Addr} {n c : Nat} {ws : List Int} (h : WordsAt w S A n c ws) (hk : ∀ p : Addr, S p.block → w'.cell? p = w.cell? p) : WordsAt w' S A n c ws := ⟨h.1, h.2, h.3, h.4, h.5, h.6.keep hk, h.7⟩
theorem WordsAt.mono {w : World} {S S' : Nat → Prop} {A : Option Addr} {n c : Nat} {ws : List Int} (h : WordsAt w S A n c ws) (hS : ∀ b, S b → S' b) : WordsAt w S' A n c ws := ⟨h.1, h.2, h.3, h.4, h.5, h.6.mono hS, h.7⟩
theorem KidsAt.keep {w w' : World} {S : Nat → Prop} {K : Option Addr} {m d : Nat} {ks : List T} {kv : List Tv} (h : KidsAt w S K m d ks kv) (hk : ∀ p : Addr, S p.block → w'.cell? p = w.cell? p) : KidsAt w' S K m d ks kv := ⟨h.1, h.2, h.3, h.4, h.5, h.6.keep hk, fun i a b => (h.7 i a b).keep hk⟩
theorem KidsAt.mono {w : World} {S S' : Nat → Prop} {K : Option Addr} {m d : Nat} {ks : List T} {kv : List Tv} (h : KidsAt w S K m d ks kv) (hS : ∀ b, S b → S' b) : KidsAt w S' K m d ks kv := ⟨h.1, h.2, h.3, h.4, h.5, h.6.mono hS, fun i a b => (h.7 i a b).mono hS⟩
theorem TreeAt.words {w : World} {S : Nat → Prop} {k : Int} {ws : List Int} {ks : List T} {v : Tv} (h : TreeAt w S (.node k ws ks) v) : WordsAt w S v.A v.n v.c ws := by
  cases h with
  | mk _ _ _ kv h1 h2 h3 h4 h5 h6 h7 h8 h9 h10 h11 h12 h13 h14 => exact ⟨h1, h2, h3, h4, h5, h6, h7⟩
theorem TreeAt.kids {w : World} {S : Nat → Prop} {k : Int} {ws : List Int} {ks : List T} {v : Tv} (h : TreeAt w S (.node k ws ks) v) : ∃ kv, KidsAt w S v.K v.m v.d ks kv := by
  cases h with
  | mk _ _ _ kv h1 h2 h3 h4 h5 h6 h7 h8 h9 h10 h11 h12 h13 h14 => exact ⟨kv, h8, h9, h10, h11, h12, h13, h14⟩
theorem TreeAt.of {w : World} {S : Nat → Prop} {k : Int} {ws : List Int} {ks : List T} {kv : List Tv} {A K : Option Addr} {n c m d : Nat} (hw : WordsAt w S A n c ws) (hk : KidsAt w S K m d ks kv) : TreeAt w S (.node k ws ks) ⟨k, A, n, c, K, m, d⟩ :=
  .mk ws ks ⟨k, A, n, c, K, m, d⟩ kv hw.len hw.cap hw.capM hw.few hw.nil hw.read hw.u64 hk.len hk.cap hk.capM hk.few hk.kvl hk.read hk.kid
theorem WordsAt.none_ {w : World} {S : Nat → Prop} : WordsAt w S none 0 0 [] := ⟨rfl, Nat.le_refl _, by decide, by decide, fun _ => rfl, RdS.none_, fun x hx => by simp at hx⟩
theorem KidsAt.none_ {w : World} {S : Nat → Prop} : KidsAt w S none 0 0 [] [] := ⟨rfl, Nat.le_refl _, by decide, by decide, rfl, fun j u hu => by simp [kidCells] at hu, fun i h => by simp at h⟩
theorem KidsAt.at {w : World} {S : Nat → Prop} {K : Option Addr} {m d : Nat} {ks : List T} {kv : List Tv} (h : KidsAt w S K m d ks kv) {i : Nat} (hi : i < ks.length) :
    ∃ b o v, K = some ⟨b, o, none⟩ ∧ S b ∧ w.cell? ⟨b, o + i * 3, none⟩ = some (.int .i64 v.k) ∧ w.cell? ⟨b, o + i * 3 + 1, none⟩ = some (.slice v.A v.n v.c) ∧ w.cell? ⟨b, o + i * 3 + 2, none⟩ = some (.slice v.K v.m v.d) ∧ TreeAt w S ks[i] v := by
  have hi' : i < kv.length := by rw [h.kvl]; exact hi
  obtain ⟨e0, e1, e2⟩ := kidCells_at kv i hi'
  obtain ⟨b, o, e, hb, hc⟩ := h.read.all (by rw [kidCells_len]; omega)
  exact ⟨b, o, kv[i], e, hb, by rw [← hc _ _ e0], by rw [Nat.add_assoc]; exact hc _ _ e1, by rw [Nat.add_assoc]; exact hc _ _ e2, h.kid i hi hi'⟩
theorem WordsAt.at {w : World} {S : Nat → Prop} {A : Option Addr} {n c : Nat} {ws : List Int} (h : WordsAt w S A n c ws) {i : Nat} (hi : i < ws.length) :
    ∃ b o, A = some ⟨b, o, none⟩ ∧ S b ∧ w.cell? ⟨b, o + i, none⟩ = some (.int .u64 ws[i]) := by
  obtain ⟨b, o, e, hb, hc⟩ := h.read.all (by rw [List.length_map]; omega)
  exact ⟨b, o, e, hb, hc i _ (by rw [List.getElem?_map, List.getElem?_eq_getElem hi]; rfl)⟩
theorem T.size_kid {k : Int} {ws : List Int} {ks : List T} {i : Nat} (h : i < ks.length) : SizeOf.sizeOf ks[i] < SizeOf.sizeOf (T.node k ws ks) := by
  have := List.sizeOf_lt_of_mem (List.getElem_mem h)
  rw [T.node.sizeOf_spec]
  omega
end Go.Proofs.Ytmlmmajdeclpoaa
