/-
  Runs.
-/
import Derived.Test.YtfmdnglcmbgpcaaPkB
namespace Go.Proofs.Ytfmdnglcmbgpcaa
open Go.RowKit Go.Proofs.Ytfmdnglcmbgpcaa.Pk

set_option maxRecDepth 100000 in
set_option maxHeartbeats 1000000 in
theorem runZ_any (A : Option Addr) (n c b0 : Nat) (l : List Int) (w : World) (hn : n = l.length) (hx : Reads w b0 A (l.map (Value.int .u64))) (hb0 : b0 ≤ w.heap.size) (hs : n ≤ 1000000) (hu : u64s l) :
    Calls Try.prog 17 #[.slice A n c, .func (.func 18) #[] #[]] w fun e w' => e = .returned (.int .i64 (runP isZ l : Nat)) ∧ Below w.heap.size w w' := by
  have HX := hide hx
  have HN := hide hn
  clear hx hn
  go_enter Try.func17, Try.ntmps17
  go_wp2_with fail
  go_loopw [5] (fun v wr => ∃ k : Nat, k ≤ n ∧ k ≤ 255 ∧ v = .int .i64 k ∧ Hid (∀ i, i < k → isZ (l.getD i 0) = true) ∧ Below w.heap.size w wr) (fun v _ => 255 - (intOf v).toNat)
  case atStart => exact ⟨0, by omega, by omega, rfl, fun i hi => by omega, Below.refl _ _⟩
  case round =>
    obtain ⟨k, hk, hk2, rfl, hall, hbe⟩ := hrel
    by_cases hlt : k < n
    · by_cases hlt2 : k < 255
      · have hl1 : k < l.length := by rw [← HN.out]; exact hlt
        obtain ⟨bx, ox, rfl, hbx, d0⟩ := (HX.out.below hbe hb0).intAt hl1
        have hb := hu _ (List.getElem_mem hl1)
        have hg : l.getD k 0 = l[k] := by rw [List.getD_eq_getElem?_getD, List.getElem?_eq_getElem hl1, Option.getD_some]
        have HG := hide hg
        clear hg
        generalize l[k] = x at *
        have k0 : (0 : Int) ≤ (k : Int) := by omega
        go_wp2_with fail
        refine (none_any x _).mono ?_
        rintro e w1 ⟨rfl, hb1⟩
        cases hp : isZ x
        · have HP : Hid (runP isZ l = k) := runP_is _ l k hk2 (by rw [← HN.out]; exact hk) hall.out (.inr (.inr (by rw [HG.out]; exact hp)))
          clear hp
          go_wp2_with fail
          go_ret
          rw [HP.out]
          exact ⟨rfl, hbe.trans (hb1.mono hbe.size)⟩
        · have HP : Hid (∀ i, i < k + 1 → isZ (l.getD i 0) = true) := fun i hi => by
            by_cases e : i = k
            · subst e; rw [HG.out]; exact hp
            · exact hall.out i (by omega)
          clear hp
          go_wp2_with fail
          go_roundw
          case rel => exact ⟨k + 1, by omega, by omega, by go_num, HP, hbe.trans (hb1.mono hbe.size)⟩
          case measure => simp [intOf]; omega
      · have e : k = 255 := by omega
        have HP : Hid (runP isZ l = k) := runP_is _ l k hk2 (by rw [← HN.out]; exact hk) hall.out (.inl e)
        subst e
        go_wp2_with fail
        go_ret
        rw [HP.out]
        exact ⟨rfl, hbe⟩
    · have e : k = n := by omega
      have HP : Hid (runP isZ l = k) := runP_is _ l k hk2 (by rw [← HN.out]; exact hk) hall.out (.inr (.inl (by rw [← HN.out]; exact e)))
      subst e
      go_wp2_with fail
      go_ret
      rw [HP.out]
      exact ⟨rfl, hbe⟩

set_option maxRecDepth 100000 in
set_option maxHeartbeats 1000000 in
theorem runF_any (A : Option Addr) (n c b0 : Nat) (l : List Int) (w : World) (hn : n = l.length) (hx : Reads w b0 A (l.map (Value.int .u64))) (hb0 : b0 ≤ w.heap.size) (hs : n ≤ 1000000) (hu : u64s l) :
    Calls Try.prog 17 #[.slice A n c, .func (.func 19) #[] #[]] w fun e w' => e = .returned (.int .i64 (runP isF l : Nat)) ∧ Below w.heap.size w w' := by
  have HX := hide hx
  have HN := hide hn
  clear hx hn
  go_enter Try.func17, Try.ntmps17
  go_wp2_with fail
  go_loopw [5] (fun v wr => ∃ k : Nat, k ≤ n ∧ k ≤ 255 ∧ v = .int .i64 k ∧ Hid (∀ i, i < k → isF (l.getD i 0) = true) ∧ Below w.heap.size w wr) (fun v _ => 255 - (intOf v).toNat)
  case atStart => exact ⟨0, by omega, by omega, rfl, fun i hi => by omega, Below.refl _ _⟩
  case round =>
    obtain ⟨k, hk, hk2, rfl, hall, hbe⟩ := hrel
    by_cases hlt : k < n
    · by_cases hlt2 : k < 255
      · have hl1 : k < l.length := by rw [← HN.out]; exact hlt
        obtain ⟨bx, ox, rfl, hbx, d0⟩ := (HX.out.below hbe hb0).intAt hl1
        have hb := hu _ (List.getElem_mem hl1)
        have hg : l.getD k 0 = l[k] := by rw [List.getD_eq_getElem?_getD, List.getElem?_eq_getElem hl1, Option.getD_some]
        have HG := hide hg
        clear hg
        generalize l[k] = x at *
        have k0 : (0 : Int) ≤ (k : Int) := by omega
        go_wp2_with fail
        refine (full_any x hb.1 hb.2 _).mono ?_
        rintro e w1 ⟨rfl, hb1⟩
        cases hp : isF x
        · have HP : Hid (runP isF l = k) := runP_is _ l k hk2 (by rw [← HN.out]; exact hk) hall.out (.inr (.inr (by rw [HG.out]; exact hp)))
          clear hp
          go_wp2_with fail
          go_ret
          rw [HP.out]
          exact ⟨rfl, hbe.trans (hb1.mono hbe.size)⟩
        · have HP : Hid (∀ i, i < k + 1 → isF (l.getD i 0) = true) := fun i hi => by
            by_cases e : i = k
            · subst e; rw [HG.out]; exact hp
            · exact hall.out i (by omega)
          clear hp
          go_wp2_with fail
          go_roundw
          case rel => exact ⟨k + 1, by omega, by omega, by go_num, HP, hbe.trans (hb1.mono hbe.size)⟩
          case measure => simp [intOf]; omega
      · have e : k = 255 := by omega
        have HP : Hid (runP isF l = k) := runP_is _ l k hk2 (by rw [← HN.out]; exact hk) hall.out (.inl e)
        subst e
        go_wp2_with fail
        go_ret
        rw [HP.out]
        exact ⟨rfl, hbe⟩
    · have e : k = n := by omega
      have HP : Hid (runP isF l = k) := runP_is _ l k hk2 (by rw [← HN.out]; exact hk) hall.out (.inr (.inl (by rw [← HN.out]; exact e)))
      subst e
      go_wp2_with fail
      go_ret
      rw [HP.out]
      exact ⟨rfl, hbe⟩
end Go.Proofs.Ytfmdnglcmbgpcaa
