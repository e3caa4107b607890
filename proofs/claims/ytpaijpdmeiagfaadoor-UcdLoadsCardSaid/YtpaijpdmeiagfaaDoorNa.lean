/- The shipped data as what it tells; awake. -/
import Derived.Test.YtpaijpdmeiagfaaDoorNm
set_option linter.unusedVariables false
set_option linter.unusedSimpArgs false
namespace Go.Proofs.YtpaijpdmeiagfaaDoor
open Go Go.RowKit Go.WideMaps Go.Proofs.Kk Go.Proofs.Tm Go.Proofs.Gg

/-- the shipped data in memory -/
def ShipAt (w : World) (n₀ D : Nat) : Prop := ∃ T0 T1 T2 T3, DataAt w n₀ D T0 T1 T2 T3 ∧ Shipped T0 T1 T2 T3
theorem ShipAt.below {w w' : World} {n₀ D N : Nat} (h : ShipAt w n₀ D) (hb : Below N w w') (hN : n₀ ≤ N) : ShipAt w' n₀ D := by
  obtain ⟨T0, T1, T2, T3, h, hs⟩ := h
  exact ⟨T0, T1, T2, T3, h.below hb hN, hs⟩
theorem ShipAt.mono {w : World} {n₀ n₁ D : Nat} (h : ShipAt w n₀ D) (hn : n₀ ≤ n₁) : ShipAt w n₁ D := by
  obtain ⟨T0, T1, T2, T3, h, hs⟩ := h
  exact ⟨T0, T1, T2, T3, h.mono hn, hs⟩
theorem ShipAt.heap {w w' : World} {n₀ D : Nat} (h : ShipAt w n₀ D) (hw : w'.heap = w.heap) : ShipAt w' n₀ D := by
  obtain ⟨T0, T1, T2, T3, h, hs⟩ := h
  exact ⟨T0, T1, T2, T3, h.heap hw, hs⟩

theorem new_ship (w : World) (hL : LaidS w) :
    Calls Tryd.prog 25 #[] w fun e w' => ∃ D, e = .returned (.pointer (some ⟨D, 0, none⟩)) ∧ ShipAt w' w'.heap.size D ∧ Below w.heap.size w w' :=
  (new_any w hL _ _ _ _ ⟨rfl, rfl, rfl, rfl⟩).mono fun e w' ⟨D, he, h, hb⟩ => ⟨D, he, ⟨_, _, _, _, h, ⟨rfl, rfl, rfl, rfl⟩⟩, hb⟩

theorem val_of {l : List P3} {m : Int} (h : ∀ x ∈ l, 0 ≤ x.lo ∧ x.hi ≤ 1114111 ∧ 0 ≤ x.v ∧ x.v ≤ m) {T : TD} (hT : T = tdOf (pval l)) (r : Int) : T.val r = pval l r := by
  rw [hT]
  exact tdOf_val_all l (fun x hx => by have := h x hx; omega) r

theorem sclus_any (w : World) (n₀ D : Nat) (r : Int) (h : ShipAt w n₀ D) :
    Calls Tryd.prog 31 #[.pointer (some ⟨D, 0, none⟩), .int .i64 r] w fun e w' => e = .returned (.int .i64 (clK r)) ∧ ∃ n', w' = w.drewN n' := by
  obtain ⟨T0, T1, T2, T3, h, h0, h1, h2, h3⟩ := h
  have e : dclu T0 r = clK r := by unfold dclu clK; rw [val_of rowsC_in h0]
  rw [← e]
  exact cluster_any w n₀ D T0 T1 T2 T3 r h
theorem sword_any (w : World) (n₀ D : Nat) (r : Int) (h : ShipAt w n₀ D) :
    Calls Tryd.prog 26 #[.pointer (some ⟨D, 0, none⟩), .int .i64 r] w fun e w' => e = .returned (.int .i64 (wdK r)) ∧ ∃ n', w' = w.drewN n' := by
  obtain ⟨T0, T1, T2, T3, h, h0, h1, h2, h3⟩ := h
  have e : T1.val r = wdK r := val_of rowsW_in h1 r
  rw [← e]
  exact word_any w n₀ D T0 T1 T2 T3 r h
theorem sscript_any (w : World) (n₀ D : Nat) (r : Int) (h : ShipAt w n₀ D) :
    Calls Tryd.prog 32 #[.pointer (some ⟨D, 0, none⟩), .int .i64 r] w fun e w' => e = .returned (.int .i64 (scK r)) ∧ ∃ n', w' = w.drewN n' := by
  obtain ⟨T0, T1, T2, T3, h, h0, h1, h2, h3⟩ := h
  have e : T2.val r = scK r := val_of rowsS_in h2 r
  rw [← e]
  exact script_any w n₀ D T0 T1 T2 T3 r h
theorem spicto_any (w : World) (n₀ D : Nat) (r : Int) (h : ShipAt w n₀ D) :
    Calls Tryd.prog 33 #[.pointer (some ⟨D, 0, none⟩), .int .i64 r] w fun e w' => e = .returned (.bool (piB r)) ∧ ∃ n', w' = w.drewN n' := by
  obtain ⟨T0, T1, T2, T3, h, h0, h1, h2, h3⟩ := h
  have e : dpic T3 r = piB r := by unfold dpic piB; rw [val_of rowsP_in h3]
  rw [← e]
  exact picto_any w n₀ D T0 T1 T2 T3 r h

set_option maxRecDepth 100000 in
set_option maxHeartbeats 2000000 in
theorem awake4_any (w : World) (hL : LaidS w) :
    Calls Tryd.prog 29 #[] w fun e w' => e = .returned (.bool true) ∧ Below w.heap.size w w' := by
  have k1 : Hid (clK 13 = 1) := by show clK 13 = 1; decide +kernel
  have k2 : Hid (clK 44033 = 13) := by show clK 44033 = 13; decide +kernel
  have k3 : Hid (wdK 65 = 10) := by show wdK 65 = 10; decide +kernel
  have k4 : Hid (scK 3585 = 2) := by show scK 3585 = 2; decide +kernel
  have k5 : Hid (piB 128512 = true) := by show piB 128512 = true; decide +kernel
  go_enter Tryd.func29, Tryd.ntmps29
  go_wp2_with (first
    | (go_at_call 25; refine (new_ship _ hL).mono ?_; rintro e w1 ⟨D, rfl, hs, hb⟩)
    | (go_at_call 31; refine (sclus_any _ _ D _ (by exact hs.heap rfl)).mono ?_; rintro e w2 ⟨he, n2, rfl⟩; (first | rw [k1.out] at he | rw [k2.out] at he); subst he)
    | (go_at_call 26; refine (sword_any _ _ D _ (by exact hs.heap rfl)).mono ?_; rintro e w2 ⟨he, n2, rfl⟩; rw [k3.out] at he; subst he)
    | (go_at_call 32; refine (sscript_any _ _ D _ (by exact hs.heap rfl)).mono ?_; rintro e w2 ⟨he, n2, rfl⟩; rw [k4.out] at he; subst he)
    | (go_at_call 33; refine (spicto_any _ _ D _ (by exact hs.heap rfl)).mono ?_; rintro e w2 ⟨he, n2, rfl⟩; rw [k5.out] at he; subst he))
  go_ret
  exact ⟨rfl, below_drewN hb _⟩
end Go.Proofs.YtpaijpdmeiagfaaDoor
