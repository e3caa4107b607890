/- Clusters: awake; ClusterLocal, ClusterFlags. -/
import Derived.Test.YtpaijpdmeiagfaaDoorCb
import Derived.Test.YtpaijpdmeiagfaaDoorSi
import Derived.Test.YtpaijpdmeiagfaaDoorAp
set_option linter.unusedVariables false
set_option linter.unusedSimpArgs false
namespace Go.Proofs.YtpaijpdmeiagfaaDoor
open Go Go.RowKit Go.WideMaps Go.Proofs.Kk Go.Proofs.Tm Go.Proofs.Gg Go.Proofs.Tx

/-- All, as the slice that it hands back -/
theorem call_at (w : World) (D : Nat) (v : Value) (zs : List Int) (hsm : zs.length ≤ 1000000) (hs : ShipAt w w.heap.size D) (ht : IntsAt w w.heap.size v zs) :
    Calls Tryd.prog 44 #[.pointer (some ⟨D, 0, none⟩), v] w fun e w' => ∃ u, e = .returned u ∧ IntsAt w' w'.heap.size u (plI cf (sgC zs)) ∧ Below w.heap.size w w' :=
  (call_any w D v zs (by omega) hs ht).mono fun e w' ⟨u, he, hrow, hb⟩ => ⟨u, he, IntsAt.of_own hrow (fun z hz => by have := plI_rng z hz; rw [sgC_length] at this; omega), hb⟩

theorem awake5_pl : plI cf (sgC [65, 769, 66]) = [0, 2, 3] := by decide +kernel

set_option maxRecDepth 100000 in
set_option maxHeartbeats 2000000 in
theorem awake5_any (w : World) (hL : LaidS w) :
    Calls Tryd.prog 43 #[] w fun e w' => e = .returned (.bool true) ∧ Below w.heap.size w w' := by
  have hpl := Lib.hid awake5_pl
  go_enter Tryd.func43, Tryd.ntmps43
  go_wp2_with (first
    | (go_at_call 25; refine (new_ship _ hL).mono ?_; rintro e w1 ⟨D, rfl, hs, hb⟩)
    | (go_at_call 44; refine (call_at _ D _ [65, 769, 66] (by simp) (by exact (hs.below ((Below.refl _ _).alloc (Nat.le_refl _) _) (Nat.le_refl _)).mono (by simp)) (by exact lit_at w1 [65, 769, 66] 3 (isI_of rfl) (by simp))).mono ?_; rw [hpl.out]; rintro e w2 ⟨u, rfl, hu, hb2⟩)
    | (go_at_call 27; refine (sameInts_any _ _ [0, 2, 3] _ _ (by exact (hu.below ((Below.refl _ _).alloc (Nat.le_refl _) _) (Nat.le_refl _)).mono (Nat.le_succ _)) (by exact (lit_at w2 [0, 2, 3] 3 (isI_of rfl) (by simp)).mono (by simp))).mono ?_; rintro e w3 ⟨rfl, n3, rfl⟩))
  go_ret
  refine ⟨rfl, below_drewN ((hb.trans ((((Below.refl _ w1).alloc (Nat.le_refl _) _).trans (hb2.mono (by simp))).mono hb.size)).trans (((Below.refl _ w2).alloc (Nat.le_refl _) _).mono ?_)) _⟩
  have h1 := hb.size
  have h2 := hb2.size
  simp at h2; omega
end Go.Proofs.YtpaijpdmeiagfaaDoor
