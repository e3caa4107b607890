/- UcdOutside: the walk. -/
import Derived.Test.YtpaijpdmeiagfaaDoorNa
set_option linter.unusedVariables false
set_option linter.unusedSimpArgs false
namespace Go.Proofs.YtpaijpdmeiagfaaDoor
open Go Go.RowKit Go.WideMaps Go.Proofs.Kk Go.Proofs.Tm Go.Proofs.Gg

set_option maxRecDepth 100000 in
set_option maxHeartbeats 4000000 in
theorem outside_in (r k m s : Int) (p : Bool) (g1 : 0 ≤ r) (g2 : r ≤ 1114111) (hkH : Hid (clK r = k)) (hmH : Hid (wdK r = m)) (hsH : Hid (scK r = s)) (hpH : Hid (piB r = p))
    (k0 : 0 ≤ k) (k1 : k ≤ 13) (m0 : 0 ≤ m) (m1 : m ≤ 18) (s0 : 0 ≤ s) (s1 : s ≤ 4) {w : World} (hL : LaidS w) :
    Calls Tryd.prog 8 #[.int .i64 r] w fun e w' => e = .returned (.bool true) ∧ Below w.heap.size w w' := by
  go_enter Tryd.func8, Tryd.ntmps8
  go_wp2_with (first
      | (go_at_call 29; refine (awake4_any _ hL).mono ?_; rintro e w1 ⟨rfl, hb1⟩)
      | (go_at_call 25; refine (new_ship _ (hL.below hb1 hL.1)).mono ?_; rintro e w2 ⟨D, rfl, hs, hb⟩)
      | (go_at_call 31; refine (sclus_any _ _ D _ (by exact hs.heap rfl)).mono ?_; rintro e w3 ⟨he, n3, rfl⟩; rw [hkH.out] at he; subst he)
      | (go_at_call 26; refine (sword_any _ _ D _ (by exact hs.heap rfl)).mono ?_; rintro e w3 ⟨he, n4, rfl⟩; rw [hmH.out] at he; subst he)
      | (go_at_call 32; refine (sscript_any _ _ D _ (by exact hs.heap rfl)).mono ?_; rintro e w3 ⟨he, n5, rfl⟩; rw [hsH.out] at he; subst he)
      | (go_at_call 33; refine (spicto_any _ _ D _ (by exact hs.heap rfl)).mono ?_; rintro e w3 ⟨he, n6, rfl⟩; rw [hpH.out] at he; subst he))
  go_ret
  exact ⟨rfl, by (repeat apply below_drewN); exact (hb1.trans (hb.mono hb1.size))⟩

set_option maxRecDepth 100000 in
set_option maxHeartbeats 4000000 in
theorem outside_low (r : Int) (g1 : r < 0) (hkH : Hid (clK r = 0)) (hmH : Hid (wdK r = 0)) (hsH : Hid (scK r = 0)) (hpH : Hid (piB r = false)) {w : World} (hL : LaidS w) :
    Calls Tryd.prog 8 #[.int .i64 r] w fun e w' => e = .returned (.bool true) ∧ Below w.heap.size w w' := by
  go_enter Tryd.func8, Tryd.ntmps8
  go_wp2_with (first
      | (go_at_call 29; refine (awake4_any _ hL).mono ?_; rintro e w1 ⟨rfl, hb1⟩)
      | (go_at_call 25; refine (new_ship _ (hL.below hb1 hL.1)).mono ?_; rintro e w2 ⟨D, rfl, hs, hb⟩)
      | (go_at_call 31; refine (sclus_any _ _ D _ (by exact hs.heap rfl)).mono ?_; rintro e w3 ⟨he, n3, rfl⟩; rw [hkH.out] at he; subst he)
      | (go_at_call 26; refine (sword_any _ _ D _ (by exact hs.heap rfl)).mono ?_; rintro e w3 ⟨he, n4, rfl⟩; rw [hmH.out] at he; subst he)
      | (go_at_call 32; refine (sscript_any _ _ D _ (by exact hs.heap rfl)).mono ?_; rintro e w3 ⟨he, n5, rfl⟩; rw [hsH.out] at he; subst he)
      | (go_at_call 33; refine (spicto_any _ _ D _ (by exact hs.heap rfl)).mono ?_; rintro e w3 ⟨he, n6, rfl⟩; rw [hpH.out] at he; subst he))
  go_ret
  exact ⟨rfl, by (repeat apply below_drewN); exact (hb1.trans (hb.mono hb1.size))⟩

set_option maxRecDepth 100000 in
set_option maxHeartbeats 4000000 in
theorem outside_high (r : Int) (g1 : 1114111 < r) (g0 : 0 ≤ r) (hkH : Hid (clK r = 0)) (hmH : Hid (wdK r = 0)) (hsH : Hid (scK r = 0)) (hpH : Hid (piB r = false)) {w : World} (hL : LaidS w) :
    Calls Tryd.prog 8 #[.int .i64 r] w fun e w' => e = .returned (.bool true) ∧ Below w.heap.size w w' := by
  go_enter Tryd.func8, Tryd.ntmps8
  go_wp2_with (first
      | (go_at_call 29; refine (awake4_any _ hL).mono ?_; rintro e w1 ⟨rfl, hb1⟩)
      | (go_at_call 25; refine (new_ship _ (hL.below hb1 hL.1)).mono ?_; rintro e w2 ⟨D, rfl, hs, hb⟩)
      | (go_at_call 31; refine (sclus_any _ _ D _ (by exact hs.heap rfl)).mono ?_; rintro e w3 ⟨he, n3, rfl⟩; rw [hkH.out] at he; subst he)
      | (go_at_call 26; refine (sword_any _ _ D _ (by exact hs.heap rfl)).mono ?_; rintro e w3 ⟨he, n4, rfl⟩; rw [hmH.out] at he; subst he)
      | (go_at_call 32; refine (sscript_any _ _ D _ (by exact hs.heap rfl)).mono ?_; rintro e w3 ⟨he, n5, rfl⟩; rw [hsH.out] at he; subst he)
      | (go_at_call 33; refine (spicto_any _ _ D _ (by exact hs.heap rfl)).mono ?_; rintro e w3 ⟨he, n6, rfl⟩; rw [hpH.out] at he; subst he))
  go_ret
  exact ⟨rfl, by (repeat apply below_drewN); exact (hb1.trans (hb.mono hb1.size))⟩

theorem ucdOutside_walk (r : Int) (_hr : -9223372036854775808 ≤ r ∧ r ≤ 9223372036854775807) {w : World} (hL : LaidS w) :
    Calls Tryd.prog 8 #[.int .i64 r] w fun e w' => e = .returned (.bool true) ∧ Below w.heap.size w w' := by
  by_cases h : r < 0 ∨ 1114111 < r
  · obtain ⟨h1, h2, h3, h4⟩ := law_outside r h
    by_cases g : r < 0
    · exact outside_low r g h1 h2 h3 h4 hL
    · exact outside_high r (by omega) (by omega) h1 h2 h3 h4 hL
  · have a := clK_rng r
    have b := wdK_rng r
    have c := scK_rng r
    exact outside_in r _ _ _ _ (by omega) (by omega) rfl rfl rfl rfl a.1 a.2 b.1 b.2 c.1 c.2 hL
end Go.Proofs.YtpaijpdmeiagfaaDoor
