/- UcdHangul, UcdMarks, UcdOutside: the walks. -/
import Derived.Test.YtpaijpdmeiagfaaDoorNa
namespace Go.Proofs.YtpaijpdmeiagfaaDoor
open Go Go.RowKit Go.WideMaps Go.Proofs.Kk Go.Proofs.Tm Go.Proofs.Gg

set_option maxRecDepth 100000 in
set_option maxHeartbeats 4000000 in
theorem ucdHangul_walk (r : Int) (_hr : -9223372036854775808 ≤ r ∧ r ≤ 9223372036854775807) {w : World} (hL : LaidS w) :
    Calls Tryd.prog 6 #[.int .i64 r] w fun e w' => e = .returned (.bool true) ∧ Below w.heap.size w w' := by
  have hlaw := law_hangul r
  have hrng := clK_rng r
  obtain ⟨k, hk⟩ : ∃ k, k = clK r := ⟨_, rfl⟩
  rw [← hk] at hlaw hrng
  have hkH := Lib.hid hk
  clear hk
  by_cases g1 : r < 44032
  · have n12 : k ≠ 12 := by omega
    have n13 : k ≠ 13 := by omega
    clear hlaw
    go_enter Tryd.func6, Tryd.ntmps6
    go_wp2_with (first
      | (go_at_call 29; refine (awake4_any _ hL).mono ?_; rintro e w1 ⟨rfl, hb1⟩)
      | (go_at_call 25; refine (new_ship _ (hL.below hb1 hL.1)).mono ?_; rintro e w2 ⟨D, rfl, hs, hb⟩)
      | (go_at_call 31; refine (sclus_any _ _ D _ (by exact hs.heap rfl)).mono ?_; rintro e w3 ⟨he, n3, rfl⟩; rw [← hkH.out] at he; subst he))
    go_ret
    exact ⟨(by simp [n12, n13]), below_drewN (hb1.trans (hb.mono hb1.size)) _⟩
  · by_cases g2 : 55203 < r
    · have n12 : k ≠ 12 := by omega
      have n13 : k ≠ 13 := by omega
      have g3 : 44032 ≤ r := by omega
      clear hlaw g1
      go_enter Tryd.func6, Tryd.ntmps6
      go_wp2_with (first
        | (go_at_call 29; refine (awake4_any _ hL).mono ?_; rintro e w1 ⟨rfl, hb1⟩)
        | (go_at_call 25; refine (new_ship _ (hL.below hb1 hL.1)).mono ?_; rintro e w2 ⟨D, rfl, hs, hb⟩)
        | (go_at_call 31; refine (sclus_any _ _ D _ (by exact hs.heap rfl)).mono ?_; rintro e w3 ⟨he, n3, rfl⟩; rw [← hkH.out] at he; subst he))
      · go_ret
        exact ⟨(by simp [n12]), below_drewN (hb1.trans (hb.mono hb1.size)) _⟩
      · exfalso
        rename_i hh
        exact hh (by rw [beq_eq_false_iff_ne.2 n12, beq_eq_false_iff_ne.2 n13]; symm; simp; omega)
    · have g3 : 44032 ≤ r := by omega
      have g4 : r ≤ 55203 := by omega
      by_cases g5 : (r - 44032) % 28 = 0
      · have e12 : k = 12 := by omega
        have g6 : (r - 44032).tmod 28 = 0 := by rw [Int.tmod_eq_emod_of_nonneg (by omega)]; exact g5
        clear hlaw hrng g1 g2 g5
        subst e12
        go_enter Tryd.func6, Tryd.ntmps6
        go_wp2_with (first
          | (go_at_call 29; refine (awake4_any _ hL).mono ?_; rintro e w1 ⟨rfl, hb1⟩)
          | (go_at_call 25; refine (new_ship _ (hL.below hb1 hL.1)).mono ?_; rintro e w2 ⟨D, rfl, hs, hb⟩)
          | (go_at_call 31; refine (sclus_any _ _ D _ (by exact hs.heap rfl)).mono ?_; rintro e w3 ⟨he, n3, rfl⟩; rw [← hkH.out] at he; subst he))
        go_ret
        exact ⟨rfl, below_drewN (hb1.trans (hb.mono hb1.size)) _⟩
      · have e13 : k = 13 := by omega
        clear hlaw hrng g1 g2
        subst e13
        go_enter Tryd.func6, Tryd.ntmps6
        go_wp2_with (first
          | (go_at_call 29; refine (awake4_any _ hL).mono ?_; rintro e w1 ⟨rfl, hb1⟩)
          | (go_at_call 25; refine (new_ship _ (hL.below hb1 hL.1)).mono ?_; rintro e w2 ⟨D, rfl, hs, hb⟩)
          | (go_at_call 31; refine (sclus_any _ _ D _ (by exact hs.heap rfl)).mono ?_; rintro e w3 ⟨he, n3, rfl⟩; rw [← hkH.out] at he; subst he))
        go_ret
        exact ⟨(by simp [g5]), below_drewN (hb1.trans (hb.mono hb1.size)) _⟩

/-- what an unknown number's comparison comes to -/
theorem split_eq (k c : Int) : k = c ∨ k ≠ c := Classical.em _

set_option maxRecDepth 100000 in
set_option maxHeartbeats 4000000 in
theorem ucdMarks_walk (r : Int) (_hr : -9223372036854775808 ≤ r ∧ r ≤ 9223372036854775807) {w : World} (hL : LaidS w) :
    Calls Tryd.prog 7 #[.int .i64 r] w fun e w' => e = .returned (.bool true) ∧ Below w.heap.size w w' := by
  have l1 := law_marks r
  have l2 := law_script r
  obtain ⟨k, hk⟩ : ∃ k, k = clK r := ⟨_, rfl⟩
  obtain ⟨m, hm⟩ : ∃ m, m = wdK r := ⟨_, rfl⟩
  obtain ⟨s, hs0⟩ : ∃ s, s = scK r := ⟨_, rfl⟩
  rw [← hk, ← hm] at l1
  rw [← hs0, ← hm] at l2
  have hkH := Lib.hid hk
  have hmH := Lib.hid hm
  have hsH := Lib.hid hs0
  clear hk hm hs0
  by_cases c1 : k = 4
  · have c2 : m = 4 := l1 c1
    clear l1 l2
    subst c1 c2
    go_enter Tryd.func7, Tryd.ntmps7
    by_cases c3 : s = 0
    · subst c3
      go_wp2_with (first
        | (go_at_call 29; refine (awake4_any _ hL).mono ?_; rintro e w1 ⟨rfl, hb1⟩)
        | (go_at_call 25; refine (new_ship _ (hL.below hb1 hL.1)).mono ?_; rintro e w2 ⟨D, rfl, hs, hb⟩)
        | (go_at_call 31; refine (sclus_any _ _ D _ (by exact hs.heap rfl)).mono ?_; rintro e w3 ⟨he, n3, rfl⟩; rw [← hkH.out] at he; subst he)
        | (go_at_call 26; refine (sword_any _ _ D _ (by exact hs.heap rfl)).mono ?_; rintro e w3 ⟨he, n4, rfl⟩; rw [← hmH.out] at he; subst he)
        | (go_at_call 32; refine (sscript_any _ _ D _ (by exact hs.heap rfl)).mono ?_; rintro e w3 ⟨he, n5, rfl⟩; rw [← hsH.out] at he; subst he))
      go_ret
      exact ⟨rfl, by (repeat apply below_drewN); exact (hb1.trans (hb.mono hb1.size))⟩
    · go_wp2_with (first
        | (go_at_call 29; refine (awake4_any _ hL).mono ?_; rintro e w1 ⟨rfl, hb1⟩)
        | (go_at_call 25; refine (new_ship _ (hL.below hb1 hL.1)).mono ?_; rintro e w2 ⟨D, rfl, hs, hb⟩)
        | (go_at_call 31; refine (sclus_any _ _ D _ (by exact hs.heap rfl)).mono ?_; rintro e w3 ⟨he, n3, rfl⟩; rw [← hkH.out] at he; subst he)
        | (go_at_call 26; refine (sword_any _ _ D _ (by exact hs.heap rfl)).mono ?_; rintro e w3 ⟨he, n4, rfl⟩; rw [← hmH.out] at he; subst he)
        | (go_at_call 32; refine (sscript_any _ _ D _ (by exact hs.heap rfl)).mono ?_; rintro e w3 ⟨he, n5, rfl⟩; rw [← hsH.out] at he; subst he))
      go_ret
      exact ⟨rfl, by (repeat apply below_drewN); exact (hb1.trans (hb.mono hb1.size))⟩
  · clear l1
    go_enter Tryd.func7, Tryd.ntmps7
    by_cases c3 : s = 0
    · subst c3
      clear l2
      go_wp2_with (first
        | (go_at_call 29; refine (awake4_any _ hL).mono ?_; rintro e w1 ⟨rfl, hb1⟩)
        | (go_at_call 25; refine (new_ship _ (hL.below hb1 hL.1)).mono ?_; rintro e w2 ⟨D, rfl, hs, hb⟩)
        | (go_at_call 31; refine (sclus_any _ _ D _ (by exact hs.heap rfl)).mono ?_; rintro e w3 ⟨he, n3, rfl⟩; rw [← hkH.out] at he; subst he)
        | (go_at_call 32; refine (sscript_any _ _ D _ (by exact hs.heap rfl)).mono ?_; rintro e w3 ⟨he, n5, rfl⟩; rw [← hsH.out] at he; subst he))
      go_ret
      exact ⟨rfl, by (repeat apply below_drewN); exact (hb1.trans (hb.mono hb1.size))⟩
    · have c4 : m ≠ 16 := by omega
      have c5 : m ≠ 18 := by omega
      clear l2
      go_wp2_with (first
        | (go_at_call 29; refine (awake4_any _ hL).mono ?_; rintro e w1 ⟨rfl, hb1⟩)
        | (go_at_call 25; refine (new_ship _ (hL.below hb1 hL.1)).mono ?_; rintro e w2 ⟨D, rfl, hs, hb⟩)
        | (go_at_call 31; refine (sclus_any _ _ D _ (by exact hs.heap rfl)).mono ?_; rintro e w3 ⟨he, n3, rfl⟩; rw [← hkH.out] at he; subst he)
        | (go_at_call 26; refine (sword_any _ _ D _ (by exact hs.heap rfl)).mono ?_; rintro e w3 ⟨he, n4, rfl⟩; rw [← hmH.out] at he; subst he)
        | (go_at_call 32; refine (sscript_any _ _ D _ (by exact hs.heap rfl)).mono ?_; rintro e w3 ⟨he, n5, rfl⟩; rw [← hsH.out] at he; subst he))
      go_ret
      exact ⟨by simp [c4, c5], by (repeat apply below_drewN); exact (hb1.trans (hb.mono hb1.size))⟩
end Go.Proofs.YtpaijpdmeiagfaaDoor
