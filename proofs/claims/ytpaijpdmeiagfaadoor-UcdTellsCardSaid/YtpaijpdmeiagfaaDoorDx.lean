/- UcdTells: the walk. -/
import Derived.Test.YtpaijpdmeiagfaaDoorDu
import Derived.Test.YtpaijpdmeiagfaaDoorIt
set_option linter.unusedVariables false
set_option linter.unusedSimpArgs false
namespace Go.Proofs.YtpaijpdmeiagfaaDoor
open Go Go.RowKit Go.WideMaps Go.Proofs.Kk Go.Proofs.Tm Go.Proofs.Gg


set_option maxRecDepth 100000 in
set_option maxHeartbeats 8000000 in
theorem tells_good (v : Value) (zs : List Int) {w : World} (hL : LaidS w) (ht : IntsAt w w.heap.size v zs) :
    Calls Tryd.prog 4 #[v] w fun e w' => e = .returned (.bool true) ∧ Below w.heap.size w w' := by
  obtain ⟨ao, c, rfl⟩ := ht.form
  obtain ⟨_, hc1, hc2, _⟩ := ht.len
  go_enter Tryd.func4, Tryd.ntmps4
  go_wp2_with (first
    | (go_at_call 29; refine (awake4_any _ hL).mono ?_; rintro e w1 ⟨rfl, hb1⟩)
    | (go_at_call 25; refine (new_ship _ (hL.below hb1 hL.1)).mono ?_; rintro e w2 ⟨D, rfl, hs, hb2⟩))
  have hb0 : Below w.heap.size w w2 := hb1.trans (hb2.mono hb1.size)
  clear hb1 hb2
  go_loopw [5] (fun vi wr => ∃ k : Nat, k ≤ zs.length ∧ vi = .int .i64 k ∧ Below w2.heap.size w2 wr) (fun vi _ => zs.length - (intOf vi).toNat)
  case atStart => exact ⟨0, by omega, rfl, Below.refl _ _⟩
  case round =>
    obtain ⟨k, hk, rfl, hbr⟩ := hrel
    have hb0s := hb0.size
    have hall := hb0.trans (hbr.mono hb0s)
    by_cases hlt : k < zs.length ∧ k < 200
    · obtain ⟨hlt, h200⟩ := hlt
      have hk1 : (k : Int) < zs.length := by omega
      have hk0 : (0 : Int) ≤ k := by omega
      have hk2 : (k : Int) < 200 := by omega
      obtain ⟨b, off, rfl, hb, p1⟩ := (ht.below hall (Nat.le_refl _)).at_ hk0 hk1
      rw [Int.toNat_natCast] at p1
      have hS : Hid (∀ V, Below wr.heap.size wr V → ShipAt V w2.heap.size D) := fun V hV => hs.below (hbr.trans (hV.mono hbr.size)) (Nat.le_refl _)
      have hbw : Below wr.heap.size wr wr := Below.refl _ _
      clear ht
      generalize zs.getD k 0 = r at p1
      obtain ⟨yc, hyc⟩ : ∃ y, pval rowsC r = y := ⟨_, rfl⟩
      obtain ⟨yk, hyk⟩ : ∃ y, clK r = y := ⟨_, rfl⟩
      obtain ⟨yw, hyw⟩ : ∃ y, pval rowsW r = y := ⟨_, rfl⟩
      obtain ⟨ys, hys⟩ : ∃ y, pval rowsS r = y := ⟨_, rfl⟩
      obtain ⟨yp, hyp⟩ : ∃ y, pval rowsP r = y := ⟨_, rfl⟩
      have hck : yk = if r < 44032 ∨ 55203 < r then yc else if (r - 44032) % 28 = 0 then 12 else 13 := by rw [← hyk, ← hyc]; rfl
      have cC : Hid (clK r = yk) := hyk
      have cW : Hid (wdK r = yw) := hyw
      have cS : Hid (scK r = ys) := hys
      have cP : Hid (piB r = decide (yp ≠ 0)) := by rw [← hyp]; exact rfl
      have rC : Hid (pval (tabOf 0) r = yc) := hyc
      have rW : Hid (pval (tabOf 1) r = yw) := hyw
      have rS : Hid (pval (tabOf 2) r = ys) := hys
      have rP : Hid (pval (tabOf 3) r = yp) := hyp
      clear hyc hyk hyw hys hyp
      obtain ⟨pb, hpb⟩ : ∃ pb, pb = decide (yp ≠ 0) := ⟨_, rfl⟩
      have hpb2 : (yp != 0) = pb := by rw [hpb]; by_cases h : yp = 0 <;> simp [h]
      rw [← hpb] at cP
      clear hpb
      by_cases g1 : r < 44032
      · have e : yk = yc := by rw [hck, if_pos (.inl g1)]
        subst e
        clear hck
        go_wp2_with (first
          | (go_at_call 30; refine (rvalue_any _ _ _).mono ?_; rintro e w3 ⟨he, hb3⟩; have hbw := (by first | exact hbw.trans (hb3.mono hbw.size) | exact (below_drewN hbw _).trans (hb3.mono hbw.size)); (first | rw [rC.out] at he | rw [rW.out] at he | rw [rS.out] at he | rw [rP.out] at he); subst he)
          | (go_at_call 31; refine (sclus_any _ _ D _ (by exact (hS.out _ hbw).heap rfl)).mono ?_; rintro e w3 ⟨he, n3, rfl⟩; rw [cC.out] at he; subst he)
          | (go_at_call 26; refine (sword_any _ _ D _ (by exact (hS.out _ hbw).heap rfl)).mono ?_; rintro e w3 ⟨he, n3, rfl⟩; rw [cW.out] at he; subst he)
          | (go_at_call 32; refine (sscript_any _ _ D _ (by exact (hS.out _ hbw).heap rfl)).mono ?_; rintro e w3 ⟨he, n3, rfl⟩; rw [cS.out] at he; subst he)
          | (go_at_call 33; refine (spicto_any _ _ D _ (by exact (hS.out _ hbw).heap rfl)).mono ?_; rintro e w3 ⟨he, n3, rfl⟩; rw [cP.out] at he; subst he))
        go_roundw
        case rel => exact ⟨k + 1, by omega, by go_num, hbr.trans (hbw.mono hbr.size)⟩
        case measure => simp [intOf]; omega
      · have g2 : 44032 ≤ r := by omega
        by_cases g3 : 55203 < r
        · have e : yk = yc := by rw [hck, if_pos (.inr g3)]
          subst e
          clear hck g1
          go_wp2_with (first
          | (go_at_call 30; refine (rvalue_any _ _ _).mono ?_; rintro e w3 ⟨he, hb3⟩; have hbw := (by first | exact hbw.trans (hb3.mono hbw.size) | exact (below_drewN hbw _).trans (hb3.mono hbw.size)); (first | rw [rC.out] at he | rw [rW.out] at he | rw [rS.out] at he | rw [rP.out] at he); subst he)
          | (go_at_call 31; refine (sclus_any _ _ D _ (by exact (hS.out _ hbw).heap rfl)).mono ?_; rintro e w3 ⟨he, n3, rfl⟩; rw [cC.out] at he; subst he)
          | (go_at_call 26; refine (sword_any _ _ D _ (by exact (hS.out _ hbw).heap rfl)).mono ?_; rintro e w3 ⟨he, n3, rfl⟩; rw [cW.out] at he; subst he)
          | (go_at_call 32; refine (sscript_any _ _ D _ (by exact (hS.out _ hbw).heap rfl)).mono ?_; rintro e w3 ⟨he, n3, rfl⟩; rw [cS.out] at he; subst he)
          | (go_at_call 33; refine (spicto_any _ _ D _ (by exact (hS.out _ hbw).heap rfl)).mono ?_; rintro e w3 ⟨he, n3, rfl⟩; rw [cP.out] at he; subst he))
          go_roundw
          case rel => exact ⟨k + 1, by omega, by go_num, hbr.trans (hbw.mono hbr.size)⟩
          case measure => simp [intOf]; omega
        · have g4 : r ≤ 55203 := by omega
          rw [if_neg (by omega)] at hck
          clear g1 g3
          by_cases g5 : (r - 44032) % 28 = 0
          · rw [if_pos g5] at hck
            subst hck
            have g6 : (r - 44032).tmod 28 = 0 := by rw [Int.tmod_eq_emod_of_nonneg (by omega)]; exact g5
            go_wp2_with (first
          | (go_at_call 30; refine (rvalue_any _ _ _).mono ?_; rintro e w3 ⟨he, hb3⟩; have hbw := (by first | exact hbw.trans (hb3.mono hbw.size) | exact (below_drewN hbw _).trans (hb3.mono hbw.size)); (first | rw [rC.out] at he | rw [rW.out] at he | rw [rS.out] at he | rw [rP.out] at he); subst he)
          | (go_at_call 31; refine (sclus_any _ _ D _ (by exact (hS.out _ hbw).heap rfl)).mono ?_; rintro e w3 ⟨he, n3, rfl⟩; rw [cC.out] at he; subst he)
          | (go_at_call 26; refine (sword_any _ _ D _ (by exact (hS.out _ hbw).heap rfl)).mono ?_; rintro e w3 ⟨he, n3, rfl⟩; rw [cW.out] at he; subst he)
          | (go_at_call 32; refine (sscript_any _ _ D _ (by exact (hS.out _ hbw).heap rfl)).mono ?_; rintro e w3 ⟨he, n3, rfl⟩; rw [cS.out] at he; subst he)
          | (go_at_call 33; refine (spicto_any _ _ D _ (by exact (hS.out _ hbw).heap rfl)).mono ?_; rintro e w3 ⟨he, n3, rfl⟩; rw [cP.out] at he; subst he))
            go_roundw
            case rel => exact ⟨k + 1, by omega, by go_num, hbr.trans (hbw.mono hbr.size)⟩
            case measure => simp [intOf]; omega
          · rw [if_neg g5] at hck
            subst hck
            have g6 : (r - 44032).tmod 28 ≠ 0 := by rw [Int.tmod_eq_emod_of_nonneg (by omega)]; exact g5
            go_wp2_with (first
          | (go_at_call 30; refine (rvalue_any _ _ _).mono ?_; rintro e w3 ⟨he, hb3⟩; have hbw := (by first | exact hbw.trans (hb3.mono hbw.size) | exact (below_drewN hbw _).trans (hb3.mono hbw.size)); (first | rw [rC.out] at he | rw [rW.out] at he | rw [rS.out] at he | rw [rP.out] at he); subst he)
          | (go_at_call 31; refine (sclus_any _ _ D _ (by exact (hS.out _ hbw).heap rfl)).mono ?_; rintro e w3 ⟨he, n3, rfl⟩; rw [cC.out] at he; subst he)
          | (go_at_call 26; refine (sword_any _ _ D _ (by exact (hS.out _ hbw).heap rfl)).mono ?_; rintro e w3 ⟨he, n3, rfl⟩; rw [cW.out] at he; subst he)
          | (go_at_call 32; refine (sscript_any _ _ D _ (by exact (hS.out _ hbw).heap rfl)).mono ?_; rintro e w3 ⟨he, n3, rfl⟩; rw [cS.out] at he; subst he)
          | (go_at_call 33; refine (spicto_any _ _ D _ (by exact (hS.out _ hbw).heap rfl)).mono ?_; rintro e w3 ⟨he, n3, rfl⟩; rw [cP.out] at he; subst he))
            go_roundw
            case rel => exact ⟨k + 1, by omega, by go_num, hbr.trans (hbw.mono hbr.size)⟩
            case measure => simp [intOf]; omega
    · rcases (by omega : k = zs.length ∨ (k < zs.length ∧ 200 ≤ k)) with hk2 | ⟨hk2, hk3⟩
      · subst hk2
        clear hlt
        go_wp2
        go_ret
        exact ⟨rfl, hall⟩
      · have hk1 : (k : Int) < zs.length := by omega
        have hk0 : (200 : Int) ≤ k := by omega
        clear hlt
        go_wp2
        go_ret
        exact ⟨rfl, hall⟩

theorem ucdTells_walk (a0 : Option Addr) (n0 c0 : Nat) (z0 : List Int) {w : World} (h0 : IsRow .i64 w a0 n0 c0 z0) (hL : LaidS w) :
    Calls Tryd.prog 4 #[.slice a0 n0 c0] w fun e w' => e = .returned (.bool true) ∧ Below w.heap.size w w' :=
  tells_good _ _ hL (intsAt_of h0)
end Go.Proofs.YtpaijpdmeiagfaaDoor
