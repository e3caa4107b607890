/- The document's clusters: odd, pictured. -/
import Derived.Test.YtpaijpdmeiagfaaDoorDw
import Derived.Test.YtpaijpdmeiagfaaDoorCa
set_option linter.unusedVariables false
set_option linter.unusedSimpArgs false
namespace Go.Proofs.YtpaijpdmeiagfaaDoor
open Go Go.RowKit Go.WideMaps Go.Proofs.Kk Go.Proofs.Tm Go.Proofs.Gg Go.Proofs.Tx

theorem beq1 (n : Nat) : ((n : Int) % 2 == 1) = (n % 2 == 1) := by
  rw [Bool.eq_iff_iff, beq_iff_eq, beq_iff_eq]; omega

set_option maxRecDepth 100000 in
set_option maxHeartbeats 4000000 in
theorem rodd_any (w : World) (n₀ D : Nat) (v : Value) (zs : List Int) (i : Int) (hs : RShipAt w n₀ D) (ht : IntsAt w n₀ v zs) (h0 : 0 < i) (h1 : i ≤ zs.length) :
    Calls Tryd.prog 74 #[.pointer (some ⟨D, 0, none⟩), v, .int .i64 i] w fun e w' => e = .returned (.bool (flagsN (ahd (sgC zs) i) 6 % 2 == 1)) ∧ ∃ n', w' = w.drewN n' := by
  obtain ⟨ao, c, rfl⟩ := ht.form
  obtain ⟨_, hc1, hc2, _⟩ := ht.len
  obtain ⟨r, hr⟩ : ∃ r, r = flagsN (ahd (sgC zs) i) 6 := ⟨_, rfl⟩
  rw [← hr]
  have hrH := Lib.hid hr
  clear hr
  have hi2 : i ≤ 9223372036854775807 := by omega
  have hf1 := Lib.hid (beq1 r)
  go_enter Tryd.func74, Tryd.ntmps74
  go_wp2
  go_loopw [7] (fun n wr => ∃ m : Int, 0 ≤ m ∧ m ≤ i ∧ n = .int .i64 m ∧ Hid ((r : Int) = m + flagsN (ahd (sgC zs) (i - m)) 6) ∧ ∃ n', wr = w.drewN n') (fun n _ => (i - intOf n).toNat)
  case atStart => exact ⟨0, by omega, by omega, rfl, by rw [hrH.out, Int.sub_zero, Int.zero_add]; exact rfl, 0, rfl⟩
  case round =>
    obtain ⟨m, hm0, hm1, rfl, hq, n', rfl⟩ := hrel
    by_cases hm : m < i
    · obtain ⟨b', off', rfl, hb', p1⟩ := ht.at_ (i := i - 1 - m) (by omega) (by omega)
      have hst := flags_step (zs := zs) (k := i - m) (by omega) (by omega)
      rw [show i - m - 1 = i - 1 - m by omega] at hst
      generalize zs.getD (i - 1 - m).toNat 0 = z at p1 hst
      obtain ⟨k, hk⟩ : ∃ k, k = clK z := ⟨_, rfl⟩
      rw [← hk] at hst
      have hkH := Lib.hid hk
      have hq1 : (0 : Int) ≤ i - 1 - m := by omega
      have hq2 : i - 1 - m < zs.length := by omega
      by_cases h6 : k = 6
      · subst h6
        have hq' : Hid ((r : Int) = m + 1 + flagsN (ahd (sgC zs) (i - (m + 1))) 6) := by
          rw [hq.out, hst, if_pos rfl, show i - (m + 1) = i - 1 - m by omega]
          show _ = _
          omega
        clear hst hq hk
        go_wp2_with (go_at_call 39; refine (rclus_any _ _ D _ (by exact hs.heap rfl)).mono ?_; rintro e w1 ⟨he, n1, rfl⟩; rw [← hkH.out] at he; subst he)
        go_roundw
        case rel => exact ⟨m + 1, by omega, by omega, rfl, hq', _, rfl⟩
        case measure => simp [intOf]; omega
      · have hq' : Hid ((r : Int) = m) := by rw [hq.out, hst, if_neg h6]; show _ = _; omega
        have hfm : m.tmod 2 = m % 2 := Int.tmod_eq_emod_of_nonneg hm0
        have e6 : (k == 6) = false := by simpa using h6
        clear hst hq hk h6
        go_wp2_with (go_at_call 39; refine (rclus_any _ _ D _ (by exact hs.heap rfl)).mono ?_; rintro e w1 ⟨he, n1, rfl⟩; rw [← hkH.out] at he; subst he)
        go_ret
        exact ⟨by rw [← hf1.out, hq'.out]; rfl, _, rfl⟩
    · obtain rfl : m = i := by omega
      have hq' : Hid ((r : Int) = m) := by rw [hq.out, ahd_zero (by omega)]; show _ = _; simp [flagsN]
      have hfm : m.tmod 2 = m % 2 := Int.tmod_eq_emod_of_nonneg hm0
      clear hq
      go_wp2
      go_ret
      exact ⟨by rw [← hf1.out, hq'.out]; rfl, _, rfl⟩

set_option maxRecDepth 100000 in
set_option maxHeartbeats 4000000 in
theorem rpict_any (w : World) (n₀ D : Nat) (v : Value) (zs : List Int) (i : Int) (hs : RShipAt w n₀ D) (ht : IntsAt w n₀ v zs) (h0 : 0 < i) (h1 : i ≤ zs.length) :
    Calls Tryd.prog 75 #[.pointer (some ⟨D, 0, none⟩), v, .int .i64 i] w fun e w' => e = .returned (.bool (pict (ahd (sgC zs) i))) ∧ ∃ n', w' = w.drewN n' := by
  obtain ⟨ao, c, rfl⟩ := ht.form
  obtain ⟨_, hc1, hc2, _⟩ := ht.len
  have hp := pict_step h0 h1
  by_cases hi1 : i = 1
  · subst hi1
    have e : pict (ahd (sgC zs) 1) = false := by
      rw [hp, show (1 : Int) - 1 = 0 by omega, ahd_zero (by omega), scan_nil, Bool.and_false]
    rw [e]
    clear e hp
    go_enter Tryd.func75, Tryd.ntmps75
    go_wp2
    go_ret
    exact ⟨rfl, 0, rfl⟩
  have hi2 : 2 ≤ i := by omega
  clear hi1
  obtain ⟨b, off, rfl, hb, p1⟩ := ht.at_ (i := i - 1) (by omega) (by omega)
  have en : (i - 1).toNat = i.toNat - 1 := by omega
  rw [en] at p1 hp
  clear en
  obtain ⟨k, hk⟩ : ∃ k, k = clK (zs.getD (i.toNat - 1) 0) := ⟨_, rfl⟩
  rw [← hk] at hp
  generalize zs.getD (i.toNat - 1) 0 = z at p1 hk
  obtain ⟨r, hr⟩ : ∃ r, r = pict (ahd (sgC zs) i) := ⟨_, rfl⟩
  rw [← hr] at hp ⊢
  have hkH := Lib.hid hk
  clear hk hr
  have hi3 : i ≤ 9223372036854775807 := by omega
  by_cases h5 : k = 5
  · subst h5
    simp only [decide_true, Bool.true_and] at hp
    have hpH : Hid (r = scanTo zs (i - 2)) := by rw [hp]; unfold scanTo; rw [show i - 2 + 1 = i - 1 by omega]; exact rfl
    clear hp
    go_enter Tryd.func75, Tryd.ntmps75
    go_wp2_with (go_at_call 39; refine (rclus_any _ _ D _ (by exact hs.heap rfl)).mono ?_; rintro e w1 ⟨he, n1, rfl⟩; rw [← hkH.out] at he; subst he)
    clear p1
    go_loopw [7] (fun k wr => ∃ m : Int, -1 ≤ m ∧ m ≤ i - 2 ∧ k = .int .i64 m ∧ Hid (r = scanTo zs m) ∧ ∃ n', wr = w.drewN n') (fun k _ => (intOf k + 1).toNat)
    case atStart => exact ⟨i - 2, by omega, by omega, rfl, hpH, _, rfl⟩
    case round =>
      obtain ⟨m, hm0, hm1, rfl, hq, n', rfl⟩ := hrel
      by_cases hm : 0 ≤ m
      · obtain ⟨b', off', ha, hb', p1⟩ := ht.at_ (i := m) hm (by omega)
        cases ha
        have hst := scan_step (zs := zs) hm (by omega)
        generalize zs.getD m.toNat 0 = z at p1 hst
        obtain ⟨p, hp⟩ : ∃ p, p = piB z := ⟨_, rfl⟩
        obtain ⟨k, hk⟩ : ∃ k, k = clK z := ⟨_, rfl⟩
        rw [← hp, ← hk] at hst
        have hkH := Lib.hid hk
        have hpH := Lib.hid hp
        have hmm : (0 : Int) ≤ m - 1 + 1 := by omega
        have hst' : Hid (scanTo zs m = if p then true else if k = 4 then scanTo zs (m - 1) else false) := by
          show scan (ahd (sgC zs) (m + 1)) = _
          rw [hst]; unfold scanTo; rw [Int.sub_add_cancel]
        clear hst hk hp
        cases p with
        | true =>
          have hq' : Hid (r = true) := by rw [hq.out, hst'.out]; exact rfl
          clear hst' hq
          go_wp2_with (go_at_call 42; refine (rrpicto_any _ _ D _ (by exact hs.heap rfl)).mono ?_; rintro e w1 ⟨he, n1, rfl⟩; rw [← hpH.out] at he; subst he)
          go_ret
          exact ⟨by rw [hq'.out]; rfl, _, rfl⟩
        | false =>
          by_cases h4 : k = 4
          · subst h4
            have hq' : Hid (r = scanTo zs (m - 1)) := by rw [hq.out, hst'.out]; exact rfl
            clear hst' hq
            go_wp2_with (first
              | (go_at_call 42; refine (rrpicto_any _ _ D _ (by exact hs.heap rfl)).mono ?_; rintro e w1 ⟨he, n1, rfl⟩; rw [← hpH.out] at he; subst he)
              | (go_at_call 39; refine (rclus_any _ _ D _ (by exact hs.heap rfl)).mono ?_; rintro e w1 ⟨he, n2, rfl⟩; rw [← hkH.out] at he; subst he))
            go_roundw
            case rel => exact ⟨m - 1, by omega, by omega, rfl, hq', _, rfl⟩
            case measure => simp [intOf]; omega
          · have hq' : Hid (r = false) := by rw [hq.out, hst'.out, if_neg (by simp), if_neg h4]; exact rfl
            clear hst' hq
            go_wp2_with (first
              | (go_at_call 42; refine (rrpicto_any _ _ D _ (by exact hs.heap rfl)).mono ?_; rintro e w1 ⟨he, n1, rfl⟩; rw [← hpH.out] at he; subst he)
              | (go_at_call 39; refine (rclus_any _ _ D _ (by exact hs.heap rfl)).mono ?_; rintro e w1 ⟨he, n2, rfl⟩; rw [← hkH.out] at he; subst he))
            go_ret
            exact ⟨by rw [hq'.out]; rfl, _, rfl⟩
      · obtain rfl : m = -1 := by omega
        have hq' : Hid (r = false) := by rw [hq.out, scanTo_neg]; exact rfl
        clear hq
        go_wp2
        go_ret
        exact ⟨by rw [hq'.out]; rfl, _, rfl⟩
  · have hp' : r = false := by rw [hp, decide_eq_false h5]; rfl
    subst hp'
    have e5 : (k != 5) = true := by simpa using h5
    clear hp h5
    go_enter Tryd.func75, Tryd.ntmps75
    go_wp2_with (go_at_call 39; refine (rclus_any _ _ D _ (by exact hs.heap rfl)).mono ?_; rintro e w1 ⟨he, n1, rfl⟩; rw [← hkH.out] at he; subst he)
    go_ret
    exact ⟨rfl, _, rfl⟩
end Go.Proofs.YtpaijpdmeiagfaaDoor
