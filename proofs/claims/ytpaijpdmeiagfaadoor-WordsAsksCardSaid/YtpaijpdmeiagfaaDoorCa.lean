/- Clusters: the code's Break. -/
import Derived.Test.YtpaijpdmeiagfaaDoorNa
import Derived.Test.YtpaijpdmeiagfaaDoorIt
import Derived.Test.YtpaijpdmeiagfaaDoorPt
import Derived.WalkMore
import Derived.BigQuiet
import Derived.Deep.LoopGhost
set_option linter.unusedVariables false
set_option linter.unusedSimpArgs false
namespace Go.Proofs.YtpaijpdmeiagfaaDoor
open Go Go.RowKit Go.WideMaps Go.Proofs.Kk Go.Proofs.Tm Go.Proofs.Gg Go.Proofs.Tx

set_option maxRecDepth 100000 in
set_option maxHeartbeats 1000000 in
theorem steers_any (k : Int) (w : World) : Calls Tryd.prog 70 #[.int .i64 k] w fun e w' => e = .returned (.bool (steers k)) ∧ w' = w := by
  have e : steers k = if 1 ≤ k then decide (k ≤ 3) else false := by unfold steers; by_cases h : 1 ≤ k <;> simp [h]
  rw [e]
  by_cases h1 : 1 ≤ k
  · by_cases h2 : k ≤ 3
    · rw [if_pos h1, decide_eq_true h2]
      clear e
      go_enter Tryd.func70, Tryd.ntmps70
      go_wp2
      go_ret
      exact ⟨rfl, rfl⟩
    · rw [if_pos h1, decide_eq_false h2]
      clear e
      go_enter Tryd.func70, Tryd.ntmps70
      go_wp2
      go_ret
      exact ⟨rfl, rfl⟩
  · rw [if_neg h1]
    clear e
    go_enter Tryd.func70, Tryd.ntmps70
    go_wp2
    go_ret
    exact ⟨rfl, rfl⟩

set_option maxRecDepth 100000 in
set_option maxHeartbeats 1000000 in
theorem hangul_any (a b : Int) (w : World) : Calls Tryd.prog 71 #[.int .i64 a, .int .i64 b] w fun e w' => e = .returned (.bool (hangulB a b)) ∧ w' = w := by
  obtain ⟨r, hr⟩ : ∃ r, r = hangulB a b := ⟨_, rfl⟩
  rw [← hr]
  have hrH := Lib.hid hr
  clear hr
  go_enter Tryd.func71, Tryd.ntmps71
  go_wp2
  all_goals
    go_ret
    refine ⟨?_, rfl⟩
    rw [hrH.out]
    unfold hangulB
    simp_all

theorem scan_nil : scan [] = false := rfl
/-- what a scan has still to tell -/
def scanTo (zs : List Int) (k : Int) : Bool := scan (ahd (sgC zs) (k + 1))
theorem scanTo_neg (zs : List Int) : scanTo zs (-1) = false := by unfold scanTo; rw [ahd_zero (by omega)]; rfl

set_option maxRecDepth 100000 in
set_option maxHeartbeats 4000000 in
theorem pictured_any (w : World) (n₀ D : Nat) (v : Value) (zs : List Int) (i : Int) (hs : ShipAt w n₀ D) (ht : IntsAt w n₀ v zs) (h0 : 0 < i) (h1 : i ≤ zs.length) :
    Calls Tryd.prog 72 #[.pointer (some ⟨D, 0, none⟩), v, .int .i64 i] w fun e w' => e = .returned (.bool (pict (ahd (sgC zs) i))) ∧ ∃ n', w' = w.drewN n' := by
  obtain ⟨ao, c, rfl⟩ := ht.form
  obtain ⟨_, hc1, hc2, _⟩ := ht.len
  have hp := pict_step h0 h1
  obtain ⟨b, off, rfl, hb, p1⟩ := ht.at_ (i := i - 1) (by omega) (by omega)
  have en : (i - 1).toNat = i.toNat - 1 := by omega
  rw [en] at p1 hp
  clear en
  obtain ⟨k, hk⟩ : ∃ k, k = clK (zs.getD (i.toNat - 1) 0) := ⟨_, rfl⟩
  rw [← hk] at hp
  generalize zs.getD (i.toNat - 1) 0 = z at p1 hk
  obtain ⟨r, hr⟩ : ∃ r, r = pict (ahd (sgC zs) i) := ⟨_, rfl⟩
  rw [← hr] at hp ⊢
  have hkH := Lib.hid hk
  clear hk hr
  by_cases h5 : k = 5
  · subst h5
    simp only [decide_true, Bool.true_and] at hp
    have hpH : Hid (r = scanTo zs (i - 2)) := by rw [hp]; unfold scanTo; rw [show i - 2 + 1 = i - 1 by omega]; exact rfl
    clear hp
    go_enter Tryd.func72, Tryd.ntmps72
    go_wp2
    go_step3
    go_wp2_with (go_at_call 31; refine (sclus_any _ _ D _ (by exact hs.heap rfl)).mono ?_; rintro e w1 ⟨he, n1, rfl⟩; rw [← hkH.out] at he; subst he)
    go_step3
    go_wp2
    clear p1
    go_loopw [7, 8] (fun is k wr => ∃ m : Int, -1 ≤ m ∧ m ≤ i - 2 ∧ k = .int .i64 m ∧ is = .bool false ∧ Hid (r = scanTo zs m) ∧ ∃ n', wr = w.drewN n') (fun _ k _ => (intOf k + 1).toNat)
    case atStart => exact ⟨i - 2, by omega, by omega, rfl, rfl, hpH, _, rfl⟩
    case round =>
      obtain ⟨m, hm0, hm1, rfl, rfl, hq, n', rfl⟩ := hrel
      by_cases hm : 0 ≤ m
      · obtain ⟨b', off', ha, hb', p1⟩ := ht.at_ (i := m) hm (by omega)
        cases ha
        have hst := scan_step (zs := zs) hm (by omega)
        generalize zs.getD m.toNat 0 = z at p1 hst
        obtain ⟨p, hp⟩ : ∃ p, p = piB z := ⟨_, rfl⟩
        obtain ⟨k, hk⟩ : ∃ k, k = clK z := ⟨_, rfl⟩
        rw [← hp, ← hk] at hst
        have hkH := Lib.hid hk
        have hpH := Lib.hid hp
        have hmm : (0 : Int) ≤ m - 1 + 1 := by omega
        have hst' : Hid (scanTo zs m = if p then true else if k = 4 then scanTo zs (m - 1) else false) := by
          show scan (ahd (sgC zs) (m + 1)) = _
          rw [hst]; unfold scanTo; rw [Int.sub_add_cancel]
        clear hst hk hp
        cases p with
        | true =>
          have hq' : Hid (r = true) := by rw [hq.out, hst'.out]; exact rfl
          clear hst' hq
          go_wp2_with (go_at_call 33; refine (spicto_any _ _ D _ (by exact hs.heap rfl)).mono ?_; rintro e w1 ⟨he, n1, rfl⟩; rw [← hpH.out] at he; subst he)
          (try rw [Exit.noGoto_ret])
          go_ret
          exact ⟨by rw [hq'.out]; rfl, _, rfl⟩
        | false =>
          by_cases h4 : k = 4
          · subst h4
            have hq' : Hid (r = scanTo zs (m - 1)) := by rw [hq.out, hst'.out]; exact rfl
            clear hst' hq
            go_wp2_with (first
              | (go_at_call 33; refine (spicto_any _ _ D _ (by exact hs.heap rfl)).mono ?_; rintro e w1 ⟨he, n1, rfl⟩; rw [← hpH.out] at he; subst he)
              | (go_at_call 31; refine (sclus_any _ _ D _ (by exact hs.heap rfl)).mono ?_; rintro e w1 ⟨he, n2, rfl⟩; rw [← hkH.out] at he; subst he))
            go_roundw
            case rel => exact ⟨m - 1, by omega, by omega, rfl, rfl, hq', _, rfl⟩
            case measure => simp [intOf]; omega
          · have hq' : Hid (r = false) := by rw [hq.out, hst'.out, if_neg (by simp), if_neg h4]; exact rfl
            clear hst' hq
            go_wp2_with (first
              | (go_at_call 33; refine (spicto_any _ _ D _ (by exact hs.heap rfl)).mono ?_; rintro e w1 ⟨he, n1, rfl⟩; rw [← hpH.out] at he; subst he)
              | (go_at_call 31; refine (sclus_any _ _ D _ (by exact hs.heap rfl)).mono ?_; rintro e w1 ⟨he, n2, rfl⟩; rw [← hkH.out] at he; subst he))
            (try rw [Exit.noGoto_ret])
            go_ret
            exact ⟨by rw [hq'.out]; rfl, _, rfl⟩
      · obtain rfl : m = -1 := by omega
        have hq' : Hid (r = false) := by rw [hq.out, scanTo_neg]; exact rfl
        clear hq
        go_wp2
        (try rw [Exit.noGoto_ret])
        go_ret
        exact ⟨by rw [hq'.out]; rfl, _, rfl⟩
  · have hp' : r = false := by rw [hp, decide_eq_false h5]; rfl
    subst hp'
    clear hp
    go_enter Tryd.func72, Tryd.ntmps72
    go_wp2
    go_step3
    go_wp2_with (go_at_call 31; refine (sclus_any _ _ D _ (by exact hs.heap rfl)).mono ?_; rintro e w1 ⟨he, n1, rfl⟩; rw [← hkH.out] at he; subst he)
    try rw [Exit.noGoto_ret]
    go_ret
    exact ⟨rfl, _, rfl⟩

set_option maxRecDepth 100000 in
set_option maxHeartbeats 4000000 in
theorem cflags_any (w : World) (n₀ D : Nat) (v : Value) (zs : List Int) (i : Int) (hs : ShipAt w n₀ D) (ht : IntsAt w n₀ v zs) (h0 : 0 < i) (h1 : i ≤ zs.length) :
    Calls Tryd.prog 73 #[.pointer (some ⟨D, 0, none⟩), v, .int .i64 i] w fun e w' => e = .returned (.int .i64 (flagsN (ahd (sgC zs) i) 6 : Nat)) ∧ ∃ n', w' = w.drewN n' := by
  obtain ⟨ao, c, rfl⟩ := ht.form
  obtain ⟨_, hc1, hc2, _⟩ := ht.len
  obtain ⟨r, hr⟩ : ∃ r, r = flagsN (ahd (sgC zs) i) 6 := ⟨_, rfl⟩
  rw [← hr]
  have hrH := Lib.hid hr
  clear hr
  have hi2 : i ≤ 9223372036854775807 := by omega
  go_enter Tryd.func73, Tryd.ntmps73
  go_wp2
  go_loopw [7] (fun n wr => ∃ m : Int, 0 ≤ m ∧ m ≤ i ∧ n = .int .i64 m ∧ Hid ((r : Int) = m + flagsN (ahd (sgC zs) (i - m)) 6) ∧ ∃ n', wr = w.drewN n') (fun n _ => (i - intOf n).toNat)
  case atStart => exact ⟨0, by omega, by omega, rfl, by rw [hrH.out, Int.sub_zero, Int.zero_add]; exact rfl, 0, rfl⟩
  case round =>
    obtain ⟨m, hm0, hm1, rfl, hq, n', rfl⟩ := hrel
    by_cases hm : m < i
    · obtain ⟨b', off', rfl, hb', p1⟩ := ht.at_ (i := i - 1 - m) (by omega) (by omega)
      have hst := flags_step (zs := zs) (k := i - m) (by omega) (by omega)
      rw [show i - m - 1 = i - 1 - m by omega] at hst
      generalize zs.getD (i - 1 - m).toNat 0 = z at p1 hst
      obtain ⟨k, hk⟩ : ∃ k, k = clK z := ⟨_, rfl⟩
      rw [← hk] at hst
      have hkH := Lib.hid hk
      have hq1 : (0 : Int) ≤ i - 1 - m := by omega
      have hq2 : i - 1 - m < zs.length := by omega
      by_cases h6 : k = 6
      · subst h6
        have hq' : Hid ((r : Int) = m + 1 + flagsN (ahd (sgC zs) (i - (m + 1))) 6) := by
          rw [hq.out, hst, if_pos rfl, show i - (m + 1) = i - 1 - m by omega]
          show _ = _
          omega
        clear hst hq hk
        go_wp2_with (go_at_call 31; refine (sclus_any _ _ D _ (by exact hs.heap rfl)).mono ?_; rintro e w1 ⟨he, n1, rfl⟩; rw [← hkH.out] at he; subst he)
        go_roundw
        case rel => exact ⟨m + 1, by omega, by omega, rfl, hq', _, rfl⟩
        case measure => simp [intOf]; omega
      · have hq' : Hid ((r : Int) = m) := by rw [hq.out, hst, if_neg h6]; show _ = _; omega
        clear hst hq hk
        go_wp2_with (go_at_call 31; refine (sclus_any _ _ D _ (by exact hs.heap rfl)).mono ?_; rintro e w1 ⟨he, n1, rfl⟩; rw [← hkH.out] at he; subst he)
        go_ret
        exact ⟨by rw [hq'.out]; rfl, _, rfl⟩
    · obtain rfl : m = i := by omega
      have hq' : Hid ((r : Int) = m) := by rw [hq.out, ahd_zero (by omega)]; show _ = _; simp [flagsN]
      clear hq
      go_wp2
      go_ret
      exact ⟨by rw [hq'.out]; rfl, _, rfl⟩

theorem beq2 (n : Nat) : ((n : Int) % 2 == 0) = (n % 2 == 0) := by
  rw [Bool.eq_iff_iff, beq_iff_eq, beq_iff_eq]; omega
theorem tmod2 (n : Nat) : (n : Int).tmod 2 = (n : Int) % 2 := Int.tmod_eq_emod_of_nonneg (by omega)

set_option maxRecDepth 100000 in
set_option maxHeartbeats 4000000 in
theorem cbreak_out (w : World) (D : Nat) (ao : Option Addr) (c : Nat) (zs : List Int) (i : Int) (h : i < 0 ∨ (zs.length : Int) < i) :
    Calls Tryd.prog 46 #[.pointer (some ⟨D, 0, none⟩), .slice ao zs.length c, .int .i64 i] w fun e w' => e = .returned (.bool false) ∧ ∃ n', w' = w.drewN n' := by
  by_cases h0 : i < 0
  · clear h
    go_enter Tryd.func46, Tryd.ntmps46
    go_wp2
    go_ret
    exact ⟨rfl, 0, rfl⟩
  · have h1 : (zs.length : Int) < i := by omega
    have h2 : 0 ≤ i := by omega
    clear h h0
    go_enter Tryd.func46, Tryd.ntmps46
    go_wp2
    go_ret
    exact ⟨rfl, 0, rfl⟩

set_option maxRecDepth 100000 in
set_option maxHeartbeats 4000000 in
theorem cbreak_ends (w : World) (D : Nat) (ao : Option Addr) (c : Nat) (zs : List Int) (i : Int) (h : i = 0 ∨ i = zs.length) :
    Calls Tryd.prog 46 #[.pointer (some ⟨D, 0, none⟩), .slice ao zs.length c, .int .i64 i] w fun e w' => e = .returned (.bool true) ∧ ∃ n', w' = w.drewN n' := by
  rcases h with rfl | rfl
  · go_enter Tryd.func46, Tryd.ntmps46
    go_wp2
    go_ret
    exact ⟨rfl, 0, rfl⟩
  · by_cases h0 : zs.length = 0
    · rw [h0]
      go_enter Tryd.func46, Tryd.ntmps46
      go_wp2
      go_ret
      exact ⟨rfl, 0, rfl⟩
    · have h1 : (0 : Int) < zs.length := by omega
      go_enter Tryd.func46, Tryd.ntmps46
      go_wp2
      go_ret
      exact ⟨rfl, 0, rfl⟩

set_option maxRecDepth 100000 in
set_option maxHeartbeats 8000000 in
theorem cbreak_in (w : World) (n₀ D : Nat) (ao : Option Addr) (c : Nat) (zs : List Int) (i : Int) (hs : ShipAt w n₀ D) (ht : IntsAt w n₀ (.slice ao zs.length c) zs) (h0 : 0 < i) (h1 : i < zs.length) :
    Calls Tryd.prog 46 #[.pointer (some ⟨D, 0, none⟩), .slice ao zs.length c, .int .i64 i] w fun e w' => e = .returned (.bool (brkI cf (sgC zs) i)) ∧ ∃ n', w' = w.drewN n' := by
  have hbrk := brkC_in h0 h1
  obtain ⟨_, hc1, hc2, _⟩ := ht.len
  obtain ⟨b, off, rfl, hb, p2⟩ := ht.at_ (i := i) (by omega) h1
  obtain ⟨b', off', ha, _, p1⟩ := ht.at_ (i := i - 1) (by omega) (by omega)
  cases ha
  have en : (i - 1).toNat = i.toNat - 1 := by omega
  rw [en] at p1 hbrk
  clear en
  generalize zs.getD (i.toNat - 1) 0 = x at p1 hbrk
  generalize zs.getD i.toNat 0 = y at p2 hbrk
  obtain ⟨ka, hka⟩ : ∃ k, k = clK x := ⟨_, rfl⟩
  obtain ⟨kb, hkb⟩ : ∃ k, k = clK y := ⟨_, rfl⟩
  obtain ⟨p, hp⟩ : ∃ k, k = piB y := ⟨_, rfl⟩
  obtain ⟨pc, hpc⟩ : ∃ k, k = pict (ahd (sgC zs) i) := ⟨_, rfl⟩
  obtain ⟨fl, hfl⟩ : ∃ k, k = flagsN (ahd (sgC zs) i) 6 := ⟨_, rfl⟩
  obtain ⟨sa, hsa⟩ : ∃ k, k = steers ka := ⟨_, rfl⟩
  obtain ⟨sb, hsb⟩ : ∃ k, k = steers kb := ⟨_, rfl⟩
  obtain ⟨hg, hhg⟩ : ∃ k, k = hangulB ka kb := ⟨_, rfl⟩
  rw [← hka, ← hkb, ← hp, ← hpc, ← hfl] at hbrk
  unfold cfK at hbrk
  rw [← hsa, ← hsb, ← hhg] at hbrk
  obtain ⟨r, hr⟩ : ∃ r, r = brkI cf (sgC zs) i := ⟨_, rfl⟩
  rw [← hr] at hbrk ⊢
  have hrH := Lib.hid hbrk
  have kaH := Lib.hid hka
  have kbH := Lib.hid hkb
  have pH := Lib.hid hp
  have pcH := Lib.hid hpc
  have flH := Lib.hid hfl
  have saH := Lib.hid hsa
  have sbH := Lib.hid hsb
  have hgH := Lib.hid hhg
  have hfe := tmod2 fl
  have h1s : Hid (ka = 1 → sa = true) := fun h => by rw [hsa, h]; rfl
  have e1 : (i == (0 : Int)) = false := by simp; omega
  have e2 : (i == (zs.length : Int)) = false := by simp; omega
  have cA : Hid (∀ W : World, W.heap = w.heap → Calls Tryd.prog 31 #[.pointer (some ⟨D, 0, none⟩), .int .i64 x] W fun e w' => e = .returned (.int .i64 ka) ∧ ∃ n', w' = W.drewN n') := fun W hW => by
    rw [hka]; exact sclus_any W n₀ D x (hs.heap hW)
  have cB : Hid (∀ W : World, W.heap = w.heap → Calls Tryd.prog 31 #[.pointer (some ⟨D, 0, none⟩), .int .i64 y] W fun e w' => e = .returned (.int .i64 kb) ∧ ∃ n', w' = W.drewN n') := fun W hW => by
    rw [hkb]; exact sclus_any W n₀ D y (hs.heap hW)
  clear hbrk hka hkb hp hpc hfl hsa hsb hhg hr kaH kbH
  have hi3 : i ≤ 9223372036854775807 := by omega
  go_enter Tryd.func46, Tryd.ntmps46
  go_wp2
  go_quiet ((go_at_call 31; first | ((with_reducible refine Calls.quiet_of (cA.out _ ?_)); rfl) | ((with_reducible refine Calls.quiet_of (cB.out _ ?_)); rfl)))
  go_wp2_with (first
    | (go_at_call 70; refine (steers_any _ _).mono ?_; rintro e w1 ⟨he, rfl⟩; (first | rw [← saH.out] at he | rw [← sbH.out] at he | rw [show steers 1 = true from rfl] at he); subst he)
    | (go_at_call 71; refine (hangul_any _ _ _).mono ?_; rintro e w1 ⟨he, rfl⟩; rw [← hgH.out] at he; subst he)
    | (go_at_call 33; refine (spicto_any _ _ D _ (by exact hs.heap rfl)).mono ?_; rintro e w1 ⟨he, n1, rfl⟩; rw [← pH.out] at he; subst he)
    | (go_at_call 72; refine (pictured_any _ n₀ D _ zs _ (by exact hs.heap rfl) (by exact ht.heap rfl) h0 (by omega)).mono ?_; rintro e w1 ⟨he, n2, rfl⟩; rw [← pcH.out] at he; subst he)
    | (go_at_call 73; refine (cflags_any _ n₀ D _ zs _ (by exact hs.heap rfl) (by exact ht.heap rfl) h0 (by omega)).mono ?_; rintro e w1 ⟨he, n3, rfl⟩; rw [← flH.out] at he; subst he))
  all_goals
    go_ret
    refine ⟨?_, _, rfl⟩
    rw [hrH.out]
    have q1 := h1s.out
    clear h1s hrH saH sbH hgH pH pcH flH p1 p2 hs ht cA cB e1 e2
    simp_all [beq2]

theorem cbreak_any (w : World) (n₀ D : Nat) (v : Value) (zs : List Int) (i : Int) (hs : ShipAt w n₀ D) (ht : IntsAt w n₀ v zs) :
    Calls Tryd.prog 46 #[.pointer (some ⟨D, 0, none⟩), v, .int .i64 i] w fun e w' => e = .returned (.bool (brkI cf (sgC zs) i)) ∧ ∃ n', w' = w.drewN n' := by
  obtain ⟨ao, c, rfl⟩ := ht.form
  by_cases h : i < 0 ∨ (zs.length : Int) < i
  · rw [brkI_out (by rw [sgC_length]; exact h)]
    exact cbreak_out w D ao c zs i h
  · by_cases h2 : i = 0 ∨ i = zs.length
    · rw [brkI_ends (by rw [sgC_length]; exact h2)]
      exact cbreak_ends w D ao c zs i h2
    · exact cbreak_in w n₀ D ao c zs i hs ht (by omega) (by omega)
end Go.Proofs.YtpaijpdmeiagfaaDoor
