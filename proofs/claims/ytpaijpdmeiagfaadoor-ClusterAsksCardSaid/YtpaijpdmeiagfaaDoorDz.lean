/- The document's clusters: Break. -/
import Derived.Test.YtpaijpdmeiagfaaDoorDy
import Derived.Deep.DeepCutAuto
set_option linter.unusedVariables false
set_option linter.unusedSimpArgs false
namespace Go.Proofs.Tx
open Go.Proofs.Tm
def rbF (t1 t2 t3 t4 t5 t6 t7 t8 t9 : Bool) : Bool := if t1 then false else if t2 then true else if t3 then false else if t4 then false else if t5 then false else if t6 then false else if t7 then false else if t8 then false else if t9 then false else true
theorem hangul_ref (a b : Int) : hangulB a b = ((a == 9 && (b == 9 || b == 10 || b == 12 || b == 13)) || ((a == 12 || a == 10) && (b == 10 || b == 11)) || ((a == 13 || a == 11) && b == 11)) := by
  unfold hangulB
  by_cases h9 : a = 9
  · subst h9; simp
  · by_cases h12 : a = 12
    · subst h12; simp
    · by_cases h10 : a = 10
      · subst h10; simp
      · by_cases h13 : a = 13
        · subst h13; simp
        · by_cases h11 : a = 11
          · subst h11; simp
          · simp [h9, h12, h10, h13, h11]
theorem last_ref (a b : Int) (fl : Nat) : (decide (a ≠ 6) || decide (b ≠ 6) || fl % 2 == 0) = !((a == 6 && b == 6) && (fl % 2 == 1)) := by
  by_cases h : a = 6
  · by_cases g : b = 6
    · rcases Nat.mod_two_eq_zero_or_one fl with e | e <;> simp [h, g, e]
    · simp [g]
  · simp [h]
theorem if_and12 (a b : Int) (X : Bool) : (if a = 1 ∧ b = 2 then false else X) = if (a == 1 && b == 2) = true then false else X := by
  by_cases h1 : a = 1 <;> by_cases h2 : b = 2 <;> simp [h1, h2]
theorem cfK_ref (a b : Int) (p pc : Bool) (fl : Nat) : cfK a b (p && pc) fl = rbF (a == 1 && b == 2) ((decide (1 ≤ a) && decide (a ≤ 3)) || (decide (1 ≤ b) && decide (b ≤ 3)))
    (a == 9 && (((b == 9 || b == 10) || b == 12) || b == 13)) ((a == 12 || a == 10) && (b == 10 || b == 11)) ((a == 13 || a == 11) && b == 11) ((b == 4 || b == 5) || b == 8) (a == 7) (pc && p) ((a == 6 && b == 6) && (fl % 2 == 1)) := by
  unfold cfK
  rw [hangul_ref, last_ref]
  rw [if_and12]
  unfold rbF steers
  generalize (a == 1 && b == 2) = t1
  generalize (decide (1 ≤ a) && decide (a ≤ 3)) = s1
  generalize (decide (1 ≤ b) && decide (b ≤ 3)) = s2
  generalize (a == 9 && (b == 9 || b == 10 || b == 12 || b == 13)) = t3
  generalize ((a == 12 || a == 10) && (b == 10 || b == 11)) = t4
  generalize ((a == 13 || a == 11) && b == 11) = t5
  generalize ((a == 6 && b == 6) && (fl % 2 == 1)) = t9
  generalize (b == 4) = q1
  generalize (b == 5) = q2
  generalize (b == 8) = q3
  generalize (a == 7) = q4
  revert t1 s1 s2 t3 t4 t5 t9 q1 q2 q3 q4 p pc
  decide +kernel
end Go.Proofs.Tx
namespace Go.Proofs.YtpaijpdmeiagfaaDoor
open Go Go.RowKit Go.WideMaps Go.Proofs.Kk Go.Proofs.Tm Go.Proofs.Gg Go.Proofs.Tx

set_option maxRecDepth 100000 in
set_option maxHeartbeats 8000000 in
theorem rbreak_in (w : World) (n₀ D : Nat) (ao : Option Addr) (c : Nat) (zs : List Int) (i : Int) (hs : RShipAt w n₀ D) (ht : IntsAt w n₀ (.slice ao zs.length c) zs) (h0 : 0 < i) (h1 : i < zs.length) :
    Calls Tryd.prog 49 #[.pointer (some ⟨D, 0, none⟩), .slice ao zs.length c, .int .i64 i] w fun e w' => e = .returned (.bool (brkI cf (sgC zs) i)) ∧ ∃ n', w' = w.drewN n' := by
  have hbrk := brkC_in h0 h1
  obtain ⟨_, hc1, hc2, _⟩ := ht.len
  obtain ⟨b, off, rfl, hb, p2⟩ := ht.at_ (i := i) (by omega) h1
  obtain ⟨b', off', ha, _, p1⟩ := ht.at_ (i := i - 1) (by omega) (by omega)
  cases ha
  have en : (i - 1).toNat = i.toNat - 1 := by omega
  rw [en] at p1 hbrk
  clear en
  generalize zs.getD (i.toNat - 1) 0 = x at p1 hbrk
  generalize zs.getD i.toNat 0 = y at p2 hbrk
  obtain ⟨ka, hka⟩ : ∃ k, k = clK x := ⟨_, rfl⟩
  obtain ⟨kb, hkb⟩ : ∃ k, k = clK y := ⟨_, rfl⟩
  obtain ⟨p, hp⟩ : ∃ k, k = piB y := ⟨_, rfl⟩
  obtain ⟨pc, hpc⟩ : ∃ k, k = pict (ahd (sgC zs) i) := ⟨_, rfl⟩
  obtain ⟨fl, hfl⟩ : ∃ k, k = flagsN (ahd (sgC zs) i) 6 := ⟨_, rfl⟩
  rw [← hka, ← hkb, ← hp, ← hpc, ← hfl, cfK_ref] at hbrk
  obtain ⟨od, hod⟩ : ∃ k, k = (fl % 2 == 1) := ⟨_, rfl⟩
  rw [← hod] at hbrk
  rw [hfl] at hod
  obtain ⟨t1, ht1⟩ : ∃ t, t = ((ka == 1) && (kb == 2)) := ⟨_, rfl⟩
  obtain ⟨t2, ht2⟩ : ∃ t, t = (((decide (1 ≤ ka)) && (decide (ka ≤ 3))) || ((decide (1 ≤ kb)) && (decide (kb ≤ 3)))) := ⟨_, rfl⟩
  obtain ⟨t3, ht3⟩ : ∃ t, t = ((ka == 9) && ((((kb == 9) || (kb == 10)) || (kb == 12)) || (kb == 13))) := ⟨_, rfl⟩
  obtain ⟨t4, ht4⟩ : ∃ t, t = (((ka == 12) || (ka == 10)) && ((kb == 10) || (kb == 11))) := ⟨_, rfl⟩
  obtain ⟨t5, ht5⟩ : ∃ t, t = (((ka == 13) || (ka == 11)) && (kb == 11)) := ⟨_, rfl⟩
  obtain ⟨t6, ht6⟩ : ∃ t, t = (((kb == 4) || (kb == 5)) || (kb == 8)) := ⟨_, rfl⟩
  obtain ⟨t7, ht7⟩ : ∃ t, t = (ka == 7) := ⟨_, rfl⟩
  obtain ⟨t8, ht8⟩ : ∃ t, t = (pc && p) := ⟨_, rfl⟩
  obtain ⟨t9, ht9⟩ : ∃ t, t = (((ka == 6) && (kb == 6)) && od) := ⟨_, rfl⟩
  rw [← ht1, ← ht2, ← ht3, ← ht4, ← ht5, ← ht6, ← ht7, ← ht8, ← ht9] at hbrk
  rw [hbrk]
  clear hbrk
  have kaH := Lib.hid hka
  have kbH := Lib.hid hkb
  have pH := Lib.hid hp
  have pcH := Lib.hid hpc
  have odH := Lib.hid hod
  have ht1H := Lib.hid ht1
  have ht2H := Lib.hid ht2
  have ht3H := Lib.hid ht3
  have ht4H := Lib.hid ht4
  have ht5H := Lib.hid ht5
  have ht6H := Lib.hid ht6
  have ht7H := Lib.hid ht7
  have ht8H := Lib.hid ht8
  have ht9H := Lib.hid ht9
  clear hka hkb hp hpc hod hfl ht1 ht2 ht3 ht4 ht5 ht6 ht7 ht8 ht9
  have hi3 : i ≤ 9223372036854775807 := by omega
  have e1 : (i == (0 : Int)) = false := by simp; omega
  have e2 : (i == (zs.length : Int)) = false := by simp; omega
  go_enter Tryd.func49, Tryd.ntmps49
  go_upto_region 9 with (first
    | (go_at_call 39; refine (rclus_any _ _ D _ (by exact hs.heap rfl)).mono ?_; rintro e w1 ⟨he, n1, rfl⟩; (first | rw [← kaH.out] at he | rw [← kbH.out] at he); subst he)
    | (go_at_call 74; refine (rodd_any _ _ D _ zs i (by exact hs.heap rfl) (by exact ht.heap rfl) h0 (by omega)).mono ?_; rw [← odH.out]; rintro e w1 ⟨rfl, n2, rfl⟩)
    | (go_at_call 75; refine (rpict_any _ _ D _ zs i (by exact hs.heap rfl) (by exact ht.heap rfl) h0 (by omega)).mono ?_; rw [← pcH.out]; rintro e w1 ⟨rfl, n3, rfl⟩))
  clear p1 e1 e2
  go_cut [48] (fun s wx => s = .bool t1 ∧ ∃ n', wx = w.drewN n')
  case first =>
    as_aux_lemma =>
      cases hk1 : (ka == 1) with
      | false =>
        have ht : t1 = false := by rw [ht1H.out]; simp [hk1]
        subst ht
        go_wp2_with (fail)
        go_meet
        exact ⟨rfl, _, rfl⟩
      | true =>
        cases hk2 : (kb == 2) with
        | false =>
          have ht : t1 = false := by rw [ht1H.out]; simp [hk1, hk2]
          subst ht
          go_wp2_with (fail)
          go_meet
          exact ⟨rfl, _, rfl⟩
        | true =>
          have ht : t1 = true := by rw [ht1H.out]; simp [hk1, hk2]
          subst ht
          go_wp2_with (fail)
          go_meet
          exact ⟨rfl, _, rfl⟩
  case rest =>
    obtain ⟨rfl, m1, rfl⟩ := hcut
    cases t1 with
    | true =>
      as_aux_lemma =>
        clear ht1H ht2H ht3H ht4H ht5H ht6H ht7H ht8H ht9H
        go_wp2
        go_ret
        exact ⟨rfl, _, rfl⟩
    | false =>
      go_upto_region 11 with (fail)
      go_cut [55] (fun s wx => s = .bool t2 ∧ ∃ n', wx = w.drewN n')
      case first =>
        as_aux_lemma =>
          cases hk3 : (decide (1 ≤ ka)) with
          | false =>
            cases hk4 : (decide (1 ≤ kb)) with
            | false =>
              have ht : t2 = false := by rw [ht2H.out]; simp [hk3, hk4]
              subst ht
              go_wp2_with (fail)
              go_meet
              exact ⟨rfl, _, rfl⟩
            | true =>
              cases hk5 : (decide (kb ≤ 3)) with
              | false =>
                have ht : t2 = false := by rw [ht2H.out]; simp [hk3, hk4, hk5]
                subst ht
                go_wp2_with (fail)
                go_meet
                exact ⟨rfl, _, rfl⟩
              | true =>
                have ht : t2 = true := by rw [ht2H.out]; simp [hk3, hk4, hk5]
                subst ht
                go_wp2_with (fail)
                go_meet
                exact ⟨rfl, _, rfl⟩
          | true =>
            cases hk6 : (decide (ka ≤ 3)) with
            | false =>
              cases hk7 : (decide (1 ≤ kb)) with
              | false =>
                have ht : t2 = false := by rw [ht2H.out]; simp [hk3, hk6, hk7]
                subst ht
                go_wp2_with (fail)
                go_meet
                exact ⟨rfl, _, rfl⟩
              | true =>
                cases hk8 : (decide (kb ≤ 3)) with
                | false =>
                  have ht : t2 = false := by rw [ht2H.out]; simp [hk3, hk6, hk7, hk8]
                  subst ht
                  go_wp2_with (fail)
                  go_meet
                  exact ⟨rfl, _, rfl⟩
                | true =>
                  have ht : t2 = true := by rw [ht2H.out]; simp [hk3, hk6, hk7, hk8]
                  subst ht
                  go_wp2_with (fail)
                  go_meet
                  exact ⟨rfl, _, rfl⟩
            | true =>
              have ht : t2 = true := by rw [ht2H.out]; simp [hk3, hk6]
              subst ht
              go_wp2_with (fail)
              go_meet
              exact ⟨rfl, _, rfl⟩
      case rest =>
        obtain ⟨rfl, m2, rfl⟩ := hcut
        cases t2 with
        | true =>
          as_aux_lemma =>
            clear ht1H ht2H ht3H ht4H ht5H ht6H ht7H ht8H ht9H
            go_wp2
            go_ret
            exact ⟨rfl, _, rfl⟩
        | false =>
          go_upto_region 13 with (fail)
          go_cut [70] (fun s wx => s = .bool t3 ∧ ∃ n', wx = w.drewN n')
          case first =>
            as_aux_lemma =>
              cases hk9 : (ka == 9) with
              | false =>
                have ht : t3 = false := by rw [ht3H.out]; simp [hk9]
                subst ht
                go_wp2_with (fail)
                go_meet
                exact ⟨rfl, _, rfl⟩
              | true =>
                cases hk10 : (kb == 9) with
                | false =>
                  cases hk11 : (kb == 10) with
                  | false =>
                    cases hk12 : (kb == 12) with
                    | false =>
                      cases hk13 : (kb == 13) with
                      | false =>
                        have ht : t3 = false := by rw [ht3H.out]; simp [hk9, hk10, hk11, hk12, hk13]
                        subst ht
                        go_wp2_with (fail)
                        go_meet
                        exact ⟨rfl, _, rfl⟩
                      | true =>
                        have ht : t3 = true := by rw [ht3H.out]; simp [hk9, hk10, hk11, hk12, hk13]
                        subst ht
                        go_wp2_with (fail)
                        go_meet
                        exact ⟨rfl, _, rfl⟩
                    | true =>
                      have ht : t3 = true := by rw [ht3H.out]; simp [hk9, hk10, hk11, hk12]
                      subst ht
                      go_wp2_with (fail)
                      go_meet
                      exact ⟨rfl, _, rfl⟩
                  | true =>
                    have ht : t3 = true := by rw [ht3H.out]; simp [hk9, hk10, hk11]
                    subst ht
                    go_wp2_with (fail)
                    go_meet
                    exact ⟨rfl, _, rfl⟩
                | true =>
                  have ht : t3 = true := by rw [ht3H.out]; simp [hk9, hk10]
                  subst ht
                  go_wp2_with (fail)
                  go_meet
                  exact ⟨rfl, _, rfl⟩
          case rest =>
            obtain ⟨rfl, m3, rfl⟩ := hcut
            cases t3 with
            | true =>
              as_aux_lemma =>
                clear ht1H ht2H ht3H ht4H ht5H ht6H ht7H ht8H ht9H
                go_wp2
                go_ret
                exact ⟨rfl, _, rfl⟩
            | false =>
              go_upto_region 15 with (fail)
              go_cut [89] (fun s wx => s = .bool t4 ∧ ∃ n', wx = w.drewN n')
              case first =>
                as_aux_lemma =>
                  cases hk14 : (ka == 12) with
                  | false =>
                    cases hk15 : (ka == 10) with
                    | false =>
                      have ht : t4 = false := by rw [ht4H.out]; simp [hk14, hk15]
                      subst ht
                      go_wp2_with (fail)
                      go_meet
                      exact ⟨rfl, _, rfl⟩
                    | true =>
                      cases hk16 : (kb == 10) with
                      | false =>
                        cases hk17 : (kb == 11) with
                        | false =>
                          have ht : t4 = false := by rw [ht4H.out]; simp [hk14, hk15, hk16, hk17]
                          subst ht
                          go_wp2_with (fail)
                          go_meet
                          exact ⟨rfl, _, rfl⟩
                        | true =>
                          have ht : t4 = true := by rw [ht4H.out]; simp [hk14, hk15, hk16, hk17]
                          subst ht
                          go_wp2_with (fail)
                          go_meet
                          exact ⟨rfl, _, rfl⟩
                      | true =>
                        have ht : t4 = true := by rw [ht4H.out]; simp [hk14, hk15, hk16]
                        subst ht
                        go_wp2_with (fail)
                        go_meet
                        exact ⟨rfl, _, rfl⟩
                  | true =>
                    cases hk18 : (kb == 10) with
                    | false =>
                      cases hk19 : (kb == 11) with
                      | false =>
                        have ht : t4 = false := by rw [ht4H.out]; simp [hk14, hk18, hk19]
                        subst ht
                        go_wp2_with (fail)
                        go_meet
                        exact ⟨rfl, _, rfl⟩
                      | true =>
                        have ht : t4 = true := by rw [ht4H.out]; simp [hk14, hk18, hk19]
                        subst ht
                        go_wp2_with (fail)
                        go_meet
                        exact ⟨rfl, _, rfl⟩
                    | true =>
                      have ht : t4 = true := by rw [ht4H.out]; simp [hk14, hk18]
                      subst ht
                      go_wp2_with (fail)
                      go_meet
                      exact ⟨rfl, _, rfl⟩
              case rest =>
                obtain ⟨rfl, m4, rfl⟩ := hcut
                cases t4 with
                | true =>
                  as_aux_lemma =>
                    clear ht1H ht2H ht3H ht4H ht5H ht6H ht7H ht8H ht9H
                    go_wp2
                    go_ret
                    exact ⟨rfl, _, rfl⟩
                | false =>
                  go_upto_region 17 with (fail)
                  go_cut [104] (fun s wx => s = .bool t5 ∧ ∃ n', wx = w.drewN n')
                  case first =>
                    as_aux_lemma =>
                      cases hk20 : (ka == 13) with
                      | false =>
                        cases hk21 : (ka == 11) with
                        | false =>
                          have ht : t5 = false := by rw [ht5H.out]; simp [hk20, hk21]
                          subst ht
                          go_wp2_with (fail)
                          go_meet
                          exact ⟨rfl, _, rfl⟩
                        | true =>
                          cases hk22 : (kb == 11) with
                          | false =>
                            have ht : t5 = false := by rw [ht5H.out]; simp [hk20, hk21, hk22]
                            subst ht
                            go_wp2_with (fail)
                            go_meet
                            exact ⟨rfl, _, rfl⟩
                          | true =>
                            have ht : t5 = true := by rw [ht5H.out]; simp [hk20, hk21, hk22]
                            subst ht
                            go_wp2_with (fail)
                            go_meet
                            exact ⟨rfl, _, rfl⟩
                      | true =>
                        cases hk23 : (kb == 11) with
                        | false =>
                          have ht : t5 = false := by rw [ht5H.out]; simp [hk20, hk23]
                          subst ht
                          go_wp2_with (fail)
                          go_meet
                          exact ⟨rfl, _, rfl⟩
                        | true =>
                          have ht : t5 = true := by rw [ht5H.out]; simp [hk20, hk23]
                          subst ht
                          go_wp2_with (fail)
                          go_meet
                          exact ⟨rfl, _, rfl⟩
                  case rest =>
                    obtain ⟨rfl, m5, rfl⟩ := hcut
                    cases t5 with
                    | true =>
                      as_aux_lemma =>
                        clear ht1H ht2H ht3H ht4H ht5H ht6H ht7H ht8H ht9H
                        go_wp2
                        go_ret
                        exact ⟨rfl, _, rfl⟩
                    | false =>
                      go_upto_region 19 with (fail)
                      go_cut [115] (fun s wx => s = .bool t6 ∧ ∃ n', wx = w.drewN n')
                      case first =>
                        as_aux_lemma =>
                          cases hk24 : (kb == 4) with
                          | false =>
                            cases hk25 : (kb == 5) with
                            | false =>
                              cases hk26 : (kb == 8) with
                              | false =>
                                have ht : t6 = false := by rw [ht6H.out]; simp [hk24, hk25, hk26]
                                subst ht
                                go_wp2_with (fail)
                                go_meet
                                exact ⟨rfl, _, rfl⟩
                              | true =>
                                have ht : t6 = true := by rw [ht6H.out]; simp [hk24, hk25, hk26]
                                subst ht
                                go_wp2_with (fail)
                                go_meet
                                exact ⟨rfl, _, rfl⟩
                            | true =>
                              have ht : t6 = true := by rw [ht6H.out]; simp [hk24, hk25]
                              subst ht
                              go_wp2_with (fail)
                              go_meet
                              exact ⟨rfl, _, rfl⟩
                          | true =>
                            have ht : t6 = true := by rw [ht6H.out]; simp [hk24]
                            subst ht
                            go_wp2_with (fail)
                            go_meet
                            exact ⟨rfl, _, rfl⟩
                      case rest =>
                        obtain ⟨rfl, m6, rfl⟩ := hcut
                        cases t6 with
                        | true =>
                          as_aux_lemma =>
                            clear ht1H ht2H ht3H ht4H ht5H ht6H ht7H ht8H ht9H
                            go_wp2
                            go_ret
                            exact ⟨rfl, _, rfl⟩
                        | false =>
                          go_upto_region 21 with (fail)
                          go_cut [126] (fun s wx => s = .bool t7 ∧ ∃ n', wx = w.drewN n')
                          case first =>
                            as_aux_lemma =>
                              cases hk27 : (ka == 7) with
                              | false =>
                                have ht : t7 = false := by rw [ht7H.out]; simp [hk27]
                                subst ht
                                go_wp2_with (fail)
                                go_meet
                                exact ⟨rfl, _, rfl⟩
                              | true =>
                                have ht : t7 = true := by rw [ht7H.out]; simp [hk27]
                                subst ht
                                go_wp2_with (fail)
                                go_meet
                                exact ⟨rfl, _, rfl⟩
                          case rest =>
                            obtain ⟨rfl, m7, rfl⟩ := hcut
                            cases t7 with
                            | true =>
                              as_aux_lemma =>
                                clear ht1H ht2H ht3H ht4H ht5H ht6H ht7H ht8H ht9H
                                go_wp2
                                go_ret
                                exact ⟨rfl, _, rfl⟩
                            | false =>
                              go_upto_region 23 with (fail)
                              go_cut [129] (fun s wx => s = .bool t8 ∧ ∃ n', wx = w.drewN n')
                              case first =>
                                as_aux_lemma =>
                                  cases pc with
                                  | false =>
                                    have ht : t8 = false := by rw [ht8H.out]; simp
                                    subst ht
                                    go_wp2_with ((go_at_call 42; refine (rrpicto_any _ _ D _ (by exact hs.heap rfl)).mono ?_; rintro e w1 ⟨he, n9, rfl⟩; rw [← pH.out] at he; subst he))
                                    go_meet
                                    exact ⟨rfl, _, rfl⟩
                                  | true =>
                                    cases p with
                                    | false =>
                                      have ht : t8 = false := by rw [ht8H.out]; simp
                                      subst ht
                                      go_wp2_with ((go_at_call 42; refine (rrpicto_any _ _ D _ (by exact hs.heap rfl)).mono ?_; rintro e w1 ⟨he, n9, rfl⟩; rw [← pH.out] at he; subst he))
                                      go_meet
                                      exact ⟨rfl, _, rfl⟩
                                    | true =>
                                      have ht : t8 = true := by rw [ht8H.out]; simp
                                      subst ht
                                      go_wp2_with ((go_at_call 42; refine (rrpicto_any _ _ D _ (by exact hs.heap rfl)).mono ?_; rintro e w1 ⟨he, n9, rfl⟩; rw [← pH.out] at he; subst he))
                                      go_meet
                                      exact ⟨rfl, _, rfl⟩
                              case rest =>
                                obtain ⟨rfl, m8, rfl⟩ := hcut
                                cases t8 with
                                | true =>
                                  as_aux_lemma =>
                                    clear ht1H ht2H ht3H ht4H ht5H ht6H ht7H ht8H ht9H
                                    go_wp2
                                    go_ret
                                    exact ⟨rfl, _, rfl⟩
                                | false =>
                                  go_upto_region 25 with (fail)
                                  go_cut [139] (fun s wx => s = .bool t9 ∧ ∃ n', wx = w.drewN n')
                                  case first =>
                                    as_aux_lemma =>
                                      cases hk30 : (ka == 6) with
                                      | false =>
                                        have ht : t9 = false := by rw [ht9H.out]; simp [hk30]
                                        subst ht
                                        go_wp2_with (fail)
                                        go_meet
                                        exact ⟨rfl, _, rfl⟩
                                      | true =>
                                        cases hk31 : (kb == 6) with
                                        | false =>
                                          have ht : t9 = false := by rw [ht9H.out]; simp [hk30, hk31]
                                          subst ht
                                          go_wp2_with (fail)
                                          go_meet
                                          exact ⟨rfl, _, rfl⟩
                                        | true =>
                                          cases od with
                                          | false =>
                                            have ht : t9 = false := by rw [ht9H.out]; simp [hk30, hk31]
                                            subst ht
                                            go_wp2_with (fail)
                                            go_meet
                                            exact ⟨rfl, _, rfl⟩
                                          | true =>
                                            have ht : t9 = true := by rw [ht9H.out]; simp [hk30, hk31]
                                            subst ht
                                            go_wp2_with (fail)
                                            go_meet
                                            exact ⟨rfl, _, rfl⟩
                                  case rest =>
                                    obtain ⟨rfl, m9, rfl⟩ := hcut
                                    cases t9 with
                                    | true =>
                                      as_aux_lemma =>
                                        clear ht1H ht2H ht3H ht4H ht5H ht6H ht7H ht8H ht9H
                                        go_wp2
                                        go_ret
                                        exact ⟨rfl, _, rfl⟩
                                    | false =>
                                      clear ht1H ht2H ht3H ht4H ht5H ht6H ht7H ht8H ht9H
                                      go_wp2
                                      go_ret
                                      exact ⟨rfl, _, rfl⟩

set_option maxRecDepth 100000 in
set_option maxHeartbeats 4000000 in
theorem rbreak_out (w : World) (D : Nat) (ao : Option Addr) (c : Nat) (zs : List Int) (i : Int) (h : i < 0 ∨ (zs.length : Int) < i) :
    Calls Tryd.prog 49 #[.pointer (some ⟨D, 0, none⟩), .slice ao zs.length c, .int .i64 i] w fun e w' => e = .returned (.bool false) ∧ ∃ n', w' = w.drewN n' := by
  by_cases h0 : i < 0
  · clear h
    go_enter Tryd.func49, Tryd.ntmps49
    go_wp2
    go_ret
    exact ⟨rfl, 0, rfl⟩
  · have h1 : (zs.length : Int) < i := by omega
    have h2 : 0 ≤ i := by omega
    clear h h0
    go_enter Tryd.func49, Tryd.ntmps49
    go_wp2
    go_ret
    exact ⟨rfl, 0, rfl⟩

set_option maxRecDepth 100000 in
set_option maxHeartbeats 4000000 in
theorem rbreak_ends (w : World) (D : Nat) (ao : Option Addr) (c : Nat) (zs : List Int) (i : Int) (h : i = 0 ∨ i = zs.length) :
    Calls Tryd.prog 49 #[.pointer (some ⟨D, 0, none⟩), .slice ao zs.length c, .int .i64 i] w fun e w' => e = .returned (.bool true) ∧ ∃ n', w' = w.drewN n' := by
  rcases h with rfl | rfl
  · go_enter Tryd.func49, Tryd.ntmps49
    go_wp2
    go_ret
    exact ⟨rfl, 0, rfl⟩
  · by_cases h0 : zs.length = 0
    · rw [h0]
      go_enter Tryd.func49, Tryd.ntmps49
      go_wp2
      go_ret
      exact ⟨rfl, 0, rfl⟩
    · have h1 : (0 : Int) < zs.length := by omega
      have e0 : ((zs.length : Int) == 0) = false := by rw [beq_eq_false_iff_ne]; omega
      go_enter Tryd.func49, Tryd.ntmps49
      go_wp2
      go_ret
      exact ⟨rfl, 0, rfl⟩

/-- the document's Break -/
theorem rbreak_any (w : World) (n₀ D : Nat) (v : Value) (zs : List Int) (i : Int) (hs : RShipAt w n₀ D) (ht : IntsAt w n₀ v zs) :
    Calls Tryd.prog 49 #[.pointer (some ⟨D, 0, none⟩), v, .int .i64 i] w fun e w' => e = .returned (.bool (brkI cf (sgC zs) i)) ∧ ∃ n', w' = w.drewN n' := by
  obtain ⟨ao, c, rfl⟩ := ht.form
  by_cases h : i < 0 ∨ (zs.length : Int) < i
  · rw [brkI_out (by rw [sgC_length]; exact h)]
    exact rbreak_out w D ao c zs i h
  · by_cases h2 : i = 0 ∨ i = zs.length
    · rw [brkI_ends (by rw [sgC_length]; exact h2)]
      exact rbreak_ends w D ao c zs i h2
    · exact rbreak_in w n₀ D ao c zs i hs ht (by omega) (by omega)
end Go.Proofs.YtpaijpdmeiagfaaDoor
