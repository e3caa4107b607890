/- The document's words: kinds, and which stay together. -/
import Derived.Test.YtpaijpdmeiagfaaDoorWa
import Derived.Test.YtpaijpdmeiagfaaDoorDd
import Derived.Test.YtpaijpdmeiagfaaDoorPr
import Derived.Test.YtpaijpdmeiagfaaDoorIt
import Derived.Test.YtpaijpdmeiagfaaDoorWq
import Derived.Test.YtpaijpdmeiagfaaDoorWm
set_option linter.unusedVariables false
set_option linter.unusedSimpArgs false
namespace Go.Proofs.Tx
def quietK (k : Int) : Bool := k == 13 || k == 11
def joinedR (before last b next : Int) : Bool := (letterK last && letterK b) || ((letterK last && ((b == 14) || quietK b)) && letterK next) || ((letterK before && ((last == 14) || quietK last)) && letterK b) || ((last == 9) && ((b == 11) || ((b == 12) && (next == 9)))) || (((before == 9) && (last == 12)) && (b == 9)) || (((last == 16) && ((b == 16) || letterK b)) || (letterK last && (b == 16))) || (((before == 16) && ((last == 15) || quietK last)) && (b == 16)) || (((last == 16) && ((b == 15) || quietK b)) && (next == 16)) || ((last == 8) && (b == 8)) || ((((letterK last || (last == 16)) || (last == 8)) || (last == 17)) && (b == 17)) || ((last == 17) && ((letterK b || (b == 16)) || (b == 8)))
theorem joined_bool : ∀ LL Lb b16 l16 l8 b8 b17 l17 y1 y2 y3 y4 y5 y6 : Bool,
    (LL && Lb || y1 || y2 || y3 || y4 || (l16 && (b16 || Lb) || LL && b16) || y5 || y6 || l8 && b8 || (LL || l16 || l8 || l17) && b17 || l17 && (Lb || b16 || b8)) =
    ((LL && (Lb || b16)) || (l16 && (Lb || b16)) || (l8 && b8) || y1 || y2 || y6 || y5 || y3 || y4 || (b17 && ((LL || l16 || l8) || l17) || l17 && (Lb || b16 || b8))) := by
  decide +kernel
theorem joined_ref (before last b next : Int) : joinedR before last b next = joinedB before last b next := by
  have e1 : ∀ k : Int, (k == 14 || quietK k) = betweenK k := fun k => by unfold quietK betweenK; rw [Bool.or_assoc]
  have e2 : ∀ k : Int, (k == 15 || quietK k) = insideK k := fun k => by unfold quietK insideK; rw [Bool.or_assoc]
  unfold joinedR joinedB soundK
  rw [e1, e1, e2, e2]
  exact joined_bool _ _ _ _ _ _ _ _ _ _ _ _ _ _
end Go.Proofs.Tx
namespace Go.Proofs.YtpaijpdmeiagfaaDoor
open Go Go.RowKit Go.WideMaps Go.Proofs.Kk Go.Proofs.Tm Go.Proofs.Gg Go.Proofs.Tx

set_option maxRecDepth 100000 in
set_option maxHeartbeats 1000000 in
theorem rends_any (k : Int) (w : World) : Calls Tryd.prog 84 #[.int .i64 k] w fun e w' => e = .returned (.bool (endsK k)) ∧ w' = w := by
  obtain ⟨r, hr⟩ : ∃ r, r = endsK k := ⟨_, rfl⟩
  rw [← hr]
  have hrH := Lib.hid hr
  clear hr
  cases h0 : (k == 1) with
  | true =>
    have hr : r = true := by rw [hrH.out]; simp [endsK, h0]
    subst hr
    clear hrH
    go_enter Tryd.func84, Tryd.ntmps84
    go_wp2
    go_ret
    exact ⟨rfl, rfl⟩
  | false =>
    cases h1 : (k == 2) with
    | true =>
      have hr : r = true := by rw [hrH.out]; simp [endsK, h0, h1]
      subst hr
      clear hrH
      go_enter Tryd.func84, Tryd.ntmps84
      go_wp2
      go_ret
      exact ⟨rfl, rfl⟩
    | false =>
      cases h2 : (k == 3) with
      | true =>
        have hr : r = true := by rw [hrH.out]; simp [endsK, h0, h1, h2]
        subst hr
        clear hrH
        go_enter Tryd.func84, Tryd.ntmps84
        go_wp2
        go_ret
        exact ⟨rfl, rfl⟩
      | false =>
        have hr : r = false := by rw [hrH.out]; simp [endsK, h0, h1, h2]
        subst hr
        clear hrH
        go_enter Tryd.func84, Tryd.ntmps84
        go_wp2
        go_ret
        exact ⟨rfl, rfl⟩

set_option maxRecDepth 100000 in
set_option maxHeartbeats 1000000 in
theorem rmark_any (k : Int) (w : World) : Calls Tryd.prog 85 #[.int .i64 k] w fun e w' => e = .returned (.bool (markK k)) ∧ w' = w := by
  obtain ⟨r, hr⟩ : ∃ r, r = markK k := ⟨_, rfl⟩
  rw [← hr]
  have hrH := Lib.hid hr
  clear hr
  cases h0 : (k == 4) with
  | true =>
    have hr : r = true := by rw [hrH.out]; simp [markK, h0]
    subst hr
    clear hrH
    go_enter Tryd.func85, Tryd.ntmps85
    go_wp2
    go_ret
    exact ⟨rfl, rfl⟩
  | false =>
    cases h1 : (k == 6) with
    | true =>
      have hr : r = true := by rw [hrH.out]; simp [markK, h0, h1]
      subst hr
      clear hrH
      go_enter Tryd.func85, Tryd.ntmps85
      go_wp2
      go_ret
      exact ⟨rfl, rfl⟩
    | false =>
      cases h2 : (k == 5) with
      | true =>
        have hr : r = true := by rw [hrH.out]; simp [markK, h0, h1, h2]
        subst hr
        clear hrH
        go_enter Tryd.func85, Tryd.ntmps85
        go_wp2
        go_ret
        exact ⟨rfl, rfl⟩
      | false =>
        have hr : r = false := by rw [hrH.out]; simp [markK, h0, h1, h2]
        subst hr
        clear hrH
        go_enter Tryd.func85, Tryd.ntmps85
        go_wp2
        go_ret
        exact ⟨rfl, rfl⟩

set_option maxRecDepth 100000 in
set_option maxHeartbeats 1000000 in
theorem rletter_any (k : Int) (w : World) : Calls Tryd.prog 104 #[.int .i64 k] w fun e w' => e = .returned (.bool (letterK k)) ∧ w' = w := by
  obtain ⟨r, hr⟩ : ∃ r, r = letterK k := ⟨_, rfl⟩
  rw [← hr]
  have hrH := Lib.hid hr
  clear hr
  cases h0 : (k == 10) with
  | true =>
    have hr : r = true := by rw [hrH.out]; simp [letterK, h0]
    subst hr
    clear hrH
    go_enter Tryd.func104, Tryd.ntmps104
    go_wp2
    go_ret
    exact ⟨rfl, rfl⟩
  | false =>
    cases h1 : (k == 9) with
    | true =>
      have hr : r = true := by rw [hrH.out]; simp [letterK, h0, h1]
      subst hr
      clear hrH
      go_enter Tryd.func104, Tryd.ntmps104
      go_wp2
      go_ret
      exact ⟨rfl, rfl⟩
    | false =>
      have hr : r = false := by rw [hrH.out]; simp [letterK, h0, h1]
      subst hr
      clear hrH
      go_enter Tryd.func104, Tryd.ntmps104
      go_wp2
      go_ret
      exact ⟨rfl, rfl⟩

set_option maxRecDepth 100000 in
set_option maxHeartbeats 1000000 in
theorem rquiet_any (k : Int) (w : World) : Calls Tryd.prog 105 #[.int .i64 k] w fun e w' => e = .returned (.bool (quietK k)) ∧ w' = w := by
  obtain ⟨r, hr⟩ : ∃ r, r = quietK k := ⟨_, rfl⟩
  rw [← hr]
  have hrH := Lib.hid hr
  clear hr
  cases h0 : (k == 13) with
  | true =>
    have hr : r = true := by rw [hrH.out]; simp [quietK, h0]
    subst hr
    clear hrH
    go_enter Tryd.func105, Tryd.ntmps105
    go_wp2
    go_ret
    exact ⟨rfl, rfl⟩
  | false =>
    cases h1 : (k == 11) with
    | true =>
      have hr : r = true := by rw [hrH.out]; simp [quietK, h0, h1]
      subst hr
      clear hrH
      go_enter Tryd.func105, Tryd.ntmps105
      go_wp2
      go_ret
      exact ⟨rfl, rfl⟩
    | false =>
      have hr : r = false := by rw [hrH.out]; simp [quietK, h0, h1]
      subst hr
      clear hrH
      go_enter Tryd.func105, Tryd.ntmps105
      go_wp2
      go_ret
      exact ⟨rfl, rfl⟩

set_option maxRecDepth 100000 in
set_option maxHeartbeats 8000000 in
theorem rjoined_any (w : World) (before last b next : Int) :
    Calls Tryd.prog 86 #[.int .i64 before, .int .i64 last, .int .i64 b, .int .i64 next] w fun e w' => e = .returned (.bool (joinedB before last b next)) ∧ w' = w := by
  rw [← joined_ref]
  obtain ⟨t1, ht1⟩ : ∃ t, t = (letterK last && letterK b) := ⟨_, rfl⟩
  obtain ⟨t2, ht2⟩ : ∃ t, t = ((letterK last && ((b == 14) || quietK b)) && letterK next) := ⟨_, rfl⟩
  obtain ⟨t3, ht3⟩ : ∃ t, t = ((letterK before && ((last == 14) || quietK last)) && letterK b) := ⟨_, rfl⟩
  obtain ⟨t4, ht4⟩ : ∃ t, t = ((last == 9) && ((b == 11) || ((b == 12) && (next == 9)))) := ⟨_, rfl⟩
  obtain ⟨t5, ht5⟩ : ∃ t, t = (((before == 9) && (last == 12)) && (b == 9)) := ⟨_, rfl⟩
  obtain ⟨t6, ht6⟩ : ∃ t, t = (((last == 16) && ((b == 16) || letterK b)) || (letterK last && (b == 16))) := ⟨_, rfl⟩
  obtain ⟨t7, ht7⟩ : ∃ t, t = (((before == 16) && ((last == 15) || quietK last)) && (b == 16)) := ⟨_, rfl⟩
  obtain ⟨t8, ht8⟩ : ∃ t, t = (((last == 16) && ((b == 15) || quietK b)) && (next == 16)) := ⟨_, rfl⟩
  obtain ⟨t9, ht9⟩ : ∃ t, t = ((last == 8) && (b == 8)) := ⟨_, rfl⟩
  obtain ⟨t10, ht10⟩ : ∃ t, t = ((((letterK last || (last == 16)) || (last == 8)) || (last == 17)) && (b == 17)) := ⟨_, rfl⟩
  obtain ⟨t11, ht11⟩ : ∃ t, t = ((last == 17) && ((letterK b || (b == 16)) || (b == 8))) := ⟨_, rfl⟩
  have hJ : joinedR before last b next = (t1 || t2 || t3 || t4 || t5 || t6 || t7 || t8 || t9 || t10 || t11) := by rw [ht1, ht2, ht3, ht4, ht5, ht6, ht7, ht8, ht9, ht10, ht11]; rfl
  rw [hJ]
  have ht1H := Lib.hid ht1
  have ht2H := Lib.hid ht2
  have ht3H := Lib.hid ht3
  have ht4H := Lib.hid ht4
  have ht5H := Lib.hid ht5
  have ht6H := Lib.hid ht6
  have ht7H := Lib.hid ht7
  have ht8H := Lib.hid ht8
  have ht9H := Lib.hid ht9
  have ht10H := Lib.hid ht10
  have ht11H := Lib.hid ht11
  clear hJ ht1 ht2 ht3 ht4 ht5 ht6 ht7 ht8 ht9 ht10 ht11
  go_enter Tryd.func86, Tryd.ntmps86
  go_upto_region 1 with (fail)
  go_cut [9] (fun s wx => s = .bool t1 ∧ w = wx)
  case first =>
    as_aux_lemma =>
      cases hk1 : letterK last with
      | false =>
        have ht : t1 = false := by rw [ht1H.out]; simp [hk1]
        subst ht
        go_wp2_with (first | (go_at_call 104; refine (rletter_any _ _).mono ?_; rintro e w1 ⟨he, rfl⟩; simp only [hk1] at he; subst he) | (go_at_call 105; refine (rquiet_any _ _).mono ?_; rintro e w1 ⟨he, rfl⟩; simp only [hk1] at he; subst he))
        go_meet
        exact ⟨rfl, rfl⟩
      | true =>
        cases hk2 : letterK b with
        | false =>
          have ht : t1 = false := by rw [ht1H.out]; simp [hk1, hk2]
          subst ht
          go_wp2_with (first | (go_at_call 104; refine (rletter_any _ _).mono ?_; rintro e w1 ⟨he, rfl⟩; simp only [hk1, hk2] at he; subst he) | (go_at_call 105; refine (rquiet_any _ _).mono ?_; rintro e w1 ⟨he, rfl⟩; simp only [hk1, hk2] at he; subst he))
          go_meet
          exact ⟨rfl, rfl⟩
        | true =>
          have ht : t1 = true := by rw [ht1H.out]; simp [hk1, hk2]
          subst ht
          go_wp2_with (first | (go_at_call 104; refine (rletter_any _ _).mono ?_; rintro e w1 ⟨he, rfl⟩; simp only [hk1, hk2] at he; subst he) | (go_at_call 105; refine (rquiet_any _ _).mono ?_; rintro e w1 ⟨he, rfl⟩; simp only [hk1, hk2] at he; subst he))
          go_meet
          exact ⟨rfl, rfl⟩
  case rest =>
    obtain ⟨rfl, rfl⟩ := hcut
    cases t1 with
    | true =>
      as_aux_lemma =>
        clear ht1H ht2H ht3H ht4H ht5H ht6H ht7H ht8H ht9H ht10H ht11H
        go_wp2
        go_ret
        exact ⟨rfl, rfl⟩
    | false =>
      go_upto_region 3 with (fail)
      go_cut [16] (fun s wx => s = .bool t2 ∧ w = wx)
      case first =>
        as_aux_lemma =>
          cases hk3 : letterK last with
          | false =>
            have ht : t2 = false := by rw [ht2H.out]; simp [hk3]
            subst ht
            go_wp2_with (first | (go_at_call 104; refine (rletter_any _ _).mono ?_; rintro e w1 ⟨he, rfl⟩; simp only [hk3] at he; subst he) | (go_at_call 105; refine (rquiet_any _ _).mono ?_; rintro e w1 ⟨he, rfl⟩; simp only [hk3] at he; subst he))
            go_meet
            exact ⟨rfl, rfl⟩
          | true =>
            cases hk4 : (b == 14) with
            | false =>
              cases hk5 : quietK b with
              | false =>
                have ht : t2 = false := by rw [ht2H.out]; simp [hk3, hk4, hk5]
                subst ht
                go_wp2_with (first | (go_at_call 104; refine (rletter_any _ _).mono ?_; rintro e w1 ⟨he, rfl⟩; simp only [hk3, hk4, hk5] at he; subst he) | (go_at_call 105; refine (rquiet_any _ _).mono ?_; rintro e w1 ⟨he, rfl⟩; simp only [hk3, hk4, hk5] at he; subst he))
                go_meet
                exact ⟨rfl, rfl⟩
              | true =>
                cases hk6 : letterK next with
                | false =>
                  have ht : t2 = false := by rw [ht2H.out]; simp [hk3, hk4, hk5, hk6]
                  subst ht
                  go_wp2_with (first | (go_at_call 104; refine (rletter_any _ _).mono ?_; rintro e w1 ⟨he, rfl⟩; simp only [hk3, hk4, hk5, hk6] at he; subst he) | (go_at_call 105; refine (rquiet_any _ _).mono ?_; rintro e w1 ⟨he, rfl⟩; simp only [hk3, hk4, hk5, hk6] at he; subst he))
                  go_meet
                  exact ⟨rfl, rfl⟩
                | true =>
                  have ht : t2 = true := by rw [ht2H.out]; simp [hk3, hk4, hk5, hk6]
                  subst ht
                  go_wp2_with (first | (go_at_call 104; refine (rletter_any _ _).mono ?_; rintro e w1 ⟨he, rfl⟩; simp only [hk3, hk4, hk5, hk6] at he; subst he) | (go_at_call 105; refine (rquiet_any _ _).mono ?_; rintro e w1 ⟨he, rfl⟩; simp only [hk3, hk4, hk5, hk6] at he; subst he))
                  go_meet
                  exact ⟨rfl, rfl⟩
            | true =>
              cases hk7 : letterK next with
              | false =>
                have ht : t2 = false := by rw [ht2H.out]; simp [hk3, hk4, hk7]
                subst ht
                go_wp2_with (first | (go_at_call 104; refine (rletter_any _ _).mono ?_; rintro e w1 ⟨he, rfl⟩; simp only [hk3, hk4, hk7] at he; subst he) | (go_at_call 105; refine (rquiet_any _ _).mono ?_; rintro e w1 ⟨he, rfl⟩; simp only [hk3, hk4, hk7] at he; subst he))
                go_meet
                exact ⟨rfl, rfl⟩
              | true =>
                have ht : t2 = true := by rw [ht2H.out]; simp [hk3, hk4, hk7]
                subst ht
                go_wp2_with (first | (go_at_call 104; refine (rletter_any _ _).mono ?_; rintro e w1 ⟨he, rfl⟩; simp only [hk3, hk4, hk7] at he; subst he) | (go_at_call 105; refine (rquiet_any _ _).mono ?_; rintro e w1 ⟨he, rfl⟩; simp only [hk3, hk4, hk7] at he; subst he))
                go_meet
                exact ⟨rfl, rfl⟩
      case rest =>
        obtain ⟨rfl, rfl⟩ := hcut
        cases t2 with
        | true =>
          as_aux_lemma =>
            clear ht1H ht2H ht3H ht4H ht5H ht6H ht7H ht8H ht9H ht10H ht11H
            go_wp2
            go_ret
            exact ⟨rfl, rfl⟩
        | false =>
          go_upto_region 5 with (fail)
          go_cut [31] (fun s wx => s = .bool t3 ∧ w = wx)
          case first =>
            as_aux_lemma =>
              cases hk8 : letterK before with
              | false =>
                have ht : t3 = false := by rw [ht3H.out]; simp [hk8]
                subst ht
                go_wp2_with (first | (go_at_call 104; refine (rletter_any _ _).mono ?_; rintro e w1 ⟨he, rfl⟩; simp only [hk8] at he; subst he) | (go_at_call 105; refine (rquiet_any _ _).mono ?_; rintro e w1 ⟨he, rfl⟩; simp only [hk8] at he; subst he))
                go_meet
                exact ⟨rfl, rfl⟩
              | true =>
                cases hk9 : (last == 14) with
                | false =>
                  cases hk10 : quietK last with
                  | false =>
                    have ht : t3 = false := by rw [ht3H.out]; simp [hk8, hk9, hk10]
                    subst ht
                    go_wp2_with (first | (go_at_call 104; refine (rletter_any _ _).mono ?_; rintro e w1 ⟨he, rfl⟩; simp only [hk8, hk9, hk10] at he; subst he) | (go_at_call 105; refine (rquiet_any _ _).mono ?_; rintro e w1 ⟨he, rfl⟩; simp only [hk8, hk9, hk10] at he; subst he))
                    go_meet
                    exact ⟨rfl, rfl⟩
                  | true =>
                    cases hk11 : letterK b with
                    | false =>
                      have ht : t3 = false := by rw [ht3H.out]; simp [hk8, hk9, hk10, hk11]
                      subst ht
                      go_wp2_with (first | (go_at_call 104; refine (rletter_any _ _).mono ?_; rintro e w1 ⟨he, rfl⟩; simp only [hk8, hk9, hk10, hk11] at he; subst he) | (go_at_call 105; refine (rquiet_any _ _).mono ?_; rintro e w1 ⟨he, rfl⟩; simp only [hk8, hk9, hk10, hk11] at he; subst he))
                      go_meet
                      exact ⟨rfl, rfl⟩
                    | true =>
                      have ht : t3 = true := by rw [ht3H.out]; simp [hk8, hk9, hk10, hk11]
                      subst ht
                      go_wp2_with (first | (go_at_call 104; refine (rletter_any _ _).mono ?_; rintro e w1 ⟨he, rfl⟩; simp only [hk8, hk9, hk10, hk11] at he; subst he) | (go_at_call 105; refine (rquiet_any _ _).mono ?_; rintro e w1 ⟨he, rfl⟩; simp only [hk8, hk9, hk10, hk11] at he; subst he))
                      go_meet
                      exact ⟨rfl, rfl⟩
                | true =>
                  cases hk12 : letterK b with
                  | false =>
                    have ht : t3 = false := by rw [ht3H.out]; simp [hk8, hk9, hk12]
                    subst ht
                    go_wp2_with (first | (go_at_call 104; refine (rletter_any _ _).mono ?_; rintro e w1 ⟨he, rfl⟩; simp only [hk8, hk9, hk12] at he; subst he) | (go_at_call 105; refine (rquiet_any _ _).mono ?_; rintro e w1 ⟨he, rfl⟩; simp only [hk8, hk9, hk12] at he; subst he))
                    go_meet
                    exact ⟨rfl, rfl⟩
                  | true =>
                    have ht : t3 = true := by rw [ht3H.out]; simp [hk8, hk9, hk12]
                    subst ht
                    go_wp2_with (first | (go_at_call 104; refine (rletter_any _ _).mono ?_; rintro e w1 ⟨he, rfl⟩; simp only [hk8, hk9, hk12] at he; subst he) | (go_at_call 105; refine (rquiet_any _ _).mono ?_; rintro e w1 ⟨he, rfl⟩; simp only [hk8, hk9, hk12] at he; subst he))
                    go_meet
                    exact ⟨rfl, rfl⟩
          case rest =>
            obtain ⟨rfl, rfl⟩ := hcut
            cases t3 with
            | true =>
              as_aux_lemma =>
                clear ht1H ht2H ht3H ht4H ht5H ht6H ht7H ht8H ht9H ht10H ht11H
                go_wp2
                go_ret
                exact ⟨rfl, rfl⟩
            | false =>
              go_upto_region 7 with (fail)
              go_cut [46] (fun s wx => s = .bool t4 ∧ w = wx)
              case first =>
                as_aux_lemma =>
                  cases hk13 : (last == 9) with
                  | false =>
                    have ht : t4 = false := by rw [ht4H.out]; simp [hk13]
                    subst ht
                    go_wp2_with (first | (go_at_call 104; refine (rletter_any _ _).mono ?_; rintro e w1 ⟨he, rfl⟩; simp only [hk13] at he; subst he) | (go_at_call 105; refine (rquiet_any _ _).mono ?_; rintro e w1 ⟨he, rfl⟩; simp only [hk13] at he; subst he))
                    go_meet
                    exact ⟨rfl, rfl⟩
                  | true =>
                    cases hk14 : (b == 11) with
                    | false =>
                      cases hk15 : (b == 12) with
                      | false =>
                        have ht : t4 = false := by rw [ht4H.out]; simp [hk13, hk14, hk15]
                        subst ht
                        go_wp2_with (first | (go_at_call 104; refine (rletter_any _ _).mono ?_; rintro e w1 ⟨he, rfl⟩; simp only [hk13, hk14, hk15] at he; subst he) | (go_at_call 105; refine (rquiet_any _ _).mono ?_; rintro e w1 ⟨he, rfl⟩; simp only [hk13, hk14, hk15] at he; subst he))
                        go_meet
                        exact ⟨rfl, rfl⟩
                      | true =>
                        cases hk16 : (next == 9) with
                        | false =>
                          have ht : t4 = false := by rw [ht4H.out]; simp [hk13, hk14, hk15, hk16]
                          subst ht
                          go_wp2_with (first | (go_at_call 104; refine (rletter_any _ _).mono ?_; rintro e w1 ⟨he, rfl⟩; simp only [hk13, hk14, hk15, hk16] at he; subst he) | (go_at_call 105; refine (rquiet_any _ _).mono ?_; rintro e w1 ⟨he, rfl⟩; simp only [hk13, hk14, hk15, hk16] at he; subst he))
                          go_meet
                          exact ⟨rfl, rfl⟩
                        | true =>
                          have ht : t4 = true := by rw [ht4H.out]; simp [hk13, hk14, hk15, hk16]
                          subst ht
                          go_wp2_with (first | (go_at_call 104; refine (rletter_any _ _).mono ?_; rintro e w1 ⟨he, rfl⟩; simp only [hk13, hk14, hk15, hk16] at he; subst he) | (go_at_call 105; refine (rquiet_any _ _).mono ?_; rintro e w1 ⟨he, rfl⟩; simp only [hk13, hk14, hk15, hk16] at he; subst he))
                          go_meet
                          exact ⟨rfl, rfl⟩
                    | true =>
                      have ht : t4 = true := by rw [ht4H.out]; simp [hk13, hk14]
                      subst ht
                      go_wp2_with (first | (go_at_call 104; refine (rletter_any _ _).mono ?_; rintro e w1 ⟨he, rfl⟩; simp only [hk13, hk14] at he; subst he) | (go_at_call 105; refine (rquiet_any _ _).mono ?_; rintro e w1 ⟨he, rfl⟩; simp only [hk13, hk14] at he; subst he))
                      go_meet
                      exact ⟨rfl, rfl⟩
              case rest =>
                obtain ⟨rfl, rfl⟩ := hcut
                cases t4 with
                | true =>
                  as_aux_lemma =>
                    clear ht1H ht2H ht3H ht4H ht5H ht6H ht7H ht8H ht9H ht10H ht11H
                    go_wp2
                    go_ret
                    exact ⟨rfl, rfl⟩
                | false =>
                  go_upto_region 9 with (fail)
                  go_cut [61] (fun s wx => s = .bool t5 ∧ w = wx)
                  case first =>
                    as_aux_lemma =>
                      cases hk17 : (before == 9) with
                      | false =>
                        have ht : t5 = false := by rw [ht5H.out]; simp [hk17]
                        subst ht
                        go_wp2_with (first | (go_at_call 104; refine (rletter_any _ _).mono ?_; rintro e w1 ⟨he, rfl⟩; simp only [hk17] at he; subst he) | (go_at_call 105; refine (rquiet_any _ _).mono ?_; rintro e w1 ⟨he, rfl⟩; simp only [hk17] at he; subst he))
                        go_meet
                        exact ⟨rfl, rfl⟩
                      | true =>
                        cases hk18 : (last == 12) with
                        | false =>
                          have ht : t5 = false := by rw [ht5H.out]; simp [hk17, hk18]
                          subst ht
                          go_wp2_with (first | (go_at_call 104; refine (rletter_any _ _).mono ?_; rintro e w1 ⟨he, rfl⟩; simp only [hk17, hk18] at he; subst he) | (go_at_call 105; refine (rquiet_any _ _).mono ?_; rintro e w1 ⟨he, rfl⟩; simp only [hk17, hk18] at he; subst he))
                          go_meet
                          exact ⟨rfl, rfl⟩
                        | true =>
                          cases hk19 : (b == 9) with
                          | false =>
                            have ht : t5 = false := by rw [ht5H.out]; simp [hk17, hk18, hk19]
                            subst ht
                            go_wp2_with (first | (go_at_call 104; refine (rletter_any _ _).mono ?_; rintro e w1 ⟨he, rfl⟩; simp only [hk17, hk18, hk19] at he; subst he) | (go_at_call 105; refine (rquiet_any _ _).mono ?_; rintro e w1 ⟨he, rfl⟩; simp only [hk17, hk18, hk19] at he; subst he))
                            go_meet
                            exact ⟨rfl, rfl⟩
                          | true =>
                            have ht : t5 = true := by rw [ht5H.out]; simp [hk17, hk18, hk19]
                            subst ht
                            go_wp2_with (first | (go_at_call 104; refine (rletter_any _ _).mono ?_; rintro e w1 ⟨he, rfl⟩; simp only [hk17, hk18, hk19] at he; subst he) | (go_at_call 105; refine (rquiet_any _ _).mono ?_; rintro e w1 ⟨he, rfl⟩; simp only [hk17, hk18, hk19] at he; subst he))
                            go_meet
                            exact ⟨rfl, rfl⟩
                  case rest =>
                    obtain ⟨rfl, rfl⟩ := hcut
                    cases t5 with
                    | true =>
                      as_aux_lemma =>
                        clear ht1H ht2H ht3H ht4H ht5H ht6H ht7H ht8H ht9H ht10H ht11H
                        go_wp2
                        go_ret
                        exact ⟨rfl, rfl⟩
                    | false =>
                      go_upto_region 11 with (fail)
                      go_cut [72] (fun s wx => s = .bool t6 ∧ w = wx)
                      case first =>
                        as_aux_lemma =>
                          cases hk20 : (last == 16) with
                          | false =>
                            cases hk21 : letterK last with
                            | false =>
                              have ht : t6 = false := by rw [ht6H.out]; simp [hk20, hk21]
                              subst ht
                              go_wp2_with (first | (go_at_call 104; refine (rletter_any _ _).mono ?_; rintro e w1 ⟨he, rfl⟩; simp only [hk20, hk21] at he; subst he) | (go_at_call 105; refine (rquiet_any _ _).mono ?_; rintro e w1 ⟨he, rfl⟩; simp only [hk20, hk21] at he; subst he))
                              go_meet
                              exact ⟨rfl, rfl⟩
                            | true =>
                              cases hk22 : (b == 16) with
                              | false =>
                                have ht : t6 = false := by rw [ht6H.out]; simp [hk20, hk21, hk22]
                                subst ht
                                go_wp2_with (first | (go_at_call 104; refine (rletter_any _ _).mono ?_; rintro e w1 ⟨he, rfl⟩; simp only [hk20, hk21, hk22] at he; subst he) | (go_at_call 105; refine (rquiet_any _ _).mono ?_; rintro e w1 ⟨he, rfl⟩; simp only [hk20, hk21, hk22] at he; subst he))
                                go_meet
                                exact ⟨rfl, rfl⟩
                              | true =>
                                have ht : t6 = true := by rw [ht6H.out]; simp [hk20, hk21, hk22]
                                subst ht
                                go_wp2_with (first | (go_at_call 104; refine (rletter_any _ _).mono ?_; rintro e w1 ⟨he, rfl⟩; simp only [hk20, hk21, hk22] at he; subst he) | (go_at_call 105; refine (rquiet_any _ _).mono ?_; rintro e w1 ⟨he, rfl⟩; simp only [hk20, hk21, hk22] at he; subst he))
                                go_meet
                                exact ⟨rfl, rfl⟩
                          | true =>
                            cases hk23 : (b == 16) with
                            | false =>
                              cases hk24 : letterK b with
                              | false =>
                                cases hk25 : letterK last with
                                | false =>
                                  have ht : t6 = false := by rw [ht6H.out]; simp [hk20, hk23, hk24, hk25]
                                  subst ht
                                  go_wp2_with (first | (go_at_call 104; refine (rletter_any _ _).mono ?_; rintro e w1 ⟨he, rfl⟩; simp only [hk20, hk23, hk24, hk25] at he; subst he) | (go_at_call 105; refine (rquiet_any _ _).mono ?_; rintro e w1 ⟨he, rfl⟩; simp only [hk20, hk23, hk24, hk25] at he; subst he))
                                  go_meet
                                  exact ⟨rfl, rfl⟩
                                | true =>
                                  have ht : t6 = false := by rw [ht6H.out]; simp [hk20, hk23, hk24, hk25]
                                  subst ht
                                  go_wp2_with (first | (go_at_call 104; refine (rletter_any _ _).mono ?_; rintro e w1 ⟨he, rfl⟩; simp only [hk20, hk23, hk24, hk25] at he; subst he) | (go_at_call 105; refine (rquiet_any _ _).mono ?_; rintro e w1 ⟨he, rfl⟩; simp only [hk20, hk23, hk24, hk25] at he; subst he))
                                  go_meet
                                  exact ⟨rfl, rfl⟩
                              | true =>
                                have ht : t6 = true := by rw [ht6H.out]; simp [hk20, hk23, hk24]
                                subst ht
                                go_wp2_with (first | (go_at_call 104; refine (rletter_any _ _).mono ?_; rintro e w1 ⟨he, rfl⟩; simp only [hk20, hk23, hk24] at he; subst he) | (go_at_call 105; refine (rquiet_any _ _).mono ?_; rintro e w1 ⟨he, rfl⟩; simp only [hk20, hk23, hk24] at he; subst he))
                                go_meet
                                exact ⟨rfl, rfl⟩
                            | true =>
                              have ht : t6 = true := by rw [ht6H.out]; simp [hk20, hk23]
                              subst ht
                              go_wp2_with (first | (go_at_call 104; refine (rletter_any _ _).mono ?_; rintro e w1 ⟨he, rfl⟩; simp only [hk20, hk23] at he; subst he) | (go_at_call 105; refine (rquiet_any _ _).mono ?_; rintro e w1 ⟨he, rfl⟩; simp only [hk20, hk23] at he; subst he))
                              go_meet
                              exact ⟨rfl, rfl⟩
                      case rest =>
                        obtain ⟨rfl, rfl⟩ := hcut
                        cases t6 with
                        | true =>
                          as_aux_lemma =>
                            clear ht1H ht2H ht3H ht4H ht5H ht6H ht7H ht8H ht9H ht10H ht11H
                            go_wp2
                            go_ret
                            exact ⟨rfl, rfl⟩
                        | false =>
                          go_upto_region 13 with (fail)
                          go_cut [91] (fun s wx => s = .bool t7 ∧ w = wx)
                          case first =>
                            as_aux_lemma =>
                              cases hk26 : (before == 16) with
                              | false =>
                                have ht : t7 = false := by rw [ht7H.out]; simp [hk26]
                                subst ht
                                go_wp2_with (first | (go_at_call 104; refine (rletter_any _ _).mono ?_; rintro e w1 ⟨he, rfl⟩; simp only [hk26] at he; subst he) | (go_at_call 105; refine (rquiet_any _ _).mono ?_; rintro e w1 ⟨he, rfl⟩; simp only [hk26] at he; subst he))
                                go_meet
                                exact ⟨rfl, rfl⟩
                              | true =>
                                cases hk27 : (last == 15) with
                                | false =>
                                  cases hk28 : quietK last with
                                  | false =>
                                    have ht : t7 = false := by rw [ht7H.out]; simp [hk26, hk27, hk28]
                                    subst ht
                                    go_wp2_with (first | (go_at_call 104; refine (rletter_any _ _).mono ?_; rintro e w1 ⟨he, rfl⟩; simp only [hk26, hk27, hk28] at he; subst he) | (go_at_call 105; refine (rquiet_any _ _).mono ?_; rintro e w1 ⟨he, rfl⟩; simp only [hk26, hk27, hk28] at he; subst he))
                                    go_meet
                                    exact ⟨rfl, rfl⟩
                                  | true =>
                                    cases hk29 : (b == 16) with
                                    | false =>
                                      have ht : t7 = false := by rw [ht7H.out]; simp [hk26, hk27, hk28, hk29]
                                      subst ht
                                      go_wp2_with (first | (go_at_call 104; refine (rletter_any _ _).mono ?_; rintro e w1 ⟨he, rfl⟩; simp only [hk26, hk27, hk28, hk29] at he; subst he) | (go_at_call 105; refine (rquiet_any _ _).mono ?_; rintro e w1 ⟨he, rfl⟩; simp only [hk26, hk27, hk28, hk29] at he; subst he))
                                      go_meet
                                      exact ⟨rfl, rfl⟩
                                    | true =>
                                      have ht : t7 = true := by rw [ht7H.out]; simp [hk26, hk27, hk28, hk29]
                                      subst ht
                                      go_wp2_with (first | (go_at_call 104; refine (rletter_any _ _).mono ?_; rintro e w1 ⟨he, rfl⟩; simp only [hk26, hk27, hk28, hk29] at he; subst he) | (go_at_call 105; refine (rquiet_any _ _).mono ?_; rintro e w1 ⟨he, rfl⟩; simp only [hk26, hk27, hk28, hk29] at he; subst he))
                                      go_meet
                                      exact ⟨rfl, rfl⟩
                                | true =>
                                  cases hk30 : (b == 16) with
                                  | false =>
                                    have ht : t7 = false := by rw [ht7H.out]; simp [hk26, hk27, hk30]
                                    subst ht
                                    go_wp2_with (first | (go_at_call 104; refine (rletter_any _ _).mono ?_; rintro e w1 ⟨he, rfl⟩; simp only [hk26, hk27, hk30] at he; subst he) | (go_at_call 105; refine (rquiet_any _ _).mono ?_; rintro e w1 ⟨he, rfl⟩; simp only [hk26, hk27, hk30] at he; subst he))
                                    go_meet
                                    exact ⟨rfl, rfl⟩
                                  | true =>
                                    have ht : t7 = true := by rw [ht7H.out]; simp [hk26, hk27, hk30]
                                    subst ht
                                    go_wp2_with (first | (go_at_call 104; refine (rletter_any _ _).mono ?_; rintro e w1 ⟨he, rfl⟩; simp only [hk26, hk27, hk30] at he; subst he) | (go_at_call 105; refine (rquiet_any _ _).mono ?_; rintro e w1 ⟨he, rfl⟩; simp only [hk26, hk27, hk30] at he; subst he))
                                    go_meet
                                    exact ⟨rfl, rfl⟩
                          case rest =>
                            obtain ⟨rfl, rfl⟩ := hcut
                            cases t7 with
                            | true =>
                              as_aux_lemma =>
                                clear ht1H ht2H ht3H ht4H ht5H ht6H ht7H ht8H ht9H ht10H ht11H
                                go_wp2
                                go_ret
                                exact ⟨rfl, rfl⟩
                            | false =>
                              go_upto_region 15 with (fail)
                              go_cut [106] (fun s wx => s = .bool t8 ∧ w = wx)
                              case first =>
                                as_aux_lemma =>
                                  cases hk31 : (last == 16) with
                                  | false =>
                                    have ht : t8 = false := by rw [ht8H.out]; simp [hk31]
                                    subst ht
                                    go_wp2_with (first | (go_at_call 104; refine (rletter_any _ _).mono ?_; rintro e w1 ⟨he, rfl⟩; simp only [hk31] at he; subst he) | (go_at_call 105; refine (rquiet_any _ _).mono ?_; rintro e w1 ⟨he, rfl⟩; simp only [hk31] at he; subst he))
                                    go_meet
                                    exact ⟨rfl, rfl⟩
                                  | true =>
                                    cases hk32 : (b == 15) with
                                    | false =>
                                      cases hk33 : quietK b with
                                      | false =>
                                        have ht : t8 = false := by rw [ht8H.out]; simp [hk31, hk32, hk33]
                                        subst ht
                                        go_wp2_with (first | (go_at_call 104; refine (rletter_any _ _).mono ?_; rintro e w1 ⟨he, rfl⟩; simp only [hk31, hk32, hk33] at he; subst he) | (go_at_call 105; refine (rquiet_any _ _).mono ?_; rintro e w1 ⟨he, rfl⟩; simp only [hk31, hk32, hk33] at he; subst he))
                                        go_meet
                                        exact ⟨rfl, rfl⟩
                                      | true =>
                                        cases hk34 : (next == 16) with
                                        | false =>
                                          have ht : t8 = false := by rw [ht8H.out]; simp [hk31, hk32, hk33, hk34]
                                          subst ht
                                          go_wp2_with (first | (go_at_call 104; refine (rletter_any _ _).mono ?_; rintro e w1 ⟨he, rfl⟩; simp only [hk31, hk32, hk33, hk34] at he; subst he) | (go_at_call 105; refine (rquiet_any _ _).mono ?_; rintro e w1 ⟨he, rfl⟩; simp only [hk31, hk32, hk33, hk34] at he; subst he))
                                          go_meet
                                          exact ⟨rfl, rfl⟩
                                        | true =>
                                          have ht : t8 = true := by rw [ht8H.out]; simp [hk31, hk32, hk33, hk34]
                                          subst ht
                                          go_wp2_with (first | (go_at_call 104; refine (rletter_any _ _).mono ?_; rintro e w1 ⟨he, rfl⟩; simp only [hk31, hk32, hk33, hk34] at he; subst he) | (go_at_call 105; refine (rquiet_any _ _).mono ?_; rintro e w1 ⟨he, rfl⟩; simp only [hk31, hk32, hk33, hk34] at he; subst he))
                                          go_meet
                                          exact ⟨rfl, rfl⟩
                                    | true =>
                                      cases hk35 : (next == 16) with
                                      | false =>
                                        have ht : t8 = false := by rw [ht8H.out]; simp [hk31, hk32, hk35]
                                        subst ht
                                        go_wp2_with (first | (go_at_call 104; refine (rletter_any _ _).mono ?_; rintro e w1 ⟨he, rfl⟩; simp only [hk31, hk32, hk35] at he; subst he) | (go_at_call 105; refine (rquiet_any _ _).mono ?_; rintro e w1 ⟨he, rfl⟩; simp only [hk31, hk32, hk35] at he; subst he))
                                        go_meet
                                        exact ⟨rfl, rfl⟩
                                      | true =>
                                        have ht : t8 = true := by rw [ht8H.out]; simp [hk31, hk32, hk35]
                                        subst ht
                                        go_wp2_with (first | (go_at_call 104; refine (rletter_any _ _).mono ?_; rintro e w1 ⟨he, rfl⟩; simp only [hk31, hk32, hk35] at he; subst he) | (go_at_call 105; refine (rquiet_any _ _).mono ?_; rintro e w1 ⟨he, rfl⟩; simp only [hk31, hk32, hk35] at he; subst he))
                                        go_meet
                                        exact ⟨rfl, rfl⟩
                              case rest =>
                                obtain ⟨rfl, rfl⟩ := hcut
                                cases t8 with
                                | true =>
                                  as_aux_lemma =>
                                    clear ht1H ht2H ht3H ht4H ht5H ht6H ht7H ht8H ht9H ht10H ht11H
                                    go_wp2
                                    go_ret
                                    exact ⟨rfl, rfl⟩
                                | false =>
                                  go_upto_region 17 with (fail)
                                  go_cut [121] (fun s wx => s = .bool t9 ∧ w = wx)
                                  case first =>
                                    as_aux_lemma =>
                                      cases hk36 : (last == 8) with
                                      | false =>
                                        have ht : t9 = false := by rw [ht9H.out]; simp [hk36]
                                        subst ht
                                        go_wp2_with (first | (go_at_call 104; refine (rletter_any _ _).mono ?_; rintro e w1 ⟨he, rfl⟩; simp only [hk36] at he; subst he) | (go_at_call 105; refine (rquiet_any _ _).mono ?_; rintro e w1 ⟨he, rfl⟩; simp only [hk36] at he; subst he))
                                        go_meet
                                        exact ⟨rfl, rfl⟩
                                      | true =>
                                        cases hk37 : (b == 8) with
                                        | false =>
                                          have ht : t9 = false := by rw [ht9H.out]; simp [hk36, hk37]
                                          subst ht
                                          go_wp2_with (first | (go_at_call 104; refine (rletter_any _ _).mono ?_; rintro e w1 ⟨he, rfl⟩; simp only [hk36, hk37] at he; subst he) | (go_at_call 105; refine (rquiet_any _ _).mono ?_; rintro e w1 ⟨he, rfl⟩; simp only [hk36, hk37] at he; subst he))
                                          go_meet
                                          exact ⟨rfl, rfl⟩
                                        | true =>
                                          have ht : t9 = true := by rw [ht9H.out]; simp [hk36, hk37]
                                          subst ht
                                          go_wp2_with (first | (go_at_call 104; refine (rletter_any _ _).mono ?_; rintro e w1 ⟨he, rfl⟩; simp only [hk36, hk37] at he; subst he) | (go_at_call 105; refine (rquiet_any _ _).mono ?_; rintro e w1 ⟨he, rfl⟩; simp only [hk36, hk37] at he; subst he))
                                          go_meet
                                          exact ⟨rfl, rfl⟩
                                  case rest =>
                                    obtain ⟨rfl, rfl⟩ := hcut
                                    cases t9 with
                                    | true =>
                                      as_aux_lemma =>
                                        clear ht1H ht2H ht3H ht4H ht5H ht6H ht7H ht8H ht9H ht10H ht11H
                                        go_wp2
                                        go_ret
                                        exact ⟨rfl, rfl⟩
                                    | false =>
                                      go_upto_region 19 with (fail)
                                      go_cut [128] (fun s wx => s = .bool t10 ∧ w = wx)
                                      case first =>
                                        as_aux_lemma =>
                                          cases hk38 : letterK last with
                                          | false =>
                                            cases hk39 : (last == 16) with
                                            | false =>
                                              cases hk40 : (last == 8) with
                                              | false =>
                                                cases hk41 : (last == 17) with
                                                | false =>
                                                  have ht : t10 = false := by rw [ht10H.out]; simp [hk38, hk39, hk40, hk41]
                                                  subst ht
                                                  go_wp2_with (first | (go_at_call 104; refine (rletter_any _ _).mono ?_; rintro e w1 ⟨he, rfl⟩; simp only [hk38, hk39, hk40, hk41] at he; subst he) | (go_at_call 105; refine (rquiet_any _ _).mono ?_; rintro e w1 ⟨he, rfl⟩; simp only [hk38, hk39, hk40, hk41] at he; subst he))
                                                  go_meet
                                                  exact ⟨rfl, rfl⟩
                                                | true =>
                                                  cases hk42 : (b == 17) with
                                                  | false =>
                                                    have ht : t10 = false := by rw [ht10H.out]; simp [hk38, hk39, hk40, hk41, hk42]
                                                    subst ht
                                                    go_wp2_with (first | (go_at_call 104; refine (rletter_any _ _).mono ?_; rintro e w1 ⟨he, rfl⟩; simp only [hk38, hk39, hk40, hk41, hk42] at he; subst he) | (go_at_call 105; refine (rquiet_any _ _).mono ?_; rintro e w1 ⟨he, rfl⟩; simp only [hk38, hk39, hk40, hk41, hk42] at he; subst he))
                                                    go_meet
                                                    exact ⟨rfl, rfl⟩
                                                  | true =>
                                                    have ht : t10 = true := by rw [ht10H.out]; simp [hk38, hk39, hk40, hk41, hk42]
                                                    subst ht
                                                    go_wp2_with (first | (go_at_call 104; refine (rletter_any _ _).mono ?_; rintro e w1 ⟨he, rfl⟩; simp only [hk38, hk39, hk40, hk41, hk42] at he; subst he) | (go_at_call 105; refine (rquiet_any _ _).mono ?_; rintro e w1 ⟨he, rfl⟩; simp only [hk38, hk39, hk40, hk41, hk42] at he; subst he))
                                                    go_meet
                                                    exact ⟨rfl, rfl⟩
                                              | true =>
                                                cases hk43 : (b == 17) with
                                                | false =>
                                                  have ht : t10 = false := by rw [ht10H.out]; simp [hk38, hk39, hk40, hk43]
                                                  subst ht
                                                  go_wp2_with (first | (go_at_call 104; refine (rletter_any _ _).mono ?_; rintro e w1 ⟨he, rfl⟩; simp only [hk38, hk39, hk40, hk43] at he; subst he) | (go_at_call 105; refine (rquiet_any _ _).mono ?_; rintro e w1 ⟨he, rfl⟩; simp only [hk38, hk39, hk40, hk43] at he; subst he))
                                                  go_meet
                                                  exact ⟨rfl, rfl⟩
                                                | true =>
                                                  have ht : t10 = true := by rw [ht10H.out]; simp [hk38, hk39, hk40, hk43]
                                                  subst ht
                                                  go_wp2_with (first | (go_at_call 104; refine (rletter_any _ _).mono ?_; rintro e w1 ⟨he, rfl⟩; simp only [hk38, hk39, hk40, hk43] at he; subst he) | (go_at_call 105; refine (rquiet_any _ _).mono ?_; rintro e w1 ⟨he, rfl⟩; simp only [hk38, hk39, hk40, hk43] at he; subst he))
                                                  go_meet
                                                  exact ⟨rfl, rfl⟩
                                            | true =>
                                              cases hk44 : (b == 17) with
                                              | false =>
                                                have ht : t10 = false := by rw [ht10H.out]; simp [hk38, hk39, hk44]
                                                subst ht
                                                go_wp2_with (first | (go_at_call 104; refine (rletter_any _ _).mono ?_; rintro e w1 ⟨he, rfl⟩; simp only [hk38, hk39, hk44] at he; subst he) | (go_at_call 105; refine (rquiet_any _ _).mono ?_; rintro e w1 ⟨he, rfl⟩; simp only [hk38, hk39, hk44] at he; subst he))
                                                go_meet
                                                exact ⟨rfl, rfl⟩
                                              | true =>
                                                have ht : t10 = true := by rw [ht10H.out]; simp [hk38, hk39, hk44]
                                                subst ht
                                                go_wp2_with (first | (go_at_call 104; refine (rletter_any _ _).mono ?_; rintro e w1 ⟨he, rfl⟩; simp only [hk38, hk39, hk44] at he; subst he) | (go_at_call 105; refine (rquiet_any _ _).mono ?_; rintro e w1 ⟨he, rfl⟩; simp only [hk38, hk39, hk44] at he; subst he))
                                                go_meet
                                                exact ⟨rfl, rfl⟩
                                          | true =>
                                            cases hk45 : (b == 17) with
                                            | false =>
                                              have ht : t10 = false := by rw [ht10H.out]; simp [hk38, hk45]
                                              subst ht
                                              go_wp2_with (first | (go_at_call 104; refine (rletter_any _ _).mono ?_; rintro e w1 ⟨he, rfl⟩; simp only [hk38, hk45] at he; subst he) | (go_at_call 105; refine (rquiet_any _ _).mono ?_; rintro e w1 ⟨he, rfl⟩; simp only [hk38, hk45] at he; subst he))
                                              go_meet
                                              exact ⟨rfl, rfl⟩
                                            | true =>
                                              have ht : t10 = true := by rw [ht10H.out]; simp [hk38, hk45]
                                              subst ht
                                              go_wp2_with (first | (go_at_call 104; refine (rletter_any _ _).mono ?_; rintro e w1 ⟨he, rfl⟩; simp only [hk38, hk45] at he; subst he) | (go_at_call 105; refine (rquiet_any _ _).mono ?_; rintro e w1 ⟨he, rfl⟩; simp only [hk38, hk45] at he; subst he))
                                              go_meet
                                              exact ⟨rfl, rfl⟩
                                      case rest =>
                                        obtain ⟨rfl, rfl⟩ := hcut
                                        cases t10 with
                                        | true =>
                                          as_aux_lemma =>
                                            clear ht1H ht2H ht3H ht4H ht5H ht6H ht7H ht8H ht9H ht10H ht11H
                                            go_wp2
                                            go_ret
                                            exact ⟨rfl, rfl⟩
                                        | false =>
                                          go_upto_region 21 with (fail)
                                          go_cut [8] (fun s wx => s = .bool t11 ∧ w = wx)
                                          case first =>
                                            as_aux_lemma =>
                                              cases hk46 : (last == 17) with
                                              | false =>
                                                have ht : t11 = false := by rw [ht11H.out]; simp [hk46]
                                                subst ht
                                                go_wp2_with (first | (go_at_call 104; refine (rletter_any _ _).mono ?_; rintro e w1 ⟨he, rfl⟩; simp only [hk46] at he; subst he) | (go_at_call 105; refine (rquiet_any _ _).mono ?_; rintro e w1 ⟨he, rfl⟩; simp only [hk46] at he; subst he))
                                                go_meet
                                                exact ⟨rfl, rfl⟩
                                              | true =>
                                                cases hk47 : letterK b with
                                                | false =>
                                                  cases hk48 : (b == 16) with
                                                  | false =>
                                                    cases hk49 : (b == 8) with
                                                    | false =>
                                                      have ht : t11 = false := by rw [ht11H.out]; simp [hk46, hk47, hk48, hk49]
                                                      subst ht
                                                      go_wp2_with (first | (go_at_call 104; refine (rletter_any _ _).mono ?_; rintro e w1 ⟨he, rfl⟩; simp only [hk46, hk47, hk48, hk49] at he; subst he) | (go_at_call 105; refine (rquiet_any _ _).mono ?_; rintro e w1 ⟨he, rfl⟩; simp only [hk46, hk47, hk48, hk49] at he; subst he))
                                                      go_meet
                                                      exact ⟨rfl, rfl⟩
                                                    | true =>
                                                      have ht : t11 = true := by rw [ht11H.out]; simp [hk46, hk47, hk48, hk49]
                                                      subst ht
                                                      go_wp2_with (first | (go_at_call 104; refine (rletter_any _ _).mono ?_; rintro e w1 ⟨he, rfl⟩; simp only [hk46, hk47, hk48, hk49] at he; subst he) | (go_at_call 105; refine (rquiet_any _ _).mono ?_; rintro e w1 ⟨he, rfl⟩; simp only [hk46, hk47, hk48, hk49] at he; subst he))
                                                      go_meet
                                                      exact ⟨rfl, rfl⟩
                                                  | true =>
                                                    have ht : t11 = true := by rw [ht11H.out]; simp [hk46, hk47, hk48]
                                                    subst ht
                                                    go_wp2_with (first | (go_at_call 104; refine (rletter_any _ _).mono ?_; rintro e w1 ⟨he, rfl⟩; simp only [hk46, hk47, hk48] at he; subst he) | (go_at_call 105; refine (rquiet_any _ _).mono ?_; rintro e w1 ⟨he, rfl⟩; simp only [hk46, hk47, hk48] at he; subst he))
                                                    go_meet
                                                    exact ⟨rfl, rfl⟩
                                                | true =>
                                                  have ht : t11 = true := by rw [ht11H.out]; simp [hk46, hk47]
                                                  subst ht
                                                  go_wp2_with (first | (go_at_call 104; refine (rletter_any _ _).mono ?_; rintro e w1 ⟨he, rfl⟩; simp only [hk46, hk47] at he; subst he) | (go_at_call 105; refine (rquiet_any _ _).mono ?_; rintro e w1 ⟨he, rfl⟩; simp only [hk46, hk47] at he; subst he))
                                                  go_meet
                                                  exact ⟨rfl, rfl⟩
                                          case rest =>
                                            obtain ⟨rfl, rfl⟩ := hcut
                                            clear ht1H ht2H ht3H ht4H ht5H ht6H ht7H ht8H ht9H ht10H ht11H
                                            go_wp2
                                            go_ret
                                            exact ⟨rfl, rfl⟩
end Go.Proofs.YtpaijpdmeiagfaaDoor

namespace Go.Proofs.YtpaijpdmeiagfaaDoor
open Go Go.RowKit Go.WideMaps Go.Proofs.Kk Go.Proofs.Tm Go.Proofs.Gg Go.Proofs.Tx

set_option maxRecDepth 100000 in
set_option maxHeartbeats 2000000 in
theorem rhead_out (w : World) (D : Nat) (ao : Option Addr) (c : Nat) (zs : List Int) (i : Int) (h : i < 0 ∨ (zs.length : Int) ≤ i) :
    Calls Tryd.prog 54 #[.pointer (some ⟨D, 0, none⟩), .slice ao zs.length c, .int .i64 i] w fun e w' => e = .returned (.bool false) ∧ ∃ n', w' = w.drewN n' := by
  by_cases h0 : i < 0
  · clear h
    go_enter Tryd.func54, Tryd.ntmps54
    go_wp2
    go_ret
    exact ⟨rfl, 0, rfl⟩
  · have h1 : (zs.length : Int) ≤ i := by omega
    have h2 : 0 ≤ i := by omega
    clear h h0
    go_enter Tryd.func54, Tryd.ntmps54
    go_wp2
    go_ret
    exact ⟨rfl, 0, rfl⟩

set_option maxRecDepth 100000 in
set_option maxHeartbeats 2000000 in
theorem rhead_zero (w : World) (D : Nat) (ao : Option Addr) (c : Nat) (zs : List Int) (h : 0 < zs.length) :
    Calls Tryd.prog 54 #[.pointer (some ⟨D, 0, none⟩), .slice ao zs.length c, .int .i64 0] w fun e w' => e = .returned (.bool true) ∧ ∃ n', w' = w.drewN n' := by
  have h1 : (0 : Int) < zs.length := by omega
  have hne : zs ≠ [] := by rintro rfl; simp at h
  go_enter Tryd.func54, Tryd.ntmps54
  go_wp2
  go_ret
  exact ⟨by simp, 0, rfl⟩

set_option maxRecDepth 100000 in
set_option maxHeartbeats 4000000 in
theorem rhead_in (w : World) (n₀ D : Nat) (ao : Option Addr) (c : Nat) (zs : List Int) (i : Int) (hs : RShipAt w n₀ D) (ht : IntsAt w n₀ (.slice ao zs.length c) zs) (h0 : 0 < i) (h1 : i < zs.length) :
    Calls Tryd.prog 54 #[.pointer (some ⟨D, 0, none⟩), .slice ao zs.length c, .int .i64 i] w fun e w' => e = .returned (.bool (headI (sgW zs) i)) ∧ ∃ n', w' = w.drewN n' := by
  have hh := headI_in h0 h1
  obtain ⟨_, hc1, hc2, _⟩ := ht.len
  obtain ⟨b, off, rfl, hb, p1⟩ := ht.at_ (i := i) (by omega) (by omega)
  obtain ⟨b', off', ha, _, p2⟩ := ht.at_ (i := i - 1) (by omega) (by omega)
  cases ha
  have en : (i - 1).toNat = i.toNat - 1 := by omega
  rw [en] at p2 hh
  clear en
  generalize zs.getD i.toNat 0 = z at p1 hh
  generalize zs.getD (i.toNat - 1) 0 = y at p2 hh
  obtain ⟨kz, hkz⟩ : ∃ k, k = wdK z := ⟨_, rfl⟩
  obtain ⟨ky, hky⟩ : ∃ k, k = wdK y := ⟨_, rfl⟩
  rw [← hkz, ← hky] at hh
  obtain ⟨m, hm⟩ : ∃ m, m = markK kz := ⟨_, rfl⟩
  obtain ⟨en, hen⟩ : ∃ m, m = endsK ky := ⟨_, rfl⟩
  rw [← hm, ← hen] at hh
  rw [hh]
  have kzH := Lib.hid hkz
  have kyH := Lib.hid hky
  have mH := Lib.hid hm
  have eH := Lib.hid hen
  have e1 : (i == (0 : Int)) = false := by simp; omega
  clear hh hkz hky hm hen
  cases m with
  | false =>
    go_enter Tryd.func54, Tryd.ntmps54
    go_wp2_with (first
      | (go_at_call 40; refine (rrword_any _ _ D _ (by exact hs.heap rfl)).mono ?_; rintro e w1 ⟨he, n1, rfl⟩; rw [← kzH.out] at he; subst he)
      | (go_at_call 85; refine (rmark_any _ _).mono ?_; rw [← mH.out]; rintro e w1 ⟨rfl, rfl⟩))
    go_ret
    exact ⟨by simp, _, rfl⟩
  | true =>
    go_enter Tryd.func54, Tryd.ntmps54
    go_wp2_with (first
      | (go_at_call 40; have k2 := kzH; clear kzH; refine (rrword_any _ _ D _ (by exact hs.heap rfl)).mono ?_; rintro e w1 ⟨he, n1, rfl⟩; rw [← k2.out] at he; subst he)
      | (go_at_call 85; refine (rmark_any _ _).mono ?_; rw [← mH.out]; rintro e w1 ⟨rfl, rfl⟩)
      | (go_at_call 40; refine (rrword_any _ _ D _ (by exact hs.heap rfl)).mono ?_; rintro e w3 ⟨he, n3, rfl⟩; rw [← kyH.out] at he; subst he)
      | (go_at_call 84; refine (rends_any _ _).mono ?_; rw [← eH.out]; rintro e w4 ⟨rfl, rfl⟩))
    go_ret
    exact ⟨by simp, _, rfl⟩

/-- the document's Head -/
theorem rhead_any (w : World) (n₀ D : Nat) (v : Value) (zs : List Int) (i : Int) (hs : RShipAt w n₀ D) (ht : IntsAt w n₀ v zs) :
    Calls Tryd.prog 54 #[.pointer (some ⟨D, 0, none⟩), v, .int .i64 i] w fun e w' => e = .returned (.bool (headI (sgW zs) i)) ∧ ∃ n', w' = w.drewN n' := by
  obtain ⟨ao, c, rfl⟩ := ht.form
  by_cases h : i < 0 ∨ (zs.length : Int) ≤ i
  · rw [headI_out (by rw [sgW_length]; exact h)]
    exact rhead_out w D ao c zs i h
  · by_cases h0 : i = 0
    · subst h0
      rw [headI_zero (by intro e; have := congrArg List.length e; rw [sgW_length] at this; simp at this; rw [this] at h; simp at h)]
      exact rhead_zero w D ao c zs (by omega)
    · exact rhead_in w n₀ D ao c zs i hs ht (by omega) (by omega)

set_option maxRecDepth 100000 in
set_option maxHeartbeats 4000000 in
theorem rback_any (w : World) (n₀ D : Nat) (v : Value) (zs : List Int) (i : Int) (hs : RShipAt w n₀ D) (ht : IntsAt w n₀ v zs) (h0 : -1 ≤ i) (h1 : i ≤ zs.length) :
    Calls Tryd.prog 81 #[.pointer (some ⟨D, 0, none⟩), v, .int .i64 i] w fun e w' => e = .returned (.int .i64 (hpZ zs i)) ∧ ∃ n', w' = w.drewN n' := by
  obtain ⟨ao, c, rfl⟩ := ht.form
  obtain ⟨_, hc1, hc2, _⟩ := ht.len
  have hi2 : i ≤ 9223372036854775807 := by omega
  obtain ⟨r, hr⟩ : ∃ r, r = hpZ zs i := ⟨_, rfl⟩
  rw [← hr]
  have hrH : Hid (r = hpZ zs (i - 1 + 1)) := by rw [Int.sub_add_cancel]; exact hr
  clear hr
  have hBk : Hid (∀ (m : Int) (W : World), W.heap = w.heap → Calls Tryd.prog 54 #[.pointer (some ⟨D, 0, none⟩), .slice ao zs.length c, .int .i64 m] W fun e w' => e = .returned (.bool (headI (sgW zs) m)) ∧ ∃ n', w' = W.drewN n') := fun m W hW => rhead_any W n₀ D _ zs m (hs.heap hW) (ht.heap hW)
  clear hs ht
  go_enter Tryd.func81, Tryd.ntmps81
  go_wp2
  go_loopw [7] (fun f wr => ∃ (m : Int), -2 ≤ m ∧ m ≤ i - 1 ∧ f = .int .i64 m ∧ Hid (r = hpZ zs (m + 1)) ∧ ∃ n', wr = w.drewN n') (fun f _ => (intOf f + 2).toNat)
  case atStart => exact ⟨i - 1, by omega, Int.le_refl _, rfl, hrH, 0, rfl⟩
  case round =>
    obtain ⟨m, hm0, hm1, rfl, hq, n', rfl⟩ := hrel
    by_cases hm : 0 ≤ m
    · have hst := hpZ_step (zs := zs) hm
      cases hb : headI (sgW zs) m with
      | true =>
        have hq' : Hid (r = m) := by rw [hq.out, hst, hb]; exact rfl
        have hbH := Lib.hid hb
        clear hst hq hb
        go_wp2_with (go_at_call 54; refine (hBk.out m (w.drewN n') rfl).mono ?_; rw [hbH.out]; rintro e w1 ⟨rfl, n1, rfl⟩)
        go_ret
        exact ⟨by rw [hq'.out]; rfl, _, rfl⟩
      | false =>
        have hq' : Hid (r = hpZ zs (m - 1 + 1)) := by rw [hq.out, hst, hb, Int.sub_add_cancel]; exact rfl
        have hbH := Lib.hid hb
        clear hst hq hb
        go_wp2_with (go_at_call 54; refine (hBk.out m (w.drewN n') rfl).mono ?_; rw [hbH.out]; rintro e w1 ⟨rfl, n1, rfl⟩)
        go_roundw
        case rel => exact ⟨m - 1, by omega, by omega, rfl, hq', _, rfl⟩
        case measure => simp [intOf]; omega
    · have hm2 : m < 0 := by omega
      have hq' : Hid (r = -1) := by rw [hq.out, hpZ_neg (by omega)]; exact rfl
      clear hq hm
      go_wp2
      go_ret
      exact ⟨by rw [hq'.out]; rfl, _, rfl⟩

set_option maxRecDepth 100000 in
set_option maxHeartbeats 4000000 in
theorem rnext_any (w : World) (n₀ D : Nat) (v : Value) (zs : List Int) (i : Int) (hs : RShipAt w n₀ D) (ht : IntsAt w n₀ v zs) (h0 : 0 ≤ i) (h1 : i ≤ zs.length) (hsm : zs.length ≤ 1000000) :
    Calls Tryd.prog 83 #[.pointer (some ⟨D, 0, none⟩), v, .int .i64 i] w fun e w' => e = .returned (.int .i64 (nxZ zs (i + 1))) ∧ ∃ n', w' = w.drewN n' := by
  obtain ⟨ao, c, rfl⟩ := ht.form
  have hi2 : i ≤ 1000000 := by omega
  obtain ⟨r, hr⟩ : ∃ r, r = nxZ zs (i + 1) := ⟨_, rfl⟩
  rw [← hr]
  have hrH := Lib.hid hr
  clear hr
  have hBk : Hid (∀ (m : Int) (W : World), W.heap = w.heap → Calls Tryd.prog 54 #[.pointer (some ⟨D, 0, none⟩), .slice ao zs.length c, .int .i64 m] W fun e w' => e = .returned (.bool (headI (sgW zs) m)) ∧ ∃ n', w' = W.drewN n') := fun m W hW => rhead_any W n₀ D _ zs m (hs.heap hW) (ht.heap hW)
  clear hs ht
  go_enter Tryd.func83, Tryd.ntmps83
  go_wp2
  go_loopw [7] (fun f wr => ∃ (m : Int), i + 1 ≤ m ∧ m ≤ zs.length + 1 ∧ f = .int .i64 m ∧ Hid (r = nxZ zs m) ∧ ∃ n', wr = w.drewN n') (fun f _ => (zs.length + 1 - intOf f).toNat)
  case atStart => exact ⟨i + 1, Int.le_refl _, by omega, rfl, hrH, 0, rfl⟩
  case round =>
    obtain ⟨m, hm0, hm1, rfl, hq, n', rfl⟩ := hrel
    by_cases hm : m < zs.length
    · have hst := nxZ_step (zs := zs) (k := m) (by omega) hm
      cases hb : headI (sgW zs) m with
      | true =>
        have hq' : Hid (r = m) := by rw [hq.out, hst, hb]; exact rfl
        have hbH := Lib.hid hb
        clear hst hq hb
        go_wp2_with (go_at_call 54; refine (hBk.out m (w.drewN n') rfl).mono ?_; rw [hbH.out]; rintro e w1 ⟨rfl, n1, rfl⟩)
        go_ret
        exact ⟨by rw [hq'.out]; rfl, _, rfl⟩
      | false =>
        have hq' : Hid (r = nxZ zs (m + 1)) := by rw [hq.out, hst, hb]; exact rfl
        have hbH := Lib.hid hb
        clear hst hq hb
        go_wp2_with (go_at_call 54; refine (hBk.out m (w.drewN n') rfl).mono ?_; rw [hbH.out]; rintro e w1 ⟨rfl, n1, rfl⟩)
        go_roundw
        case rel => exact ⟨m + 1, by omega, by omega, rfl, hq', _, rfl⟩
        case measure => simp [intOf]; omega
    · have hm2 : (zs.length : Int) ≤ m := by omega
      have hq' : Hid (r = -1) := by rw [hq.out, nxZ_end hm2]; exact rfl
      clear hq hm
      go_wp2
      go_ret
      exact ⟨by rw [hq'.out]; rfl, _, rfl⟩

set_option maxRecDepth 100000 in
set_option maxHeartbeats 4000000 in
theorem rkind_any (w : World) (n₀ D : Nat) (v : Value) (zs : List Int) (k : Int) (hs : RShipAt w n₀ D) (ht : IntsAt w n₀ v zs) (h1 : k < zs.length) :
    Calls Tryd.prog 82 #[.pointer (some ⟨D, 0, none⟩), v, .int .i64 k] w fun e w' => e = .returned (.int .i64 (kindZ zs k)) ∧ ∃ n', w' = w.drewN n' := by
  obtain ⟨ao, c, rfl⟩ := ht.form
  by_cases h : k < 0
  · have e : kindZ zs k = -1 := if_pos h
    rw [e]
    clear e
    go_enter Tryd.func82, Tryd.ntmps82
    go_wp2
    go_ret
    exact ⟨rfl, 0, rfl⟩
  · have e : kindZ zs k = wdK (zs.getD k.toNat 0) := if_neg h
    rw [e]
    clear e
    have h0 : 0 ≤ k := by omega
    obtain ⟨b, off, rfl, hb, p1⟩ := ht.at_ (i := k) h0 h1
    generalize zs.getD k.toNat 0 = z at p1 ⊢
    obtain ⟨y, hy⟩ : ∃ y, y = wdK z := ⟨_, rfl⟩
    rw [← hy]
    have hyH := Lib.hid hy
    clear hy h
    go_enter Tryd.func82, Tryd.ntmps82
    go_wp2_with (go_at_call 40; refine (rrword_any _ _ D _ (by exact hs.heap rfl)).mono ?_; rintro e w1 ⟨he, n1, rfl⟩; rw [← hyH.out] at he; subst he)
    go_ret
    exact ⟨rfl, _, rfl⟩

set_option maxRecDepth 100000 in
set_option maxHeartbeats 4000000 in
theorem rflags_any (w : World) (n₀ D : Nat) (v : Value) (zs : List Int) (k : Int) (hs : RShipAt w n₀ D) (ht : IntsAt w n₀ v zs) (h0 : -1 ≤ k) (h1 : k < zs.length) (hsm : zs.length ≤ 1000000) :
    Calls Tryd.prog 87 #[.pointer (some ⟨D, 0, none⟩), v, .int .i64 k] w fun e w' => e = .returned (.int .i64 (flZ zs k : Nat)) ∧ ∃ n', w' = w.drewN n' := by
  obtain ⟨ao, c, rfl⟩ := ht.form
  obtain ⟨r, hr⟩ : ∃ r, r = flZ zs k := ⟨_, rfl⟩
  rw [← hr]
  have hrH := Lib.hid hr
  clear hr
  have hKd : Hid (∀ (m : Int) (W : World), m < zs.length → W.heap = w.heap → Calls Tryd.prog 82 #[.pointer (some ⟨D, 0, none⟩), .slice ao zs.length c, .int .i64 m] W fun e w' => e = .returned (.int .i64 (kindZ zs m)) ∧ ∃ n', w' = W.drewN n') := fun m W hm hW => rkind_any W n₀ D _ zs m (hs.heap hW) (ht.heap hW) hm
  have hBk : Hid (∀ (m : Int) (W : World), -1 ≤ m → m < zs.length → W.heap = w.heap → Calls Tryd.prog 81 #[.pointer (some ⟨D, 0, none⟩), .slice ao zs.length c, .int .i64 m] W fun e w' => e = .returned (.int .i64 (hpZ zs m)) ∧ ∃ n', w' = W.drewN n') := fun m W g1 g2 hW => rback_any W n₀ D _ zs m (hs.heap hW) (ht.heap hW) g1 (by omega)
  have hk3 : k ≤ 1000000 := by omega
  clear hs ht
  go_enter Tryd.func87, Tryd.ntmps87
  go_wp2
  go_loopw [7, 2] (fun f s wr => ∃ (n m : Int), 0 ≤ n ∧ -1 ≤ m ∧ n + m ≤ k ∧ f = .int .i64 n ∧ s = .int .i64 m ∧ Hid ((r : Int) = n + flZ zs m) ∧ ∃ n', wr = w.drewN n') (fun _ s _ => (intOf s + 1).toNat)
  case atStart => exact ⟨0, k, by omega, h0, by omega, rfl, rfl, by rw [hrH.out, Int.zero_add]; exact rfl, 0, rfl⟩
  case round =>
    obtain ⟨n, m, hn0, hm0, hm1, rfl, rfl, hq, n', rfl⟩ := hrel
    by_cases hm : 0 ≤ m
    · have hml : m < zs.length := by omega
      have hst := flZ_step (zs := zs) hm hml
      obtain ⟨y, hy⟩ : ∃ y, y = kindZ zs m := ⟨_, rfl⟩
      rw [← hy] at hst
      have hyH := Lib.hid hy
      clear hy
      by_cases h7 : y = 7
      · subst h7
        obtain ⟨q, hqd⟩ : ∃ q, q = hpZ zs m := ⟨_, rfl⟩
        have hqr := hpZ_rng zs m
        rw [← hqd] at hqr
        have hq' : Hid ((r : Int) = n + 1 + flZ zs q) := by
          rw [hq.out, hst, if_pos rfl, ← hqd]
          show _ = _
          omega
        have hqH := Lib.hid hqd
        clear hst hq hqd
        go_wp2_with (first
          | (go_at_call 82; refine (hKd.out m (w.drewN n') hml rfl).mono ?_; rw [← hyH.out]; rintro e w1 ⟨rfl, n1, rfl⟩)
          | (go_at_call 81; refine (hBk.out m _ hm0 hml (by exact rfl)).mono ?_; rw [← hqH.out]; rintro e w1 ⟨rfl, n2, rfl⟩))
        go_roundw
        case rel => exact ⟨n + 1, q, by omega, by omega, by omega, rfl, rfl, hq', _, rfl⟩
        case measure => simp [intOf]; omega
      · have hq' : Hid ((r : Int) = n) := by rw [hq.out, hst, if_neg h7]; show _ = _; omega
        have e7 : (y == 7) = false := by simpa using h7
        clear hst hq h7
        go_wp2_with (go_at_call 82; refine (hKd.out m (w.drewN n') hml rfl).mono ?_; rw [← hyH.out]; rintro e w1 ⟨rfl, n1, rfl⟩)
        go_ret
        exact ⟨by rw [hq'.out]; rfl, _, rfl⟩
    · have hm2 : m < 0 := by omega
      have hq' : Hid ((r : Int) = n) := by rw [hq.out, flZ_neg hm2]; show _ = _; omega
      clear hq hm
      go_wp2
      go_ret
      exact ⟨by rw [hq'.out]; rfl, _, rfl⟩
end Go.Proofs.YtpaijpdmeiagfaaDoor

namespace Go.Proofs.Tx
open Go.Proofs.Tm
def rwF (t1 t2 t3 t4 t5 : Bool) : Bool := if t1 then false else if t2 then true else if t3 then false else if t4 then false else t5
theorem if_and12w (a b : Int) (X : Bool) : (if a = 1 ∧ b = 2 then false else X) = if (a == 1 && b == 2) = true then false else X := by
  by_cases h1 : a = 1 <;> by_cases h2 : b = 2 <;> simp [h1, h2]
theorem wfg_ref (a : Int) (h : List Int) (b : Sg) (nx : Int) : wfg a h b nx = rwF (a == 1 && b.1 == 2) (endsK a || endsK b.1) (a == 5 && b.2)
    (((a == 18 && b.1 == 18) || markK b.1) || joinedB (h.getD 1 (-1)) (h.getD 0 (-1)) b.1 nx) (((h.getD 0 (-1) != 7) || (b.1 != 7)) || (flagsW h % 2 == 0)) := by
  unfold wfg
  rw [if_and12w]
  have e : ∀ x : Int, decide (x ≠ 7) = (x != 7) := fun x => by by_cases h : x = 7 <;> simp [h]
  rw [e, e]
  unfold rwF
  generalize (a == 1 && b.1 == 2) = t1
  generalize (endsK a || endsK b.1) = t2
  generalize (a == 5 && b.2) = t3
  generalize (a == 18 && b.1 == 18) = s1
  generalize markK b.1 = s2
  generalize joinedB (h.getD 1 (-1)) (h.getD 0 (-1)) b.1 nx = s3
  generalize (((h.getD 0 (-1) != 7) || (b.1 != 7)) || (flagsW h % 2 == 0)) = t5
  revert t1 t2 t3 s1 s2 s3 t5
  decide
end Go.Proofs.Tx
namespace Go.Proofs.YtpaijpdmeiagfaaDoor
open Go Go.RowKit Go.WideMaps Go.Proofs.Kk Go.Proofs.Tm Go.Proofs.Gg Go.Proofs.Tx

set_option maxRecDepth 100000 in
set_option maxHeartbeats 8000000 in
theorem rwbreak_in (w : World) (n₀ D : Nat) (ao : Option Addr) (c : Nat) (zs : List Int) (hsm : zs.length ≤ 1000000) (i : Int) (hs : RShipAt w n₀ D) (ht : IntsAt w n₀ (.slice ao zs.length c) zs) (h0 : 0 < i) (h1 : i < zs.length) :
    Calls Tryd.prog 52 #[.pointer (some ⟨D, 0, none⟩), .slice ao zs.length c, .int .i64 i] w fun e w' => e = .returned (.bool (brkI wf (sgW zs) i)) ∧ ∃ n', w' = w.drewN n' := by
  have hbrk := brkW_ref h0 h1
  rw [wfg_ref, kind0 (by omega) (by omega), kind1 (by omega) (by omega), flZ_head (by omega) (by omega)] at hbrk
  simp only [] at hbrk
  obtain ⟨_, hc1, hc2, _⟩ := ht.len
  obtain ⟨b, off, rfl, hb, p2⟩ := ht.at_ (i := i) (by omega) h1
  obtain ⟨b', off', ha, _, p1⟩ := ht.at_ (i := i - 1) (by omega) (by omega)
  cases ha
  have en : (i - 1).toNat = i.toNat - 1 := by omega
  rw [en] at p1 hbrk
  clear en
  have r1 := hpZ_rng zs i
  have r2 := hpZ_rng zs (hpZ zs i)
  have r3 := nxZ_rng (zs := zs) (k := i + 1) (by omega)
  obtain ⟨kh, hkh⟩ : ∃ k, k = hpZ zs i := ⟨_, rfl⟩
  rw [← hkh] at hbrk r1 r2
  obtain ⟨kh2, hkh2⟩ : ∃ k, k = hpZ zs kh := ⟨_, rfl⟩
  rw [← hkh2] at hbrk r2
  obtain ⟨nxp, hnxp⟩ : ∃ k, k = nxZ zs (i + 1) := ⟨_, rfl⟩
  rw [← hnxp] at hbrk r3
  generalize zs.getD (i.toNat - 1) 0 = x at p1 hbrk
  generalize zs.getD i.toNat 0 = y at p2 hbrk
  obtain ⟨ka, hka⟩ : ∃ k, k = wdK x := ⟨_, rfl⟩
  obtain ⟨kb, hkb⟩ : ∃ k, k = wdK y := ⟨_, rfl⟩
  obtain ⟨p, hp⟩ : ∃ k, k = piB y := ⟨_, rfl⟩
  obtain ⟨q0, hq0⟩ : ∃ k, k = kindZ zs kh := ⟨_, rfl⟩
  obtain ⟨q1, hq1⟩ : ∃ k, k = kindZ zs kh2 := ⟨_, rfl⟩
  obtain ⟨nx, hnx⟩ : ∃ k, k = kindZ zs nxp := ⟨_, rfl⟩
  obtain ⟨fl, hfl⟩ : ∃ k, k = flZ zs kh := ⟨_, rfl⟩
  rw [← hka, ← hkb, ← hp, ← hq0, ← hq1, ← hnx, ← hfl] at hbrk
  obtain ⟨ea, hea⟩ : ∃ k, k = endsK ka := ⟨_, rfl⟩
  obtain ⟨eb, heb⟩ : ∃ k, k = endsK kb := ⟨_, rfl⟩
  obtain ⟨mb, hmb⟩ : ∃ k, k = markK kb := ⟨_, rfl⟩
  obtain ⟨jb, hjb⟩ : ∃ k, k = joinedB q1 q0 kb nx := ⟨_, rfl⟩
  obtain ⟨fe, hfe⟩ : ∃ k, k = (fl % 2 == 0) := ⟨_, rfl⟩
  rw [← hea, ← heb, ← hmb, ← hjb, ← hfe] at hbrk
  have hf0 : ((fl : Int) % 2 == 0) = fe := by rw [hfe]; exact beq2 fl
  have hf1 := tmod2 fl
  obtain ⟨t1, ht1⟩ : ∃ t, t = ((ka == 1) && (kb == 2)) := ⟨_, rfl⟩
  obtain ⟨t2, ht2⟩ : ∃ t, t = (ea || eb) := ⟨_, rfl⟩
  obtain ⟨t3, ht3⟩ : ∃ t, t = ((ka == 5) && p) := ⟨_, rfl⟩
  obtain ⟨t4, ht4⟩ : ∃ t, t = ((((ka == 18) && (kb == 18)) || mb) || jb) := ⟨_, rfl⟩
  obtain ⟨t5, ht5⟩ : ∃ t, t = (((q0 != 7) || (kb != 7)) || fe) := ⟨_, rfl⟩
  rw [← ht1, ← ht2, ← ht3, ← ht4, ← ht5] at hbrk
  rw [hbrk]
  clear hbrk
  have khH := Lib.hid hkh
  have kh2H := Lib.hid hkh2
  have nxpH := Lib.hid hnxp
  have kaH := Lib.hid hka
  have kbH := Lib.hid hkb
  have pH := Lib.hid hp
  have q0H := Lib.hid hq0
  have q1H := Lib.hid hq1
  have nxH := Lib.hid hnx
  have flH := Lib.hid hfl
  have eaH := Lib.hid hea
  have ebH := Lib.hid heb
  have mbH := Lib.hid hmb
  have jbH := Lib.hid hjb
  have ht1H := Lib.hid ht1
  have ht2H := Lib.hid ht2
  have ht3H := Lib.hid ht3
  have ht4H := Lib.hid ht4
  have ht5H := Lib.hid ht5
  clear hkh hkh2 hnxp hka hkb hp hq0 hq1 hnx hfl hea heb hmb hjb hfe ht1 ht2 ht3 ht4 ht5
  have hi3 : i ≤ 1000000 := by omega
  have e1 : (i == (0 : Int)) = false := by simp; omega
  have e2 : (i == (zs.length : Int)) = false := by simp; omega
  go_enter Tryd.func52, Tryd.ntmps52
  go_upto_region 11 with (first
    | (go_at_call 40; refine (rrword_any _ _ D _ (by exact hs.heap rfl)).mono ?_; rintro e w1 ⟨he, n1, rfl⟩; (first | rw [← kaH.out] at he | rw [← kbH.out] at he); subst he)
    | (go_at_call 81; refine (rback_any _ _ D _ zs _ (by exact hs.heap rfl) (by exact ht.heap rfl) (by omega) (by omega)).mono ?_; rintro e w1 ⟨he, n1, rfl⟩; (first | rw [← khH.out] at he | rw [← kh2H.out] at he); subst he)
    | (go_at_call 83; refine (rnext_any _ _ D _ zs _ (by exact hs.heap rfl) (by exact ht.heap rfl) (by omega) (by omega) hsm).mono ?_; rintro e w1 ⟨he, n1, rfl⟩; rw [← nxpH.out] at he; subst he)
    | (go_at_call 82; refine (rkind_any _ _ D _ zs _ (by exact hs.heap rfl) (by exact ht.heap rfl) (by omega)).mono ?_; rintro e w1 ⟨he, n1, rfl⟩; (first | rw [← q0H.out] at he | rw [← q1H.out] at he | rw [← nxH.out] at he); subst he))
  clear p1 e1 e2
  go_cut [64] (fun s wx => s = .bool t1 ∧ ∃ n', wx = w.drewN n')
  case first =>
    as_aux_lemma =>
      cases hk1 : (ka == 1) with
      | false =>
        have ht : t1 = false := by rw [ht1H.out]; simp [hk1]
        subst ht
        go_wp2_with (fail)
        go_meet
        exact ⟨rfl, _, rfl⟩
      | true =>
        cases hk2 : (kb == 2) with
        | false =>
          have ht : t1 = false := by rw [ht1H.out]; simp [hk1, hk2]
          subst ht
          go_wp2_with (fail)
          go_meet
          exact ⟨rfl, _, rfl⟩
        | true =>
          have ht : t1 = true := by rw [ht1H.out]; simp [hk1, hk2]
          subst ht
          go_wp2_with (fail)
          go_meet
          exact ⟨rfl, _, rfl⟩
  case rest =>
    obtain ⟨rfl, m1, rfl⟩ := hcut
    cases t1 with
    | true =>
      as_aux_lemma =>
        clear ht1H ht2H ht3H ht4H ht5H
        go_wp2
        go_ret
        exact ⟨rfl, _, rfl⟩
    | false =>
      go_upto_region 13 with (fail)
      go_cut [71] (fun s wx => s = .bool t2 ∧ ∃ n', wx = w.drewN n')
      case first =>
        as_aux_lemma =>
          cases ea with
          | false =>
            cases eb with
            | false =>
              have ht : t2 = false := by rw [ht2H.out]; simp
              subst ht
              go_wp2_with ((go_at_call 84; refine (rends_any _ _).mono ?_; rintro e w1 ⟨he, rfl⟩; (first | rw [← eaH.out] at he | rw [← ebH.out] at he); subst he))
              go_meet
              exact ⟨rfl, _, rfl⟩
            | true =>
              have ht : t2 = true := by rw [ht2H.out]; simp
              subst ht
              go_wp2_with ((go_at_call 84; refine (rends_any _ _).mono ?_; rintro e w1 ⟨he, rfl⟩; (first | rw [← eaH.out] at he | rw [← ebH.out] at he); subst he))
              go_meet
              exact ⟨rfl, _, rfl⟩
          | true =>
            have ht : t2 = true := by rw [ht2H.out]; simp
            subst ht
            go_wp2_with ((go_at_call 84; refine (rends_any _ _).mono ?_; rintro e w1 ⟨he, rfl⟩; (first | rw [← eaH.out] at he | rw [← ebH.out] at he); subst he))
            go_meet
            exact ⟨rfl, _, rfl⟩
      case rest =>
        obtain ⟨rfl, m2, rfl⟩ := hcut
        cases t2 with
        | true =>
          as_aux_lemma =>
            clear ht1H ht2H ht3H ht4H ht5H
            go_wp2
            go_ret
            exact ⟨rfl, _, rfl⟩
        | false =>
          go_upto_region 15 with (fail)
          go_cut [78] (fun s wx => s = .bool t3 ∧ ∃ n', wx = w.drewN n')
          case first =>
            as_aux_lemma =>
              cases hk5 : (ka == 5) with
              | false =>
                have ht : t3 = false := by rw [ht3H.out]; simp [hk5]
                subst ht
                go_wp2_with ((go_at_call 42; refine (rrpicto_any _ _ D _ (by exact hs.heap rfl)).mono ?_; rintro e w1 ⟨he, n9, rfl⟩; rw [← pH.out] at he; subst he))
                go_meet
                exact ⟨rfl, _, rfl⟩
              | true =>
                cases p with
                | false =>
                  have ht : t3 = false := by rw [ht3H.out]; simp [hk5]
                  subst ht
                  go_wp2_with ((go_at_call 42; refine (rrpicto_any _ _ D _ (by exact hs.heap rfl)).mono ?_; rintro e w1 ⟨he, n9, rfl⟩; rw [← pH.out] at he; subst he))
                  go_meet
                  exact ⟨rfl, _, rfl⟩
                | true =>
                  have ht : t3 = true := by rw [ht3H.out]; simp [hk5]
                  subst ht
                  go_wp2_with ((go_at_call 42; refine (rrpicto_any _ _ D _ (by exact hs.heap rfl)).mono ?_; rintro e w1 ⟨he, n9, rfl⟩; rw [← pH.out] at he; subst he))
                  go_meet
                  exact ⟨rfl, _, rfl⟩
          case rest =>
            obtain ⟨rfl, m3, rfl⟩ := hcut
            cases t3 with
            | true =>
              as_aux_lemma =>
                clear ht1H ht2H ht3H ht4H ht5H
                go_wp2
                go_ret
                exact ⟨rfl, _, rfl⟩
            | false =>
              go_upto_region 17 with (fail)
              go_cut [89] (fun s wx => s = .bool t4 ∧ ∃ n', wx = w.drewN n')
              case first =>
                as_aux_lemma =>
                  cases hk7 : (ka == 18) with
                  | false =>
                    cases mb with
                    | false =>
                      cases jb with
                      | false =>
                        have ht : t4 = false := by rw [ht4H.out]; simp [hk7]
                        subst ht
                        go_wp2_with ((first | (go_at_call 85; refine (rmark_any _ _).mono ?_; rintro e w1 ⟨he, rfl⟩; rw [← mbH.out] at he; subst he) | (go_at_call 86; refine (rjoined_any _ _ _ _ _).mono ?_; rintro e w1 ⟨he, rfl⟩; rw [← jbH.out] at he; subst he)))
                        go_meet
                        exact ⟨rfl, _, rfl⟩
                      | true =>
                        have ht : t4 = true := by rw [ht4H.out]; simp [hk7]
                        subst ht
                        go_wp2_with ((first | (go_at_call 85; refine (rmark_any _ _).mono ?_; rintro e w1 ⟨he, rfl⟩; rw [← mbH.out] at he; subst he) | (go_at_call 86; refine (rjoined_any _ _ _ _ _).mono ?_; rintro e w1 ⟨he, rfl⟩; rw [← jbH.out] at he; subst he)))
                        go_meet
                        exact ⟨rfl, _, rfl⟩
                    | true =>
                      have ht : t4 = true := by rw [ht4H.out]; simp [hk7]
                      subst ht
                      go_wp2_with ((first | (go_at_call 85; refine (rmark_any _ _).mono ?_; rintro e w1 ⟨he, rfl⟩; rw [← mbH.out] at he; subst he) | (go_at_call 86; refine (rjoined_any _ _ _ _ _).mono ?_; rintro e w1 ⟨he, rfl⟩; rw [← jbH.out] at he; subst he)))
                      go_meet
                      exact ⟨rfl, _, rfl⟩
                  | true =>
                    cases hk10 : (kb == 18) with
                    | false =>
                      cases mb with
                      | false =>
                        cases jb with
                        | false =>
                          have ht : t4 = false := by rw [ht4H.out]; simp [hk7, hk10]
                          subst ht
                          go_wp2_with ((first | (go_at_call 85; refine (rmark_any _ _).mono ?_; rintro e w1 ⟨he, rfl⟩; rw [← mbH.out] at he; subst he) | (go_at_call 86; refine (rjoined_any _ _ _ _ _).mono ?_; rintro e w1 ⟨he, rfl⟩; rw [← jbH.out] at he; subst he)))
                          go_meet
                          exact ⟨rfl, _, rfl⟩
                        | true =>
                          have ht : t4 = true := by rw [ht4H.out]; simp [hk7, hk10]
                          subst ht
                          go_wp2_with ((first | (go_at_call 85; refine (rmark_any _ _).mono ?_; rintro e w1 ⟨he, rfl⟩; rw [← mbH.out] at he; subst he) | (go_at_call 86; refine (rjoined_any _ _ _ _ _).mono ?_; rintro e w1 ⟨he, rfl⟩; rw [← jbH.out] at he; subst he)))
                          go_meet
                          exact ⟨rfl, _, rfl⟩
                      | true =>
                        have ht : t4 = true := by rw [ht4H.out]; simp [hk7, hk10]
                        subst ht
                        go_wp2_with ((first | (go_at_call 85; refine (rmark_any _ _).mono ?_; rintro e w1 ⟨he, rfl⟩; rw [← mbH.out] at he; subst he) | (go_at_call 86; refine (rjoined_any _ _ _ _ _).mono ?_; rintro e w1 ⟨he, rfl⟩; rw [← jbH.out] at he; subst he)))
                        go_meet
                        exact ⟨rfl, _, rfl⟩
                    | true =>
                      have ht : t4 = true := by rw [ht4H.out]; simp [hk7, hk10]
                      subst ht
                      go_wp2_with ((first | (go_at_call 85; refine (rmark_any _ _).mono ?_; rintro e w1 ⟨he, rfl⟩; rw [← mbH.out] at he; subst he) | (go_at_call 86; refine (rjoined_any _ _ _ _ _).mono ?_; rintro e w1 ⟨he, rfl⟩; rw [← jbH.out] at he; subst he)))
                      go_meet
                      exact ⟨rfl, _, rfl⟩
              case rest =>
                obtain ⟨rfl, m4, rfl⟩ := hcut
                cases t4 with
                | true =>
                  as_aux_lemma =>
                    clear ht1H ht2H ht3H ht4H ht5H
                    go_wp2
                    go_ret
                    exact ⟨rfl, _, rfl⟩
                | false =>
                  go_upto_region 19 with (fail)
                  go_cut [6] (fun s wx => s = .bool t5 ∧ ∃ n', wx = w.drewN n')
                  case first =>
                    as_aux_lemma =>
                      cases hk13 : (q0 != 7) with
                      | false =>
                        cases hk14 : (kb != 7) with
                        | false =>
                          cases fe with
                          | false =>
                            have ht : t5 = false := by rw [ht5H.out]; simp [hk13, hk14]
                            subst ht
                            go_wp2_with ((go_at_call 87; refine (rflags_any _ _ D _ zs kh (by exact hs.heap rfl) (by exact ht.heap rfl) (by omega) (by omega) hsm).mono ?_; rw [← flH.out]; rintro e w1 ⟨rfl, n9, rfl⟩))
                            go_meet
                            exact ⟨rfl, _, rfl⟩
                          | true =>
                            have ht : t5 = true := by rw [ht5H.out]; simp [hk13, hk14]
                            subst ht
                            go_wp2_with ((go_at_call 87; refine (rflags_any _ _ D _ zs kh (by exact hs.heap rfl) (by exact ht.heap rfl) (by omega) (by omega) hsm).mono ?_; rw [← flH.out]; rintro e w1 ⟨rfl, n9, rfl⟩))
                            go_meet
                            exact ⟨rfl, _, rfl⟩
                        | true =>
                          have ht : t5 = true := by rw [ht5H.out]; simp [hk13, hk14]
                          subst ht
                          go_wp2_with ((go_at_call 87; refine (rflags_any _ _ D _ zs kh (by exact hs.heap rfl) (by exact ht.heap rfl) (by omega) (by omega) hsm).mono ?_; rw [← flH.out]; rintro e w1 ⟨rfl, n9, rfl⟩))
                          go_meet
                          exact ⟨rfl, _, rfl⟩
                      | true =>
                        have ht : t5 = true := by rw [ht5H.out]; simp [hk13]
                        subst ht
                        go_wp2_with ((go_at_call 87; refine (rflags_any _ _ D _ zs kh (by exact hs.heap rfl) (by exact ht.heap rfl) (by omega) (by omega) hsm).mono ?_; rw [← flH.out]; rintro e w1 ⟨rfl, n9, rfl⟩))
                        go_meet
                        exact ⟨rfl, _, rfl⟩
                  case rest =>
                    obtain ⟨rfl, m5, rfl⟩ := hcut
                    clear ht1H ht2H ht3H ht4H ht5H
                    go_wp2
                    go_ret
                    exact ⟨rfl, _, rfl⟩

set_option maxRecDepth 100000 in
set_option maxHeartbeats 4000000 in
theorem rwbreak_out (w : World) (D : Nat) (ao : Option Addr) (c : Nat) (zs : List Int) (i : Int) (h : i < 0 ∨ (zs.length : Int) < i) :
    Calls Tryd.prog 52 #[.pointer (some ⟨D, 0, none⟩), .slice ao zs.length c, .int .i64 i] w fun e w' => e = .returned (.bool false) ∧ ∃ n', w' = w.drewN n' := by
  by_cases h0 : i < 0
  · clear h
    go_enter Tryd.func52, Tryd.ntmps52
    go_wp2
    go_ret
    exact ⟨rfl, 0, rfl⟩
  · have h1 : (zs.length : Int) < i := by omega
    have h2 : 0 ≤ i := by omega
    clear h h0
    go_enter Tryd.func52, Tryd.ntmps52
    go_wp2
    go_ret
    exact ⟨rfl, 0, rfl⟩

set_option maxRecDepth 100000 in
set_option maxHeartbeats 4000000 in
theorem rwbreak_ends (w : World) (D : Nat) (ao : Option Addr) (c : Nat) (zs : List Int) (i : Int) (h : i = 0 ∨ i = zs.length) :
    Calls Tryd.prog 52 #[.pointer (some ⟨D, 0, none⟩), .slice ao zs.length c, .int .i64 i] w fun e w' => e = .returned (.bool true) ∧ ∃ n', w' = w.drewN n' := by
  rcases h with rfl | rfl
  · go_enter Tryd.func52, Tryd.ntmps52
    go_wp2
    go_ret
    exact ⟨rfl, 0, rfl⟩
  · by_cases h0 : zs.length = 0
    · rw [h0]
      go_enter Tryd.func52, Tryd.ntmps52
      go_wp2
      go_ret
      exact ⟨rfl, 0, rfl⟩
    · have h1 : (0 : Int) < zs.length := by omega
      have e0 : ((zs.length : Int) == 0) = false := by rw [beq_eq_false_iff_ne]; omega
      go_enter Tryd.func52, Tryd.ntmps52
      go_wp2
      go_ret
      exact ⟨rfl, 0, rfl⟩

/-- the document's Break -/
theorem rwbreak_any (w : World) (n₀ D : Nat) (v : Value) (zs : List Int) (hsm : zs.length ≤ 1000000) (i : Int) (hs : RShipAt w n₀ D) (ht : IntsAt w n₀ v zs) :
    Calls Tryd.prog 52 #[.pointer (some ⟨D, 0, none⟩), v, .int .i64 i] w fun e w' => e = .returned (.bool (brkI wf (sgW zs) i)) ∧ ∃ n', w' = w.drewN n' := by
  obtain ⟨ao, c, rfl⟩ := ht.form
  by_cases h : i < 0 ∨ (zs.length : Int) < i
  · rw [brkI_out (by rw [sgW_length]; exact h)]
    exact rwbreak_out w D ao c zs i h
  · by_cases h2 : i = 0 ∨ i = zs.length
    · rw [brkI_ends (by rw [sgW_length]; exact h2)]
      exact rwbreak_ends w D ao c zs i h2
    · exact rwbreak_in w n₀ D ao c zs hsm i hs ht (by omega) (by omega)

set_option maxRecDepth 100000 in
set_option maxHeartbeats 4000000 in
/-- the document's All -/
theorem rall6_any (w : World) (D : Nat) (v : Value) (zs : List Int) (hsm : zs.length ≤ 1000000) (hs : RShipAt w w.heap.size D) (ht : IntsAt w w.heap.size v zs) :
    Calls Tryd.prog 50 #[.pointer (some ⟨D, 0, none⟩), v] w fun e w' => ∃ u, e = .returned u ∧ w'.ownsRow w.heap.size 3 1 u (plI wf (sgW zs)).length (ints (plI wf (sgW zs))) ∧ Below w.heap.size w w' := by
  obtain ⟨ysF, hys⟩ : ∃ ys, ys = plI wf (sgW zs) := ⟨_, rfl⟩
  rw [← hys]
  have hysH := Lib.hid hys
  clear hys
  obtain ⟨ao, c, rfl⟩ := ht.form
  obtain ⟨i0, hi, hz0, hz1, hz2⟩ := info_parts infoInt2
  have hiH := Lib.hid hi
  have hz0H := Lib.hid hz0
  have hz1H := Lib.hid hz1
  have hz2H := Lib.hid hz2
  clear hi hz0 hz1 hz2
  go_enter Tryd.func50, Tryd.ntmps50
  go_wp2
  go_loopw [5, 6] (fun vo vi wr => ∃ (k : Nat), k ≤ zs.length + 1 ∧ vi = .int .i64 k ∧ wr.ownsRow w.heap.size 3 1 vo (plTo wf (sgW zs) k).length (ints (plTo wf (sgW zs) k)) ∧ Below w.heap.size w wr) (fun _ vi _ => zs.length + 1 - (intOf vi).toNat)
  case atStart => exact ⟨0, by omega, rfl, World.ownsRow_nil _ _ _ _, Below.refl _ _⟩
  case round =>
    obtain ⟨k, hk, rfl, hrow, hb⟩ := hrel
    by_cases hlt : k ≤ zs.length
    · have hk1 : (k : Int) ≤ zs.length := by omega
      have hB := rwbreak_any wr w.heap.size D _ zs hsm k (hs.below hb (Nat.le_refl _)) (ht.below hb (Nat.le_refl _))
      rw [brkI_nat (by rw [sgW_length]; exact hlt)] at hB
      have hyes := plTo_yes (f := wf) (t := sgW zs) (k := k)
      have hno := plTo_no (f := wf) (t := sgW zs) (k := k)
      have hlen : (plTo wf (sgW zs) k).length ≤ 1000000 := Nat.le_trans (plTo_len _ _ _) (by omega)
      obtain ⟨b, hb'⟩ : ∃ b, b = brkAt wf (sgW zs) k := ⟨_, rfl⟩
      rw [← hb'] at hB hyes hno
      clear hb'
      have hBH := Lib.hid hB
      have hyesH := Lib.hid hyes
      have hnoH := Lib.hid hno
      generalize plTo wf (sgW zs) k = ys at hrow hyesH hnoH hlen
      clear hB hyes hno hk
      cases b with
      | false =>
        go_wp2_with (go_at_call 52; refine hBH.out.mono ?_; rintro e w1 ⟨rfl, n1, rfl⟩)
        go_roundw
        case rel => exact ⟨k + 1, by omega, by go_num, by rw [hnoH.out trivial]; exact ownsRow_heap hrow rfl, below_drewN hb _⟩
        case measure => simp [intOf]; omega
      | true =>
        go_wp2_with (first
          | (go_at_call 52; refine hBH.out.mono ?_; rintro e w1 ⟨rfl, n1, rfl⟩; have hrow1 : (wr.drewN n1).ownsRow w.heap.size 3 1 _ _ _ := ownsRow_heap hrow rfl; have hb1 := below_drewN hb n1; have hsz1 : (wr.drewN n1).heap.size = wr.heap.size := rfl)
          | (at_builtin; refine wpList_append_own _ rfl _ _ 22 rfl w.heap.size 3 i0 (.int .i64 0) 1 8 intsU2 hiH.out hz0H.out hz1H.out hz2H.out rfl (by decide) _ _ _ rfl (hrow1.alloc _) ⟨wr.heap.size, 0, none⟩ 1 1 [.int .i64 k] rfl rfl (cell_one_new _ _ _) (by simp [Value.oneCell']) (by unfold maxLen; omega) (by omega) (by have := hb1.size; simp; omega) ?_; intro v' w2 hown' hgrow _))
        go_roundw
        case rel =>
          refine ⟨k + 1, by omega, by go_num, ?_, ?_⟩
          · rw [hyesH.out trivial, ints_append, List.length_append]; exact hown'
          · exact below_grown (hb1.alloc hb1.size _) (hrow1.alloc _) hgrow (Nat.le_refl _) (by have := hb1.size; simp; omega)
        case measure => simp [intOf]; omega
    · obtain rfl : k = zs.length + 1 := by omega
      rw [← sgW_length zs, plTo_all, ← hysH.out] at hrow
      clear hlt hk
      go_wp2
      go_ret
      exact ⟨_, rfl, hrow, hb⟩

theorem rall6_at (w : World) (D : Nat) (v : Value) (zs : List Int) (hsm : zs.length ≤ 1000000) (hs : RShipAt w w.heap.size D) (ht : IntsAt w w.heap.size v zs) :
    Calls Tryd.prog 50 #[.pointer (some ⟨D, 0, none⟩), v] w fun e w' => ∃ u, e = .returned u ∧ IntsAt w' w'.heap.size u (plI wf (sgW zs)) ∧ Below w.heap.size w w' :=
  (rall6_any w D v zs hsm hs ht).mono fun e w' ⟨u, he, hrow, hb⟩ => ⟨u, he, IntsAt.of_own hrow (fun z hz => by have := plI_rng z hz; rw [sgW_length] at this; omega), hb⟩

end Go.Proofs.YtpaijpdmeiagfaaDoor

namespace Go.Proofs.YtpaijpdmeiagfaaDoor
open Go Go.RowKit Go.WideMaps Go.Proofs.Kk Go.Proofs.Tm Go.Proofs.Gg Go.Proofs.Tx

set_option maxRecDepth 100000 in
set_option maxHeartbeats 2000000 in
theorem breaks6_early (a0 : Option Addr) (n0 c0 : Nat) (h : 200 < n0) {w : World} (hL : LaidS w) :
    Calls Tryd.prog 19 #[.slice a0 n0 c0] w fun e w' => e = .returned (.bool true) ∧ Below w.heap.size w w' := by
  have h1 : (200 : Int) < n0 := by omega
  go_enter Tryd.func19, Tryd.ntmps19
  go_wp2_with (first
    | (go_at_call 24; refine (awake6_any _ hL).mono ?_; rintro e w1 ⟨rfl, hb1⟩)
    | (go_at_call 25; refine (new_ship _ (hL.below hb1 hL.1)).mono ?_; rintro e w2 ⟨D, rfl, hs, hb⟩))
  go_ret
  exact ⟨rfl, hb1.trans (hb.mono hb1.size)⟩

set_option maxRecDepth 100000 in
set_option maxHeartbeats 4000000 in
theorem breaks6_good (a0 : Option Addr) (n0 c0 : Nat) (zs : List Int) {w : World} (hL : LaidS w) (h0 : IntsAt w w.heap.size (.slice a0 n0 c0) zs) (g0 : n0 ≤ 200) :
    Calls Tryd.prog 19 #[.slice a0 n0 c0] w fun e w' => e = .returned (.bool true) ∧ Below w.heap.size w w' := by
  obtain ⟨hz0, hc0, hc0', _⟩ := h0.len
  have g1 : (n0 : Int) ≤ 200 := by omega
  have hzH := Lib.hid hz0
  clear hz0
  go_enter Tryd.func19, Tryd.ntmps19
  go_wp2_with (first
    | (go_at_call 24; refine (awake6_any _ hL).mono ?_; rintro e w1 ⟨rfl, hb1⟩)
    | (go_at_call 25; refine (new_ship _ (hL.below hb1 hL.1)).mono ?_; rintro e w2 ⟨D, rfl, hs, hb⟩; have hB2 : Below w.heap.size w w2 := hb1.trans (hb.mono hb1.size))
    | (go_at_call 28; refine (wall_at w2 D _ zs (by rw [hzH.out]; omega) hs ((h0.below hB2 (Nat.le_refl _)).mono hB2.size)).mono ?_; rintro e w3 ⟨u3, rfl, hu3, hb3⟩; have hB3 := hB2.trans (hb3.mono hB2.size))
    | (go_at_call 36; refine (rship_any w3).mono ?_; rintro e w4 ⟨E, rfl, hr, hb4⟩; have hB4 := hB3.trans (hb4.mono hB3.size); have hu4 := (hu3.below hb4 (Nat.le_refl _)).mono hb4.size)
    | (go_at_call 50; refine (rall6_at w4 E _ zs (by rw [hzH.out]; omega) hr ((h0.below hB4 (Nat.le_refl _)).mono hB4.size)).mono ?_; rintro e w5 ⟨u5, rfl, hu5, hb5⟩; have hB5 := hB4.trans (hb5.mono hB4.size); have hu45 := (hu4.below hb5 (Nat.le_refl _)).mono hb5.size)
    | (go_at_call 27; refine (sameInts_any _ _ _ w5 _ hu45 hu5).mono ?_; rintro e w6 ⟨rfl, n6, rfl⟩))
  go_ret
  exact ⟨rfl, below_drewN hB5 _⟩

theorem wordsBreaks_walk (a0 : Option Addr) (n0 c0 : Nat) (z0 : List Int) {w : World} (h0 : IsRow .i64 w a0 n0 c0 z0) (hL : LaidS w) :
    Calls Tryd.prog 19 #[.slice a0 n0 c0] w fun e w' => e = .returned (.bool true) ∧ Below w.heap.size w w' := by
  by_cases h : 200 < n0
  · exact breaks6_early a0 n0 c0 h hL
  · exact breaks6_good a0 n0 c0 _ hL (intsAt_of h0) (by omega)

set_option maxRecDepth 100000 in
set_option maxHeartbeats 2000000 in
theorem asks6_early (a0 : Option Addr) (n0 c0 : Nat) (i : Int) (h : 200 < n0) {w : World} (hL : LaidS w) :
    Calls Tryd.prog 20 #[.slice a0 n0 c0, .int .i64 i] w fun e w' => e = .returned (.bool true) ∧ Below w.heap.size w w' := by
  have h1 : (200 : Int) < n0 := by omega
  go_enter Tryd.func20, Tryd.ntmps20
  go_wp2_with (first
    | (go_at_call 24; refine (awake6_any _ hL).mono ?_; rintro e w1 ⟨rfl, hb1⟩)
    | (go_at_call 25; refine (new_ship _ (hL.below hb1 hL.1)).mono ?_; rintro e w2 ⟨D, rfl, hs, hb⟩))
  go_ret
  exact ⟨rfl, hb1.trans (hb.mono hb1.size)⟩

set_option maxRecDepth 100000 in
set_option maxHeartbeats 4000000 in
theorem asks6_good (a0 : Option Addr) (n0 c0 : Nat) (zs : List Int) (i : Int) {w : World} (hL : LaidS w) (h0 : IntsAt w w.heap.size (.slice a0 n0 c0) zs) (g0 : n0 ≤ 200) :
    Calls Tryd.prog 20 #[.slice a0 n0 c0, .int .i64 i] w fun e w' => e = .returned (.bool true) ∧ Below w.heap.size w w' := by
  obtain ⟨hz0, hc0, hc0', _⟩ := h0.len
  have g1 : (n0 : Int) ≤ 200 := by omega
  have hzH := Lib.hid hz0
  clear hz0
  obtain ⟨bk, hbk⟩ : ∃ bk, bk = brkI wf (sgW zs) i := ⟨_, rfl⟩
  obtain ⟨hd, hhd⟩ : ∃ hd, hd = headI (sgW zs) i := ⟨_, rfl⟩
  have hbH := Lib.hid hbk
  have hdH := Lib.hid hhd
  clear hbk hhd
  go_enter Tryd.func20, Tryd.ntmps20
  go_wp2_with (first
    | (go_at_call 24; refine (awake6_any _ hL).mono ?_; rintro e w1 ⟨rfl, hb1⟩)
    | (go_at_call 25; refine (new_ship _ (hL.below hb1 hL.1)).mono ?_; rintro e w2 ⟨D, rfl, hs, hb⟩; have hB2 : Below w.heap.size w w2 := hb1.trans (hb.mono hb1.size))
    | (go_at_call 36; refine (rship_any w2).mono ?_; rintro e w3 ⟨E, rfl, hr, hb3⟩; have hB3 := hB2.trans (hb3.mono hB2.size); have hs3 := (hs.below hb3 (Nat.le_refl _)).mono hb3.size; have ht3 := ((h0.below hB3 (Nat.le_refl _)).mono hB3.size))
    | (go_at_call 51; refine (wbreak_any w3 D _ zs (by rw [hzH.out]; omega) i hs3 ht3).mono ?_; rw [← hbH.out]; rintro e w4 ⟨rfl, hb4⟩; have hB4 := hB3.trans (hb4.mono hB3.size); have hs4 := (hs3.below hb4 (Nat.le_refl _)).mono hb4.size; have hr4 := (hr.below hb4 (Nat.le_refl _)).mono hb4.size; have ht4 := (ht3.below hb4 (Nat.le_refl _)).mono hb4.size)
    | (go_at_call 52; refine (rwbreak_any w4 _ E _ zs (by rw [hzH.out]; omega) i hr4 ht4).mono ?_; rw [← hbH.out]; rintro e w5 ⟨rfl, n5, rfl⟩)
    | (go_at_call 53; refine (whead_any (w4.drewN n5) D _ zs i (by exact hs4.heap rfl) (by exact ht4.heap rfl)).mono ?_; rw [← hdH.out]; rintro e w6 ⟨rfl, hb6⟩; have hB6 := (below_drewN hB4 n5).trans (hb6.mono hB4.size); have hr6 := (hr4.heap (w' := w4.drewN n5) rfl).below hb6 (Nat.le_refl _); have ht6 := (ht4.heap (w' := w4.drewN n5) rfl).below hb6 (Nat.le_refl _))
    | (go_at_call 54; refine (rhead_any w6 _ E _ zs i hr6 ht6).mono ?_; rw [← hdH.out]; rintro e w7 ⟨rfl, n7, rfl⟩))
  go_ret
  exact ⟨by simp, below_drewN hB6 _⟩

theorem wordsAsks_walk (a0 : Option Addr) (n0 c0 : Nat) (z0 : List Int) {w : World} (h0 : IsRow .i64 w a0 n0 c0 z0) (i : Int) (_hi : -9223372036854775808 ≤ i ∧ i ≤ 9223372036854775807) (hL : LaidS w) :
    Calls Tryd.prog 20 #[.slice a0 n0 c0, .int .i64 i] w fun e w' => e = .returned (.bool true) ∧ Below w.heap.size w w' := by
  by_cases h : 200 < n0
  · exact asks6_early a0 n0 c0 i h hL
  · exact asks6_good a0 n0 c0 _ i hL (intsAt_of h0) (by omega)
end Go.Proofs.YtpaijpdmeiagfaaDoor
