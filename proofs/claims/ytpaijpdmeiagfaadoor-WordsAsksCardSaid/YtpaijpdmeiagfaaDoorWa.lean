/- Words: kinds. -/
import Derived.Test.YtpaijpdmeiagfaaDoorNa
import Derived.Test.YtpaijpdmeiagfaaDoorOw
import Derived.Test.YtpaijpdmeiagfaaDoorPt
import Derived.BigQuiet
import Derived.Deep.DeepCutAuto
set_option linter.unusedVariables false
set_option linter.unusedSimpArgs false
namespace Go.Proofs.YtpaijpdmeiagfaaDoor
open Go Go.RowKit Go.WideMaps Go.Proofs.Kk Go.Proofs.Tm Go.Proofs.Gg Go.Proofs.Tx

/-- where a number stands, or -1 -/
def IdxOk (zs : List Int) (x r : Int) : Prop := (0 ≤ r ↔ x ∈ zs) ∧ -1 ≤ r

set_option maxRecDepth 100000 in
set_option maxHeartbeats 1000000 in
theorem wIndex_any (w : World) (n₀ : Nat) (v : Value) (zs : List Int) (x : Int) (ht : IntsAt w n₀ v zs) :
    Calls Tryd.prog 119 #[v, .int .i64 x] w fun e w' => (∃ r, e = .returned (.int .i64 r) ∧ IdxOk zs x r) ∧ w' = w := by
  obtain ⟨ao, c, rfl⟩ := ht.form
  obtain ⟨_, hc1, hc2, _⟩ := ht.len
  go_enter Tryd.func119, Tryd.ntmps119
  go_wp2
  go_loop [8] (fun i => ∃ k : Nat, k ≤ zs.length ∧ i = .int .i64 k ∧ Hid (∀ j, j < k → zs[j]? ≠ some x)) (fun i => zs.length - (intOf i).toNat)
  case atStart => exact ⟨0, by omega, rfl, fun j hj => by omega⟩
  case round =>
    obtain ⟨k, hk, rfl, hno⟩ := hrel
    by_cases hlt : k < zs.length
    · have hk1 : (k : Int) < zs.length := by omega
      have hk0 : (0 : Int) ≤ k := by omega
      obtain ⟨b, off, rfl, hb, p1⟩ := ht.at_ hk0 hk1
      rw [Int.toNat_natCast] at p1
      have hz : zs[k]? = some (zs.getD k 0) := by simp [List.getD, hlt]
      generalize zs.getD k 0 = z at p1 hz
      have hzH := Lib.hid hz
      clear hz
      by_cases he : x = z
      · subst he
        have hm : IdxOk zs x k := ⟨⟨fun _ => List.mem_of_getElem? hzH.out, fun _ => hk0⟩, by omega⟩
        have hmH := Lib.hid hm
        clear hno hm
        go_wp2
        go_ret
        exact ⟨⟨_, rfl, hmH.out⟩, rfl⟩
      · have he1 : (x == z) = false := by simpa using he
        have hno' : Hid (∀ j, j < k + 1 → zs[j]? ≠ some x) := fun j hj => by
          by_cases e : j = k
          · rw [e, hzH.out]; intro h; cases h; exact he rfl
          · exact hno.out j (by omega)
        clear hno
        go_wp2
        go_round
        case rel => exact ⟨k + 1, by omega, by go_num, hno'⟩
        case measure => simp [intOf]; omega
    · obtain rfl : k = zs.length := by omega
      have hm : IdxOk zs x (-1) := ⟨⟨fun h => by omega, fun h => by
        obtain ⟨j, hj⟩ := List.mem_iff_getElem?.1 h
        exact absurd hj (hno.out j (List.getElem?_eq_some_iff.1 hj).1)⟩, by omega⟩
      have hmH := Lib.hid hm
      clear hno hm
      go_wp2
      go_ret
      exact ⟨⟨_, rfl, hmH.out⟩, rfl⟩

set_option maxRecDepth 100000 in
set_option maxHeartbeats 1000000 in
theorem wContains_any (w : World) (n₀ : Nat) (v : Value) (zs : List Int) (x : Int) (r : Bool) (hr : Hid (r = decide (x ∈ zs))) (ht : IntsAt w n₀ v zs) :
    Calls Tryd.prog 115 #[v, .int .i64 x] w fun e w' => e = .returned (.bool r) ∧ w' = w := by
  obtain ⟨ao, c, rfl⟩ := ht.form
  go_enter Tryd.func115, Tryd.ntmps115
  go_wp2_with (go_at_call 119; refine (wIndex_any _ n₀ _ zs x (by exact ht)).mono ?_; rintro e w1 ⟨⟨i, rfl, hi⟩, rfl⟩)
  go_ret
  refine ⟨?_, rfl⟩
  rw [hr.out]
  show Ending.returned (Value.bool (decide (0 ≤ i))) = _
  rw [decide_eq_decide.2 hi.1]

set_option maxRecDepth 100000 in
set_option maxHeartbeats 1000000 in
theorem in_any (w : World) (n₀ : Nat) (v : Value) (zs : List Int) (x : Int) (r : Bool) (hr : Hid (r = decide (x ∈ zs))) (ht : IntsAt w n₀ v zs) :
    Calls Tryd.prog 99 #[.int .i64 x, v] w fun e w' => e = .returned (.bool r) ∧ w' = w := by
  obtain ⟨ao, c, rfl⟩ := ht.form
  go_enter Tryd.func99, Tryd.ntmps99
  go_wp2_with (go_at_call 115; refine (wContains_any _ n₀ _ zs x r hr (by exact ht)).mono ?_; rintro e w1 ⟨rfl, rfl⟩)
  go_ret
  exact ⟨rfl, rfl⟩

theorem isB3 (zs : List Int) (h : ∀ z ∈ zs, 0 ≤ z ∧ z ≤ 100) : IsI zs := fun z hz => by have := h z hz; omega

set_option maxRecDepth 100000 in
set_option maxHeartbeats 1000000 in
theorem ends_any (w : World) (k : Int) : Calls Tryd.prog 77 #[.int .i64 k] w fun e w' => e = .returned (.bool (endsK k)) ∧ Below w.heap.size w w' := by
  have hr : Hid (endsK k = decide (k ∈ [1, 2, 3])) := by show _ = _; simp [endsK, Bool.or_assoc]; rfl
  obtain ⟨r, hr0⟩ : ∃ r, r = endsK k := ⟨_, rfl⟩
  rw [← hr0] at hr ⊢
  clear hr0
  go_enter Tryd.func77, Tryd.ntmps77
  go_wp2_with (go_at_call 99; refine (in_any _ _ _ [1, 2, 3] k r hr (by exact lit_at w [1, 2, 3] 3 (isI_of rfl) (by simp))).mono ?_; rintro e w1 ⟨rfl, rfl⟩)
  go_ret
  exact ⟨rfl, (Below.refl _ _).alloc (Nat.le_refl _) _⟩

set_option maxRecDepth 100000 in
set_option maxHeartbeats 1000000 in
theorem mark_any (w : World) (k : Int) : Calls Tryd.prog 78 #[.int .i64 k] w fun e w' => e = .returned (.bool (markK k)) ∧ Below w.heap.size w w' := by
  have hr : Hid (markK k = decide (k ∈ [4, 6, 5])) := by show _ = _; simp [markK, Bool.or_assoc]; rfl
  obtain ⟨r, hr0⟩ : ∃ r, r = markK k := ⟨_, rfl⟩
  rw [← hr0] at hr ⊢
  clear hr0
  go_enter Tryd.func78, Tryd.ntmps78
  go_wp2_with (go_at_call 99; refine (in_any _ _ _ [4, 6, 5] k r hr (by exact lit_at w [4, 6, 5] 3 (isI_of rfl) (by simp))).mono ?_; rintro e w1 ⟨rfl, rfl⟩)
  go_ret
  exact ⟨rfl, (Below.refl _ _).alloc (Nat.le_refl _) _⟩

set_option maxRecDepth 100000 in
set_option maxHeartbeats 1000000 in
theorem letter_any (w : World) (k : Int) : Calls Tryd.prog 100 #[.int .i64 k] w fun e w' => e = .returned (.bool (letterK k)) ∧ Below w.heap.size w w' := by
  have hr : Hid (letterK k = decide (k ∈ [10, 9])) := by show _ = _; simp [letterK, Bool.or_assoc]; rfl
  obtain ⟨r, hr0⟩ : ∃ r, r = letterK k := ⟨_, rfl⟩
  rw [← hr0] at hr ⊢
  clear hr0
  go_enter Tryd.func100, Tryd.ntmps100
  go_wp2_with (go_at_call 99; refine (in_any _ _ _ [10, 9] k r hr (by exact lit_at w [10, 9] 3 (isI_of rfl) (by simp))).mono ?_; rintro e w1 ⟨rfl, rfl⟩)
  go_ret
  exact ⟨rfl, (Below.refl _ _).alloc (Nat.le_refl _) _⟩

set_option maxRecDepth 100000 in
set_option maxHeartbeats 1000000 in
theorem between_any (w : World) (k : Int) : Calls Tryd.prog 101 #[.int .i64 k] w fun e w' => e = .returned (.bool (betweenK k)) ∧ Below w.heap.size w w' := by
  have hr : Hid (betweenK k = decide (k ∈ [14, 13, 11])) := by show _ = _; simp [betweenK, Bool.or_assoc]; rfl
  obtain ⟨r, hr0⟩ : ∃ r, r = betweenK k := ⟨_, rfl⟩
  rw [← hr0] at hr ⊢
  clear hr0
  go_enter Tryd.func101, Tryd.ntmps101
  go_wp2_with (go_at_call 99; refine (in_any _ _ _ [14, 13, 11] k r hr (by exact lit_at w [14, 13, 11] 3 (isI_of rfl) (by simp))).mono ?_; rintro e w1 ⟨rfl, rfl⟩)
  go_ret
  exact ⟨rfl, (Below.refl _ _).alloc (Nat.le_refl _) _⟩

set_option maxRecDepth 100000 in
set_option maxHeartbeats 1000000 in
theorem inside_any (w : World) (k : Int) : Calls Tryd.prog 102 #[.int .i64 k] w fun e w' => e = .returned (.bool (insideK k)) ∧ Below w.heap.size w w' := by
  have hr : Hid (insideK k = decide (k ∈ [15, 13, 11])) := by show _ = _; simp [insideK, Bool.or_assoc]; rfl
  obtain ⟨r, hr0⟩ : ∃ r, r = insideK k := ⟨_, rfl⟩
  rw [← hr0] at hr ⊢
  clear hr0
  go_enter Tryd.func102, Tryd.ntmps102
  go_wp2_with (go_at_call 99; refine (in_any _ _ _ [15, 13, 11] k r hr (by exact lit_at w [15, 13, 11] 3 (isI_of rfl) (by simp))).mono ?_; rintro e w1 ⟨rfl, rfl⟩)
  go_ret
  exact ⟨rfl, (Below.refl _ _).alloc (Nat.le_refl _) _⟩

set_option maxRecDepth 100000 in
set_option maxHeartbeats 1000000 in
theorem sound_any (w : World) (k : Int) : Calls Tryd.prog 103 #[.int .i64 k] w fun e w' => e = .returned (.bool (soundK k)) ∧ Below w.heap.size w w' := by
  obtain ⟨l, hl⟩ : ∃ l, l = letterK k := ⟨_, rfl⟩
  obtain ⟨s, hs⟩ : ∃ s, s = decide (k ∈ [16, 8]) := ⟨_, rfl⟩
  have hr : soundK k = (l || s) := by rw [hl, hs]; simp [soundK, Bool.or_assoc]; rfl
  rw [hr]
  have hlH := Lib.hid hl
  have hsH := Lib.hid hs
  clear hl hs hr
  go_enter Tryd.func103, Tryd.ntmps103
  cases l with
  | true =>
    go_wp2_with (go_at_call 100; refine (letter_any _ k).mono ?_; rw [← hlH.out]; rintro e w1 ⟨rfl, hb1⟩)
    go_ret
    exact ⟨rfl, hb1⟩
  | false =>
    go_wp2_with (first
      | (go_at_call 100; refine (letter_any _ k).mono ?_; rw [← hlH.out]; rintro e w1 ⟨rfl, hb1⟩)
      | (go_at_call 99; refine (in_any _ _ _ [16, 8] k s hsH (by exact lit_at w1 [16, 8] 3 (isI_of rfl) (by simp))).mono ?_; rintro e w2 ⟨rfl, rfl⟩))
    go_ret
    exact ⟨by simp, hb1.alloc hb1.size _⟩
end Go.Proofs.YtpaijpdmeiagfaaDoor
