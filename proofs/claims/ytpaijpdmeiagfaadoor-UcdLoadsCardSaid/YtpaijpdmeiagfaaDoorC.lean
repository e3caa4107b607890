import Derived.Test.YtpaijpdmeiagfaaDoorT
import Derived.WalkLawsBesides
import Derived.WalkSpells
import Derived.BigQuiet
import Derived.Deep.QuietTactic
namespace Go.Proofs.YtpaijpdmeiagfaaDoor
open Go Go.RowKit Go.WideMaps Go.Proofs.Kk Go.Proofs.Tm

def oddB (x : P3) : Bool := decide (x.lo < 0) || decide (1114111 < x.hi) || decide (x.hi < x.lo)

def propV (x : P3) : Value := .agg #[.int .i64 x.lo, .int .i64 x.hi, .int .u8 x.v]

/-- what a list of entries is in memory, below block n₀ -/
def PropsAt (w : World) (n₀ : Nat) (v : Value) (l : List P3) : Prop :=
  ∃ ao c, v = .slice ao l.length c ∧ l.length ≤ 1000000000000 ∧ (∀ x ∈ l, -9223372036854775808 ≤ x.lo ∧ x.lo ≤ 9223372036854775807 ∧ -9223372036854775808 ≤ x.hi ∧ x.hi ≤ 9223372036854775807 ∧ 0 ≤ x.v ∧ x.v ≤ 255) ∧
    (l ≠ [] → ∃ b off, ao = some ⟨b, off, none⟩ ∧ b < n₀ ∧ ∀ j x, l[j]? = some x →
      w.cell? ⟨b, off + j * 3, none⟩ = some (.int .i64 x.lo) ∧ w.cell? ⟨b, off + j * 3 + 1, none⟩ = some (.int .i64 x.hi) ∧ w.cell? ⟨b, off + j * 3 + 2, none⟩ = some (.int .u8 x.v))

theorem PropsAt.below {w w' : World} {n₀ B : Nat} {v : Value} {l : List P3} (h : PropsAt w n₀ v l) (hb : Below B w w') (hB : n₀ ≤ B) : PropsAt w' n₀ v l := by
  obtain ⟨ao, c, hv, hs, hr, h⟩ := h
  refine ⟨ao, c, hv, hs, hr, fun hl => ?_⟩
  obtain ⟨b, off, ha, hbn, hc⟩ := h hl
  refine ⟨b, off, ha, hbn, fun j x hx => ?_⟩
  obtain ⟨h1, h2, h3⟩ := hc j x hx
  exact ⟨(hb.cell (p := ⟨b, _, none⟩) (by simp; omega)).trans h1, (hb.cell (p := ⟨b, _, none⟩) (by simp; omega)).trans h2, (hb.cell (p := ⟨b, _, none⟩) (by simp; omega)).trans h3⟩

theorem PropsAt.mono {w : World} {n₀ n₁ : Nat} {v : Value} {l : List P3} (h : PropsAt w n₀ v l) (hn : n₀ ≤ n₁) : PropsAt w n₁ v l := by
  obtain ⟨ao, c, hv, hs, hr, h⟩ := h
  refine ⟨ao, c, hv, hs, hr, fun hl => ?_⟩
  obtain ⟨b, off, ha, hbn, hc⟩ := h hl
  exact ⟨b, off, ha, by omega, hc⟩

set_option maxRecDepth 100000 in
set_option maxHeartbeats 1000000 in
theorem odd_any (x : P3) (w : World) :
    Calls Tryd.prog 107 #[propV x] w fun e w' => e = .returned (.bool (oddB x)) ∧ Below w.heap.size w w' := by
  by_cases h1 : x.lo < 0
  · go_enter Tryd.func107, Tryd.ntmps107
    unfold propV
    go_wp2
    go_ret
    exact ⟨by simp [oddB, h1], (Below.refl _ _).alloc (Nat.le_refl _) _⟩
  · by_cases h2 : 1114111 < x.hi
    · have h1' : 0 ≤ x.lo := by omega
      go_enter Tryd.func107, Tryd.ntmps107
      unfold propV
      go_wp2
      go_ret
      exact ⟨by simp [oddB, h2], (Below.refl _ _).alloc (Nat.le_refl _) _⟩
    · have h1' : 0 ≤ x.lo := by omega
      have h2' : x.hi ≤ 1114111 := by omega
      go_enter Tryd.func107, Tryd.ntmps107
      unfold propV
      go_wp2
      go_ret
      exact ⟨by simp [oddB]; omega, (Below.refl _ _).alloc (Nat.le_refl _) _⟩

set_option maxRecDepth 100000 in
set_option maxHeartbeats 1000000 in
theorem index_any (v : Value) (l : List P3) (w : World) (h : PropsAt w w.heap.size v l) :
    Calls Tryd.prog 118 #[v, .func (.func 107) #[] #[]] w fun e w' => (∃ r : Int, e = .returned (.int .i64 r) ∧ ((r = -1 ∧ ∀ x ∈ l, oddB x = false) ∨ (0 ≤ r ∧ ∃ x ∈ l, oddB x = true))) ∧ Below w.heap.size w w' := by
  have h0 := h
  obtain ⟨ao, c, rfl, hsz, hr, _⟩ := h0
  go_enter Tryd.func118, Tryd.ntmps118
  go_wp2
  go_loopw [8] (fun i wr => ∃ k : Nat, k ≤ l.length ∧ i = .int .i64 k ∧ (∀ x ∈ l.take k, oddB x = false) ∧ Below w.heap.size w wr) (fun i _ => l.length - (intOf i).toNat)
  case atStart => exact ⟨0, Nat.zero_le _, rfl, by simp, Below.refl _ _⟩
  case round =>
    obtain ⟨k, hk, rfl, hall, hb⟩ := hrel
    by_cases hlt : k < l.length
    · have hP := h.below hb (Nat.le_refl _)
      obtain ⟨ao', c', hv, _, _, hP⟩ := hP
      obtain ⟨b, off, ha, hbn, hc⟩ := hP (by intro e; rw [e] at hlt; simp at hlt)
      cases hv
      subst ha
      obtain ⟨h1, h2, h3⟩ := hc k l[k] (by simp [hlt])
      clear hc hP hr
      have hmem : l[k] ∈ l := List.getElem_mem hlt
      cases ho : oddB l[k] with
      | true =>
        have ho' : Hid (oddB l[k] = true) := ho
        go_wp2_with (go_at_call 107; refine (odd_any l[k] _).mono ?_; rintro e w' ⟨rfl, hb1⟩; rw [ho])
        go_ret
        exact ⟨⟨k, rfl, .inr ⟨by omega, l[k], hmem, ho'.out⟩⟩, hb.trans (hb1.mono hb.size)⟩
      | false =>
        have ho' : Hid (oddB l[k] = false) := ho
        go_wp2_with (go_at_call 107; refine (odd_any l[k] _).mono ?_; rintro e w' ⟨rfl, hb1⟩; rw [ho])
        go_roundw
        case rel =>
          refine ⟨k + 1, by omega, by go_num, ?_, hb.trans (hb1.mono hb.size)⟩
          intro x hx
          rw [List.take_succ_eq_append_getElem hlt, List.mem_append, List.mem_singleton] at hx
          rcases hx with hx | rfl
          · exact hall x hx
          · exact ho'.out
        case measure => simp [intOf]; omega
    · clear hr
      go_wp2
      go_ret
      refine ⟨⟨-1, rfl, .inl ⟨rfl, ?_⟩⟩, hb⟩
      rw [List.take_of_length_le (by omega)] at hall
      exact hall

set_option maxRecDepth 100000 in
set_option maxHeartbeats 1000000 in
theorem contains_any (v : Value) (l : List P3) (w : World) (h : PropsAt w w.heap.size v l) :
    Calls Tryd.prog 108 #[v, .func (.func 107) #[] #[]] w fun e w' => e = .returned (.bool (l.any oddB)) ∧ Below w.heap.size w w' := by
  go_enter Tryd.func108, Tryd.ntmps108
  go_wp2_with (go_at_call 118; refine (index_any v l _ h).mono ?_; rintro e w' ⟨⟨r, rfl, hr⟩, hb⟩)
  go_ret
  refine ⟨?_, hb⟩
  rcases hr with ⟨rfl, hr⟩ | ⟨hr, x, hx, ho⟩
  · have : l.any oddB = false := by rw [List.any_eq_false]; intro x hx; rw [hr x hx]; simp
    simp [this]
  · have : l.any oddB = true := List.any_eq_true.2 ⟨x, hx, ho⟩
    simp [this, hr]
end Go.Proofs.YtpaijpdmeiagfaaDoor
