/- Slices of whole numbers in memory. -/
import Derived.Test.YtpaijpdmeiagfaaDoorL
import Derived.Test.YtpaijpdmeiagfaaDoorH
set_option linter.unusedVariables false
set_option linter.unusedSimpArgs false
namespace Go.Proofs.Kk
open Go Go.RowKit

def ints (zs : List Int) : List Value := zs.map (Value.int .i64)
theorem ints_length (zs : List Int) : (ints zs).length = zs.length := by simp [ints]
theorem ints_get (zs : List Int) (i : Nat) : (ints zs)[i]? = (zs[i]?).map (Value.int .i64) := by simp [ints]
theorem ints_append (a b : List Int) : ints (a ++ b) = ints a ++ ints b := by simp [ints]
theorem ints_one (zs : List Int) : ∀ u ∈ ints zs, u.oneCell' = true := by
  intro u hu
  obtain ⟨x, _, rfl⟩ := List.mem_map.1 hu
  rfl

def IsI (zs : List Int) : Prop := ∀ z ∈ zs, -9223372036854775808 ≤ z ∧ z ≤ 9223372036854775807

/-- what a slice of whole numbers is in memory, below block n₀ -/
def IntsAt (w : World) (n₀ : Nat) (v : Value) (zs : List Int) : Prop :=
  ∃ ao c, v = .slice ao zs.length c ∧ zs.length ≤ c ∧ c ≤ 9223372036854775807 ∧ IsI zs ∧
    (zs ≠ [] → ∃ b off, ao = some ⟨b, off, none⟩ ∧ b < n₀ ∧ ∀ j x, zs[j]? = some x → w.cell? ⟨b, off + j, none⟩ = some (.int .i64 x))

theorem IntsAt.below {w w' : World} {n₀ B : Nat} {v : Value} {zs : List Int} (h : IntsAt w n₀ v zs) (hb : Below B w w') (hB : n₀ ≤ B) : IntsAt w' n₀ v zs := by
  obtain ⟨ao, c, hv, hs, hc, hr, h⟩ := h
  refine ⟨ao, c, hv, hs, hc, hr, fun hz => ?_⟩
  obtain ⟨b, off, ha, hbn, hc⟩ := h hz
  exact ⟨b, off, ha, hbn, fun j x hx => (hb.cell (p := ⟨b, _, none⟩) (by simp; omega)).trans (hc j x hx)⟩
theorem IntsAt.mono {w : World} {n₀ n₁ : Nat} {v : Value} {zs : List Int} (h : IntsAt w n₀ v zs) (hn : n₀ ≤ n₁) : IntsAt w n₁ v zs := by
  obtain ⟨ao, c, hv, hs, hc, hr, h⟩ := h
  refine ⟨ao, c, hv, hs, hc, hr, fun hz => ?_⟩
  obtain ⟨b, off, ha, hbn, hc⟩ := h hz
  exact ⟨b, off, ha, by omega, hc⟩
theorem IntsAt.heap {w w' : World} {n₀ : Nat} {v : Value} {zs : List Int} (h : IntsAt w n₀ v zs) (hw : w'.heap = w.heap) : IntsAt w' n₀ v zs := by
  obtain ⟨ao, c, hv, hs, hc, hr, h⟩ := h
  refine ⟨ao, c, hv, hs, hc, hr, fun hz => ?_⟩
  obtain ⟨b, off, ha, hbn, hc⟩ := h hz
  refine ⟨b, off, ha, hbn, fun j x hx => ?_⟩
  rw [World.cell?_of_block (w := w) (by rw [hw])]; exact hc j x hx

/-- the number at a place -/
theorem IntsAt.at_ {w : World} {n₀ : Nat} {ao : Option Addr} {n c : Nat} {zs : List Int} (h : IntsAt w n₀ (.slice ao n c) zs) {i : Int} (h0 : 0 ≤ i) (h1 : i < zs.length) :
    ∃ b off, ao = some ⟨b, off, none⟩ ∧ b < n₀ ∧ w.cell? ⟨b, off + i.toNat, none⟩ = some (.int .i64 (zs.getD i.toNat 0)) := by
  obtain ⟨ao', c', hv, _, _, _, h⟩ := h
  simp only [Value.slice.injEq] at hv
  obtain ⟨rfl, _, rfl⟩ := hv
  obtain ⟨b, off, ha, hb, hc⟩ := h (by intro e; rw [e] at h1; simp at h1; omega)
  refine ⟨b, off, ha, hb, hc _ _ ?_⟩
  have : i.toNat < zs.length := by omega
  simp [List.getD, this]
theorem IntsAt.len {w : World} {n₀ : Nat} {ao : Option Addr} {n c : Nat} {zs : List Int} (h : IntsAt w n₀ (.slice ao n c) zs) : zs.length = n ∧ n ≤ c ∧ c ≤ 9223372036854775807 ∧ IsI zs := by
  obtain ⟨ao', c', hv, h1, h2, h3, h⟩ := h
  simp only [Value.slice.injEq] at hv
  obtain ⟨rfl, rfl, rfl⟩ := hv
  exact ⟨rfl, h1, h2, h3⟩
theorem IntsAt.rng {w : World} {n₀ : Nat} {v : Value} {zs : List Int} (h : IntsAt w n₀ v zs) : IsI zs := by
  obtain ⟨_, _, _, _, _, h, _⟩ := h
  exact h
theorem IntsAt.form {w : World} {n₀ : Nat} {v : Value} {zs : List Int} (h : IntsAt w n₀ v zs) : ∃ ao c, v = .slice ao zs.length c := by
  obtain ⟨ao, c, h, _⟩ := h
  exact ⟨ao, c, h⟩

theorem IntsAt.of_own {w : World} {base : Nat} {e : TypeId} {v : Value} {zs : List Int} {n : Nat} (h : w.ownsRow base e 1 v n (ints zs)) (hI : IsI zs) : IntsAt w w.heap.size v zs := by
  have hn : zs.length = n := by have := h.1; rw [ints_length] at this; omega
  subst hn
  rcases h.2 with ⟨h1, h2⟩ | ⟨g, cap, cur, h1, _, h3, h4, h5, h6, h7⟩
  · have : zs = [] := List.eq_nil_of_length_eq_zero h2
    subst this
    exact ⟨none, 0, h1, by simp, by omega, hI, fun h => absurd rfl h⟩
  · refine ⟨some ⟨g, 0, none⟩, cap, h1, h4, by simpa [maxLen] using h5, hI, fun _ => ⟨g, 0, rfl, (Array.getElem?_eq_some_iff.1 h3).1, ?_⟩⟩
    intro j x hx
    have hj : j < zs.length := (List.getElem?_eq_some_iff.1 hx).1
    rw [cell_of_row _ _ _ _ _ _ h3, Nat.zero_add]
    have e2 : (ints zs)[j]? = some (.int .i64 x) := by rw [ints_get, hx]; rfl
    rw [← h7, List.getElem?_take, if_pos (by omega)] at e2
    rw [← Array.getElem?_toList]; exact e2

/-- a literal of numbers -/
theorem IntsAt.lit (w : World) (zs : List Int) (t : TypeId) (hI : IsI zs) (hl : zs.length ≤ 9223372036854775807) : IntsAt (w.alloc (.cells (ints zs).toArray t)) (w.heap.size + 1) (.slice (some ⟨w.heap.size, 0, none⟩) zs.length zs.length) zs := by
  refine ⟨_, zs.length, rfl, Nat.le_refl _, hl, hI, fun _ => ⟨w.heap.size, 0, rfl, by omega, fun j x hx => ?_⟩⟩
  rw [cell_of_row _ _ _ _ _ _ (heap_alloc_new w _), Nat.zero_add]
  simp [ints, hx]

/-- the head of a slice -/
theorem IntsAt.take {w : World} {n₀ : Nat} {b off n c : Nat} {zs : List Int} (h : IntsAt w n₀ (.slice (some ⟨b, off, none⟩) n c) zs) (k : Nat) (hk : k ≤ zs.length) : IntsAt w n₀ (.slice (some ⟨b, off, none⟩) k c) (zs.take k) := by
  obtain ⟨ao', c', hv, h1, h2, h3, h⟩ := h
  simp only [Value.slice.injEq] at hv
  obtain ⟨rfl, rfl, rfl⟩ := hv
  have hl : (zs.take k).length = k := by simp; omega
  refine ⟨_, c, by rw [hl], by omega, h2, fun z hz => h3 z (List.mem_of_mem_take hz), fun hne => ?_⟩
  obtain ⟨b', off', ha, hb, hc⟩ := h (by intro e; rw [e] at hne; simp at hne)
  simp only [Option.some.injEq, Addr.mk.injEq] at ha
  obtain ⟨rfl, rfl, _⟩ := ha
  refine ⟨b, off, rfl, hb, fun j x hx => hc j x ?_⟩
  rw [List.getElem?_take] at hx
  split at hx
  · exact hx
  · cases hx
/-- the tail of a slice -/
theorem IntsAt.drop {w : World} {n₀ : Nat} {b off n c : Nat} {zs : List Int} (h : IntsAt w n₀ (.slice (some ⟨b, off, none⟩) n c) zs) (k : Nat) (hk : k ≤ zs.length) (ao : Option Addr) (ha : k < zs.length → ao = some ⟨b, off + k, none⟩) (m c' : Nat) (hm : m = zs.length - k) (hc' : m ≤ c') (hc2 : c' ≤ 9223372036854775807) : IntsAt w n₀ (.slice ao m c') (zs.drop k) := by
  obtain ⟨ao', c'', hv, h1, h2, h3, h⟩ := h
  simp only [Value.slice.injEq] at hv
  obtain ⟨rfl, rfl, rfl⟩ := hv
  have hl : (zs.drop k).length = m := by simp; omega
  refine ⟨_, c', by rw [hl], by omega, hc2, fun z hz => h3 z (List.mem_of_mem_drop hz), fun hne => ?_⟩
  have hkl : k < zs.length := by
    rcases Nat.lt_or_ge k zs.length with g | g
    · exact g
    · exact absurd (List.drop_eq_nil_of_le g) hne
  obtain ⟨b', off', hab, hb, hc⟩ := h (by intro e; rw [e] at hne; simp at hne)
  simp only [Option.some.injEq, Addr.mk.injEq] at hab
  obtain ⟨rfl, rfl, _⟩ := hab
  refine ⟨b, off + k, ha hkl, hb, fun j x hx => ?_⟩
  have := hc (k + j) x (by rw [← hx, List.getElem?_drop])
  rwa [← Nat.add_assoc] at this
end Go.Proofs.Kk
namespace Go.Proofs.YtpaijpdmeiagfaaDoor
open Go Go.RowKit Go.Proofs.Kk

/-- an argument that is a slice of whole numbers -/
theorem intsAt_of {w : World} {a : Option Addr} {len cap : Nat} {zs : List Int} (h : IsRow .i64 w a len cap zs) : IntsAt w w.heap.size (.slice a len cap) (zs.take len) := by
  rcases h with ⟨rfl, rfl, rfl, rfl⟩ | ⟨x, rfl, h1, h2, h3, h4, h5⟩
  · exact ⟨none, 0, rfl, by simp, by simp, fun z hz => by simp at hz, fun h => absurd rfl h⟩
  · have hl : (zs.take len).length = len := by simp; omega
    refine ⟨some x, cap, by rw [hl], by omega, by simpa [maxLen] using h2, fun z hz => ?_, fun hne => ?_⟩
    · exact i64_wf (h5 z (List.mem_of_mem_take hz))
    · have hlen : 0 < len := by
        rcases Nat.eq_zero_or_pos len with e | e
        · subst e; simp at hne
        · exact e
      have q0 := h4 0 (by omega)
      have e0 : x.add 0 = x := by simp [Addr.add]
      rw [e0] at q0
      have hlt := World.block_lt_of_cell? w x q0
      obtain ⟨b, off, sp⟩ := x
      have hsp : sp = none := by
        unfold World.cell? at q0
        split at q0
        · cases sp with
          | none => rfl
          | some s => simp at q0
        · cases q0
      subst hsp
      refine ⟨b, off, rfl, hlt, fun j y hy => ?_⟩
      rw [List.getElem?_take] at hy
      split at hy
      · rename_i hj
        have := h4 j (by omega)
        rw [Addr.add_lit] at this
        rw [this]
        have hjl : j < zs.length := by omega
        simp only [List.getElem?_eq_getElem hjl, Option.some.injEq] at hy
        simp [List.getD, hjl, hy]
      · cases hy
end Go.Proofs.YtpaijpdmeiagfaaDoor
