/- Rows of numbers that the call owns; small laws. -/
import Derived.Test.YtpaijpdmeiagfaaDoorAp
set_option linter.unusedVariables false
set_option linter.unusedSimpArgs false
namespace Go.Proofs.Kk
open Go Go.RowKit
theorem IntsAt.cell {w : World} {n₀ b off n c : Nat} {zs : List Int} (h : IntsAt w n₀ (.slice (some ⟨b, off, none⟩) n c) zs) {k : Nat} {x : Int} (hx : zs[k]? = some x) : w.cell? ⟨b, off + k, none⟩ = some (.int .i64 x) := by
  obtain ⟨ao', c', hv, _, _, _, h⟩ := h
  simp only [Value.slice.injEq] at hv
  obtain ⟨rfl, _, rfl⟩ := hv
  obtain ⟨b', off', ha, hb, hc⟩ := h (by intro e; rw [e] at hx; simp at hx)
  cases ha
  exact hc _ _ hx
end Go.Proofs.Kk
namespace Go.Proofs.YtpaijpdmeiagfaaDoor
open Go Go.RowKit Go.Proofs.Kk
theorem ownsRow_base {w : World} {b b' : Nat} {e : TypeId} {size : Nat} {v : Value} {k : Nat} {xs : List Value} (h : w.ownsRow b e size v k xs) (hb : b' ≤ b) : w.ownsRow b' e size v k xs :=
  ⟨h.1, h.2.imp id fun ⟨g, cap, cur, e1, e2, e3⟩ => ⟨g, cap, cur, e1, Nat.le_trans hb e2, e3⟩⟩

/-- a new literal, among what lay -/
theorem lit_at (w : World) (zs : List Int) (t : TypeId) (hI : IsI zs) (hl : zs.length ≤ 1000000) : IntsAt (w.alloc (.cells (ints zs).toArray t)) (w.alloc (.cells (ints zs).toArray t)).heap.size (.slice (some ⟨w.heap.size, 0, none⟩) zs.length zs.length) zs :=
  (IntsAt.lit w zs t hI (by omega)).mono (by simp)
theorem isI_of {zs : List Int} (h : zs.all (fun z => decide (-9223372036854775808 ≤ z) && decide (z ≤ 9223372036854775807)) = true) : IsI zs := by
  intro z hz
  have := List.all_eq_true.1 h z hz
  simpa using this

theorem below_grown {n₀ : Nat} {w w1 w2 : World} {base : Nat} {e : TypeId} {size : Nat} {v : Value} {k : Nat} {xs : List Value} (hb : Below n₀ w w1) (hown : w1.ownsRow base e size v k xs) (hg : w1.grownBy w2 v.ownBlock) (h0 : n₀ ≤ base) (h1 : n₀ ≤ w1.heap.size) : Below n₀ w w2 :=
  hb.grown hg h1 (fun j e => Nat.le_trans h0 (own_ge hown j e))

theorem ownsRow_below {w w' : World} {base : Nat} {e : TypeId} {size : Nat} {v : Value} {k N : Nat} {xs : List Value} (h : w.ownsRow base e size v k xs) (hb : Below N w w') (hN : w.heap.size ≤ N) : w'.ownsRow base e size v k xs :=
  ⟨h.1, h.2.imp id fun ⟨g, cap, cur, e1, e2, e3, e4⟩ => ⟨g, cap, cur, e1, e2, (hb.block g (Nat.lt_of_lt_of_le (Array.getElem?_eq_some_iff.1 e3).1 hN)).trans e3, e4⟩⟩

theorem own_lt {w : World} {base : Nat} {e : TypeId} {size : Nat} {v : Value} {k : Nat} {xs : List Value} (h : w.ownsRow base e size v k xs) : ∀ j, v.ownBlock = some j → j < w.heap.size := by
  intro j hj
  rcases h.2 with ⟨rfl, _⟩ | ⟨g, cap, cur, rfl, hb, hg, _⟩
  · simp [Value.ownBlock] at hj
  · simp [Value.ownBlock] at hj
    subst hj
    exact (Array.getElem?_eq_some_iff.1 hg).1
theorem own_apart2 {w1 w2 : World} {b1 b2 : Nat} {e1 e2 : TypeId} {s1 s2 : Nat} {v u : Value} {k1 k2 : Nat} {xs ys : List Value} (h : w1.ownsRow b1 e1 s1 v k1 xs) (g : w2.ownsRow b2 e2 s2 u k2 ys) (hb : w1.heap.size ≤ b2) : u.ownBlock = none ∨ u.ownBlock ≠ v.ownBlock := by
  cases hu : u.ownBlock with
  | none => exact .inl rfl
  | some j =>
    right
    intro e
    have h1 := own_lt h j e.symm
    have h2 := own_ge g j hu
    omega

end Go.Proofs.YtpaijpdmeiagfaaDoor
