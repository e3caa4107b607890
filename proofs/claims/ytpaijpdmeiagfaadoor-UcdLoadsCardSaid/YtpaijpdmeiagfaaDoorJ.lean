import Derived.Test.YtpaijpdmeiagfaaDoorI
import Derived.Test.YtpaijpdmeiagfaaDoorH
import Derived.Deep.AppendLies
namespace Go.Proofs.YtpaijpdmeiagfaaDoor
open Go Go.RowKit Go.WideMaps Go.Proofs.Kk Go.Proofs.Tm Go.Proofs.Gg

/-- the cells of a list of entries -/
def propCells (l : List P3) : List Value := l.flatMap fun x => [.int .i64 x.lo, .int .i64 x.hi, .int .u8 x.v]
theorem propCells_snoc (l : List P3) (x : P3) : propCells (l ++ [x]) = propCells l ++ [.int .i64 x.lo, .int .i64 x.hi, .int .u8 x.v] := by simp [propCells]
theorem propCells_get (l : List P3) (j : Nat) (x : P3) (h : l[j]? = some x) : (propCells l)[j * 3]? = some (.int .i64 x.lo) ∧ (propCells l)[j * 3 + 1]? = some (.int .i64 x.hi) ∧ (propCells l)[j * 3 + 2]? = some (.int .u8 x.v) := by
  induction l generalizing j with
  | nil => simp at h
  | cons y l ih =>
    cases j with
    | zero =>
      simp at h; subst h
      simp [propCells]
    | succ j =>
      have := ih j (by simpa using h)
      have e : propCells (y :: l) = .int .i64 y.lo :: .int .i64 y.hi :: .int .u8 y.v :: propCells l := rfl
      rw [e]
      rw [show (j + 1) * 3 = j * 3 + 1 + 1 + 1 by omega]
      simpa using this

def Fits (l : List P3) : Prop := ∀ x ∈ l, -9223372036854775808 ≤ x.lo ∧ x.lo ≤ 9223372036854775807 ∧ -9223372036854775808 ≤ x.hi ∧ x.hi ≤ 9223372036854775807 ∧ 0 ≤ x.v ∧ x.v ≤ 255

/-- an owned row of entries is a list of entries -/
theorem PropsAt.of_own {w : World} {base : Nat} {v : Value} {l : List P3} (h : w.ownsRow base 68 3 v l.length (propCells l)) (hl : l.length ≤ 1000000000000) (hf : Fits l) : PropsAt w w.heap.size v l := by
  rcases h.2 with ⟨h1, h2⟩ | ⟨g, cap, cur, h1, _, h3, h4, h5, h6, h7⟩
  · have : l = [] := List.eq_nil_of_length_eq_zero h2
    subst this
    exact ⟨none, 0, h1, by simp, by simp, fun h => absurd rfl h⟩
  · refine ⟨some ⟨g, 0, none⟩, cap, h1, hl, hf, fun _ => ⟨g, 0, rfl, (Array.getElem?_eq_some_iff.1 h3).1, ?_⟩⟩
    intro j x hx
    have hj : j < l.length := (List.getElem?_eq_some_iff.1 hx).1
    obtain ⟨c0, c1, c2⟩ := propCells_get l j x hx
    have at_ : ∀ i u, i < l.length * 3 → (propCells l)[i]? = some u → w.cell? ⟨g, 0 + i, none⟩ = some u := by
      intro i u hi hu
      rw [cell_of_row _ _ _ _ _ _ h3, Nat.zero_add]
      rw [← h7, List.getElem?_take, if_pos hi] at hu
      rw [← Array.getElem?_toList]; exact hu
    refine ⟨at_ _ _ (by omega) c0, ?_, ?_⟩
    · have := at_ _ _ (by omega) c1; rwa [← Nat.add_assoc] at this
    · have := at_ _ _ (by omega) c2; rwa [← Nat.add_assoc] at this

theorem ownsRow_drewN {w : World} {base : Nat} {e : TypeId} {size : Nat} {v : Value} {n : Nat} {xs : List Value} (h : w.ownsRow base e size v n xs) (k : Nat) : (w.drewN k).ownsRow base e size v n xs := h

end Go.Proofs.YtpaijpdmeiagfaaDoor
