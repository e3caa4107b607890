import Derived.Test.YtpaijpdmeiagfaaDoorC
import Derived.ProofKit
import Derived.Deep.Slices
import Derived.Deep.Fields
import Derived.Deep.Strs
import Derived.ChangeSame
namespace Go.Proofs.YtpaijpdmeiagfaaDoor
open Go Go.RowKit Go.WideMaps Go.Proofs.Kk Go.Proofs.Tm Go.ChangeShapes Go.WideShapes Go.Deep

theorem u8_wf {x : Int} (h : (Lit.int .u8 x).wf = true) : 0 ≤ x ∧ x ≤ 255 := by
  simp only [Lit.wf, Bool.and_eq_true, decide_eq_true_eq] at h
  have e2 : IntKind.max .u8 = 255 := by decide
  have e3 : IntKind.min .u8 = 0 := by decide
  rw [e2, e3] at h; exact h
theorem i64_wf {x : Int} (h : (Lit.int .i64 x).wf = true) : -9223372036854775808 ≤ x ∧ x ≤ 9223372036854775807 := by
  simp only [Lit.wf, Bool.and_eq_true, decide_eq_true_eq] at h
  have e2 : IntKind.max .i64 = 9223372036854775807 := by decide
  have e3 : IntKind.min .i64 = -9223372036854775808 := by decide
  rw [e2, e3] at h; exact h

/-- what the walk is told of a slice of integers that came in -/
def IsRow (k : IntKind) (w : World) (a : Option Addr) (len cap : Nat) (zs : List Int) : Prop :=
  (a = none ∧ len = 0 ∧ cap = 0 ∧ zs = []) ∨
  ∃ x, a = some x ∧ len ≤ cap ∧ cap ≤ maxLen ∧ zs.length = cap ∧ (∀ i, i < zs.length → w.cell? (x.add i) = some (.int k (zs.getD i 0))) ∧ ∀ n ∈ zs, (Lit.int k n).wf = true

section
variable {H : Type} {enc : TypeId × Value → H} {w : World} {base : Nat} {spare : Nat → Bool} {held : Bool}
theorem cellsOfProp : Tryd.prog.cellsOf 68 = 3 := by kernel_rfl
theorem cellsOfInt : Tryd.prog.cellsOf 3 = 1 := by kernel_rfl
theorem cellsOfU8 : Tryd.prog.cellsOf 5 = 1 := by kernel_rfl

/-- an argument that is a slice of entries -/
theorem props_open {fuel : Nat} {a : Option Addr} {n c : Nat} {x : DataW H × List MemPlace} (hs : ∀ b, spare b = true) (h : DataW.trod enc Tryd.prog w base spare held fuel 65 [.slice a n c] = some x) (hn : n ≤ 1000000000000) :
    ∃ l : List P3, l.length = n ∧ PropsAt w w.heap.size (.slice a n c) l := by
  rcases open_slice propsU h with ⟨hcs, _⟩ | ⟨ad, len, cap, m, n', D, Pl, hcs, hb, hl, hm, hmm, hx, hi⟩
  · simp at hcs
    obtain ⟨rfl, rfl, rfl⟩ := hcs
    exact ⟨[], rfl, none, 0, rfl, by simp, by simp, fun h => absurd rfl h⟩
  · simp at hcs
    obtain ⟨rfl, rfl, rfl⟩ := hcs
    rw [hs] at hmm
    simp only [if_true] at hmm
    subst hmm
    have each : ∀ i, i < n → ∃ y : P3, (w.cell? (ad.add (i * 3)) = some (.int .i64 y.lo) ∧ w.cell? (ad.add (i * 3 + 1)) = some (.int .i64 y.hi) ∧ w.cell? (ad.add (i * 3 + 2)) = some (.int .u8 y.v)) ∧
        (-9223372036854775808 ≤ y.lo ∧ y.lo ≤ 9223372036854775807 ∧ -9223372036854775808 ≤ y.hi ∧ y.hi ≤ 9223372036854775807 ∧ 0 ≤ y.v ∧ y.v ≤ 255) := by
      intro i hin
      obtain ⟨cs', hc, ht'⟩ := hi i (by omega)
      rw [cellsOfProp] at hc
      obtain ⟨_, hcl, hat⟩ := World.cells?_some hc
      match cs', hcl with
      | [c0, c1, c2], _ =>
      obtain ⟨y0, y1, y2, n3, _, _, h0, h1, h2⟩ := trod_struct3 Tryd.underlying68 ht'
      simp only [List.drop, List.take, cellsOfInt, cellsOfU8] at h0 h1 h2
      obtain ⟨x0, e0, _, w0⟩ := DataW.trod_int Tryd.underlying3 h0
      obtain ⟨x1, e1, _, w1⟩ := DataW.trod_int Tryd.underlying3 h1
      obtain ⟨x2, e2, _, w2⟩ := DataW.trod_int Tryd.underlying5 h2
      simp at e0 e1 e2
      subst e0 e1 e2
      have q0 := hat 0 (by simp)
      have q1 := hat 1 (by simp)
      have q2 := hat 2 (by simp)
      rw [Go.Deep.add_add] at q0 q1 q2
      have b0 := i64_wf w0
      have b1 := i64_wf w1
      have b2 := u8_wf w2
      exact ⟨⟨x0, x1, x2⟩, ⟨by simpa using q0, by simpa using q1, by simpa using q2⟩, b0.1, b0.2, b1.1, b1.2, b2.1, b2.2⟩
    obtain ⟨f, hf⟩ := choose_lt each
    refine ⟨(List.range n).map f, by simp, some ad, m, by simp, by simpa using hn, ?_, ?_⟩
    · intro y hy
      obtain ⟨i, hi', rfl⟩ := List.mem_map.1 hy
      exact (hf i (List.mem_range.1 hi')).2
    · intro hne
      have hn0 : 0 < n := by
        rcases Nat.eq_zero_or_pos n with h0 | h0
        · subst h0; simp at hne
        · exact h0
      obtain ⟨⟨q0, _, _⟩, _⟩ := hf 0 hn0
      simp only [Nat.zero_mul] at q0
      have e0 : ad.add 0 = ad := by simp [Addr.add]
      rw [e0] at q0
      have hlt := World.block_lt_of_cell? w ad q0
      obtain ⟨b, off, sp⟩ := ad
      have hsp : sp = none := by
        unfold World.cell? at q0
        split at q0
        · cases sp with
          | none => rfl
          | some s => simp at q0
        · cases q0
      subst hsp
      refine ⟨b, off, rfl, hlt, fun j y hy => ?_⟩
      have hj : j < n := by
        have := (List.getElem?_eq_some_iff.1 hy).1
        simpa using this
      have hy' : f j = y := by simpa [hj] using hy
      obtain ⟨⟨r0, r1, r2⟩, _⟩ := hf j hj
      rw [hy'] at r0 r1 r2
      rw [Addr.add_lit] at r0 r1 r2
      exact ⟨r0, r1, r2⟩
end
end Go.Proofs.YtpaijpdmeiagfaaDoor
