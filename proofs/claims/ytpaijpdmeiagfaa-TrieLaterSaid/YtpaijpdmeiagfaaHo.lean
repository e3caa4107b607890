/- An argument that is one entry. -/
import Derived.Test.YtpaijpdmeiagfaaJ
import Derived.Lib.SmallJoins
namespace Go.Proofs.Ytpaijpdmeiagfaa
open Go Go.RowKit Go.WideMaps Go.Proofs.Kk Go.Proofs.Tm Go.ChangeShapes Go.WideShapes Go.Deep Go.Joins
section
variable {H : Type} {enc : TypeId × Value → H} {w : World} {base b0 : Nat} {spare : Nat → Bool} {held : Bool} {r : Reach}
theorem prop_open {v : Value} {d : DataW H} {p : List MemPlace} (hv : Value.okWide Try.prog w r b0 36 v) (h : DataW.Trod enc Try.prog w base spare held 36 v d p) : ∃ x : P3, v = propV x ∧ Fits [x] := by
  obtain ⟨v0, v1, v2, y0, y1, y2, n, rfl, _, _, h0, h1, h2⟩ := open_agg3 Try.underlying36 (by kernel_rfl) cellsOfProp hv h
  obtain ⟨x0, e0, _, w0⟩ := DataW.trod_int Try.underlying3 h0
  obtain ⟨x1, e1, _, w1⟩ := DataW.trod_int Try.underlying3 h1
  obtain ⟨x2, e2, _, w2⟩ := DataW.trod_int Try.underlying5 h2
  simp at e0 e1 e2
  subst e0 e1 e2
  have b0 := i64_wf w0
  have b1 := i64_wf w1
  have b2 := u8_wf w2
  refine ⟨⟨x0, x1, x2⟩, rfl, ?_⟩
  intro y hy
  simp at hy
  subst hy
  exact ⟨b0.1, b0.2, b1.1, b1.2, b2.1, b2.2⟩
end
end Go.Proofs.Ytpaijpdmeiagfaa
