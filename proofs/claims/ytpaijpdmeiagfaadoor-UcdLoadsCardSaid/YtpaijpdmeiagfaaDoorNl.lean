/- What the rows' list gives: the laid variable's rows. -/
import Derived.Test.YtpaijpdmeiagfaaDoorRows
import Derived.Test.YtpaijpdmeiagfaaDoorNw
import Derived.OpenShut
import Derived.LaidLaws
import Derived.LaidMore
namespace Go.Proofs.YtpaijpdmeiagfaaDoor
open Go Go.RowKit Go.WideMaps Go.Proofs.Kk Go.Proofs.Tm Go.ChangeShapes Go.WideShapes Go.Deep

theorem gS : Tryd.prog.globalNamed "scansion/ucd.scriptRows" = some 0 := by kernel_rfl
theorem gSType : (Tryd.prog.globals[0]?).map (·.type) = some 60 := by kernel_rfl
theorem cellsRow : Tryd.prog.cellsOf 59 = 3 := by kernel_rfl
theorem cellsArr24 : Tryd.prog.cellsOf 60 = 72 := by kernel_rfl
theorem laidRows {H : Type} : (Rows.laid_scansion_ucd_scriptRows : DataW H) = .agg (rowsS.map fun x => .agg [.lit (.int .i64 x.lo), .lit (.int .i64 x.hi), .lit (.int .u8 x.v)]) := rfl

theorem laid_head {W : World} (h : laidMet Tryd.prog [("scansion/ucd.scriptRows", Rows.laid_scansion_ucd_scriptRows)] W) : LaidS W := by
  obtain ⟨ps, ⟨g', t', cs, fuel, p, q, hg', ht', hvar, hd, _, _⟩, _⟩ := h
  obtain rfl := Option.some.inj (gS.symm.trans hg')
  obtain rfl := Option.some.inj (gSType.symm.trans ht')
  obtain ⟨xs, m, _, hx, hcl, hn, hel⟩ := DataW.trod_array Tryd.underlying60 hd
  rw [laidRows] at hx
  simp only [Prod.mk.injEq, DataW.agg.injEq] at hx
  have hx1 := hx.1
  have hcell := World.var?_cell gS hvar
  have at_ : ∀ j x, rowsS[j]? = some x → W.cell? ⟨0, 0 + j * 3, none⟩ = some (.int .i64 x.lo) ∧ W.cell? ⟨0, 0 + j * 3 + 1, none⟩ = some (.int .i64 x.hi) ∧ W.cell? ⟨0, 0 + j * 3 + 2, none⟩ = some (.int .u8 x.v) := by
    intro j x hj
    have hj24 : j < 24 := by
      have := (List.getElem?_eq_some_iff.1 hj).1
      have e : rowsS.length = 24 := by decide +kernel
      omega
    have e1 : (xs.map (·.1))[j]? = some (.agg [.lit (.int .i64 x.lo), .lit (.int .i64 x.hi), .lit (.int .u8 x.v)]) := by
      rw [← hx1, List.getElem?_map, hj]; rfl
    rw [List.getElem?_map] at e1
    obtain ⟨y, hy, hy1⟩ := Option.map_eq_some_iff.1 e1
    have h3 := hel j hj24
    rw [cellsRow, hy] at h3
    obtain ⟨y0, y1, y2, n, rfl, hl3, h0, h1, h2⟩ := trod_struct3 Tryd.underlying59 h3
    rw [cellsRow] at hl3
    simp only [DataW.agg.injEq, List.cons.injEq, and_true] at hy1
    obtain ⟨d0, d1, d2⟩ := hy1
    have g0 : ∀ i, i < 3 → ((cs.toList.drop (j * 3)).take 3)[i]? = cs.toList[j * 3 + i]? := by
      intro i hi
      rw [List.getElem?_take, if_pos hi, List.getElem?_drop]
    match hL : (cs.toList.drop (j * 3)).take 3, hl3 with
    | [c0, c1, c2], _ =>
    rw [hL] at h0 h1 h2 g0
    simp only [List.drop, List.take, cellsOfInt, cellsOfU8] at h0 h1 h2
    obtain ⟨x0, e0, f0, _⟩ := DataW.trod_int Tryd.underlying3 h0
    obtain ⟨x1, e1, f1, _⟩ := DataW.trod_int Tryd.underlying3 h1
    obtain ⟨x2, e2, f2, _⟩ := DataW.trod_int Tryd.underlying5 h2
    simp at e0 e1 e2
    subst e0 e1 e2
    rw [f0] at d0
    rw [f1] at d1
    rw [f2] at d2
    simp at d0 d1 d2
    subst d0 d1 d2
    have q0 := g0 0 (by omega)
    have q1 := g0 1 (by omega)
    have q2 := g0 2 (by omega)
    simp only [Array.getElem?_toList] at q0 q1 q2
    refine ⟨?_, ?_, ?_⟩
    · rw [hcell, Nat.zero_add]; exact q0.symm
    · rw [hcell, Nat.zero_add]; exact q1.symm
    · rw [hcell, Nat.zero_add]; exact q2.symm
  obtain ⟨x, hx0⟩ : ∃ x, rowsS[0]? = some x := ⟨_, rfl⟩
  exact ⟨World.block_lt_of_cell? W _ (at_ 0 x hx0).1, at_⟩
end Go.Proofs.YtpaijpdmeiagfaaDoor
