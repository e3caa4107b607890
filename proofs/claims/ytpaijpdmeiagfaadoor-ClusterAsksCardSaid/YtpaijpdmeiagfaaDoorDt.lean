/- The document's props. -/
import Derived.Test.YtpaijpdmeiagfaaDoorDs
import Derived.Test.YtpaijpdmeiagfaaDoorOw
import Derived.Test.YtpaijpdmeiagfaaDoorB
set_option linter.unusedVariables false
set_option linter.unusedSimpArgs false
namespace Go.Proofs.YtpaijpdmeiagfaaDoor
open Go Go.RowKit Go.WideMaps Go.Proofs.Kk Go.Proofs.Tm Go.Proofs.Gg
theorem wrap_u8' (r : Int) (h0 : 0 ≤ r) (h1 : r ≤ 255) : IntKind.u8.wrap r = r := by simp [IntKind.wrap, IntKind.bits, IntKind.signed]; omega

set_option maxRecDepth 100000 in
set_option maxHeartbeats 2000000 in
theorem rprops_walk (w : World) (k : Int) (l : List P3) (hl : Hid (tabOf k = l)) (hln : l.length ≤ 1000) (hv : Hid (∀ x ∈ l, 0 ≤ x.v ∧ x.v ≤ 255)) :
    Calls Tryd.prog 61 #[.int .i64 k] w fun e w' => ∃ v, e = .returned v ∧ w'.ownsRow w.heap.size 68 3 v l.length (propCells l) ∧ Below w.heap.size w w' := by
  obtain ⟨i0, hi, hz0, hz1, hz2⟩ := info_parts infoProp
  have hiH := Lib.hid hi
  have hz0H := Lib.hid hz0
  have hz1H := Lib.hid hz1
  have hz2H := Lib.hid hz2
  clear hi hz0 hz1 hz2
  go_enter Tryd.func61, Tryd.ntmps61
  go_wp2_with (go_at_call 90; refine (rrows_any _ k).mono ?_; rw [hl.out]; rintro e w1 ⟨v, rfl, hv1, hb1⟩; obtain ⟨b, rfl, hbl, hcell⟩ := hv1; have hcH := Lib.hid hcell; clear hcell)
  go_loopw [4, 5] (fun vo vi wr => ∃ j : Nat, j ≤ l.length ∧ vi = .int .i64 j ∧ wr.ownsRow w1.heap.size 68 3 vo j (propCells (l.take j)) ∧ Below w1.heap.size w1 wr) (fun _ vi _ => l.length - (intOf vi).toNat)
  case atStart => exact ⟨0, by omega, rfl, World.ownsRow_nil _ _ _ _, Below.refl _ _⟩
  case round =>
    obtain ⟨j, hj, rfl, hrow, hb⟩ := hrel
    by_cases hlt : j < l.length
    · have hlt1 : (j : Int) < l.length := by omega
      obtain ⟨x, hx⟩ : ∃ x, l[j]? = some x := ⟨_, List.getElem?_eq_getElem hlt⟩
      obtain ⟨c0, c1, c2⟩ := hcH.out j x hx
      have hx0 := (hv.out x (List.mem_of_getElem? hx)).1
      have hx1 := (hv.out x (List.mem_of_getElem? hx)).2
      have c0 := (hb.cell (p := ⟨b, _, none⟩) hbl).trans c0
      have c1 := (hb.cell (p := ⟨b, _, none⟩) hbl).trans c1
      have c2 := (hb.cell (p := ⟨b, _, none⟩) hbl).trans c2
      have hwr := wrap_u8' x.v hx0 hx1
      have hx' := hx
      have hsn : propCells (l.take (j + 1)) = propCells (l.take j) ++ [.int .i64 x.lo, .int .i64 x.hi, .int .u8 x.v] := by
        rw [List.take_add_one, hx']
        simp [propCells]
      have hsnH := Lib.hid hsn
      clear hsn hx'
      obtain ⟨v4, w4, hrun, hown4, hg4, _, hat4⟩ := run_append_own_at (P := Tryd.prog) (w := wr.drew.alloc (.cells #[.int .i64 x.lo, .int .i64 x.hi, .int .u8 x.v] 68)) w1.heap.size 65 65 68 i0 _ 3 24 propsU hiH.out hz0H.out hz1H.out hz2H.out rfl (by decide) _ _ _ ((show wr.drew.ownsRow w1.heap.size 68 3 _ _ _ from hrow).alloc _) ⟨wr.heap.size, 0, none⟩ 1 1 [.int .i64 x.lo, .int .i64 x.hi, .int .u8 x.v] rfl
        (by
          intro q u hq
          have h0 := heap_alloc_new wr.drew (.cells #[.int .i64 x.lo, .int .i64 x.hi, .int .u8 x.v] 68)
          rw [Addr.add_lit]
          show World.cell? _ ⟨wr.drew.heap.size, _, none⟩ = _
          rw [cell_of_row _ _ _ _ _ _ h0, Nat.zero_add]
          simpa using hq)
        (by simp [Value.oneCell']) (by unfold maxLen; omega) (by omega) (by have := hb.size; simp; omega)
      have hB4 : Below w1.heap.size w1 w4 := below_grown ((hb.drew).alloc hb.size _) ((show wr.drew.ownsRow w1.heap.size 68 3 _ _ _ from hrow).alloc _) hg4 (Nat.le_refl _) (by have := hb.size; simp; omega)
      have hBa : Below w1.heap.size w1 (wr.drew.alloc (.cells #[.int .i64 x.lo, .int .i64 x.hi, .int .u8 x.v] 68)) := (hb.drew).alloc hb.size _
      have hct := hcH.out j x hx
      obtain ⟨d0, d1, d2⟩ := hct
      have a0 := (hBa.cell (p := ⟨b, _, none⟩) hbl).trans d0
      have a1 := (hBa.cell (p := ⟨b, _, none⟩) hbl).trans d1
      have a2 := (hBa.cell (p := ⟨b, _, none⟩) hbl).trans d2
      have e0 := (hB4.cell (p := ⟨b, _, none⟩) hbl).trans d0
      have e1 := (hB4.cell (p := ⟨b, _, none⟩) hbl).trans d1
      have e2 := (hB4.cell (p := ⟨b, _, none⟩) hbl).trans d2
      clear d0 d1 d2 hx
      have hrunH := Lib.hid hrun
      clear hrun
      go_wp2
      refine wp_region_G [[(true,0),(true,1),(true,2),(true,3),(true,4),(true,5),(true,6),(true,7),(true,8),(true,9),(true,10),(true,11),(true,12),(true,13),(true,14),(true,15),(true,16),(true,17),(false,18),(false,19),(true,20)]] (by kernel_rfl) (by kernel_rfl) (by kernel_rfl) (by decide) (fun c a d v w h => by cases d <;> exact h) ?_
      refine wpGs_seg (fun w' => w'.cell? ⟨b, j * 3, none⟩ = some (.int .i64 x.lo) ∧ w'.cell? ⟨b, j * 3 + 1, none⟩ = some (.int .i64 x.hi) ∧ w'.cell? ⟨b, j * 3 + 2, none⟩ = some (.int .i64 x.v)) ⟨c0, c1, c2⟩ ?_
      iterate 18 refine wpG_q rfl rfl (fun w' hS => by have hS0 := hS.1; have hS1 := hS.2.1; have hS2 := hS.2.2; go_simp; rfl) (by go_simp; rfl) ?_
      refine wpG_er (fun w' => w'.cell? ⟨b, j * 3, none⟩ = some (.int .i64 x.lo) ∧ w'.cell? ⟨b, j * 3 + 1, none⟩ = some (.int .i64 x.hi) ∧ w'.cell? ⟨b, j * 3 + 2, none⟩ = some (.int .i64 x.v)) rfl rfl (exec_buildSlice_one 65 68 (.tmp 31) rfl #[.int .i64 x.lo, .int .i64 x.hi, .int .u8 x.v] (by rfl) _ _ _ propsU infoProp (by rfl) (by decide) (by decide)) (by go_simp; rfl) (fun w h => h) ⟨a0, a1, a2⟩ ?_
      refine wpG_er (fun w' => w'.cell? ⟨b, j * 3, none⟩ = some (.int .i64 x.lo) ∧ w'.cell? ⟨b, j * 3 + 1, none⟩ = some (.int .i64 x.hi) ∧ w'.cell? ⟨b, j * 3 + 2, none⟩ = some (.int .i64 x.v)) rfl rfl (exec_append (.tmp 14) (.tmp 32) 65 rfl (by rfl) (by rfl) hrunH.out) (by go_simp; rfl) (fun w h => h) ⟨e0, e1, e2⟩ ?_
      refine wpG_q rfl rfl (fun w' hS => by go_simp; rfl) (by go_simp; rfl) ?_
      refine wpG_nil (wpGs_nil ?_)
      go_wp2
      go_roundw
      case rel => exact ⟨j + 1, by omega, by go_num, by rw [hsnH.out]; exact hown4, below_grown ((hb.drew).alloc hb.size _) ((show wr.drew.ownsRow w1.heap.size 68 3 _ _ _ from hrow).alloc _) hg4 (Nat.le_refl _) (by have := hb.size; simp; omega)⟩
      case measure => simp [intOf]; omega
    · obtain rfl : j = l.length := by omega
      rw [List.take_length] at hrow
      clear hlt hj
      go_wp2
      go_ret
      exact ⟨_, rfl, ownsRow_base hrow hb1.size, hb1.trans (hb.mono hb1.size)⟩
end Go.Proofs.YtpaijpdmeiagfaaDoor
