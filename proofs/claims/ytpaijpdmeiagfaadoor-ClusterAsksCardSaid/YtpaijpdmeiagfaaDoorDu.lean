/- The document's tables: props as entries; Value. -/
import Derived.Test.YtpaijpdmeiagfaaDoorDt
import Derived.Test.YtpaijpdmeiagfaaDoorNa
set_option linter.unusedVariables false
set_option linter.unusedSimpArgs false
namespace Go.Proofs.YtpaijpdmeiagfaaDoor
open Go Go.RowKit Go.WideMaps Go.Proofs.Kk Go.Proofs.Tm Go.Proofs.Gg

theorem tabOf_cases (p : List P3 → Prop) (h0 : p rowsC) (h1 : p rowsW) (h2 : p rowsS) (h3 : p rowsP) (k : Int) : p (tabOf k) := by
  unfold tabOf
  split
  · exact h0
  · split
    · exact h1
    · split
      · exact h2
      · exact h3
theorem tabOf_len (k : Int) : (tabOf k).length ≤ 1000 := tabOf_cases (fun l => l.length ≤ 1000) (by decide +kernel) (by decide +kernel) (by decide +kernel) (by decide +kernel) k
theorem tabOf_fit (k : Int) : Fits (tabOf k) := tabOf_cases Fits rowsC_fit rowsW_fit rowsS_fit rowsP_fit k
theorem tabOf_odd (k : Int) : Hid ((tabOf k).any oddB = false) := tabOf_cases (fun l => Hid (l.any oddB = false)) rowsC_odd rowsW_odd rowsS_odd rowsP_odd k
theorem tabOf_few (k : Int) : (tdOf (pval (tabOf k))).F.length ≤ 256 := tabOf_cases (fun l => (tdOf (pval l)).F.length ≤ 256) rowsC_few rowsW_few rowsS_few rowsP_few k
theorem tabOf_vals (k : Int) : ∀ x ∈ tabOf k, 0 ≤ x.v ∧ x.v ≤ 255 :=
  tabOf_cases (fun l => ∀ x ∈ l, 0 ≤ x.v ∧ x.v ≤ 255) (fun x h => by have := rowsC_in x h; omega) (fun x h => by have := rowsW_in x h; omega) (fun x h => by have := rowsS_in x h; omega) (fun x h => by have := rowsP_in x h; omega) k
theorem tabOf_fval (k r : Int) : fval (tabOf k) r = pval (tabOf k) r :=
  tabOf_cases (fun l => fval l r = pval l r) (fval_pval rowsC_rise r) (fval_pval rowsW_rise r) (fval_pval rowsS_rise r) (fval_pval rowsP_rise r) k
theorem tabOf_val (k r : Int) : (tdOf (pval (tabOf k))).val r = pval (tabOf k) r :=
  tabOf_cases (fun l => (tdOf (pval l)).val r = pval l r) (val_of rowsC_in rfl r) (val_of rowsW_in rfl r) (val_of rowsS_in rfl r) (val_of rowsP_in rfl r) k

theorem rprops_any (w : World) (k : Int) : Calls Tryd.prog 61 #[.int .i64 k] w fun e w' => ∃ v, e = .returned v ∧ PropsAt w' w'.heap.size v (tabOf k) ∧ Below w.heap.size w w' :=
  (rprops_walk w k (tabOf k) rfl (tabOf_len k) (tabOf_vals k)).mono fun e w' ⟨v, he, hrow, hb⟩ => ⟨v, he, PropsAt.of_own hrow (by have := tabOf_len k; omega) (tabOf_fit k), hb⟩

theorem fval_step {l : List P3} {k : Nat} {x : P3} (h : l[k]? = some x) (r : Int) : fval (l.drop k) r = if x.lo ≤ r ∧ r ≤ x.hi then x.v else fval (l.drop (k + 1)) r := by
  obtain ⟨h1, h2⟩ := List.getElem?_eq_some_iff.1 h
  rw [List.drop_eq_getElem_cons h1, h2]
  rfl

set_option maxRecDepth 100000 in
set_option maxHeartbeats 2000000 in
theorem rvalue_walk (w : World) (k r : Int) (l : List P3) (hl : Hid (tabOf k = l)) (hln : l.length ≤ 1000) :
    Calls Tryd.prog 30 #[.int .i64 k, .int .i64 r] w fun e w' => e = .returned (.int .i64 (fval l r)) ∧ Below w.heap.size w w' := by
  obtain ⟨y, hy⟩ : ∃ y, fval l r = y := ⟨_, rfl⟩
  rw [hy]
  have hyH := Lib.hid hy
  clear hy
  go_enter Tryd.func30, Tryd.ntmps30
  go_wp2_with (go_at_call 61; refine (rprops_any _ k).mono ?_; rw [hl.out]; rintro e w1 ⟨v, rfl, hP, hb1⟩; have hPH := Lib.hid hP; obtain ⟨ao, c, rfl, _⟩ := hP)
  go_loopw [6] (fun vi wr => ∃ j : Nat, j ≤ l.length ∧ vi = .int .i64 j ∧ Hid (fval (l.drop j) r = y) ∧ ∃ n', wr = w1.drewN n') (fun vi _ => l.length - (intOf vi).toNat)
  case atStart => exact ⟨0, by omega, rfl, hyH, 0, rfl⟩
  case round =>
    obtain ⟨j, hj, rfl, hq, n', rfl⟩ := hrel
    by_cases hlt : j < l.length
    · have hlt1 : (j : Int) < l.length := by omega
      have hj0 : (0 : Int) ≤ j := by omega
      have hP := hPH.out
      obtain ⟨ao', c', hv, _, hfit, hP⟩ := hP
      obtain ⟨b, off, ha, hbn, hc⟩ := hP (by intro e; rw [e] at hlt; simp at hlt)
      cases hv
      subst ha
      have hx : l[j]? = some l[j] := by simp [hlt]
      obtain ⟨c0, c1, c2⟩ := hc j l[j] hx
      have hst := fval_step hx r
      have hvr := hfit l[j] (List.getElem_mem hlt)
      clear hc hP hx hfit
      generalize l[j] = x at c0 c1 c2 hst hvr
      have hstH := Lib.hid hst
      clear hst
      by_cases g1 : x.lo ≤ r
      · by_cases g2 : r ≤ x.hi
        · have hq' : Hid (x.v = y) := by
            have := hq.out
            rw [hstH.out, if_pos ⟨g1, g2⟩] at this
            exact this
          have hv0 := hvr.2.2.2.2.1
          have hv1 := hvr.2.2.2.2.2
          clear hq hstH hvr
          go_wp2
          go_ret
          exact ⟨by rw [hq'.out]; rfl, below_drewN hb1 _⟩
        · have hq' : Hid (fval (l.drop (j + 1)) r = y) := by
            have := hq.out
            rw [hstH.out, if_neg (fun h => g2 h.2)] at this
            exact this
          have g3 : x.hi < r := by omega
          clear hq hstH hvr g2
          go_wp2
          go_roundw
          case rel => exact ⟨j + 1, by omega, by go_num, hq', _, rfl⟩
          case measure => simp [intOf]; omega
      · have hq' : Hid (fval (l.drop (j + 1)) r = y) := by
          have := hq.out
          rw [hstH.out, if_neg (fun h => g1 h.1)] at this
          exact this
        have g3 : r < x.lo := by omega
        clear hq hstH hvr g1
        go_wp2
        go_roundw
        case rel => exact ⟨j + 1, by omega, by go_num, hq', _, rfl⟩
        case measure => simp [intOf]; omega
    · obtain rfl : j = l.length := by omega
      have hq' : Hid (0 = y) := by
        have := hq.out
        rw [List.drop_eq_nil_of_le (Nat.le_refl _)] at this
        exact this
      clear hq hlt hj
      go_wp2
      go_ret
      exact ⟨by rw [← hq'.out]; rfl, below_drewN hb1 _⟩

/-- the document's value of a number in a table -/
theorem rvalue_any (w : World) (k r : Int) : Calls Tryd.prog 30 #[.int .i64 k, .int .i64 r] w fun e w' => e = .returned (.int .i64 (pval (tabOf k) r)) ∧ Below w.heap.size w w' := by
  rw [← tabOf_fval]
  exact rvalue_walk w k r (tabOf k) rfl (tabOf_len k)
end Go.Proofs.YtpaijpdmeiagfaaDoor
