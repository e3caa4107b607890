/- The document's data: its methods. -/
import Derived.Test.YtpaijpdmeiagfaaDoorDv
import Derived.Test.YtpaijpdmeiagfaaDoorNm
set_option linter.unusedVariables false
set_option linter.unusedSimpArgs false
namespace Go.Proofs.YtpaijpdmeiagfaaDoor
open Go Go.RowKit Go.WideMaps Go.Proofs.Kk Go.Proofs.Tm Go.Proofs.Gg

theorem RefAt.val_rng {w : World} {n₀ B : Nat} {t : TD} (h : RefAt w n₀ B t) (r : Int) : 0 ≤ t.val r ∧ t.val r ≤ 255 := by
  unfold TD.val
  split
  · omega
  · obtain ⟨_, _, _, _, hbk, _⟩ := h
    generalize t.L.getD (r / 256).toNat 0 = i
    rcases Nat.lt_or_ge i t.F.length with hi | hi
    · have hm : t.F.getD i [] ∈ t.F := by simp [List.getD, hi]
      have hb := hbk _ hm
      generalize t.F.getD i [] = c at hb
      rcases Nat.lt_or_ge (r % 256).toNat c.length with hj | hj
      · exact hb.rng _ (by simp [List.getD, hj])
      · simp [List.getD, hj]
    · simp [List.getD, hi]

set_option maxRecDepth 100000 in
set_option maxHeartbeats 1000000 in
theorem rdword_any (w : World) (n₀ D : Nat) (Ts : List TD) (T : TD) (r : Int) (h : RDataAt w n₀ D Ts) (hT : Ts[1]? = some T) :
    Calls Tryd.prog 40 #[.pointer (some ⟨D, 0, none⟩), .int .i64 r] w fun e w' => e = .returned (.int .i64 (T.val r)) ∧ ∃ n', w' = w.drewN n' := by
  obtain ⟨B, hc, ht⟩ := h.trie 1 T hT
  obtain ⟨h0, h1⟩ := ht.val_rng r
  obtain ⟨y, hy⟩ : ∃ y, y = T.val r := ⟨_, rfl⟩
  rw [← hy] at h0 h1 ⊢
  have hyH := Lib.hid hy
  clear h hy hT
  go_enter Tryd.func40, Tryd.ntmps40
  go_wp2_with (go_at_call 67; refine (rof_any _ n₀ B T r ht).mono ?_; rintro e w1 ⟨he, n1, rfl⟩; rw [← hyH.out] at he; subst he)
  go_ret
  exact ⟨by first | rfl | (congr 1; go_num), n1, rfl⟩

set_option maxRecDepth 100000 in
set_option maxHeartbeats 1000000 in
theorem rdscript_any (w : World) (n₀ D : Nat) (Ts : List TD) (T : TD) (r : Int) (h : RDataAt w n₀ D Ts) (hT : Ts[2]? = some T) :
    Calls Tryd.prog 41 #[.pointer (some ⟨D, 0, none⟩), .int .i64 r] w fun e w' => e = .returned (.int .i64 (T.val r)) ∧ ∃ n', w' = w.drewN n' := by
  obtain ⟨B, hc, ht⟩ := h.trie 2 T hT
  obtain ⟨h0, h1⟩ := ht.val_rng r
  obtain ⟨y, hy⟩ : ∃ y, y = T.val r := ⟨_, rfl⟩
  rw [← hy] at h0 h1 ⊢
  have hyH := Lib.hid hy
  clear h hy hT
  go_enter Tryd.func41, Tryd.ntmps41
  go_wp2_with (go_at_call 67; refine (rof_any _ n₀ B T r ht).mono ?_; rintro e w1 ⟨he, n1, rfl⟩; rw [← hyH.out] at he; subst he)
  go_ret
  exact ⟨by first | rfl | (congr 1; go_num), n1, rfl⟩

set_option maxRecDepth 100000 in
set_option maxHeartbeats 1000000 in
theorem rdpicto_any (w : World) (n₀ D : Nat) (Ts : List TD) (T : TD) (r : Int) (h : RDataAt w n₀ D Ts) (hT : Ts[3]? = some T) :
    Calls Tryd.prog 42 #[.pointer (some ⟨D, 0, none⟩), .int .i64 r] w fun e w' => e = .returned (.bool (dpic T r)) ∧ ∃ n', w' = w.drewN n' := by
  obtain ⟨B, hc, ht⟩ := h.trie 3 T hT
  obtain ⟨h0, h1⟩ := ht.val_rng r
  unfold dpic
  obtain ⟨y, hy⟩ : ∃ y, y = T.val r := ⟨_, rfl⟩
  rw [← hy] at h0 h1 ⊢
  have hyH := Lib.hid hy
  clear h hy hT
  go_enter Tryd.func42, Tryd.ntmps42
  go_wp2_with (go_at_call 67; refine (rof_any _ n₀ B T r ht).mono ?_; rintro e w1 ⟨he, n1, rfl⟩; rw [← hyH.out] at he; subst he)
  go_ret
  exact ⟨by simp [bne, Act.eval, BEq.beq], n1, rfl⟩

set_option maxRecDepth 100000 in
set_option maxHeartbeats 1000000 in
theorem rdclus_any (w : World) (n₀ D : Nat) (Ts : List TD) (T : TD) (r : Int) (h : RDataAt w n₀ D Ts) (hT : Ts[0]? = some T) :
    Calls Tryd.prog 39 #[.pointer (some ⟨D, 0, none⟩), .int .i64 r] w fun e w' => e = .returned (.int .i64 (dclu T r)) ∧ ∃ n', w' = w.drewN n' := by
  obtain ⟨B, hc, ht⟩ := h.trie 0 T hT
  obtain ⟨h0, h1⟩ := ht.val_rng r
  obtain ⟨y, hy⟩ : ∃ y, y = T.val r := ⟨_, rfl⟩
  rw [← hy] at h0 h1
  have hyH := Lib.hid hy
  clear h hT
  by_cases g1 : r < 44032
  · have e : dclu T r = T.val r := by unfold dclu; rw [if_pos (.inl g1)]
    rw [e, ← hy]
    clear e hy
    go_enter Tryd.func39, Tryd.ntmps39
    go_wp2_with (go_at_call 67; refine (rof_any _ n₀ B T r ht).mono ?_; rintro e w1 ⟨he, n1, rfl⟩; rw [← hyH.out] at he; subst he)
    go_ret
    exact ⟨by first | rfl | (congr 1; go_num), n1, rfl⟩
  · by_cases g2 : 55203 < r
    · have e : dclu T r = T.val r := by unfold dclu; rw [if_pos (.inr g2)]
      rw [e, ← hy]
      clear e hy
      have g3 : 44032 ≤ r := by omega
      clear g1
      go_enter Tryd.func39, Tryd.ntmps39
      go_wp2_with (go_at_call 67; refine (rof_any _ n₀ B T r ht).mono ?_; rintro e w1 ⟨he, n1, rfl⟩; rw [← hyH.out] at he; subst he)
      go_ret
      exact ⟨by first | rfl | (congr 1; go_num), n1, rfl⟩
    · have e : dclu T r = if (r - 44032) % 28 = 0 then 12 else 13 := by unfold dclu; rw [if_neg (by omega)]
      rw [e]
      clear e
      have g3 : 44032 ≤ r := by omega
      have g4 : r ≤ 55203 := by omega
      clear g1 g2 hy
      by_cases g5 : (r - 44032) % 28 = 0
      · rw [if_pos g5]
        have g6 : (r - 44032).tmod 28 = 0 := by rw [Int.tmod_eq_emod_of_nonneg (by omega)]; exact g5
        go_enter Tryd.func39, Tryd.ntmps39
        go_wp2
        go_ret
        exact ⟨rfl, 0, rfl⟩
      · rw [if_neg g5]
        have g6 : (r - 44032).tmod 28 ≠ 0 := by rw [Int.tmod_eq_emod_of_nonneg (by omega)]; exact g5
        go_enter Tryd.func39, Tryd.ntmps39
        go_wp2
        go_ret
        exact ⟨rfl, 0, rfl⟩

/-! the shipped ones -/
/-- the document's shipped data in memory -/
def RShipAt (w : World) (n₀ D : Nat) : Prop := RDataAt w n₀ D shipR
theorem RShipAt.below {w w' : World} {n₀ D N : Nat} (h : RShipAt w n₀ D) (hb : Below N w w') (hN : n₀ ≤ N) : RShipAt w' n₀ D := RDataAt.below h hb hN
theorem RShipAt.mono {w : World} {n₀ n₁ D : Nat} (h : RShipAt w n₀ D) (hn : n₀ ≤ n₁) : RShipAt w n₁ D := RDataAt.mono h hn
theorem RShipAt.heap {w w' : World} {n₀ D : Nat} (h : RShipAt w n₀ D) (hw : w'.heap = w.heap) : RShipAt w' n₀ D := RDataAt.heap h hw
theorem rclus_any (w : World) (n₀ D : Nat) (r : Int) (h : RShipAt w n₀ D) :
    Calls Tryd.prog 39 #[.pointer (some ⟨D, 0, none⟩), .int .i64 r] w fun e w' => e = .returned (.int .i64 (clK r)) ∧ ∃ n', w' = w.drewN n' := by
  have e : dclu (tdOf (pval rowsC)) r = clK r := by unfold dclu clK; rw [val_of rowsC_in rfl]
  rw [← e]
  exact rdclus_any w n₀ D shipR _ r h rfl
theorem rrword_any (w : World) (n₀ D : Nat) (r : Int) (h : RShipAt w n₀ D) :
    Calls Tryd.prog 40 #[.pointer (some ⟨D, 0, none⟩), .int .i64 r] w fun e w' => e = .returned (.int .i64 (wdK r)) ∧ ∃ n', w' = w.drewN n' := by
  have e : (tdOf (pval rowsW)).val r = wdK r := val_of rowsW_in rfl r
  rw [← e]
  exact rdword_any w n₀ D shipR _ r h rfl
theorem rrpicto_any (w : World) (n₀ D : Nat) (r : Int) (h : RShipAt w n₀ D) :
    Calls Tryd.prog 42 #[.pointer (some ⟨D, 0, none⟩), .int .i64 r] w fun e w' => e = .returned (.bool (piB r)) ∧ ∃ n', w' = w.drewN n' := by
  have e : dpic (tdOf (pval rowsP)) r = piB r := by unfold dpic piB; rw [val_of rowsP_in rfl]
  rw [← e]
  exact rdpicto_any w n₀ D shipR _ r h rfl
theorem rship_any (w : World) : Calls Tryd.prog 36 #[] w fun e w' => ∃ D, e = .returned (.pointer (some ⟨D, 0, none⟩)) ∧ RShipAt w' w'.heap.size D ∧ Below w.heap.size w w' := rnew_any w
end Go.Proofs.YtpaijpdmeiagfaaDoor
