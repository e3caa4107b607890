/- The data's methods; awake. -/
import Derived.Test.YtpaijpdmeiagfaaDoorNw
set_option linter.unusedVariables false
set_option linter.unusedSimpArgs false
namespace Go.Proofs.YtpaijpdmeiagfaaDoor
open Go Go.RowKit Go.WideMaps Go.Proofs.Kk Go.Proofs.Tm Go.Proofs.Gg

/-- a cluster's value, of any data -/
def dclu (T0 : TD) (r : Int) : Int := if r < 44032 ∨ 55203 < r then T0.val r else if (r - 44032) % 28 = 0 then 12 else 13
def dpic (T3 : TD) (r : Int) : Bool := decide (T3.val r ≠ 0)

theorem DataAt.at0 {w : World} {n₀ D : Nat} {T0 T1 T2 T3 : TD} (h : DataAt w n₀ D T0 T1 T2 T3) : ∃ B, w.cell? ⟨D, 0, none⟩ = some (.pointer (some ⟨B, 0, none⟩)) ∧ TrieAt w n₀ B T0 := by
  obtain ⟨hlt, B0, B1, B2, B3, h, t0, t1, t2, t3⟩ := h
  exact ⟨B0, by rw [cell_of_row _ _ _ _ _ _ h]; rfl, t0⟩
theorem DataAt.at1 {w : World} {n₀ D : Nat} {T0 T1 T2 T3 : TD} (h : DataAt w n₀ D T0 T1 T2 T3) : ∃ B, w.cell? ⟨D, 1, none⟩ = some (.pointer (some ⟨B, 0, none⟩)) ∧ TrieAt w n₀ B T1 := by
  obtain ⟨hlt, B0, B1, B2, B3, h, t0, t1, t2, t3⟩ := h
  exact ⟨B1, by rw [cell_of_row _ _ _ _ _ _ h]; rfl, t1⟩
theorem DataAt.at2 {w : World} {n₀ D : Nat} {T0 T1 T2 T3 : TD} (h : DataAt w n₀ D T0 T1 T2 T3) : ∃ B, w.cell? ⟨D, 2, none⟩ = some (.pointer (some ⟨B, 0, none⟩)) ∧ TrieAt w n₀ B T2 := by
  obtain ⟨hlt, B0, B1, B2, B3, h, t0, t1, t2, t3⟩ := h
  exact ⟨B2, by rw [cell_of_row _ _ _ _ _ _ h]; rfl, t2⟩
theorem DataAt.at3 {w : World} {n₀ D : Nat} {T0 T1 T2 T3 : TD} (h : DataAt w n₀ D T0 T1 T2 T3) : ∃ B, w.cell? ⟨D, 3, none⟩ = some (.pointer (some ⟨B, 0, none⟩)) ∧ TrieAt w n₀ B T3 := by
  obtain ⟨hlt, B0, B1, B2, B3, h, t0, t1, t2, t3⟩ := h
  exact ⟨B3, by rw [cell_of_row _ _ _ _ _ _ h]; rfl, t3⟩

set_option maxRecDepth 100000 in
set_option maxHeartbeats 1000000 in
theorem word_any (w : World) (n₀ D : Nat) (T0 T1 T2 T3 : TD) (r : Int) (h : DataAt w n₀ D T0 T1 T2 T3) :
    Calls Tryd.prog 26 #[.pointer (some ⟨D, 0, none⟩), .int .i64 r] w fun e w' => e = .returned (.int .i64 (T1.val r)) ∧ ∃ n', w' = w.drewN n' := by
  obtain ⟨B, hc, ht⟩ := h.at1
  obtain ⟨h0, h1⟩ := ht.val_rng r
  obtain ⟨y, hy⟩ : ∃ y, y = T1.val r := ⟨_, rfl⟩
  rw [← hy] at h0 h1 ⊢
  have hyH := Lib.hid hy
  clear h hy
  go_enter Tryd.func26, Tryd.ntmps26
  go_wp2_with (go_at_call 60; refine (of_any _ n₀ B T1 r ht).mono ?_; rintro e w1 ⟨he, n1, rfl⟩; rw [← hyH.out] at he; subst he)
  go_ret
  exact ⟨by first | rfl | (congr 1; go_num), n1, rfl⟩

set_option maxRecDepth 100000 in
set_option maxHeartbeats 1000000 in
theorem script_any (w : World) (n₀ D : Nat) (T0 T1 T2 T3 : TD) (r : Int) (h : DataAt w n₀ D T0 T1 T2 T3) :
    Calls Tryd.prog 32 #[.pointer (some ⟨D, 0, none⟩), .int .i64 r] w fun e w' => e = .returned (.int .i64 (T2.val r)) ∧ ∃ n', w' = w.drewN n' := by
  obtain ⟨B, hc, ht⟩ := h.at2
  obtain ⟨h0, h1⟩ := ht.val_rng r
  obtain ⟨y, hy⟩ : ∃ y, y = T2.val r := ⟨_, rfl⟩
  rw [← hy] at h0 h1 ⊢
  have hyH := Lib.hid hy
  clear h hy
  go_enter Tryd.func32, Tryd.ntmps32
  go_wp2_with (go_at_call 60; refine (of_any _ n₀ B T2 r ht).mono ?_; rintro e w1 ⟨he, n1, rfl⟩; rw [← hyH.out] at he; subst he)
  go_ret
  exact ⟨by first | rfl | (congr 1; go_num), n1, rfl⟩

set_option maxRecDepth 100000 in
set_option maxHeartbeats 1000000 in
theorem picto_any (w : World) (n₀ D : Nat) (T0 T1 T2 T3 : TD) (r : Int) (h : DataAt w n₀ D T0 T1 T2 T3) :
    Calls Tryd.prog 33 #[.pointer (some ⟨D, 0, none⟩), .int .i64 r] w fun e w' => e = .returned (.bool (dpic T3 r)) ∧ ∃ n', w' = w.drewN n' := by
  obtain ⟨B, hc, ht⟩ := h.at3
  obtain ⟨h0, h1⟩ := ht.val_rng r
  unfold dpic
  obtain ⟨y, hy⟩ : ∃ y, y = T3.val r := ⟨_, rfl⟩
  rw [← hy] at h0 h1 ⊢
  have hyH := Lib.hid hy
  clear h hy
  go_enter Tryd.func33, Tryd.ntmps33
  go_wp2_with (go_at_call 60; refine (of_any _ n₀ B T3 r ht).mono ?_; rintro e w1 ⟨he, n1, rfl⟩; rw [← hyH.out] at he; subst he)
  go_ret
  exact ⟨by simp [bne, Act.eval, BEq.beq], n1, rfl⟩

set_option maxRecDepth 100000 in
set_option maxHeartbeats 1000000 in
theorem cluster_any (w : World) (n₀ D : Nat) (T0 T1 T2 T3 : TD) (r : Int) (h : DataAt w n₀ D T0 T1 T2 T3) :
    Calls Tryd.prog 31 #[.pointer (some ⟨D, 0, none⟩), .int .i64 r] w fun e w' => e = .returned (.int .i64 (dclu T0 r)) ∧ ∃ n', w' = w.drewN n' := by
  obtain ⟨B, hc, ht⟩ := h.at0
  obtain ⟨h0, h1⟩ := ht.val_rng r
  obtain ⟨y, hy⟩ : ∃ y, y = T0.val r := ⟨_, rfl⟩
  rw [← hy] at h0 h1
  have hyH := Lib.hid hy
  clear h
  by_cases g1 : r < 44032
  · have e : dclu T0 r = T0.val r := by unfold dclu; rw [if_pos (.inl g1)]
    rw [e, ← hy]
    clear e hy
    go_enter Tryd.func31, Tryd.ntmps31
    go_wp2_with (go_at_call 60; refine (of_any _ n₀ B T0 r ht).mono ?_; rintro e w1 ⟨he, n1, rfl⟩; rw [← hyH.out] at he; subst he)
    go_ret
    exact ⟨by first | rfl | (congr 1; go_num), n1, rfl⟩
  · by_cases g2 : 55203 < r
    · have e : dclu T0 r = T0.val r := by unfold dclu; rw [if_pos (.inr g2)]
      rw [e, ← hy]
      clear e hy
      have g3 : 44032 ≤ r := by omega
      clear g1
      go_enter Tryd.func31, Tryd.ntmps31
      go_wp2_with (go_at_call 60; refine (of_any _ n₀ B T0 r ht).mono ?_; rintro e w1 ⟨he, n1, rfl⟩; rw [← hyH.out] at he; subst he)
      go_ret
      exact ⟨by first | rfl | (congr 1; go_num), n1, rfl⟩
    · have e : dclu T0 r = if (r - 44032) % 28 = 0 then 12 else 13 := by unfold dclu; rw [if_neg (by omega)]
      rw [e]
      clear e
      have g3 : 44032 ≤ r := by omega
      have g4 : r ≤ 55203 := by omega
      clear g1 g2 hy
      by_cases g5 : (r - 44032) % 28 = 0
      · rw [if_pos g5]
        have g6 : (r - 44032).tmod 28 = 0 := by rw [Int.tmod_eq_emod_of_nonneg (by omega)]; exact g5
        go_enter Tryd.func31, Tryd.ntmps31
        go_wp2
        go_ret
        exact ⟨rfl, 0, rfl⟩
      · rw [if_neg g5]
        have g6 : (r - 44032).tmod 28 ≠ 0 := by rw [Int.tmod_eq_emod_of_nonneg (by omega)]; exact g5
        go_enter Tryd.func31, Tryd.ntmps31
        go_wp2
        go_ret
        exact ⟨rfl, 0, rfl⟩
end Go.Proofs.YtpaijpdmeiagfaaDoor
