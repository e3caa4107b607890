/- SameInts, of two like lists. -/
import Derived.Test.YtpaijpdmeiagfaaDoorIt
import Derived.Test.YtpaijpdmeiagfaaDoorJ
import Derived.Test.YtpaijpdmeiagfaaDoorG
set_option linter.unusedVariables false
set_option linter.unusedSimpArgs false
namespace Go.Proofs.YtpaijpdmeiagfaaDoor
open Go Go.RowKit Go.WideMaps Go.Proofs.Kk Go.Proofs.Tm Go.Proofs.Gg

set_option maxRecDepth 100000 in
set_option maxHeartbeats 2000000 in
theorem sameInts_any (v u : Value) (l : List Int) (w : World) (n₀ : Nat) (h : IntsAt w n₀ v l) (g : IntsAt w n₀ u l) :
    Calls Tryd.prog 27 #[v, u] w fun e w' => e = .returned (.bool true) ∧ ∃ n', w' = w.drewN n' := by
  obtain ⟨ao, c, rfl⟩ := h.form
  obtain ⟨ao2, c2, rfl⟩ := g.form
  obtain ⟨_, hc1, hc2, _⟩ := h.len
  go_enter Tryd.func27, Tryd.ntmps27
  go_wp2
  go_loopw [5] (fun i wr => ∃ (k : Nat), k ≤ l.length ∧ i = .int .i64 k ∧ ∃ n', wr = w.drewN n') (fun i _ => l.length - (intOf i).toNat)
  case atStart => exact ⟨0, by omega, rfl, 0, rfl⟩
  case round =>
    obtain ⟨k, hk, rfl, n', rfl⟩ := hrel
    by_cases hlt : k < l.length
    · have hk1 : (k : Int) < l.length := by omega
      have hk0 : (0 : Int) ≤ k := by omega
      obtain ⟨b, off, rfl, hb, p1⟩ := h.at_ hk0 hk1
      obtain ⟨b2, off2, rfl, hb2, q1⟩ := g.at_ hk0 hk1
      rw [Int.toNat_natCast] at p1 q1
      generalize l.getD k 0 = x at p1 q1
      clear h g
      go_wp2
      go_quiet (fail)
      go_wp2
      go_roundw
      case rel => exact ⟨k + 1, by omega, by go_num, _, rfl⟩
      case measure => simp [intOf]; omega
    · obtain rfl : k = l.length := by omega
      clear h g
      go_wp2
      go_ret
      exact ⟨rfl, _, rfl⟩
end Go.Proofs.YtpaijpdmeiagfaaDoor
