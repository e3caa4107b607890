import Derived.Test.YtpaijpdmeiagfaaDoorE
import Derived.BigQuiet
import Derived.Deep.QuietTactic
namespace Go.Proofs.YtpaijpdmeiagfaaDoor
open Go Go.RowKit Go.WideMaps Go.Proofs.Kk Go.Proofs.Tm Go.Proofs.Gg

theorem TrieAt.like {w : World} {n₀ B : Nat} {t : TD} (h : TrieAt w n₀ B t) (k : Nat) (hk : k < 4352) :
    w.cell? ⟨B, k, none⟩ = some (.int .u8 (t.L.getD k 0 : Nat)) ∧ t.L.getD k 0 < t.F.length := by
  obtain ⟨hlt, hl, hp, hf, hbk, ⟨bs, rfl⟩, g, cap, cur, h1, h2, h3, h4⟩ := h
  have hlk : k < (TD.ofBlocks bs).L.length := by omega
  refine ⟨?_, ?_⟩
  · rw [cell_of_row _ _ _ _ _ _ h1, trieCells_like _ _ _ hk (by omega)]
    simp [likeL, List.getD, hlk, List.getElem?_append_left]
  · refine (TD.of_ofBlocks bs).like_lt ?_
    simp [List.getD, hlk]

theorem TrieAt.first {w : World} {n₀ B : Nat} {t : TD} (h : TrieAt w n₀ B t) : ∃ g cap, g < n₀ ∧ w.cell? ⟨B, 4352, none⟩ = some (.slice (some ⟨g, 0, none⟩) t.F.length cap) ∧
    ∀ i j, i < t.F.length → j < 256 → w.cell? ⟨g, i * 256 + j, none⟩ = some (.int .u8 ((t.F.getD i []).getD j 0)) := by
  obtain ⟨hlt, hl, hp, hf, hbk, hsr, g, cap, cur, h1, h2, h3, h4, h5⟩ := h
  refine ⟨g, cap, h2, ?_, ?_⟩
  · rw [cell_of_row _ _ _ _ _ _ h1, trieCells_at _ _ (by omega)]
  · intro i j hi hj
    rw [cell_of_row _ _ _ _ _ _ h3]
    have e := flatten_get (fun c hc => (hbk c hc).len) i j hj hi
    have e2 : (byt t.F.flatten)[i * 256 + j]? = some (.int .u8 ((t.F.getD i []).getD j 0)) := by rw [byt_get, e]; rfl
    rw [← h4, List.getElem?_take] at e2
    split at e2
    · rw [← Array.getElem?_toList]; exact e2
    · cases e2

theorem TrieAt.val_rng {w : World} {n₀ B : Nat} {t : TD} (h : TrieAt w n₀ B t) (r : Int) : 0 ≤ t.val r ∧ t.val r ≤ 255 := by
  unfold TD.val
  split
  · omega
  · obtain ⟨_, _, _, _, hbk, _⟩ := h
    generalize t.L.getD (r / 256).toNat 0 = i
    rcases Nat.lt_or_ge i t.F.length with hi | hi
    · have hm : t.F.getD i [] ∈ t.F := by simp [List.getD, hi]
      have hb := hbk _ hm
      generalize t.F.getD i [] = c at hb
      rcases Nat.lt_or_ge (r % 256).toNat c.length with hj | hj
      · exact hb.rng _ (by simp [List.getD, hj])
      · simp [List.getD, hj]
    · simp [List.getD, hi]

set_option maxRecDepth 100000 in
set_option maxHeartbeats 1000000 in
theorem of_in (w : World) (n₀ B : Nat) (t : TD) (r : Int) (ht : TrieAt w n₀ B t) (h0 : 0 ≤ r) (h1 : r ≤ 1114111) :
   Calls Tryd.prog 60 #[.pointer (some ⟨B, 0, none⟩), .int .i64 r] w fun e w' => e = .returned (.int .u8 (t.val r)) ∧ ∃ n', w' = w.drewN n' := by
  obtain ⟨hL, hLt⟩ := ht.like (r / 256).toNat (by omega)
  obtain ⟨g, c, hg, hF, hcells⟩ := ht.first
  have hv := hcells _ (r % 256).toNat hLt (by omega)
  have hval : t.val r = (t.F.getD (t.L.getD (r / 256).toNat 0) []).getD (r % 256).toNat 0 := by unfold TD.val; rw [if_neg (by omega)]
  rw [← hval] at hv
  have hvH := Lib.hid hval
  clear hval hcells ht
  generalize t.val r = v at hv hvH ⊢
  generalize t.L.getD (r / 256).toNat 0 = i at hL hLt hv hvH
  generalize t.F.length = n at hLt hF
  have hi0 : (0 : Int) ≤ (i : Int) := by omega
  have hi1 : (i : Int) < (n : Int) := by omega
  clear hLt hvH
  have hd : decide (r < 0) = false := by simpa using h0
  have hd2 : decide (1114111 < r) = false := by simpa using h1
  go_enter Tryd.func60, Tryd.ntmps60
  go_wp2
  go_quiet (fail)
  go_wp2
  go_ret
  exact ⟨rfl, _, rfl⟩

set_option maxRecDepth 100000 in
set_option maxHeartbeats 1000000 in
theorem of_out (w : World) (B : Nat) (t : TD) (r : Int) (h0 : r < 0 ∨ 1114111 < r) :
   Calls Tryd.prog 60 #[.pointer (some ⟨B, 0, none⟩), .int .i64 r] w fun e w' => e = .returned (.int .u8 (t.val r)) ∧ ∃ n', w' = w.drewN n' := by
  rw [t.val_out r h0]
  rcases h0 with h0 | h0
  · go_enter Tryd.func60, Tryd.ntmps60
    go_wp2
    go_ret
    exact ⟨rfl, 0, rfl⟩
  · have h1 : 0 ≤ r := by omega
    go_enter Tryd.func60, Tryd.ntmps60
    go_wp2
    go_ret
    exact ⟨rfl, 0, rfl⟩

/-- Of: the trie's value of any number -/
theorem of_any (w : World) (n₀ B : Nat) (t : TD) (r : Int) (ht : TrieAt w n₀ B t) :
   Calls Tryd.prog 60 #[.pointer (some ⟨B, 0, none⟩), .int .i64 r] w fun e w' => e = .returned (.int .u8 (t.val r)) ∧ ∃ n', w' = w.drewN n' := by
  by_cases h : r < 0 ∨ 1114111 < r
  · exact of_out w B t r h
  · exact of_in w n₀ B t r ht (by omega) (by omega)

end Go.Proofs.YtpaijpdmeiagfaaDoor
