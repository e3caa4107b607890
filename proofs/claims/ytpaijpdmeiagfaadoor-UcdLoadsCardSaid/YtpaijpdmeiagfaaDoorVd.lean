/- The document's trie: Of, Blocks. -/
import Derived.Test.YtpaijpdmeiagfaaDoorVc
set_option linter.unusedVariables false
set_option linter.unusedSimpArgs false
namespace Go.Proofs.YtpaijpdmeiagfaaDoor
open Go Go.RowKit Go.WideMaps Go.Proofs.Kk Go.Proofs.Tm Go.Proofs.Gg

theorem RefAt.like {w : World} {n₀ B : Nat} {t : TD} (h : RefAt w n₀ B t) (k : Nat) (hk : k < 4352) : t.L.getD k 0 < t.F.length := by
  obtain ⟨hlt, hl, hp, hf, hbk, ⟨bs, rfl⟩, _⟩ := h
  have hlk : k < (TD.ofBlocks bs).L.length := by omega
  refine (TD.of_ofBlocks bs).like_lt ?_
  simp [List.getD, hlk]

theorem RefAt.cells {w : World} {n₀ B : Nat} {t : TD} (h : RefAt w n₀ B t) : ∃ b off c g2 c2, b < n₀ ∧ g2 < n₀ ∧ w.cell? ⟨B, 0, none⟩ = some (.slice (some ⟨b, off, none⟩) (256 * t.F.length) c) ∧ w.cell? ⟨B, 1, none⟩ = some (.slice (some ⟨g2, 0, none⟩) 4352 c2) ∧
    BytesAt w n₀ (.slice (some ⟨b, off, none⟩) (256 * t.F.length) c) t.F.flatten ∧
    (∀ i j, i < t.F.length → j < 256 → w.cell? ⟨b, off + (i * 256 + j), none⟩ = some (.int .u8 ((t.F.getD i []).getD j 0))) ∧ ∀ i, i < 4352 → w.cell? ⟨g2, i, none⟩ = some (.int .i64 (t.L.getD i 0 : Nat)) := by
  obtain ⟨hlt, hl, hp, hf, hbk, hsr, v1, g2, c2, h1, ⟨a, c, rfl⟩, h3, h4, h5, h6⟩ := h
  have hfl := flatten_len (fun c hc => (hbk c hc).len)
  have h3' := h3
  obtain ⟨ao', c', hv, _, _, _, hx⟩ := h3
  rcases hx with ⟨_, hx, _⟩ | ⟨b, off, rfl, hbn, hcell⟩
  · rw [hx] at hfl; simp at hfl; omega
  · simp only [Value.slice.injEq, Option.some.injEq] at hv
    obtain ⟨rfl, _, rfl⟩ := hv
    refine ⟨b, off, c, g2, c2, hbn, h4, by rw [cell_of_row _ _ _ _ _ _ h1]; rfl, by rw [cell_of_row _ _ _ _ _ _ h1]; rfl, h3', ?_, h6⟩
    intro i j hi hj
    exact hcell _ _ (flatten_get (fun c hc => (hbk c hc).len) i j hj hi)

set_option maxRecDepth 100000 in
set_option maxHeartbeats 1000000 in
theorem rof_in (w : World) (n₀ B : Nat) (t : TD) (r : Int) (ht : RefAt w n₀ B t) (h0 : 0 ≤ r) (h1 : r ≤ 1114111) :
   Calls Tryd.prog 67 #[.pointer (some ⟨B, 0, none⟩), .int .i64 r] w fun e w' => e = .returned (.int .u8 (t.val r)) ∧ ∃ n', w' = w.drewN n' := by
  have hLt := ht.like (r / 256).toNat (by omega)
  have hfew := ht.few
  obtain ⟨b, off, c, g2, c2, hb, hg2, hc0, hc1, _, hcF, hcL⟩ := ht.cells
  have hL := hcL (r / 256).toNat (by omega)
  have hv := hcF _ (r % 256).toNat hLt (by omega)
  have hval : t.val r = (t.F.getD (t.L.getD (r / 256).toNat 0) []).getD (r % 256).toNat 0 := by unfold TD.val; rw [if_neg (by omega)]
  rw [← hval] at hv
  have hvH := Lib.hid hval
  clear hval hcF hcL ht
  generalize t.val r = v at hv hvH ⊢
  generalize t.L.getD (r / 256).toNat 0 = i at hL hLt hv hvH
  generalize t.F.length = n at hLt hc0 hfew
  have hi0 : (0 : Int) ≤ (i : Int) := by omega
  have hi1 : (i : Int) < (n : Int) := by omega
  have hi2 : (n : Int) ≤ 256 := by omega
  have hi3 : (i : Int) * 256 + r % 256 < 256 * (n : Int) := by omega
  have hi4 : ((i : Int) * 256 + r % 256).toNat = i * 256 + (r % 256).toNat := by omega
  clear hLt hvH
  have hd : decide (r < 0) = false := by simpa using h0
  have hd2 : decide (1114111 < r) = false := by simpa using h1
  have hq1 : r.tdiv 256 = r / 256 := Int.tdiv_eq_ediv_of_nonneg h0
  have hq2 : r.tmod 256 = r % 256 := Int.tmod_eq_emod_of_nonneg h0
  have hq3 : IntKind.i64.wrap (r / 256) = r / 256 := IntWalk.i64_in _ (by omega)
  have hq4 : IntKind.i64.wrap (r % 256) = r % 256 := IntWalk.i64_in _ (by omega)
  have hq5 : IntKind.i64.wrap ((i : Int) * 256) = (i : Int) * 256 := IntWalk.i64_in _ (by omega)
  have hq6 : IntKind.i64.wrap ((i : Int) * 256 + r % 256) = (i : Int) * 256 + r % 256 := IntWalk.i64_in _ (by omega)
  have hq7 : 0 ≤ r / 256 := by omega
  have hq8 : r / 256 < 4352 := by omega
  have hq9 : 0 ≤ (i : Int) * 256 + r % 256 := by omega
  go_enter Tryd.func67, Tryd.ntmps67
  go_wp2
  go_quiet (fail)
  go_wp2
  go_ret
  exact ⟨rfl, _, rfl⟩

set_option maxRecDepth 100000 in
set_option maxHeartbeats 1000000 in
theorem rof_out (w : World) (B : Nat) (t : TD) (r : Int) (h0 : r < 0 ∨ 1114111 < r) :
   Calls Tryd.prog 67 #[.pointer (some ⟨B, 0, none⟩), .int .i64 r] w fun e w' => e = .returned (.int .u8 (t.val r)) ∧ ∃ n', w' = w.drewN n' := by
  rw [t.val_out r h0]
  rcases h0 with h0 | h0
  · go_enter Tryd.func67, Tryd.ntmps67
    go_wp2
    go_ret
    exact ⟨rfl, 0, rfl⟩
  · have h1 : 0 ≤ r := by omega
    go_enter Tryd.func67, Tryd.ntmps67
    go_wp2
    go_ret
    exact ⟨rfl, 0, rfl⟩

theorem rof_any (w : World) (n₀ B : Nat) (t : TD) (r : Int) (ht : RefAt w n₀ B t) :
   Calls Tryd.prog 67 #[.pointer (some ⟨B, 0, none⟩), .int .i64 r] w fun e w' => e = .returned (.int .u8 (t.val r)) ∧ ∃ n', w' = w.drewN n' := by
  by_cases h : r < 0 ∨ 1114111 < r
  · exact rof_out w B t r h
  · exact rof_in w n₀ B t r ht (by omega) (by omega)

set_option maxRecDepth 100000 in
set_option maxHeartbeats 1000000 in
theorem rblocks_any (w : World) (n₀ B : Nat) (t : TD) (ht : RefAt w n₀ B t) :
   Calls Tryd.prog 95 #[.pointer (some ⟨B, 0, none⟩)] w fun e w' => e = .returned (.int .i64 t.F.length) ∧ w' = w := by
  have hfew := ht.few
  obtain ⟨b, off, c, g2, c2, hb, hg2, hc0, _⟩ := ht.cells
  clear ht
  generalize t.F.length = n at hc0 hfew ⊢
  have hn1 : (n : Int) ≤ 256 := by omega
  have hq1 : (256 * (n : Int)) / 256 = (n : Int) := by omega
  have hq2 : (256 * (n : Int)).tdiv 256 = (n : Int) := by rw [Int.tdiv_eq_ediv_of_nonneg (by omega)]; omega
  go_enter Tryd.func95, Tryd.ntmps95
  go_wp2
  go_ret
  exact ⟨rfl, rfl⟩
end Go.Proofs.YtpaijpdmeiagfaaDoor
