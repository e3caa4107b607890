/- The data that bytes are: small plain laws; the shipped tables' bytes. -/
import Derived.Test.YtpaijpdmeiagfaaDoorDl
import Derived.Test.YtpaijpdmeiagfaaDoorRw
namespace Go.Proofs.YtpaijpdmeiagfaaDoor
open Go Go.Proofs.Kk Go.Proofs.Tm

theorem dsave_snoc (l : List TD) (T : TD) : dsave (l ++ [T]) = dsave l ++ (put4 (saveL T).length ++ saveL T) := by
  induction l with
  | nil => simp [dsave]
  | cons U l ih => simp [dsave, ih]

theorem tail_len4 {b : List Int} (h : 4 ≤ b.length) : len4 b = b[0]'(by omega) + 256 * b[1]'(by omega) + 65536 * b[2]'(by omega) + 16777216 * b[3]'(by omega) := by
  match b, h with
  | x0 :: x1 :: x2 :: x3 :: r, _ => rfl

/-- the shipped tables -/
noncomputable def shipL : List TD := [tdOf (pval rowsC), tdOf (pval rowsW), tdOf (pval rowsS), tdOf (pval rowsP)]

theorem ship_ok {l : List P3} (hF : (tdOf (pval l)).F.length ≤ 256) {T : TD} (hT : T = tdOf (pval l)) : LoadOk (saveL T) T ∧ T = TD.ofBlocks (loadBs (saveL T)) ∧ (saveL T).length < 4294967296 := by
  have hT' : T = TD.ofBlocks (blks (pval l)) := by rw [hT]; rfl
  rw [← hT] at hF
  obtain ⟨h1, h2⟩ := load_saved (bs := blks (pval l)) (by simp [blks]) (fun c hc => by obtain ⟨k, _, rfl⟩ := mem_blks.1 hc; exact blk_length _ _) hT' hF
  refine ⟨h2, by rw [h1]; exact hT', ?_⟩
  have h3 := h2.len.2
  rw [saveL_first] at h3
  omega

theorem shipL_ok : ∀ T ∈ shipL, LoadOk (saveL T) T ∧ T = TD.ofBlocks (loadBs (saveL T)) ∧ (saveL T).length < 4294967296 := by
  intro T hT
  unfold shipL at hT
  simp only [List.mem_cons, List.not_mem_nil, or_false] at hT
  rcases hT with h | h | h | h
  · exact ship_ok rowsC_few h
  · exact ship_ok rowsW_few h
  · exact ship_ok rowsS_few h
  · exact ship_ok rowsP_few h

theorem shipL_load : dload 4 (dsave shipL) = some shipL := dload_saved shipL shipL_ok
end Go.Proofs.YtpaijpdmeiagfaaDoor
