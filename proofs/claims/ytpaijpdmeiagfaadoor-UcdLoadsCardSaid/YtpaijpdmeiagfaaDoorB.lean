import Derived.Test.YtpaijpdmeiagfaaDoorA
import Derived.Deep.AppendLies
namespace Go.Proofs.YtpaijpdmeiagfaaDoor
open Go Go.RowKit Go.WideMaps Go.Proofs.Kk Go.Proofs.Tm Go.Proofs.Gg

theorem trieCells_set (t : TD) (v v' : Value) (h : t.L.length ≤ 4352) : trieCells t v' = (trieCells t v).setIfInBounds 4352 v' := by
  have := likeL_length t h
  unfold trieCells
  apply Array.ext'
  simp only [Array.toList_setIfInBounds]
  rw [List.set_append_right _ _ (by rw [byt_length, this]; exact Nat.le_refl _), byt_length, this]
  rfl

set_option maxRecDepth 100000 in
set_option maxHeartbeats 1000000 in
/-- a block that is new, and there is room -/
theorem add_new (w : World) (base B M : Nat) (t : TD) (b : List Int) (hb : IsBlk b) (h : PT w base B M t) (hk : t.L.length < 4352) (hm : b ∉ t.F) (hf : t.F.length < 256) :
    Calls Tryd.prog 91 #[.pointer (some ⟨B, 0, none⟩), .int .i64 t.L.length, bagg b, .map (some M)] w fun e w' => e = .returned (.bool true) ∧ PT w' base B M (t.add b) ∧ Below base w w' := by
  obtain ⟨bB, bM, ⟨v, hB, hrow⟩, hM, hlen, hblk, hnd, hfew, hsrc⟩ := h
  obtain ⟨ao, c, rfl⟩ := ownsRow_slice hrow
  have hlB : B < w.heap.size := (Array.getElem?_eq_some_iff.1 hB).1
  have hlM : M < w.heap.size := (Array.getElem?_eq_some_iff.1 hM).1
  have hM1 : (w.alloc (.cells (byt b).toArray 93)).heap[M]? = some (.map (mapEs t.F) t.F.length) := (Below.heap_alloc w (.cells (byt b).toArray 93) M hlM).trans hM
  have hd : decide (b ∈ t.F) = false := by simpa using hm
  have hc0 : w.cell? ⟨B, 4352, none⟩ = some (.slice ao t.F.length c) := by
    rw [cell_of_row _ _ _ _ _ _ hB]; exact trieCells_at t _ hlen
  have hf0 : (t.F.length : Int) < 256 := by omega
  have hf1 : (0 : Int) ≤ (t.F.length : Int) := by omega
  have hk0 : (0 : Int) ≤ (t.L.length : Int) := by omega
  have hk1 : (t.L.length : Int) < 4352 := by omega
  go_enter Tryd.func91, Tryd.ntmps91
  go_wp2_with (first
    | (with_reducible refine wpList_box_agg rfl 93 (.tmp 2) rfl _ (byt b).toArray rfl ?_)
    | (with_reducible refine wpList_load_row rfl 93 (.tmp 6) rfl w.heap.size rfl 93 (byt b).toArray (0, 0) _ (heap_alloc_new w _) blockU rfl (by rw [size_of infoBlock]; simp [byt_length, hb.1]) ?_)
    | (at_lookup; refine wpList_lookup_known rfl (.tmp 12) (.tmp 13) rfl blkKey u8U typesSize mapU _ (intZ _) M t.F hM1 hblk hnd b hb rfl rfl ?_; rw [if_neg hm, hd])
    | (at_mapUpdate; refine wpList_mapUpdate_known rfl (.tmp 30) (.tmp 31) (.tmp 32) rfl blkKey u8U typesSize mapU _ M t.F hM1 hblk hnd b hb hm rfl rfl rfl ?_; intro w1 hM2 hg1 hs1))
  have hs1' : w1.heap.size = w.heap.size + 1 := by rw [hs1]; simp
  have hB1 : w1.heap[B]? = some (.cells (trieCells t (.slice ao t.F.length c)) 97 (0, 0)) := by
    rw [hg1.block B (by simp; omega) (fun e => by cases e; rw [hB] at hM; simp at hM)]
    exact (Below.heap_alloc w _ B hlB).trans hB
  have hb1 : w1.heap[w.heap.size]? = some (.cells (byt b).toArray 93 (0, 0)) := by
    rw [hg1.block w.heap.size (by simp) (fun e => by cases e; omega)]
    exact heap_alloc_new w _
  have hrow1 : w1.ownsRow base 93 256 (.slice ao t.F.length c) t.F.length (byt t.F.flatten) := (hrow.alloc _).kept hg1 (.inr (own_ne_map (hrow.alloc _) hM1))
  have hbel1 : Below base w w1 := ((Below.refl base w).alloc (by omega) _).grown hg1 (by simp; omega) (fun k e => by cases e; exact bM)
  have hcB : w1.cell? ⟨B, 4352, none⟩ = some (.slice ao t.F.length c) := by rw [cell_of_row _ _ _ _ _ _ hB1]; exact trieCells_at t _ hlen
  clear hc0 hM1
  refine wp_region_G [[(true,0),(true,1),(true,2),(true,3),(true,4),(true,5),(false,6),(false,7)],[(true,8),(true,9),(false,10)]]
    (by kernel_rfl) (by kernel_rfl) (by kernel_rfl) (by decide) (fun c a d v w h => by cases d <;> exact h) ?_
  have hsD : w1.drew.heap.size = w.heap.size + 1 := hs1'
  have hMD : w1.drew.heap[M]? = some (.map (mapEs (t.F ++ [b])) (t.F ++ [b]).length) := hM2
  have hBD : w1.drew.heap[B]? = some (.cells (trieCells t (.slice ao t.F.length c)) 97 (0, 0)) := hB1
  have hbD : w1.drew.heap[w.heap.size]? = some (.cells (byt b).toArray 93 (0, 0)) := hb1
  have hrowD : w1.drew.ownsRow base 93 256 (.slice ao t.F.length c) t.F.length (byt t.F.flatten) := hrow1.drew
  have hbelD : Below base w w1.drew := hbel1.drew
  have hcD : w1.drew.cell? ⟨B, 4352, none⟩ = some (.slice ao t.F.length c) := hcB
  generalize w1.drew = W at hsD hMD hBD hbD hrowD hbelD hcD ⊢
  clear hM2 hg1 hs1 hs1' hB1 hb1 hrow1 hbel1 hcB
  have hs3 : W.heap.size ≤ w.heap.size + 1 := by omega
  have hs4 : w.heap.size < W.heap.size := by omega
  clear hsD
  obtain ⟨i0, hi0, hz0, hz1, hz2⟩ := info_parts infoBlock
  have hlW : w.heap.size < W.heap.size := by omega
  obtain ⟨W2, hW2⟩ : ∃ W2, W2 = W.alloc (.cells (byt b).toArray 93) := ⟨_, rfl⟩
  have hcW2 : W2.cell? ⟨B, 4352, none⟩ = some (.slice ao t.F.length c) := by rw [hW2]; exact (World.cell?_of_block (Below.heap_alloc W _ B (by omega))).trans hcD
  have hbW2 : W2.heap[w.heap.size]? = some (.cells (byt b).toArray 93 (0, 0)) := by rw [hW2]; exact (Below.heap_alloc W _ _ hlW).trans hbD
  have hsz2 : W.heap.size < W2.heap.size := by rw [hW2]; simp
  obtain ⟨g, cap, w2, hr, hrow2, hg2, _, _⟩ := run_append_lies (P := Tryd.prog) (w := W2) 95 95 base 93 i0 (bagg z256) 256 256 blocksU hi0 hz0 hz1 hz2 (by simp [bagg, byt_length, z256, Value.cells]) (by decide)
    _ _ _ (by rw [hW2]; exact hrowD.alloc _) ⟨W.heap.size, 0, none⟩ 1 1 (byt b) (by rw [byt_length, hb.1]) (World.news_of_block (cs := (byt b).toArray) (t := 93) (fr := (0, 0)) (by rw [hW2]; exact heap_alloc_new W _)) (byt_one b) (by decide) (by unfold maxLen; omega) (by omega) (by omega) _ rfl
  have hB2 : w2.heap[B]? = some (.cells (trieCells t (.slice ao t.F.length c)) 97 (0, 0)) := by
    rw [hg2.block B (by omega) (fun e => own_ne hrowD hBD (by decide) e.symm), hW2]
    exact (Below.heap_alloc W _ B (by omega)).trans hBD
  have hM3 : w2.heap[M]? = some (.map (mapEs (t.F ++ [b])) (t.F ++ [b]).length) := by
    rw [hg2.block M (by omega) (fun e => own_ne_map hrowD hMD e.symm), hW2]
    exact (Below.heap_alloc W _ M (by omega)).trans hMD
  have hown1 : ∀ k, (Value.slice ao t.F.length c).ownBlock = some k → base ≤ k := fun k e => (hrowD.lt k e).1
  have hbel2 : Below base w w2 := Below.grown (by rw [hW2]; exact hbelD.alloc (by omega) _) hg2 (by omega) hown1
  have hc2 : w2.cell? ⟨B, 4352, none⟩ = some (.slice ao t.F.length c) := by rw [cell_of_row _ _ _ _ _ _ hB2]; exact trieCells_at t _ hlen
  have hz2' : w2.frozen? ⟨B, 4352, none⟩ = false := frozen_of_row _ _ _ _ _ hB2
  have hb2 : w2.heap[w.heap.size]? = some (.cells (byt b).toArray 93 (0, 0)) := by
    rw [hg2.block w.heap.size (by omega) (fun e => by have := (hrow.lt w.heap.size e.symm).2; omega)]
    exact hbW2
  refine wpGs_seg (fun w' => w'.cell? ⟨B, 4352, none⟩ = some (.slice ao t.F.length c) ∧ w'.heap[w.heap.size]? = some (.cells (byt b).toArray 93 (0, 0))) ⟨hcD, hbD⟩ ?_
  iterate 4 refine wpG_q rfl rfl (fun w' hS => by go_simp; rfl) (by go_simp; rfl) ?_
  refine wpG_q rfl rfl (fun w' hS => by obtain ⟨hS1, hS2⟩ := hS; go_simp; rfl) (by go_simp; rfl) ?_
  refine wpG_q rfl rfl (fun w' hS => exec_load_row 93 (.tmp 6) rfl w.heap.size rfl 93 (byt b).toArray (0, 0) _ hS.2 blockU rfl (by rw [size_of infoBlock]; simp [byt_length, hb.1])) (by go_simp; rfl) ?_
  refine wpG_er _ rfl rfl ((exec_buildSlice_one 95 93 (.tmp 38) rfl (byt b).toArray rfl _ _ _ blocksU infoBlock (by simp [byt_length, hb.1]) (by decide) (by decide)).trans (by rw [← hW2])) (by go_simp; rfl) (fun w h => h) ⟨hcW2, hbW2⟩ ?_
  refine wpG_er _ rfl rfl (exec_append (.tmp 37) (.tmp 39) 95 rfl (v := .slice ao t.F.length c) (u := .slice (some ⟨W.heap.size, 0, none⟩) 1 1) (by rfl) (by rfl) hr) (by go_simp; rfl) (fun w h => h) ⟨hc2, hb2⟩ ?_
  refine wpG_nil (wpGs_seg (fun _ => True) trivial ?_)
  iterate 2 refine wpG_q rfl rfl (fun w' hS => by go_simp; rfl) (by go_simp; rfl) ?_
  refine wpG_es (fun _ => True) rfl rfl (exec_store_one 95 (.tmp 42) (.tmp 40) rfl ⟨B, 4352, none⟩ (.slice (some ⟨g, 0, none⟩) (t.F.length + 1) cap) _ (by rfl) (by rfl) rfl (by kernel_rfl) hc2 hz2') (by go_simp; rfl) (fun w h => h) trivial ?_
  refine wpG_nil (wpGs_nil ?_)
  have hB3 : (w2.setCell ⟨B, 4352, none⟩ (.slice (some ⟨g, 0, none⟩) (t.F.length + 1) cap)).heap[B]? = some (.cells (trieCells t (.slice (some ⟨g, 0, none⟩) (t.F.length + 1) cap)) 97 (0, 0)) := by
    rw [trieCells_set t (.slice ao t.F.length c) _ hlen]; exact heap_setCell_same _ _ _ _ _ _ hB2
  have hg3 := grownBy_setCell w2 ⟨B, 4352, none⟩ (.slice (some ⟨g, 0, none⟩) (t.F.length + 1) cap)
  have hrow3 := hrow2.kept hg3 (.inr (own_ne hrow2 hB2 (by decide)))
  have hM4 : (w2.setCell ⟨B, 4352, none⟩ (.slice (some ⟨g, 0, none⟩) (t.F.length + 1) cap)).heap[M]? = some (.map (mapEs (t.F ++ [b])) (t.F ++ [b]).length) := by
    rw [heap_setCell_other _ _ _ _ (fun e => by simp only at e; rw [e, hB2] at hM3; simp at hM3)]; exact hM3
  have hbel3 : Below base w (w2.setCell ⟨B, 4352, none⟩ (.slice (some ⟨g, 0, none⟩) (t.F.length + 1) cap)) := hbel2.setCell (p := ⟨B, 4352, none⟩) bB _
  generalize w2.setCell ⟨B, 4352, none⟩ (.slice (some ⟨g, 0, none⟩) (t.F.length + 1) cap) = W3 at hB3 hrow3 hM4 hbel3 ⊢
  have hc5 : W3.cell? ⟨B, t.L.length, none⟩ = some (.int .u8 ((likeL t).getD t.L.length 0)) := by
    rw [cell_of_row _ _ _ _ _ _ hB3]; exact trieCells_like t _ _ hk hlen
  have hz5 : W3.frozen? ⟨B, t.L.length, none⟩ = false := frozen_of_row _ _ _ _ _ hB3
  clear hg2 hg3 hW2 hcW2 hbW2 hc2 hz2' hb2 hr
  go_wp2
  go_ret
  have e := TD.add_new_F t b hm
  have ei : t.F.idxOf b = t.F.length := List.idxOf_eq_length hm
  have := PT.like (t := t) hb bB bM hB3 (by rw [e]; simpa [byt_append] using hrow3) (by rw [e]; exact hM4) hk hblk hnd (by rw [e]; simp; omega) hsrc
  rw [ei] at this
  exact ⟨rfl, this, hbel3.setCell (p := ⟨B, t.L.length, none⟩) bB _⟩
end Go.Proofs.YtpaijpdmeiagfaaDoor
