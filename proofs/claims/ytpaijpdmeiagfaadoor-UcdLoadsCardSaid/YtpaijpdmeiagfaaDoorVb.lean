/- The document's trie: a block more. -/
import Derived.Test.YtpaijpdmeiagfaaDoorVa
namespace Go.Proofs.Kk
open Go Go.RowKit
section
variable {P : Program} {ops : Array Oper} {rest : List Oper} {o : Oper} {a : Act} {Q : Exit → Act → World → Prop}
/-- one cell is stored; the world behind it is a letter -/
theorem wpList_store_one_o (hg : o.guard = none) (t : TypeId) (x y : Operand) (ho : o.op = .store t x y) (w : World) (ad : Addr) (v old : Value) (hx : a.eval x = .pointer (some ad)) (hy : a.eval y = v)
    (h1 : v.oneCell' = true) (hi : (P.info? t).map (·.size) = some 1) (hc : w.cell? ad = some old) (hf : w.frozen? ad = false)
    (hK : ∀ w', w' = w.setCell ad v → wpList P ops Q rest (a.put o.dst undef) w') : wpList P ops Q (o :: rest) a w := by
  refine wpList_plain hg fun K hK' => ?_
  unfold Oper.wp
  rw [exec_store_one t x y ho ad v old hx hy h1 hi hc hf]
  exact hK' _ _ (hK _ rfl)
end
end Go.Proofs.Kk
namespace Go.Proofs.YtpaijpdmeiagfaaDoor
open Go Go.RowKit Go.WideMaps Go.Proofs.Kk Go.Proofs.Tm Go.Proofs.Gg

theorem own_apart {w : World} {base base' : Nat} {e e' : TypeId} {size size' : Nat} {v v' : Value} {n n' : Nat} {xs xs' : List Value} (h : w.ownsRow base e size v n xs) (h' : w.ownsRow base' e' size' v' n' xs') (he : e' ≠ e) :
    v.ownBlock = none ∨ v.ownBlock ≠ v'.ownBlock := by
  rcases h.2 with ⟨rfl, _⟩ | ⟨g, cap, cur, rfl, _, hg, _⟩
  · exact .inl rfl
  · right
    intro h1
    exact own_ne h' hg he h1.symm

theorem _root_.Go.Proofs.Kk.BytesAt.news {w : World} {n₀ : Nat} {v : Value} {bs : List Int} (h : BytesAt w n₀ v bs) (hne : bs ≠ []) : ∃ ad c, v = .slice (some ad) bs.length c ∧ ad.block < n₀ ∧ ∀ j u, (byt bs)[j]? = some u → w.cell? (ad.add j) = some u := by
  obtain ⟨ao, c, rfl, hs, hr, hc, h⟩ := h
  rcases h with ⟨_, h, _⟩ | ⟨b, off, rfl, hlt, hcell⟩
  · exact absurd h hne
  · refine ⟨_, c, rfl, hlt, fun j u hu => ?_⟩
    rw [byt_get] at hu
    obtain ⟨x, hx, rfl⟩ := Option.map_eq_some_iff.1 hu
    rw [Addr.add_lit]
    exact hcell j x hx

/-- the store of a longer list of numbers -/
theorem PR.liked {w W : World} {base B : Nat} {t : TD} {b : List Int} {v1 v2 : Value} {g cap n : Nat} (bB : base ≤ B) (hB : W.heap[B]? = some (.cells #[v1, v2] 104 (0, 0)))
    (h1 : W.ownsRow base 5 1 v1 (256 * (t.add b).F.length) (byt (t.add b).F.flatten)) (hn : n = t.F.idxOf b)
    (h2 : W.ownsRow base 3 1 (.slice (some ⟨g, 0, none⟩) (t.L.length + 1) cap) (t.L.length + 1) (intc t.L ++ [.int .i64 n]))
    (hk : t.L.length < 4352) (hblk : ∀ c ∈ (t.add b).F, IsBlk c) (hfew : (t.add b).F.length ≤ 4353) (hsrc : ∃ bs, t = TD.ofBlocks bs) (hbel : Below base w W) :
    PR (W.setCell ⟨B, 1, none⟩ (.slice (some ⟨g, 0, none⟩) (t.L.length + 1) cap)) base B (t.add b) ∧ Below base w (W.setCell ⟨B, 1, none⟩ (.slice (some ⟨g, 0, none⟩) (t.L.length + 1) cap)) := by
  have hg := grownBy_setCell W ⟨B, 1, none⟩ (.slice (some ⟨g, 0, none⟩) (t.L.length + 1) cap)
  refine ⟨⟨bB, ⟨v1, .slice (some ⟨g, 0, none⟩) (t.L.length + 1) cap, ?_, ?_, ?_⟩, ?_, hblk, hfew, ?_⟩, hbel.setCell (p := ⟨B, 1, none⟩) bB _⟩
  · rw [heap_setCell_same _ _ _ _ _ _ hB]; rfl
  · exact h1.kept hg (.inr (own_ne h1 hB (by decide)))
  · have := h2.kept hg (.inr (own_ne h2 hB (by decide)))
    rw [TD.add_len, TD.add_L, intc_snoc, ← hn]; exact this
  · rw [TD.add_len]; omega
  · obtain ⟨bs, rfl⟩ := hsrc
    exact ⟨bs ++ [b], (TD.ofBlocks_snoc bs b).symm⟩

theorem ownsRow_heap {w w' : World} {base : Nat} {e : TypeId} {size : Nat} {v : Value} {n : Nat} {xs : List Value} (h : w.ownsRow base e size v n xs) (hh : w'.heap = w.heap) : w'.ownsRow base e size v n xs := by
  refine ⟨h.1, ?_⟩
  rcases h.2 with h | ⟨g, cap, cur, h1, h2, h3, h4⟩
  · exact .inl h
  · exact .inr ⟨g, cap, cur, h1, h2, by rw [hh]; exact h3, h4⟩

set_option maxRecDepth 100000 in
set_option maxHeartbeats 1000000 in
theorem radd_old (w : World) (base B : Nat) (t : TD) (h : PR w base B t) (v : Value) (b : List Int) (hbv : BytesAt w w.heap.size v b) (hb : IsBlk b) (hk : t.L.length < 4352) (hm : b ∈ t.F) :
    Calls Tryd.prog 94 #[.pointer (some ⟨B, 0, none⟩), v] w fun e w' => (∃ u, e = .returned u) ∧ PR w' base B (t.add b) ∧ Below base w w' := by
  have hpl := place_any w base B t h v b _ hbv hb
  rw [if_pos hm] at hpl
  obtain ⟨bB, ⟨v1, v2, hB, h1, h2⟩, hlen, hblk, hfew, hsrc⟩ := h
  obtain ⟨ao1, c1, rfl⟩ := ownsRow_slice h1
  obtain ⟨ao2, c2, rfl⟩ := ownsRow_slice h2
  have hlB : B < w.heap.size := (Array.getElem?_eq_some_iff.1 hB).1
  have e := TD.add_mem_F t b hm
  obtain ⟨n, hn⟩ : ∃ n, n = t.F.idxOf b := ⟨_, rfl⟩
  rw [← hn] at hpl
  have hnH : Hid (n = t.F.idxOf b) := hn
  have hn0 : (0 : Int) ≤ (n : Int) := by omega
  have hx1 : Hid (∀ c ∈ (t.add b).F, IsBlk c) := by rw [e]; exact hblk
  have hx2 : Hid ((t.add b).F.length ≤ 4353) := by rw [e]; exact hfew
  rw [← e] at h1 hB
  clear hn hblk hfew e hbv
  obtain ⟨i0, hi0, hz0, hz1, hz2⟩ := info_parts infoInt
  go_enter Tryd.func94, Tryd.ntmps94
  go_wp2_with (first
    | (go_at_call 113; refine hpl.mono ?_; clear hpl; rintro e w1 ⟨rfl, hh1, hb1⟩; have hB1 : w1.heap[B]? = some (.cells #[.slice ao1 (256 * (t.add b).F.length) c1, .slice ao2 t.L.length c2] 104 (0, 0)) := (by rw [hh1]; exact hB); have hc1 : w1.cell? ⟨B, 1, none⟩ = some (.slice ao2 t.L.length c2) := (by rw [cell_of_row _ _ _ _ _ _ hB1]; rfl); have h1' := ownsRow_heap h1 hh1; have h2' := ownsRow_heap h2 hh1; have hbw : base ≤ w1.heap.size := (by have := hb1.size; omega); have hlB1 : B < w1.heap.size := (by have := hb1.size; omega); clear hh1)
    | (at_builtin; refine wpList_append_lies _ rfl (.tmp 29) (.tmp 31) 22 rfl base 3 i0 (.int .i64 0) 1 8 intsU hi0 hz0 hz1 hz2 rfl (by decide) _ _ _ rfl (h2'.alloc _) ⟨w1.heap.size, 0, none⟩ 1 1 [.int .i64 n] rfl rfl (World.news_of_block (cs := #[.int .i64 n]) (t := 3) (fr := (0, 0)) (heap_alloc_new _ _)) (by simp [Value.oneCell']) (by decide) (by unfold maxLen; omega) (by omega) (by simp; omega) _ rfl ?_; intro g cap w2 hrow2 hg2 _ _; have hB2 : w2.heap[B]? = some (.cells #[.slice ao1 (256 * (t.add b).F.length) c1, .slice ao2 t.L.length c2] 104 (0, 0)) := (by rw [hg2.block B (by simp; omega) (fun e => own_ne h2' hB1 (by decide) e.symm)]; exact (Below.heap_alloc w1 _ B hlB1).trans hB1); have hcc2 : w2.cell? ⟨B, 1, none⟩ = some (.slice ao2 t.L.length c2) := (by rw [cell_of_row _ _ _ _ _ _ hB2]; rfl); have hzz2 : w2.frozen? ⟨B, 1, none⟩ = false := frozen_of_row _ _ _ _ _ hB2))
  go_end0
  have hown2 : ∀ k, (Value.slice ao2 t.L.length c2).ownBlock = some k → base ≤ k := fun k e => (h2'.lt k e).1
  have hbel2 : Below base w w2 := Below.grown ((hb1.mono (by omega)).alloc hbw _) hg2 (by simp; omega) hown2
  exact ⟨⟨_, rfl⟩, PR.liked bB hB2 ((h1'.alloc _).kept hg2 (own_apart h1' h2' (by decide))) hnH.out hrow2 hk hx1.out hx2.out hsrc hbel2⟩

theorem slice_one (a : Option Addr) (n c : Nat) : (Value.slice a n c).oneCell' = true := rfl
theorem sizeBytes : (Tryd.prog.info? 33).map (·.size) = some 1 := by kernel_rfl

set_option maxRecDepth 100000 in
set_option maxHeartbeats 2000000 in
theorem radd_new (w : World) (base B : Nat) (t : TD) (h : PR w base B t) (v : Value) (b : List Int) (hbv : BytesAt w w.heap.size v b) (hb : IsBlk b) (hk : t.L.length < 4352) (hm : b ∉ t.F) (hf : t.F.length ≤ 4352) :
    Calls Tryd.prog 94 #[.pointer (some ⟨B, 0, none⟩), v] w fun e w' => (∃ u, e = .returned u) ∧ PR w' base B (t.add b) ∧ Below base w w' := by
  have hpl := place_any w base B t h v b _ hbv hb
  rw [if_neg hm] at hpl
  obtain ⟨bB, ⟨v1, v2, hB, h1, h2⟩, hlen, hblk, hfew, hsrc⟩ := h
  obtain ⟨ao1, c1, rfl⟩ := ownsRow_slice h1
  obtain ⟨ao2, c2, rfl⟩ := ownsRow_slice h2
  have hlB : B < w.heap.size := (Array.getElem?_eq_some_iff.1 hB).1
  have e := TD.add_new_F t b hm
  have ei : t.F.idxOf b = t.F.length := List.idxOf_eq_length hm
  have hx1 : Hid (∀ c ∈ (t.add b).F, IsBlk c) := by
    rw [e]
    intro c hc
    rcases List.mem_append.1 hc with hc | hc
    · exact hblk c hc
    · simp at hc; rw [hc]; exact hb
  have hx2 : Hid ((t.add b).F.length ≤ 4353) := by rw [e, List.length_append]; exact Nat.succ_le_succ hf
  have hbne : b ≠ [] := by intro h; have := hb.len; rw [h] at this; simp at this
  obtain ⟨ad, cb, hv, hadlt, hnews⟩ := hbv.news hbne
  rw [hb.len] at hv
  subst hv
  have hF2 : Hid (byt (t.add b).F.flatten = byt t.F.flatten ++ byt b ∧ 256 * (t.add b).F.length = 256 * t.F.length + 256) := by
    rw [e, List.flatten_append, byt_append, List.length_append]
    refine ⟨?_, ?_⟩
    · simp
    · simp; omega
  have hnewsH : Hid (∀ j u, (byt b)[j]? = some u → w.cell? (ad.add j) = some u) := hnews
  obtain ⟨n, hn⟩ : ∃ n, n = t.F.length := ⟨_, rfl⟩
  have eiH : Hid (n = t.F.idxOf b) := by rw [ei, hn]; rfl
  rw [← hn] at h1 hB hf hF2
  have hn0 : (0 : Int) ≤ (n : Int) := by omega
  have hn1 : (n : Int) ≤ 4352 := by omega
  have hq1 : (256 * (n : Int)) / 256 = (n : Int) := by omega
  have hq2 : (256 * (n : Int)).tdiv 256 = (n : Int) := by rw [Int.tdiv_eq_ediv_of_nonneg (by omega)]; omega
  clear hn hblk hfew e hbv ei hnews hbne hm
  obtain ⟨i0, hi0, hz0, hz1, hz2⟩ := info_parts infoInt
  obtain ⟨i1, hi1, hy0, hy1, hy2⟩ := info_parts infoU8
  go_enter Tryd.func94, Tryd.ntmps94
  go_wp2_with (first
    | (go_at_call 113; refine hpl.mono ?_; clear hpl; rintro e w1 ⟨rfl, hh1, hb1⟩; have hB1 : w1.heap[B]? = some (.cells #[.slice ao1 (256 * n) c1, .slice ao2 t.L.length c2] 104 (0, 0)) := (by rw [hh1]; exact hB); have hc0 : w1.cell? ⟨B, 0, none⟩ = some (.slice ao1 (256 * n) c1) := (by rw [cell_of_row _ _ _ _ _ _ hB1]; rfl); have h1' := ownsRow_heap h1 hh1; have h2' := ownsRow_heap h2 hh1; have hbw : base ≤ w1.heap.size := (by have := hb1.size; omega); have hlB1 : B < w1.heap.size := (by have := hb1.size; omega); have hnw : Hid (∀ j u, (byt b)[j]? = some u → w1.cell? (ad.add j) = some u) := (fun j u hu => (World.cell?_of_block (w := w) (by rw [hh1])).trans (hnewsH.out j u hu)); clear hh1)
    | (at_builtin; refine wpList_append_lies _ rfl (.tmp 20) (.tmp 21) 33 rfl base 5 i1 (.int .u8 0) 1 1 bytesU hi1 hy0 hy1 hy2 rfl (by decide) _ _ _ rfl h1' ad 256 cb (byt b) rfl (by rw [byt_length, hb.1]) hnw.out (byt_one b) (by decide) (by unfold maxLen; omega) (by omega) hbw _ rfl ?_; intro g1 cap1 w2 hrow2 hg2 _ _; have hB2 : w2.heap[B]? = some (.cells #[.slice ao1 (256 * n) c1, .slice ao2 t.L.length c2] 104 (0, 0)) := (by rw [hg2.block B hlB1 (fun e => own_ne h1' hB1 (by decide) e.symm)]; exact hB1); have hcc2 : w2.cell? ⟨B, 0, none⟩ = some (.slice ao1 (256 * n) c1) := (by rw [cell_of_row _ _ _ _ _ _ hB2]; rfl); have hzz2 : w2.frozen? ⟨B, 0, none⟩ = false := frozen_of_row _ _ _ _ _ hB2)
    | ((with_reducible refine wpList_store_one_o rfl 33 (.tmp 24) (.tmp 22) rfl _ ⟨B, 0, none⟩ (.slice (some ⟨g1, 0, none⟩) (256 * n + 256) cap1) _ rfl rfl (slice_one _ _ _) sizeBytes hcc2 hzz2 ?_); intro W3 hW3; have hbel3 : Below base w W3 := (by rw [hW3]; exact (Below.grown (hb1.mono (by omega)) hg2 hbw (fun k e => (h1'.lt k e).1)).setCell (p := ⟨B, 0, none⟩) bB _); have hB3 : W3.heap[B]? = some (.cells #[.slice (some ⟨g1, 0, none⟩) (256 * n + 256) cap1, .slice ao2 t.L.length c2] 104 (0, 0)) := (by rw [hW3, heap_setCell_same _ _ _ _ _ _ hB2]; rfl); have h13 : W3.ownsRow base 5 1 (.slice (some ⟨g1, 0, none⟩) (256 * n + 256) cap1) (256 * n + 256) (byt t.F.flatten ++ byt b) := (by rw [hW3]; exact hrow2.kept (grownBy_setCell _ _ _) (.inr (own_ne hrow2 hB2 (by decide)))); have h23 : W3.ownsRow base 3 1 (.slice ao2 t.L.length c2) t.L.length (intc t.L) := (by rw [hW3]; exact (h2'.kept hg2 (own_apart h2' h1' (by decide))).kept (grownBy_setCell _ _ _) (.inr (own_ne (h2'.kept hg2 (own_apart h2' h1' (by decide))) hB2 (by decide)))); have hbw3 : base ≤ W3.heap.size := (by have := hbel3.size; have := hb1.size; have := hg2.size; rw [hW3]; simp; omega); have hlB3 : B < W3.heap.size := (Array.getElem?_eq_some_iff.1 hB3).1; have hc3 : W3.cell? ⟨B, 1, none⟩ = some (.slice ao2 t.L.length c2) := (by rw [cell_of_row _ _ _ _ _ _ hB3]; rfl); clear hW3 hrow2 hg2 hB2 hcc2 hzz2 hB1 hc0 h1' h2' hnw hb1 hbw hlB1)
    | (at_builtin; refine wpList_append_lies _ rfl (.tmp 29) (.tmp 31) 22 rfl base 3 i0 (.int .i64 0) 1 8 intsU hi0 hz0 hz1 hz2 rfl (by decide) _ _ _ rfl (h23.alloc _) ⟨W3.heap.size, 0, none⟩ 1 1 [.int .i64 n] rfl rfl (World.news_of_block (cs := #[.int .i64 n]) (t := 3) (fr := (0, 0)) (heap_alloc_new _ _)) (by simp [Value.oneCell']) (by decide) (by unfold maxLen; omega) (by omega) (by simp; omega) _ rfl ?_; intro g cap w4 hrow4 hg4 _ _; have hB4 : w4.heap[B]? = some (.cells #[.slice (some ⟨g1, 0, none⟩) (256 * n + 256) cap1, .slice ao2 t.L.length c2] 104 (0, 0)) := (by rw [hg4.block B (by simp; omega) (fun e => own_ne h23 hB3 (by decide) e.symm)]; exact (Below.heap_alloc W3 _ B hlB3).trans hB3); have hcc4 : w4.cell? ⟨B, 1, none⟩ = some (.slice ao2 t.L.length c2) := (by rw [cell_of_row _ _ _ _ _ _ hB4]; rfl); have hzz4 : w4.frozen? ⟨B, 1, none⟩ = false := frozen_of_row _ _ _ _ _ hB4))
  go_end0
  have hown4 : ∀ k, (Value.slice ao2 t.L.length c2).ownBlock = some k → base ≤ k := fun k e => (h23.lt k e).1
  have hbel4 : Below base w w4 := Below.grown (hbel3.alloc hbw3 _) hg4 (by simp; omega) hown4
  have h14 := (h13.alloc (.cells #[.int .i64 n] 3)).kept hg4 (own_apart h13 h23 (by decide))
  obtain ⟨f1, f2⟩ := hF2.out
  rw [← f1, ← f2] at h14
  rw [← f2] at hB4
  exact ⟨⟨_, rfl⟩, PR.liked bB hB4 h14 eiH.out hrow4 hk hx1.out hx2.out hsrc hbel4⟩

/-- a block more -/
theorem radd_any (w : World) (base B : Nat) (t : TD) (h : PR w base B t) (v : Value) (b : List Int) (hbv : BytesAt w w.heap.size v b) (hb : IsBlk b) (hk : t.L.length < 4352) (hf : t.F.length ≤ 4352) :
    Calls Tryd.prog 94 #[.pointer (some ⟨B, 0, none⟩), v] w fun e w' => (∃ u, e = .returned u) ∧ PR w' base B (t.add b) ∧ Below base w w' := by
  by_cases hm : b ∈ t.F
  · exact radd_old w base B t h v b hbv hb hk hm
  · exact radd_new w base B t h v b hbv hb hk hm hf
end Go.Proofs.YtpaijpdmeiagfaaDoor
