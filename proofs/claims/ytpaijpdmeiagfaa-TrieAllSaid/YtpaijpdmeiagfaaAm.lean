/- All. -/
import Derived.Test.YtpaijpdmeiagfaaAl
import Derived.Maps.OwnIn
namespace Go.Proofs.Ytpaijpdmeiagfaa
open Go Go.RowKit Go.WideMaps Go.Shelf Go.Proofs.Kk Go.Proofs.Tm Go.Proofs.Gg Go.Proofs.Gr
attribute [local go_sem] Oper.semAt_some

/-- between two rounds of All -/
structure AllSt (w : World) (n₀ Bn B X : Nat) (T : TD) (pre : List P3) (W : World) : Prop where
  out : ∃ v, Boxed W w.heap.size 22 v ∧ W.ownsRow w.heap.size 36 3 v (keepV pre).length (propCells (keepV pre)) ∧ ∀ j, v.ownBlock = some j → j ≠ X
  bn : W.heap[Bn]? = some (.cells #[.pointer (some ⟨B, 0, none⟩)] 25 (0, 0))
  bel : Below w.heap.size w W

theorem AllSt.abx (w : World) (n₀ Bn B X base : Nat) (T : TD) (hb : w.heap.size ≤ base) (hX : w.heap.size < X) (hn : Bn ≠ X) : Abx base X (AllSt w n₀ Bn B X T) := by
  rintro s W W' row ⟨⟨v, h1, h2, h3⟩, h4, h5⟩ hg hr
  have hcell : ∀ (k : Nat) (cs : Array Value) (t : TypeId), W.heap[k]? = some (.cells cs t (0, 0)) → k ≠ X → some k ≠ row := by
    intro k cs t hk hne e
    rcases hr k e.symm with h | ⟨_, o, ho, hc⟩
    · exact hne h
    · rw [hk] at ho; cases ho; cases hc
  refine ⟨⟨v, h1.kept hg (hcell _ _ _ h1 (by omega)), h2.kept hg ?_, h3⟩, (hg.block _ (Array.getElem?_eq_some_iff.1 h4).1 (hcell _ _ _ h4 hn)).trans h4, h5.grown hg h5.size (fun k e => ?_)⟩
  · rcases h2.2 with ⟨rfl, _⟩ | ⟨g, cap, cur, rfl, _, hgb, _⟩
    · exact .inl rfl
    · exact .inr (hcell _ _ _ hgb (h3 g rfl))
  · rcases hr k e with h | ⟨h, _⟩ <;> omega

set_option maxRecDepth 100000 in
set_option maxHeartbeats 4000000 in
theorem all_any (w : World) (n₀ B : Nat) (T : TD) (ht : TrieAt w n₀ B T) (hn : n₀ ≤ w.heap.size) :
    Calls Try.prog 23 #[.pointer (some ⟨B, 0, none⟩)] w fun e w' => ∃ v, e = .returned v ∧ w'.ownsRow w.heap.size 36 3 v (allOf T.val).length (propCells (allOf T.val)) ∧ Below w.heap.size w w' := by
  obtain ⟨lF, hlF⟩ : ∃ l, l = allOf T.val := ⟨_, rfl⟩
  have hlH : Hid (lF = allOf T.val) := hlF
  rw [← hlF]
  clear hlF
  refine (callsIn_wide (n := 4)).1 ?_
  refine callsIn_of_wp_marks Try.func23 rfl trivial ?_ rfl
  simp only [Try.ntmps23, List.size_toArray, List.length_cons, List.length_nil, Nat.reduceAdd, Nat.reduceSub, Array.replicate_succ, Array.replicate_zero, List.push_toArray, List.append_toArray, List.nil_append, List.cons_append]
  gi_wp2_with (refine ⟨trivial, ?_⟩; gi_at_call 31; refine (runs_in B _ _).mono ?_; rintro e w1 ⟨rfl, rfl⟩)
  have hb1 := Boxed.new w 22 (.slice none 0 0)
  have hbO := hb1.alloc (.cells #[.pointer (some ⟨B, 0, none⟩)] 25)
  have hbN := heap_alloc_new (w.alloc (.cells #[.slice none 0 0] 22)) (.cells #[.pointer (some ⟨B, 0, none⟩)] 25)
  rw [World.size_alloc] at hbN
  have hbel : Below w.heap.size w ((w.alloc (.cells #[.slice none 0 0] 22)).alloc (.cells #[.pointer (some ⟨B, 0, none⟩)] 25)) := ((Below.refl _ w).alloc (Nat.le_refl _) _).alloc (by simp) _
  have hsz0 : ((w.alloc (.cells #[.slice none 0 0] 22)).alloc (.cells #[.pointer (some ⟨B, 0, none⟩)] 25)).heap.size = w.heap.size + 2 := by simp
  generalize (w.alloc (.cells #[.slice none 0 0] 22)).alloc (.cells #[.pointer (some ⟨B, 0, none⟩)] 25) = W0 at hbO hbN hbel hsz0 ⊢
  have ht0 := ht.below hbel hn
  obtain ⟨X, hX⟩ : ∃ X, X = W0.heap.size + 2 := ⟨_, rfl⟩
  have hX2 : X = w.heap.size + 4 := by omega
  obtain ⟨i0, hi0, hz0, hz1, hz2⟩ := info_parts infoProp
  refine wpIn_rangeFunc_X (N := 1114112) rfl (by omega) (gf := 34) (lb := #[.pointer (some ⟨w.heap.size + 1, 0, none⟩)]) rfl trivial (enters_of Try.func34 (by kernel_rfl) rfl) (encs := fun x : P3 => #[propV x]) (Kp := KpR n₀ (w.heap.size + 1) (W0.heap.size + 2)) (S := fun xs => xs = (runsTo T.val 1114111).1 ++ [(runsTo T.val 1114111).2])
    (fun l J W hb hsz hJ hY h0 => runs1_seq W0 3 (by omega) (w.heap.size + 1) n₀ B T hbN ht0 (by omega) l J W hb hsz hJ hY h0)
    (fun h k => ⟨h.1.trans k.1, k.2.1.trans h.2.1, k.2.2.trans h.2.2⟩)
    (fun W o o' ho hc => ⟨⟨rfl, rfl, rfl, (grownBy_putObj' W _ o').size, fun k hk => World.putObj_heap_other (by omega)⟩, World.putObj_heap_other (by omega), World.putObj_heap_other (by omega)⟩)
    (fun x => rfl)
    (AllSt w n₀ (w.heap.size + 1) B (W0.heap.size + 2) T) (AllSt.abx w n₀ _ B _ _ T (by omega) (by omega) (by omega))
    ⟨⟨_, hbO, World.ownsRow_nil _ _ _ _, fun j e => by simp [Value.ownBlock] at e⟩, hbN, hbel⟩
    (fun x a' W => ∃ Bx, W.heap[Bx]? = some (.cells (propC x) 36 (0, 0)) ∧ a' = { tmps := #[.pointer (some ⟨B, 0, none⟩), undef, .slice none 0 0, .pointer (some ⟨w.heap.size, 0, none⟩), .pointer (some ⟨Bx, 0, none⟩), .pointer (some ⟨B, 0, none⟩), .func (.func 34) #[] #[.pointer (some ⟨w.heap.size + 1, 0, none⟩)], propV x, undef, undef, undef, undef, undef, undef, undef, undef], defers := [] })
    (fun x a' W l o o' h ho hc => by
      obtain ⟨Bx, h1, h2⟩ := h
      refine ⟨Bx, ?_, h2⟩
      rw [World.putObj_heap_other (fun e => by subst e; rw [h1] at ho; cases ho; cases hc)]
      exact h1)
    ?assign ?body ?done
  case assign =>
    intro l pre x W K hI hXl hK
    unfold propV
    gi_wp2
    exact hK _ _ ((KeepsOthers.alloc _ _).from _) ⟨(Below.refl _ W).alloc (by omega) _, Below.heap_alloc _ _ _ (by omega), Below.heap_alloc _ _ _ hXl⟩
      ((AllSt.abx w n₀ (w.heap.size + 1) B (W0.heap.size + 2) W0.heap.size T (by omega) (by omega) (by omega)).alloc hI _) ⟨W.heap.size, heap_alloc_new _ _, rfl⟩ (by simp; omega)
  case body =>
    rintro l pre x a' W ⟨⟨v, hv, hrow, hne⟩, hbn, hB⟩ hlen ⟨Bx, hBx, rfl⟩ hXl
    have hc := hv.cell
    have hx0 : W.cell? ⟨Bx, 0, none⟩ = some (.int .i64 x.lo) := by rw [cell_of_row _ _ _ _ _ _ hBx]; rfl
    have hx1 : W.cell? ⟨Bx, 1, none⟩ = some (.int .i64 x.hi) := by rw [cell_of_row _ _ _ _ _ _ hBx]; rfl
    have hx2 : W.cell? ⟨Bx, 2, none⟩ = some (.int .u8 x.v) := by rw [cell_of_row _ _ _ _ _ _ hBx]; rfl
    have hpl : (keepV pre).length ≤ pre.length := List.length_filter_le _ _
    have hBn1 : w.heap.size + 1 < W.heap.size := (Array.getElem?_eq_some_iff.1 hbn).1
    have hlenH := Lib.hid hlen
    have hpl2 : (keepV pre).length ≤ 2000000 := by omega
    clear hlen hpl
    by_cases hx : x.v = 0
    · have hxd : (x.v != 0) = false := by simpa using hx
      have hk : keepV (pre ++ [x]) = keepV pre := by rw [keepV_snoc, if_neg (by simpa using hx)]
      have hkH := Lib.hid hk
      have hneH := Lib.hid hne
      have hrowH := Lib.hid hrow
      clear hx hk hne hrow
      gi_wp2
      exact ⟨KeepsFrom.refl _ _, ⟨Below.refl _ _, rfl, rfl⟩, ⟨v, hv, by rw [hkH.out]; exact hrowH.out, hneH.out⟩, hbn, hB⟩
    · have hxd : (x.v != 0) = true := by simpa using hx
      have hk : keepV (pre ++ [x]) = keepV pre ++ [x] := by rw [keepV_snoc, if_pos hx]
      have hkH := Lib.hid hk
      have hneH := Lib.hid hne
      have hXlH := Lib.hid hXl
      clear hx hk hne
      gi_wp2_with (gi_at_builtin; refine wpListIn_append_own_at _ rfl (.tmp 11) (.tmp 13) 22 rfl w.heap.size 36 i0 (.agg #[.int .i64 0, .int .i64 0, .int .u8 0]) 3 24 propsU hi0 hz0 hz1 hz2 rfl (by decide) _ _ _ rfl (hrow.alloc _) ⟨W.heap.size, 0, none⟩ 1 1 [.int .i64 x.lo, .int .i64 x.hi, .int .u8 x.v] rfl rfl (World.news_of_block (cs := #[.int .i64 x.lo, .int .i64 x.hi, .int .u8 x.v]) (t := 36) (fr := (0, 0)) (heap_alloc_new _ _)) (by simp [Value.oneCell']) (by unfold maxLen; omega) (by omega) (by have := hB.size; simp; omega) ?_; intro v' w1 hown' hgrow _ hat; obtain ⟨g', cap', rfl⟩ := ownsRow_succ hown'; obtain ⟨hv1, hv2, hr2, hk2, hb2⟩ := hv.appended (by decide) hrow hB.size (Nat.le_refl _) hown' hgrow; have hc1 := hv1.cell; have hf1 := hv1.frozen)
      have key : ∀ k, k < W.heap.size → k ≠ w.heap.size → some k ≠ v.ownBlock → (w1.setCell ⟨w.heap.size, 0, none⟩ (.slice (some ⟨g', 0, none⟩) ((keepV pre).length + 1) cap')).heap[k]? = W.heap[k]? := fun k h1 h2 h3 => by
        rw [heap_setCell_other _ _ _ _ (fun e => h2 (by rw [e])), hgrow.block k (by simp; omega) h3]
        exact Below.heap_alloc _ _ _ h1
      have kX := key (W0.heap.size + 2) hXlH.out (by omega) (fun e => hneH.out _ e.symm rfl)
      have kN := key (w.heap.size + 1) hBn1 (by omega) (fun e => own_ne hrow hbn (by decide) e.symm)
      refine ⟨hk2.from _, ⟨hb2.mono hn, kN, kX⟩, ⟨_, hv2, by rw [hkH.out, List.length_append, propCells_snoc]; exact hr2, fun j e => ?_⟩, kN.trans hbn, hB.trans hb2⟩
      have hXl2 := hXlH.out
      rcases hat with h | h
      · exact hneH.out j (h.symm.trans e)
      · rw [h] at e
        simp at e
        omega
  case done =>
    rintro D xs W hD rfl ⟨⟨v, hv, hrow, hne⟩, hbn, hB⟩ hK
    have hc := hv.cell
    have hfin : Hid (keepV ((runsTo T.val 1114111).1 ++ [(runsTo T.val 1114111).2]) = lF) := by rw [hlH.out]; rfl
    rw [hfin.out] at hrow
    gi_wp2
    refine ⟨by simp, .inl ⟨_, _, rfl, run_takeDeferred hK, ?_⟩⟩
    exact ⟨_, results_tmp rfl _ _ _, v, rfl, ownsRow_putObj hrow _ hK rfl, hB.trans (belowK_b (w := w) (Nat.le_refl _) W D _ _ (by omega) hK rfl rfl)⟩
end Go.Proofs.Ytpaijpdmeiagfaa
