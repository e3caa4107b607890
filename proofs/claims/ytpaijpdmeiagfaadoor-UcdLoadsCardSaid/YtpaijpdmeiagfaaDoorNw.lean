/- The shipped data: built, New. -/
import Derived.Test.YtpaijpdmeiagfaaDoorDr
import Derived.Test.YtpaijpdmeiagfaaDoorVd
namespace Go.Proofs.YtpaijpdmeiagfaaDoor
open Go Go.RowKit Go.WideMaps Go.Proofs.Kk Go.Proofs.Tm Go.Proofs.Gg

theorem heap_alloc_new2 (w : World) (o1 o2 : Obj) : ((w.alloc o1).alloc o2).heap[w.heap.size + 1]? = some o2 := by
  have := heap_alloc_new (w.alloc o1) o2
  rwa [show (w.alloc o1).heap.size = w.heap.size + 1 by simp] at this

set_option maxRecDepth 100000 in
set_option maxHeartbeats 2000000 in
theorem built_any (v : Value) (l : List P3) (w : World) (h : PropsAt w w.heap.size v l) (hl : l.length ≤ 4096) (ho : Hid (l.any oddB = false)) (T : TD) (hT : Hid (T = tdOf (pval l))) (hF : Hid (T.F.length ≤ 256)) :
    Calls Tryd.prog 56 #[v] w fun e w' => ∃ B, e = .returned (.pointer (some ⟨B, 0, none⟩)) ∧ TrieAt w' w'.heap.size B T ∧ Below w.heap.size w w' := by
  have h0 := h
  obtain ⟨ao, c, rfl, hsz, hr, _⟩ := h0
  go_enter Tryd.func56, Tryd.ntmps56
  go_wp2
  go_loopw [3, 10] (fun v i wr => ∃ (k : Nat), k ≤ l.length ∧ i = .int .i64 k ∧ wr.ownsRow w.heap.size 68 3 v k (propCells (l.take k)) ∧ Below w.heap.size w wr) (fun _ i _ => l.length - (intOf i).toNat)
  case atStart => exact ⟨0, by omega, rfl, World.ownsRow_nil _ _ _ _, Below.refl _ _⟩
  case round =>
    obtain ⟨k, hk, rfl, hrow, hb⟩ := hrel
    by_cases hlt : k < l.length
    · have hP := h.below hb (Nat.le_refl _)
      obtain ⟨ao', c', hv, _, _, hP⟩ := hP
      obtain ⟨b, off, ha, hbn, hc⟩ := hP (by intro e; rw [e] at hlt; simp at hlt)
      cases hv
      subst ha
      have hx : l[k]? = some l[k] := by simp [hlt]
      obtain ⟨h1, h2, h3⟩ := hc k l[k] hx
      have htk : l.take (k + 1) = l.take k ++ [l[k]] := List.take_succ_eq_append_getElem hlt
      have hk1 : (k : Int) < l.length := by omega
      have hk0 : (0 : Int) ≤ k := by omega
      have hsz' := hb.size
      clear hc hP hr
      generalize l[k] = x at hx h1 h2 h3 htk
      have htk' := Lib.hid htk
      clear htk
      obtain ⟨i0, hi0, hz0, hz1, hz2⟩ := info_parts infoProp
      go_wp2_with (at_builtin; refine wpList_append_lies _ rfl (.tmp 14) (.tmp 22) 65 rfl w.heap.size 68 i0 (.agg #[.int .i64 0, .int .i64 0, .int .u8 0]) 3 24 propsU hi0 hz0 hz1 hz2 rfl (by decide) _ _ _ rfl ((hrow.alloc _).alloc _) ⟨wr.heap.size + 1, 0, none⟩ 1 1 [.int .i64 x.lo, .int .i64 x.hi, .int .u8 x.v] rfl (by simp) (World.news_of_block (cs := #[.int .i64 x.lo, .int .i64 x.hi, .int .u8 x.v]) (t := 68) (fr := (0, 0)) (heap_alloc_new2 _ _ _)) (by simp [Value.oneCell']) (by decide) (by unfold maxLen; omega) (by omega) (by simp; omega) _ rfl ?_; intro g cap w2 hrow2 hg2 _ _)
      have hown1 : ∀ k, u3.ownBlock = some k → w.heap.size ≤ k := fun k e => (hrow.lt k e).1
      go_roundw
      case rel =>
        refine ⟨k + 1, by omega, by go_num, ?_, Below.grown ((hb.alloc (by omega) _).alloc (by simp; omega) _) hg2 (by simp; omega) hown1⟩
        rw [htk'.out, propCells_snoc]; exact hrow2
      case measure => simp [intOf]; omega
    · obtain rfl : k = l.length := by omega
      rw [List.take_of_length_le (Nat.le_refl _)] at hrow
      have hP2 := PropsAt.of_own hrow (by omega) hr
      have hsz' := hb.size
      clear hrow hr h
      go_wp2_with (go_at_call 89; refine (build_good _ l _ (by exact hP2) (by omega) (by exact ho.out) T (by exact hT) (by exact hF)).mono ?_; rintro e w1 ⟨B1, rfl, ht1, hb1⟩; have hs1 := hb1.size)
      go_ret
      exact ⟨B1, rfl, ht1, hb.trans (hb1.mono hsz')⟩

/-- the variable's rows -/
def LaidS (w : World) : Prop := 0 < w.heap.size ∧ ∀ j x, rowsS[j]? = some x →
  w.cell? ⟨0, 0 + j * 3, none⟩ = some (.int .i64 x.lo) ∧ w.cell? ⟨0, 0 + j * 3 + 1, none⟩ = some (.int .i64 x.hi) ∧ w.cell? ⟨0, 0 + j * 3 + 2, none⟩ = some (.int .u8 x.v)
theorem LaidS.below {w w' : World} {N : Nat} (h : LaidS w) (hb : Below N w w') (hN : 0 < N) : LaidS w' := by
  refine ⟨by have := hb.size; have := h.1; omega, fun j x hx => ?_⟩
  obtain ⟨h1, h2, h3⟩ := h.2 j x hx
  exact ⟨(hb.cell (p := ⟨0, 0 + j * 3, none⟩) hN).trans h1, (hb.cell (p := ⟨0, 0 + j * 3 + 1, none⟩) hN).trans h2, (hb.cell (p := ⟨0, 0 + j * 3 + 2, none⟩) hN).trans h3⟩
theorem LaidS.props {w : World} (h : LaidS w) : PropsAt w w.heap.size (.slice (some ⟨0, 0, none⟩) 24 24) rowsS := by
  have hl : rowsS.length = 24 := by decide +kernel
  exact ⟨_, 24, by rw [hl], by omega, rowsS_fit, fun _ => ⟨0, 0, rfl, h.1, h.2⟩⟩
theorem LaidS.heap {w w' : World} (h : LaidS w) (hw : w'.heap = w.heap) : LaidS w' := by
  refine ⟨by rw [hw]; exact h.1, fun j x hx => ?_⟩
  obtain ⟨h1, h2, h3⟩ := h.2 j x hx
  have := fun o => World.cell?_of_block (w := w) (w' := w') (a := ⟨0, o, none⟩) (by rw [hw])
  exact ⟨(this _).trans h1, (this _).trans h2, (this _).trans h3⟩

/-- the data in memory: four tries -/
structure DataAt (w : World) (n₀ D : Nat) (T0 T1 T2 T3 : TD) : Prop where
  lt : D < n₀
  row : ∃ B0 B1 B2 B3, w.heap[D]? = some (.cells #[.pointer (some ⟨B0, 0, none⟩), .pointer (some ⟨B1, 0, none⟩), .pointer (some ⟨B2, 0, none⟩), .pointer (some ⟨B3, 0, none⟩)] 63 (0, 0)) ∧
    TrieAt w n₀ B0 T0 ∧ TrieAt w n₀ B1 T1 ∧ TrieAt w n₀ B2 T2 ∧ TrieAt w n₀ B3 T3
theorem DataAt.below {w w' : World} {n₀ D N : Nat} {T0 T1 T2 T3 : TD} (h : DataAt w n₀ D T0 T1 T2 T3) (hb : Below N w w') (hN : n₀ ≤ N) : DataAt w' n₀ D T0 T1 T2 T3 := by
  obtain ⟨hlt, B0, B1, B2, B3, h, t0, t1, t2, t3⟩ := h
  exact ⟨hlt, B0, B1, B2, B3, (hb.block D (by omega)).trans h, t0.below hb hN, t1.below hb hN, t2.below hb hN, t3.below hb hN⟩
theorem DataAt.mono {w : World} {n₀ n₁ D : Nat} {T0 T1 T2 T3 : TD} (h : DataAt w n₀ D T0 T1 T2 T3) (hn : n₀ ≤ n₁) : DataAt w n₁ D T0 T1 T2 T3 := by
  obtain ⟨hlt, B0, B1, B2, B3, h, t0, t1, t2, t3⟩ := h
  exact ⟨by omega, B0, B1, B2, B3, h, t0.mono hn, t1.mono hn, t2.mono hn, t3.mono hn⟩
theorem DataAt.heap {w w' : World} {n₀ D : Nat} {T0 T1 T2 T3 : TD} (h : DataAt w n₀ D T0 T1 T2 T3) (hw : w'.heap = w.heap) : DataAt w' n₀ D T0 T1 T2 T3 := by
  obtain ⟨hlt, B0, B1, B2, B3, h, t0, t1, t2, t3⟩ := h
  exact ⟨hlt, B0, B1, B2, B3, by rw [hw]; exact h, t0.heap hw, t1.heap hw, t2.heap hw, t3.heap hw⟩

theorem run_box_agg {P : Program} {ρ : Operand → Value} {o : Oper} {t : TypeId} {x : Operand} (hop : o.op = Op.box t x) (w : World) (cs : Array Value) (hx : ρ x = .agg cs) :
    (execOp ρ o).run P w = .ok (.value (.pointer (some ⟨w.heap.size, 0, none⟩))) (w.alloc (.cells cs t)) := by
  simp only [execOp, hop, hx, Instr.box, newVar, newRow, newObj, Value.cells, Sem.run_bind, Sem.run, Result.andThen_ok, Sem.run_pure]
  rfl

/-- the shipped data -/
def Shipped (T0 T1 T2 T3 : TD) : Prop := T0 = tdOf (pval rowsC) ∧ T1 = tdOf (pval rowsW) ∧ T2 = tdOf (pval rowsS) ∧ T3 = tdOf (pval rowsP)

theorem odd_of {l : List P3} {m : Int} (h : ∀ x ∈ l, 0 ≤ x.lo ∧ x.hi ≤ 1114111 ∧ 0 ≤ x.v ∧ x.v ≤ m) (h2 : ∀ x ∈ l, x.lo ≤ x.hi) : Hid (l.any oddB = false) := by
  show l.any oddB = false
  rw [List.any_eq_false]
  intro x hx
  have := h x hx
  have := h2 x hx
  simp [oddB]; omega
theorem rowsC_odd : Hid (rowsC.any oddB = false) := odd_of rowsC_in (by decide +kernel)
theorem rowsW_odd : Hid (rowsW.any oddB = false) := odd_of rowsW_in (by decide +kernel)
theorem rowsS_odd : Hid (rowsS.any oddB = false) := odd_of rowsS_in (by decide +kernel)
theorem rowsP_odd : Hid (rowsP.any oddB = false) := odd_of rowsP_in (by decide +kernel)

set_option maxRecDepth 100000 in
set_option maxHeartbeats 2000000 in
theorem new_any (w : World) (hL : LaidS w) (T0 T1 T2 T3 : TD) (hT : Hid (Shipped T0 T1 T2 T3)) :
    Calls Tryd.prog 25 #[] w fun e w' => ∃ D, e = .returned (.pointer (some ⟨D, 0, none⟩)) ∧ DataAt w' w'.heap.size D T0 T1 T2 T3 ∧ Below w.heap.size w w' := by
  have e0 : Hid (T0 = tdOf (pval rowsC)) := hT.out.1
  have e1 : Hid (T1 = tdOf (pval rowsW)) := hT.out.2.1
  have e2 : Hid (T2 = tdOf (pval rowsS)) := hT.out.2.2.1
  have e3 : Hid (T3 = tdOf (pval rowsP)) := hT.out.2.2.2
  have f0 : Hid (T0.F.length ≤ 256) := by rw [e0.out]; exact rowsC_few
  have f1 : Hid (T1.F.length ≤ 256) := by rw [e1.out]; exact rowsW_few
  have f2 : Hid (T2.F.length ≤ 256) := by rw [e2.out]; exact rowsS_few
  have f3 : Hid (T3.F.length ≤ 256) := by rw [e3.out]; exact rowsP_few
  clear hT
  go_enter Tryd.func25, Tryd.ntmps25
  go_wp2
  refine wp_region_G [[(true,4),(false,0),(false,1),(false,2),(false,3),(false,5),(false,6),(false,7),(true,8),(true,9),(false,10),(true,11)]] (by kernel_rfl) (by kernel_rfl) (by kernel_rfl) (by decide) (fun c a d v w h => by cases d <;> exact h) ?_
  refine wpGs_seg (fun _ => True) trivial ?_
  refine wpG_q rfl rfl (fun w' hS => by go_simp; rfl) (by go_simp; rfl) ?_
  refine wpG_call (f := 57) (args := #[]) (v := fun w' v => PropsAt w' w'.heap.size v rowsC ∧ Below w.heap.size w.drew w') rfl rfl (by go_simp <;> rfl) ((clusterRows_any w.drew).mono fun e w' h => by obtain ⟨v, he, h⟩ := h; exact ⟨v, he, h⟩) ?_
  rintro w1 u1 ⟨p1, b1⟩
  have s1 := b1.size
  refine ⟨fun _ => True, fun w h => h, trivial, ?_⟩
  refine wpG_call (f := 56) (args := #[u1]) (v := fun w' u => ∃ B, u = .pointer (some ⟨B, 0, none⟩) ∧ TrieAt w' w'.heap.size B T0 ∧ Below w1.heap.size w1 w') rfl rfl (by go_simp <;> rfl) ((built_any u1 rowsC w1 p1 (by decide +kernel) rowsC_odd T0 e0 f0).mono fun e w' h => by obtain ⟨B, he, h⟩ := h; exact ⟨_, he, B, rfl, h⟩) ?_
  rintro w2 u2 ⟨B0, rfl, t0, b2⟩
  have s2 := b2.size
  refine ⟨fun _ => True, fun w h => h, trivial, ?_⟩
  refine wpG_call (f := 58) (args := #[]) (v := fun w' v => PropsAt w' w'.heap.size v rowsW ∧ Below w2.heap.size w2 w') rfl rfl (by go_simp <;> rfl) ((wordRows_any w2).mono fun e w' h => by obtain ⟨v, he, h⟩ := h; exact ⟨v, he, h⟩) ?_
  rintro w3 u3 ⟨p3, b3⟩
  have s3 := b3.size
  refine ⟨fun _ => True, fun w h => h, trivial, ?_⟩
  refine wpG_call (f := 56) (args := #[u3]) (v := fun w' u => ∃ B, u = .pointer (some ⟨B, 0, none⟩) ∧ TrieAt w' w'.heap.size B T1 ∧ Below w3.heap.size w3 w') rfl rfl (by go_simp <;> rfl) ((built_any u3 rowsW w3 p3 (by decide +kernel) rowsW_odd T1 e1 f1).mono fun e w' h => by obtain ⟨B, he, h⟩ := h; exact ⟨_, he, B, rfl, h⟩) ?_
  rintro w4 u4 ⟨B1, rfl, t1, b4⟩
  have s4 := b4.size
  refine ⟨fun _ => True, fun w h => h, trivial, ?_⟩
  have hL4 : LaidS w4 := (((((hL.heap (w' := w.drew) rfl).below b1 hL.1).below b2 (by have := hL.1; have e : w.drew.heap.size = w.heap.size := rfl; omega)).below b3 (by have := hL.1; have e : w.drew.heap.size = w.heap.size := rfl; omega))).below b4 (by have := hL.1; have e : w.drew.heap.size = w.heap.size := rfl; omega)
  refine wpG_call (f := 56) (args := #[(.slice (some ⟨0, 0, none⟩) 24 24)]) (v := fun w' u => ∃ B, u = .pointer (some ⟨B, 0, none⟩) ∧ TrieAt w' w'.heap.size B T2 ∧ Below w4.heap.size w4 w') rfl rfl (by go_simp <;> rfl) ((built_any (.slice (some ⟨0, 0, none⟩) 24 24) rowsS w4 hL4.props (by decide +kernel) rowsS_odd T2 e2 f2).mono fun e w' h => by obtain ⟨B, he, h⟩ := h; exact ⟨_, he, B, rfl, h⟩) ?_
  rintro w5 u5 ⟨B2, rfl, t2, b5⟩
  have s5 := b5.size
  refine ⟨fun _ => True, fun w h => h, trivial, ?_⟩
  refine wpG_call (f := 59) (args := #[]) (v := fun w' v => PropsAt w' w'.heap.size v rowsP ∧ Below w5.heap.size w5 w') rfl rfl (by go_simp <;> rfl) ((pictoRows_any w5).mono fun e w' h => by obtain ⟨v, he, h⟩ := h; exact ⟨v, he, h⟩) ?_
  rintro w6 u6 ⟨p6, b6⟩
  have s6 := b6.size
  refine ⟨fun _ => True, fun w h => h, trivial, ?_⟩
  refine wpG_call (f := 56) (args := #[u6]) (v := fun w' u => ∃ B, u = .pointer (some ⟨B, 0, none⟩) ∧ TrieAt w' w'.heap.size B T3 ∧ Below w6.heap.size w6 w') rfl rfl (by go_simp <;> rfl) ((built_any u6 rowsP w6 p6 (by decide +kernel) rowsP_odd T3 e3 f3).mono fun e w' h => by obtain ⟨B, he, h⟩ := h; exact ⟨_, he, B, rfl, h⟩) ?_
  rintro w7 u7 ⟨B3, rfl, t3, b7⟩
  have s7 := b7.size
  refine ⟨fun _ => True, fun w h => h, trivial, ?_⟩
  have ew : w.drew.heap.size = w.heap.size := rfl
  refine wpG_q rfl rfl (fun w' hS => by go_simp; rfl) (by go_simp; rfl) ?_
  refine wpG_q rfl rfl (fun w' hS => by go_simp; rfl) (by go_simp; rfl) ?_
  refine wpG_er (fun _ => True) rfl rfl (run_box_agg (cs := #[.pointer (some ⟨B0, 0, none⟩), .pointer (some ⟨B1, 0, none⟩), .pointer (some ⟨B2, 0, none⟩), .pointer (some ⟨B3, 0, none⟩)]) rfl w7 rfl) (by first | (go_simp; rfl) | rfl) (fun w h => h) trivial ?_
  refine wpG_q rfl rfl (fun w' hS => by go_simp; rfl) (by go_simp; rfl) ?_
  refine wpG_nil (wpGs_nil ?_)
  go_wp2
  go_ret
  have hnew : Below w7.heap.size w7 (w7.alloc (.cells #[.pointer (some ⟨B0, 0, none⟩), .pointer (some ⟨B1, 0, none⟩), .pointer (some ⟨B2, 0, none⟩), .pointer (some ⟨B3, 0, none⟩)] 63)) := (Below.refl _ _).alloc (Nat.le_refl _) _
  have q0 := ((((t0.below b3 (Nat.le_refl _)).below b4 s3).below b5 (by omega)).below b6 (by omega)).below b7 (by omega)
  have q1 := ((t1.below b5 (by omega)).below b6 (by omega)).below b7 (by omega)
  have q2 := (t2.below b6 (by omega)).below b7 (by omega)
  refine ⟨w7.heap.size, rfl, ⟨by simp, B0, B1, B2, B3, heap_alloc_new _ _, ?_, ?_, ?_, ?_⟩, ?_⟩
  · exact (q0.below hnew (by omega)).mono (by simp; omega)
  · exact (q1.below hnew (by omega)).mono (by simp; omega)
  · exact (q2.below hnew (by omega)).mono (by simp; omega)
  · exact (t3.below hnew (by omega)).mono (by simp)
  · have b1' : Below w.heap.size w w1 := (Below.refl _ w).drew.trans b1
    exact ((((((b1'.trans (b2.mono (by omega))).trans (b3.mono (by omega))).trans (b4.mono (by omega))).trans (b5.mono (by omega))).trans (b6.mono (by omega))).trans (b7.mono (by omega))).trans (hnew.mono (by omega))
end Go.Proofs.YtpaijpdmeiagfaaDoor
