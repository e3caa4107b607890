/- A table of constant rows, built: the whole region by one law. -/
import Derived.Test.YtpaijpdmeiagfaaDoorRw
import Derived.Test.YtpaijpdmeiagfaaDoorJ
import Derived.Test.YtpaijpdmeiagfaaDoorG
set_option linter.unusedVariables false
set_option linter.unusedSimpArgs false
namespace Go.Proofs.YtpaijpdmeiagfaaDoor
open Go Go.RowKit Go.WideMaps Go.Proofs.Kk Go.Proofs.Tm Go.Proofs.Gg

theorem fill_rows (l : List P3) (k : Nat) (acc : Array Value) (h : (k + l.length) * 3 ≤ acc.size) :
    Instr.fill (fun i => some (i * 3, 3)) acc ((l.zipIdx k).map fun p => (p.2, propV p.1)) = some (acc.toList.take (k * 3) ++ propCells l ++ acc.toList.drop ((k + l.length) * 3)).toArray := by
  induction l generalizing k acc with
  | nil => simp [Instr.fill, propCells]
  | cons x l ih =>
    simp only [List.zipIdx_cons, List.map_cons]
    unfold Instr.fill
    have hc : (propV x).cells = #[.int .i64 x.lo, .int .i64 x.hi, .int .u8 x.v] := rfl
    simp only [List.length_cons] at h
    simp only [hc, List.size_toArray, List.length_cons, List.length_nil, Nat.zero_add, Nat.reduceAdd, ne_eq, not_true_eq_false, decide_false, Bool.false_or, decide_eq_true_eq]
    rw [if_neg (by omega)]
    have hf : (#[Value.int .i64 x.lo, .int .i64 x.hi, .int .u8 x.v].zipIdx).foldl (fun cs (p : Value × Nat) => cs.setIfInBounds (k * 3 + p.2) p.1) acc = ((acc.setIfInBounds (k * 3) (.int .i64 x.lo)).setIfInBounds (k * 3 + 1) (.int .i64 x.hi)).setIfInBounds (k * 3 + 2) (.int .u8 x.v) := by
      simp [Array.zipIdx]
    have hf2 := ih (k + 1) (((acc.setIfInBounds (k * 3) (.int .i64 x.lo)).setIfInBounds (k * 3 + 1) (.int .i64 x.hi)).setIfInBounds (k * 3 + 2) (.int .u8 x.v)) (by simp; omega)
    refine Eq.trans (congrArg (fun z => Instr.fill _ z _) hf) (hf2.trans ?_)
    refine congrArg some ?_
    apply Array.ext'
    have e : propCells (x :: l) = [.int .i64 x.lo, .int .i64 x.hi, .int .u8 x.v] ++ propCells l := rfl
    rw [e]
    simp only [Array.toList_setIfInBounds]
    have e1 : (((acc.toList.set (k * 3) (Value.int .i64 x.lo)).set (k * 3 + 1) (.int .i64 x.hi)).set (k * 3 + 2) (.int .u8 x.v)).take ((k + 1) * 3) = acc.toList.take (k * 3) ++ [.int .i64 x.lo, .int .i64 x.hi, .int .u8 x.v] := by
      apply List.ext_getElem?
      intro j
      simp only [List.getElem?_append, List.getElem?_take, List.length_take, List.getElem?_set, Array.length_toList, List.length_set]
      have : acc.size = acc.toList.length := rfl
      rcases (by omega : j < k * 3 ∨ j = k * 3 ∨ j = k * 3 + 1 ∨ j = k * 3 + 2 ∨ k * 3 + 3 ≤ j) with h1 | h1 | h1 | h1 | h1
      · grind
      · subst h1; grind
      · subst h1; grind
      · subst h1; grind
      · grind
    have e2 : (((acc.toList.set (k * 3) (Value.int .i64 x.lo)).set (k * 3 + 1) (.int .i64 x.hi)).set (k * 3 + 2) (.int .u8 x.v)).drop ((k + 1 + l.length) * 3) = acc.toList.drop ((k + 1 + l.length) * 3) := by
      apply List.ext_getElem?
      intro j
      simp only [List.getElem?_drop, List.getElem?_set, Array.length_toList, List.length_set]
      grind
    rw [e1, e2, show k + 1 + l.length = k + (l.length + 1) by omega]
    simp only [List.append_assoc]

/-- a literal of a table's rows -/
theorem exec_buildSlice_rows {o : Oper} {ρ : Operand → Value} {w : World} (t e : TypeId) (d : Nat) (l : List P3)
    (ho : o.op = .buildSlice t l.length ((List.range l.length).map fun i => (i, Operand.tmp (i + d))).toArray)
    (hρ : ∀ i x, l[i]? = some x → ρ (.tmp (i + d)) = propV x) (m : Nat) (hu : Tryd.prog.underlying t = some (.slice e))
    (hi : (Tryd.prog.info? e).map (fun i => (i.zero, i.size, i.bytes)) = some (some (.agg #[.int .i64 0, .int .i64 0, .int .u8 0]), 3, m)) (hl : l.length ≤ 100000) (hl0 : 0 < l.length) :
    (execOp ρ o).run Tryd.prog w = .ok (.value (.slice (some ⟨w.heap.size, 0, none⟩) l.length l.length)) (w.alloc (.cells (propCells l).toArray e)) := by
  obtain ⟨i, hi, h1, h2, h3⟩ := info_parts hi
  have hzr : (zeroValue e).run Tryd.prog w = .ok (.agg #[.int .i64 0, .int .i64 0, .int .u8 0]) w := by simp [zeroValue, typeInfo, program, Sem.run, Sem.run_bind, hi, h1, Result.andThen]
  have hsz : (sizeOf e).run Tryd.prog w = .ok 3 w := by simp [sizeOf, typeInfo, program, Sem.run, Sem.run_bind, hi, h2, Result.andThen]
  have hparts : ((List.range l.length).map fun i => (i, Operand.tmp (i + d))).map (fun p => (p.1, ρ p.2)) = (l.zipIdx 0).map fun p => (p.2, propV p.1) := by
    apply List.ext_getElem?
    intro j
    by_cases hj : j < l.length
    · simp only [List.getElem?_map, List.getElem?_range hj, Option.map_some, List.getElem?_zipIdx, List.getElem?_eq_getElem hj, Nat.zero_add]
      rw [hρ j _ (List.getElem?_eq_getElem hj)]
    · rw [List.getElem?_eq_none (by simp; omega), List.getElem?_eq_none (by simp; omega)]
  unfold execOp
  simp only [ho, List.map_toArray, Instr.buildSlice, Sem.run_bind, run_underlying hu, Result.andThen_ok, hsz]
  rw [if_neg (by omega), if_neg (by omega)]
  simp only [Sem.run_bind, Sem.run_pure, Result.andThen_ok, hzr]
  have hp2 : (List.map (fun (x : Nat × Operand) => (x.1, ρ x.2)) ((List.range l.length).map fun i => (i, Operand.tmp (i + d)))) = (l.zipIdx 0).map fun p => (p.2, propV p.1) := hparts
  have hfill := fill_rows l 0 ((Array.range (l.length * 3)).map ((Value.agg #[.int .i64 0, .int .i64 0, .int .u8 0]).cells[· % (Value.agg #[.int .i64 0, .int .i64 0, .int .u8 0]).cells.size]!)) (by simp)
  rw [← hp2] at hfill
  have hres : ((((Array.range (l.length * 3)).map ((Value.agg #[.int .i64 0, .int .i64 0, .int .u8 0]).cells[· % (Value.agg #[.int .i64 0, .int .i64 0, .int .u8 0]).cells.size]!)).toList.take (0 * 3) ++ propCells l ++ ((Array.range (l.length * 3)).map ((Value.agg #[.int .i64 0, .int .i64 0, .int .u8 0]).cells[· % (Value.agg #[.int .i64 0, .int .i64 0, .int .u8 0]).cells.size]!)).toList.drop ((0 + l.length) * 3)).toArray) = (propCells l).toArray := by
    rw [List.drop_eq_nil_of_le (by simp)]
    simp
  rw [hres] at hfill
  rw [hfill]
  simp only [newRow, newObj, Sem.run_bind, Sem.run, Result.andThen_ok, Sem.run_pure]
  rfl

theorem eval_put_same (a : Act) (d : Nat) (v : Value) (h : d < a.tmps.size) : (a.put (some d) v).eval (.tmp d) = v := by
  simp [Act.put, Act.eval, Array.getD, h]
theorem eval_put_other (a : Act) (d j : Nat) (v : Value) (h : j ≠ d) : (a.put (some d) v).eval (.tmp j) = a.eval (.tmp j) := by
  simp only [Act.put, Act.eval, Array.getD_eq_getD_getElem?, Array.getElem?_setIfInBounds_ne (Ne.symm h)]
theorem size_put (a : Act) (d : Nat) (v : Value) : (a.put (some d) v).tmps.size = a.tmps.size := by simp [Act.put]

/-- a row's operation -/
def rowOp (e : TypeId) (x : P3) : Op := .build e #[(0, .const (.int .i64 x.lo)), (1, .const (.int .i64 x.hi)), (2, .const (.int .u8 x.v))]

section
variable {ops : Array Oper} {Q : Exit → Act → World → Prop}
theorem wpList_rows (e : TypeId) (hx : ∀ (o : Oper) (a : Act) (w : World) (x : P3), o.op = rowOp e x → (execOp a.eval o).run Tryd.prog w = .ok (.value (propV x)) w)
    (l : List P3) : ∀ (d : Nat) (L : List Oper) (a : Act) (w : World), (L.take l.length).map (fun o => (o.dst, o.op, o.guard)) = (l.zipIdx d).map (fun p => (some p.2, rowOp e p.1, none)) → d + l.length ≤ a.tmps.size →
      (∀ a' : Act, a'.defers = a.defers → a'.tmps.size = a.tmps.size → (∀ j, j < d → a'.eval (.tmp j) = a.eval (.tmp j)) → (∀ i x, l[i]? = some x → a'.eval (.tmp (i + d)) = propV x) → wpList Tryd.prog ops Q (L.drop l.length) a' w) →
      wpList Tryd.prog ops Q L a w := by
  induction l with
  | nil =>
    intro d L a w _ _ hK
    exact hK a rfl rfl (fun _ _ => rfl) (fun i x h => by simp at h)
  | cons x l ih =>
    intro d L a w hL hsz hK
    cases L with
    | nil => simp at hL
    | cons o L =>
      simp only [List.length_cons, List.take_succ_cons, List.map_cons, List.zipIdx_cons, List.cons.injEq, Prod.mk.injEq] at hL hsz
      obtain ⟨⟨h1, h2, h3⟩, h4⟩ := hL
      refine wpList_plain h3 fun K hK' => ?_
      unfold Oper.wp
      rw [hx o a w x h2]
      refine hK' _ _ ?_
      rw [h1]
      refine ih (d + 1) L (a.put (some d) (propV x)) w h4 (by rw [size_put]; omega) fun a' p1 p2 p3 p4 => ?_
      refine hK a' (p1.trans rfl) (p2.trans (size_put _ _ _)) (fun j hj => ?_) (fun i y hi => ?_)
      · rw [p3 j (by omega), eval_put_other _ _ _ _ (by omega)]
      · cases i with
        | zero =>
          simp at hi
          subst hi
          rw [Nat.zero_add, p3 d (by omega), eval_put_same _ _ _ (by omega)]
        | succ i =>
          have := p4 i y (by simpa using hi)
          rw [show i + 1 + d = i + (d + 1) by omega]
          exact this
end

theorem exec_row (o : Oper) (a : Act) (w : World) (x : P3) (ho : o.op = rowOp 59 x) : (execOp a.eval o).run Tryd.prog w = .ok (.value (propV x)) w := by
  unfold rowOp at ho
  unfold execOp propV
  simp only [ho]
  go_simp

theorem rowsU : Tryd.prog.underlying 56 = some (.slice 59) := by kernel_rfl
theorem infoRow : (Tryd.prog.info? 59).map (fun i => (i.zero, i.size, i.bytes)) = some (some (.agg #[.int .i64 0, .int .i64 0, .int .u8 0]), 3, 24) := by kernel_rfl

theorem wpList_rows_end {ops : Array Oper} {Q : Exit → Act → World → Prop} (l : List P3) (d : Nat) (o1 o2 : Oper) (a : Act) (w : World) (g1 : o1.guard = none) (g2 : o2.guard = none)
    (ho1 : o1.op = .buildSlice 56 l.length ((List.range l.length).map fun i => (i, Operand.tmp (i + d))).toArray) (hd1 : o1.dst = some (l.length + d)) (ho2 : o2.op = .assign (.tmp (l.length + d))) (hd2 : o2.dst = some 0)
    (hρ : ∀ i x, l[i]? = some x → a.eval (.tmp (i + d)) = propV x) (hl : l.length ≤ 100000) (hl0 : 0 < l.length) (hsz : l.length + d < a.tmps.size)
    (hK : ∀ a'' w', a''.defers = a.defers → a''.tmps.getD 0 undef = .slice (some ⟨w.heap.size, 0, none⟩) l.length l.length → w' = w.alloc (.cells (propCells l).toArray 59) → wpList Tryd.prog ops Q [] a'' w') :
    wpList Tryd.prog ops Q [o1, o2] a w := by
  refine wpList_plain g1 fun K hK' => ?_
  unfold Oper.wp
  rw [exec_buildSlice_rows 56 59 d l ho1 hρ 24 rowsU infoRow hl hl0]
  refine hK' _ _ (wpList_plain g2 fun K2 hK2 => ?_)
  have e2 : (execOp (a.put o1.dst (.slice (some ⟨w.heap.size, 0, none⟩) l.length l.length)).eval o2).run Tryd.prog (w.alloc (.cells (propCells l).toArray 59)) = .ok (.value (.slice (some ⟨w.heap.size, 0, none⟩) l.length l.length)) (w.alloc (.cells (propCells l).toArray 59)) := by
    unfold execOp
    simp only [ho2, hd1, eval_put_same _ _ _ hsz, Sem.run_bind, Sem.run_pure, Result.andThen_ok]
  unfold Oper.wp
  rw [e2]
  refine hK2 _ _ (hK _ _ ?_ ?_ rfl)
  · rw [hd1, hd2]; rfl
  · rw [hd1, hd2]
    have : 0 < (a.put (some (l.length + d)) (.slice (some ⟨w.heap.size, 0, none⟩) l.length l.length)).tmps.size := by rw [size_put]; omega
    simpa [Act.eval] using eval_put_same (a.put (some (l.length + d)) (.slice (some ⟨w.heap.size, 0, none⟩) l.length l.length)) 0 (.slice (some ⟨w.heap.size, 0, none⟩) l.length l.length) this

theorem wpList_rows_tail {ops : Array Oper} {Q : Exit → Act → World → Prop} (l : List P3) (d : Nat) (L2 : List Oper) (a : Act) (w : World)
    (hL : L2.map (fun o => (o.dst, o.op, o.guard)) = [(some (l.length + d), .buildSlice 56 l.length ((List.range l.length).map fun i => (i, Operand.tmp (i + d))).toArray, none), (some 0, .assign (.tmp (l.length + d)), none)])
    (hρ : ∀ i x, l[i]? = some x → a.eval (.tmp (i + d)) = propV x) (hl : l.length ≤ 100000) (hl0 : 0 < l.length) (hsz : l.length + d < a.tmps.size)
    (hK : ∀ a'' w', a''.defers = a.defers → a''.tmps.getD 0 undef = .slice (some ⟨w.heap.size, 0, none⟩) l.length l.length → w' = w.alloc (.cells (propCells l).toArray 59) → wpList Tryd.prog ops Q [] a'' w') :
    wpList Tryd.prog ops Q L2 a w := by
  have hlen : L2.length = 2 := by have := congrArg List.length hL; simpa using this
  obtain ⟨o1, o2, rfl⟩ : ∃ o1 o2, L2 = [o1, o2] := by
    rcases L2 with _ | ⟨o1, _ | ⟨o2, _ | ⟨o3, L⟩⟩⟩ <;> simp at hlen
    exact ⟨o1, o2, rfl⟩
  simp only [List.map_cons, List.map_nil, List.cons.injEq, Prod.mk.injEq, and_true] at hL
  obtain ⟨⟨h1, h2, h3⟩, g1, g2, g3⟩ := hL
  exact wpList_rows_end l d o1 o2 a w h3 g3 h2 h1 g2 g1 hρ hl hl0 hsz hK

/-- the body of a function that is one table of rows -/
theorem wp_rows_fn {Q : Exit → Act → World → Prop} (l : List P3) (v0 : Value) (n0 n1 : Nat) (ops0 ops1 : Array Oper) (a : Act) (w : World)
    (h0 : ops0.toList.map (fun o => (o.dst, o.op, o.guard)) = [(some 0, .assign (.const v0), none)])
    (h1 : (ops1.toList.take l.length).map (fun o => (o.dst, o.op, o.guard)) = (l.zipIdx 1).map (fun p => (some p.2, rowOp 59 p.1, none)))
    (h2 : (ops1.toList.drop l.length).map (fun o => (o.dst, o.op, o.guard)) = [(some (l.length + 1), .buildSlice 56 l.length ((List.range l.length).map fun i => (i, Operand.tmp (i + 1))).toArray, none), (some 0, .assign (.tmp (l.length + 1)), none)])
    (hl : l.length ≤ 100000) (hl0 : 0 < l.length) (hsz : Nat.ble (l.length + 2) a.tmps.size = true)
    (hK : ∀ a'', a''.defers = a.defers → a''.tmps.getD 0 undef = .slice (some ⟨w.heap.size, 0, none⟩) l.length l.length → Q .ret a'' (w.alloc (.cells (propCells l).toArray 59))) :
    ((Code.region n0 ops0 false).seq ((Code.region n1 ops1 false).seq Code.ret)).wp Tryd.prog Q a w := by
  have hsz' := Nat.le_of_ble_eq_true hsz
  refine wp_seq (wp_region_list ?_)
  have hlen : ops0.toList.length = 1 := by have := congrArg List.length h0; simpa using this
  obtain ⟨o, ho⟩ := List.length_eq_one_iff.1 hlen
  rw [ho] at h0 ⊢
  simp only [List.map_cons, List.map_nil, List.cons.injEq, Prod.mk.injEq, and_true] at h0
  obtain ⟨g1, g2, g3⟩ := h0
  refine wpList_plain g3 fun K hK' => ?_
  have e2 : (execOp a.eval o).run Tryd.prog w = .ok (.value v0) w := by
    unfold execOp
    simp only [g2, Act.eval, Sem.run_pure]
  unfold Oper.wp
  rw [e2]
  refine hK' _ _ ?_
  rw [g1]
  refine wpList_nil ?_
  show Code.wp _ _ _ _ _
  refine wp_seq (wp_region_list ?_)
  refine wpList_rows 59 exec_row l 1 _ _ _ h1 (by rw [size_put]; omega) ?_
  intro a' p1 p2 p3 p4
  refine wpList_rows_tail l 1 _ a' _ h2 p4 hl hl0 (by rw [p2, size_put]; omega) ?_
  rintro a'' w' q1 q2 rfl
  exact wpList_nil (wp_ret (hK a'' (q1.trans p1) q2))


theorem PropsAt.of_rows (w : World) (l : List P3) (hf : Fits l) (hl : l.length ≤ 1000000) (t : TypeId) : PropsAt (w.alloc (.cells (propCells l).toArray t)) (w.alloc (.cells (propCells l).toArray t)).heap.size (.slice (some ⟨w.heap.size, 0, none⟩) l.length l.length) l := by
  have h3 := heap_alloc_new w (.cells (propCells l).toArray t)
  refine ⟨_, _, rfl, by omega, hf, fun _ => ⟨w.heap.size, 0, rfl, by simp, ?_⟩⟩
  intro j x hx
  obtain ⟨c0, c1, c2⟩ := propCells_get l j x hx
  have at_ : ∀ i u, (propCells l)[i]? = some u → (w.alloc (.cells (propCells l).toArray t)).cell? ⟨w.heap.size, 0 + i, none⟩ = some u := by
    intro i u hu
    rw [cell_of_row _ _ _ _ _ _ h3, Nat.zero_add]
    simpa using hu
  refine ⟨at_ _ _ c0, ?_, ?_⟩
  · have := at_ _ _ c1; rwa [← Nat.add_assoc] at this
  · have := at_ _ _ c2; rwa [← Nat.add_assoc] at this

theorem fits_of {l : List P3} {m : Int} (h : ∀ x ∈ l, 0 ≤ x.lo ∧ x.hi ≤ 1114111 ∧ 0 ≤ x.v ∧ x.v ≤ m) (h2 : ∀ x ∈ l, x.lo ≤ x.hi) (hm : m ≤ 255) : Fits l := by
  intro x hx
  have := h x hx
  have := h2 x hx
  refine ⟨by omega, by omega, by omega, by omega, by omega, by omega⟩
theorem rowsC_fit : Fits rowsC := fits_of rowsC_in (by decide +kernel) (by omega)
theorem rowsW_fit : Fits rowsW := fits_of rowsW_in (by decide +kernel) (by omega)
theorem rowsS_fit : Fits rowsS := fits_of rowsS_in (by decide +kernel) (by omega)
theorem rowsP_fit : Fits rowsP := fits_of rowsP_in (by decide +kernel) (by omega)

set_option maxRecDepth 100000 in
set_option maxHeartbeats 1000000 in
theorem clusterRows_any (w : World) : Calls Tryd.prog 57 #[] w fun e w' => ∃ v, e = .returned v ∧ PropsAt w' w'.heap.size v rowsC ∧ Below w.heap.size w w' := by
  have hlen : rowsC.length = 62 := by decide +kernel
  go_enter Tryd.func57, Tryd.ntmps57
  refine wp_rows_fn rowsC (.slice none 0 0) _ _ _ _ _ w (by kernel_rfl) (by kernel_rfl) (by kernel_rfl) (by rw [hlen]; decide) (by rw [hlen]; decide) (by kernel_rfl) fun a'' q1 q2 => ?_
  refine bodyPost_ret (results_tmp rfl _ _ _) (q1.trans rfl) ?_
  rw [q2]
  exact ⟨_, rfl, PropsAt.of_rows w rowsC rowsC_fit (by rw [hlen]; decide) _, (Below.refl _ _).alloc (Nat.le_refl _) _⟩

set_option maxRecDepth 100000 in
set_option maxHeartbeats 1000000 in
theorem wordRows_any (w : World) : Calls Tryd.prog 58 #[] w fun e w' => ∃ v, e = .returned v ∧ PropsAt w' w'.heap.size v rowsW ∧ Below w.heap.size w w' := by
  have hlen : rowsW.length = 129 := by decide +kernel
  go_enter Tryd.func58, Tryd.ntmps58
  refine wp_rows_fn rowsW (.slice none 0 0) _ _ _ _ _ w (by kernel_rfl) (by kernel_rfl) (by kernel_rfl) (by rw [hlen]; decide) (by rw [hlen]; decide) (by kernel_rfl) fun a'' q1 q2 => ?_
  refine bodyPost_ret (results_tmp rfl _ _ _) (q1.trans rfl) ?_
  rw [q2]
  exact ⟨_, rfl, PropsAt.of_rows w rowsW rowsW_fit (by rw [hlen]; decide) _, (Below.refl _ _).alloc (Nat.le_refl _) _⟩

set_option maxRecDepth 100000 in
set_option maxHeartbeats 1000000 in
theorem pictoRows_any (w : World) : Calls Tryd.prog 59 #[] w fun e w' => ∃ v, e = .returned v ∧ PropsAt w' w'.heap.size v rowsP ∧ Below w.heap.size w w' := by
  have hlen : rowsP.length = 66 := by decide +kernel
  go_enter Tryd.func59, Tryd.ntmps59
  refine wp_rows_fn rowsP (.slice none 0 0) _ _ _ _ _ w (by kernel_rfl) (by kernel_rfl) (by kernel_rfl) (by rw [hlen]; decide) (by rw [hlen]; decide) (by kernel_rfl) fun a'' q1 q2 => ?_
  refine bodyPost_ret (results_tmp rfl _ _ _) (q1.trans rfl) ?_
  rw [q2]
  exact ⟨_, rfl, PropsAt.of_rows w rowsP rowsP_fit (by rw [hlen]; decide) _, (Below.refl _ _).alloc (Nat.le_refl _) _⟩

end Go.Proofs.YtpaijpdmeiagfaaDoor
