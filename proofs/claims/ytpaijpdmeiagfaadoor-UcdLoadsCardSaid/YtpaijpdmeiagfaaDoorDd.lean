/- The document's tables: rows of three numbers, built by one law. -/
import Derived.Test.YtpaijpdmeiagfaaDoorDr
import Derived.Test.YtpaijpdmeiagfaaDoorOw
import Derived.Test.YtpaijpdmeiagfaaDoorB
import Derived.Test.YtpaijpdmeiagfaaDoorNa
import Derived.Test.YtpaijpdmeiagfaaDoorVd
import Derived.Test.YtpaijpdmeiagfaaDoorNm
set_option linter.unusedVariables false
set_option linter.unusedSimpArgs false
namespace Go.Proofs.YtpaijpdmeiagfaaDoor
open Go Go.RowKit Go.WideMaps Go.Proofs.Kk Go.Proofs.Tm Go.Proofs.Gg

def arrV (x : P3) : Value := .agg #[.int .i64 x.lo, .int .i64 x.hi, .int .i64 x.v]
def arrCells (l : List P3) : List Value := l.flatMap fun x => [.int .i64 x.lo, .int .i64 x.hi, .int .i64 x.v]

theorem fill_arrs (l : List P3) (k : Nat) (acc : Array Value) (h : (k + l.length) * 3 ≤ acc.size) :
    Instr.fill (fun i => some (i * 3, 3)) acc ((l.zipIdx k).map fun p => (p.2, arrV p.1)) = some (acc.toList.take (k * 3) ++ arrCells l ++ acc.toList.drop ((k + l.length) * 3)).toArray := by
  induction l generalizing k acc with
  | nil => simp [Instr.fill, arrCells]
  | cons x l ih =>
    simp only [List.zipIdx_cons, List.map_cons]
    unfold Instr.fill
    have hc : (arrV x).cells = #[.int .i64 x.lo, .int .i64 x.hi, .int .i64 x.v] := rfl
    simp only [List.length_cons] at h
    simp only [hc, List.size_toArray, List.length_cons, List.length_nil, Nat.zero_add, Nat.reduceAdd, ne_eq, not_true_eq_false, decide_false, Bool.false_or, decide_eq_true_eq]
    rw [if_neg (by omega)]
    have hf : (#[Value.int .i64 x.lo, .int .i64 x.hi, .int .i64 x.v].zipIdx).foldl (fun cs (p : Value × Nat) => cs.setIfInBounds (k * 3 + p.2) p.1) acc = ((acc.setIfInBounds (k * 3) (.int .i64 x.lo)).setIfInBounds (k * 3 + 1) (.int .i64 x.hi)).setIfInBounds (k * 3 + 2) (.int .i64 x.v) := by
      simp [Array.zipIdx]
    have hf2 := ih (k + 1) (((acc.setIfInBounds (k * 3) (.int .i64 x.lo)).setIfInBounds (k * 3 + 1) (.int .i64 x.hi)).setIfInBounds (k * 3 + 2) (.int .i64 x.v)) (by simp; omega)
    refine Eq.trans (congrArg (fun z => Instr.fill _ z _) hf) (hf2.trans ?_)
    refine congrArg some ?_
    apply Array.ext'
    have e : arrCells (x :: l) = [.int .i64 x.lo, .int .i64 x.hi, .int .i64 x.v] ++ arrCells l := rfl
    rw [e]
    simp only [Array.toList_setIfInBounds]
    have e1 : (((acc.toList.set (k * 3) (Value.int .i64 x.lo)).set (k * 3 + 1) (.int .i64 x.hi)).set (k * 3 + 2) (.int .i64 x.v)).take ((k + 1) * 3) = acc.toList.take (k * 3) ++ [.int .i64 x.lo, .int .i64 x.hi, .int .i64 x.v] := by
      apply List.ext_getElem?
      intro j
      simp only [List.getElem?_append, List.getElem?_take, List.length_take, List.getElem?_set, Array.length_toList, List.length_set]
      have : acc.size = acc.toList.length := rfl
      rcases (by omega : j < k * 3 ∨ j = k * 3 ∨ j = k * 3 + 1 ∨ j = k * 3 + 2 ∨ k * 3 + 3 ≤ j) with h1 | h1 | h1 | h1 | h1
      · grind
      · subst h1; grind
      · subst h1; grind
      · subst h1; grind
      · grind
    have e2 : (((acc.toList.set (k * 3) (Value.int .i64 x.lo)).set (k * 3 + 1) (.int .i64 x.hi)).set (k * 3 + 2) (.int .i64 x.v)).drop ((k + 1 + l.length) * 3) = acc.toList.drop ((k + 1 + l.length) * 3) := by
      apply List.ext_getElem?
      intro j
      simp only [List.getElem?_drop, List.getElem?_set, Array.length_toList, List.length_set]
      grind
    rw [e1, e2, show k + 1 + l.length = k + (l.length + 1) by omega]
    simp only [List.append_assoc]

/-- a literal of a table's rows -/
theorem exec_buildSlice_arrs {o : Oper} {ρ : Operand → Value} {w : World} (t e : TypeId) (d : Nat) (l : List P3)
    (ho : o.op = .buildSlice t l.length ((List.range l.length).map fun i => (i, Operand.tmp (i + d))).toArray)
    (hρ : ∀ i x, l[i]? = some x → ρ (.tmp (i + d)) = arrV x) (m : Nat) (hu : Tryd.prog.underlying t = some (.slice e))
    (hi : (Tryd.prog.info? e).map (fun i => (i.zero, i.size, i.bytes)) = some (some (.agg #[.int .i64 0, .int .i64 0, .int .i64 0]), 3, m)) (hl : l.length ≤ 100000) (hl0 : 0 < l.length) :
    (execOp ρ o).run Tryd.prog w = .ok (.value (.slice (some ⟨w.heap.size, 0, none⟩) l.length l.length)) (w.alloc (.cells (arrCells l).toArray e)) := by
  obtain ⟨i, hi, h1, h2, h3⟩ := info_parts hi
  have hzr : (zeroValue e).run Tryd.prog w = .ok (.agg #[.int .i64 0, .int .i64 0, .int .i64 0]) w := by simp [zeroValue, typeInfo, program, Sem.run, Sem.run_bind, hi, h1, Result.andThen]
  have hsz : (sizeOf e).run Tryd.prog w = .ok 3 w := by simp [sizeOf, typeInfo, program, Sem.run, Sem.run_bind, hi, h2, Result.andThen]
  have hparts : ((List.range l.length).map fun i => (i, Operand.tmp (i + d))).map (fun p => (p.1, ρ p.2)) = (l.zipIdx 0).map fun p => (p.2, arrV p.1) := by
    apply List.ext_getElem?
    intro j
    by_cases hj : j < l.length
    · simp only [List.getElem?_map, List.getElem?_range hj, Option.map_some, List.getElem?_zipIdx, List.getElem?_eq_getElem hj, Nat.zero_add]
      rw [hρ j _ (List.getElem?_eq_getElem hj)]
    · rw [List.getElem?_eq_none (by simp; omega), List.getElem?_eq_none (by simp; omega)]
  unfold execOp
  simp only [ho, List.map_toArray, Instr.buildSlice, Sem.run_bind, run_underlying hu, Result.andThen_ok, hsz]
  rw [if_neg (by omega), if_neg (by omega)]
  simp only [Sem.run_bind, Sem.run_pure, Result.andThen_ok, hzr]
  have hp2 : (List.map (fun (x : Nat × Operand) => (x.1, ρ x.2)) ((List.range l.length).map fun i => (i, Operand.tmp (i + d)))) = (l.zipIdx 0).map fun p => (p.2, arrV p.1) := hparts
  have hfill := fill_arrs l 0 ((Array.range (l.length * 3)).map ((Value.agg #[.int .i64 0, .int .i64 0, .int .i64 0]).cells[· % (Value.agg #[.int .i64 0, .int .i64 0, .int .i64 0]).cells.size]!)) (by simp)
  rw [← hp2] at hfill
  have hres : ((((Array.range (l.length * 3)).map ((Value.agg #[.int .i64 0, .int .i64 0, .int .i64 0]).cells[· % (Value.agg #[.int .i64 0, .int .i64 0, .int .i64 0]).cells.size]!)).toList.take (0 * 3) ++ arrCells l ++ ((Array.range (l.length * 3)).map ((Value.agg #[.int .i64 0, .int .i64 0, .int .i64 0]).cells[· % (Value.agg #[.int .i64 0, .int .i64 0, .int .i64 0]).cells.size]!)).toList.drop ((0 + l.length) * 3)).toArray) = (arrCells l).toArray := by
    rw [List.drop_eq_nil_of_le (by simp)]
    simp
  rw [hres] at hfill
  rw [hfill]
  simp only [newRow, newObj, Sem.run_bind, Sem.run, Result.andThen_ok, Sem.run_pure]
  rfl


/-- a row's operation -/
def arrOp (e : TypeId) (x : P3) : Op := .build e #[(0, .const (.int .i64 x.lo)), (1, .const (.int .i64 x.hi)), (2, .const (.int .i64 x.v))]

section
variable {ops : Array Oper} {Q : Exit → Act → World → Prop}
theorem wpList_arrs (e : TypeId) (hx : ∀ (o : Oper) (a : Act) (w : World) (x : P3), o.op = arrOp e x → (execOp a.eval o).run Tryd.prog w = .ok (.value (arrV x)) w)
    (l : List P3) : ∀ (d : Nat) (L : List Oper) (a : Act) (w : World), (L.take l.length).map (fun o => (o.dst, o.op, o.guard)) = (l.zipIdx d).map (fun p => (some p.2, arrOp e p.1, none)) → d + l.length ≤ a.tmps.size →
      (∀ a' : Act, a'.defers = a.defers → a'.tmps.size = a.tmps.size → (∀ j, j < d → a'.eval (.tmp j) = a.eval (.tmp j)) → (∀ i x, l[i]? = some x → a'.eval (.tmp (i + d)) = arrV x) → wpList Tryd.prog ops Q (L.drop l.length) a' w) →
      wpList Tryd.prog ops Q L a w := by
  induction l with
  | nil =>
    intro d L a w _ _ hK
    exact hK a rfl rfl (fun _ _ => rfl) (fun i x h => by simp at h)
  | cons x l ih =>
    intro d L a w hL hsz hK
    cases L with
    | nil => simp at hL
    | cons o L =>
      simp only [List.length_cons, List.take_succ_cons, List.map_cons, List.zipIdx_cons, List.cons.injEq, Prod.mk.injEq] at hL hsz
      obtain ⟨⟨h1, h2, h3⟩, h4⟩ := hL
      refine wpList_plain h3 fun K hK' => ?_
      unfold Oper.wp
      rw [hx o a w x h2]
      refine hK' _ _ ?_
      rw [h1]
      refine ih (d + 1) L (a.put (some d) (arrV x)) w h4 (by rw [size_put]; omega) fun a' p1 p2 p3 p4 => ?_
      refine hK a' (p1.trans rfl) (p2.trans (size_put _ _ _)) (fun j hj => ?_) (fun i y hi => ?_)
      · rw [p3 j (by omega), eval_put_other _ _ _ _ (by omega)]
      · cases i with
        | zero =>
          simp at hi
          subst hi
          rw [Nat.zero_add, p3 d (by omega), eval_put_same _ _ _ (by omega)]
        | succ i =>
          have := p4 i y (by simpa using hi)
          rw [show i + 1 + d = i + (d + 1) by omega]
          exact this
end

theorem exec_arr (o : Oper) (a : Act) (w : World) (x : P3) (ho : o.op = arrOp 100 x) : (execOp a.eval o).run Tryd.prog w = .ok (.value (arrV x)) w := by
  unfold arrOp at ho
  unfold execOp arrV
  simp only [ho]
  go_simp

theorem arrsU : Tryd.prog.underlying 98 = some (.slice 100) := by kernel_rfl
theorem infoArr : (Tryd.prog.info? 100).map (fun i => (i.zero, i.size, i.bytes)) = some (some (.agg #[.int .i64 0, .int .i64 0, .int .i64 0]), 3, 24) := by kernel_rfl

theorem wpList_arrs_end {ops : Array Oper} {Q : Exit → Act → World → Prop} (l : List P3) (d : Nat) (o1 o2 : Oper) (a : Act) (w : World) (g1 : o1.guard = none) (g2 : o2.guard = none)
    (ho1 : o1.op = .buildSlice 98 l.length ((List.range l.length).map fun i => (i, Operand.tmp (i + d))).toArray) (hd1 : o1.dst = some (l.length + d)) (ho2 : o2.op = .assign (.tmp (l.length + d))) (hd2 : o2.dst = some 0)
    (hρ : ∀ i x, l[i]? = some x → a.eval (.tmp (i + d)) = arrV x) (hl : l.length ≤ 100000) (hl0 : 0 < l.length) (hsz : l.length + d < a.tmps.size)
    (hK : ∀ a'' w', a''.defers = a.defers → a''.tmps.getD 0 undef = .slice (some ⟨w.heap.size, 0, none⟩) l.length l.length → w' = w.alloc (.cells (arrCells l).toArray 100) → wpList Tryd.prog ops Q [] a'' w') :
    wpList Tryd.prog ops Q [o1, o2] a w := by
  refine wpList_plain g1 fun K hK' => ?_
  unfold Oper.wp
  rw [exec_buildSlice_arrs 98 100 d l ho1 hρ 24 arrsU infoArr hl hl0]
  refine hK' _ _ (wpList_plain g2 fun K2 hK2 => ?_)
  have e2 : (execOp (a.put o1.dst (.slice (some ⟨w.heap.size, 0, none⟩) l.length l.length)).eval o2).run Tryd.prog (w.alloc (.cells (arrCells l).toArray 100)) = .ok (.value (.slice (some ⟨w.heap.size, 0, none⟩) l.length l.length)) (w.alloc (.cells (arrCells l).toArray 100)) := by
    unfold execOp
    simp only [ho2, hd1, eval_put_same _ _ _ hsz, Sem.run_bind, Sem.run_pure, Result.andThen_ok]
  unfold Oper.wp
  rw [e2]
  refine hK2 _ _ (hK _ _ ?_ ?_ rfl)
  · rw [hd1, hd2]; rfl
  · rw [hd1, hd2]
    have : 0 < (a.put (some (l.length + d)) (.slice (some ⟨w.heap.size, 0, none⟩) l.length l.length)).tmps.size := by rw [size_put]; omega
    simpa [Act.eval] using eval_put_same (a.put (some (l.length + d)) (.slice (some ⟨w.heap.size, 0, none⟩) l.length l.length)) 0 (.slice (some ⟨w.heap.size, 0, none⟩) l.length l.length) this

theorem wpList_arrs_tail {ops : Array Oper} {Q : Exit → Act → World → Prop} (l : List P3) (d : Nat) (L2 : List Oper) (a : Act) (w : World)
    (hL : L2.map (fun o => (o.dst, o.op, o.guard)) = [(some (l.length + d), .buildSlice 98 l.length ((List.range l.length).map fun i => (i, Operand.tmp (i + d))).toArray, none), (some 0, .assign (.tmp (l.length + d)), none)])
    (hρ : ∀ i x, l[i]? = some x → a.eval (.tmp (i + d)) = arrV x) (hl : l.length ≤ 100000) (hl0 : 0 < l.length) (hsz : l.length + d < a.tmps.size)
    (hK : ∀ a'' w', a''.defers = a.defers → a''.tmps.getD 0 undef = .slice (some ⟨w.heap.size, 0, none⟩) l.length l.length → w' = w.alloc (.cells (arrCells l).toArray 100) → wpList Tryd.prog ops Q [] a'' w') :
    wpList Tryd.prog ops Q L2 a w := by
  have hlen : L2.length = 2 := by have := congrArg List.length hL; simpa using this
  obtain ⟨o1, o2, rfl⟩ : ∃ o1 o2, L2 = [o1, o2] := by
    rcases L2 with _ | ⟨o1, _ | ⟨o2, _ | ⟨o3, L⟩⟩⟩ <;> simp at hlen
    exact ⟨o1, o2, rfl⟩
  simp only [List.map_cons, List.map_nil, List.cons.injEq, Prod.mk.injEq, and_true] at hL
  obtain ⟨⟨h1, h2, h3⟩, g1, g2, g3⟩ := hL
  exact wpList_arrs_end l d o1 o2 a w h3 g3 h2 h1 g2 g1 hρ hl hl0 hsz hK

/-- the body of a function that is one table of rows -/
theorem wp_arrs_fn {Q : Exit → Act → World → Prop} (l : List P3) (v0 : Value) (n0 n1 : Nat) (ops0 ops1 : Array Oper) (a : Act) (w : World)
    (h0 : ops0.toList.map (fun o => (o.dst, o.op, o.guard)) = [(some 0, .assign (.const v0), none)])
    (h1 : (ops1.toList.take l.length).map (fun o => (o.dst, o.op, o.guard)) = (l.zipIdx 1).map (fun p => (some p.2, arrOp 100 p.1, none)))
    (h2 : (ops1.toList.drop l.length).map (fun o => (o.dst, o.op, o.guard)) = [(some (l.length + 1), .buildSlice 98 l.length ((List.range l.length).map fun i => (i, Operand.tmp (i + 1))).toArray, none), (some 0, .assign (.tmp (l.length + 1)), none)])
    (hl : l.length ≤ 100000) (hl0 : 0 < l.length) (hsz : Nat.ble (l.length + 2) a.tmps.size = true)
    (hK : ∀ a'', a''.defers = a.defers → a''.tmps.getD 0 undef = .slice (some ⟨w.heap.size, 0, none⟩) l.length l.length → Q .ret a'' (w.alloc (.cells (arrCells l).toArray 100))) :
    ((Code.region n0 ops0 false).seq ((Code.region n1 ops1 false).seq Code.ret)).wp Tryd.prog Q a w := by
  have hsz' := Nat.le_of_ble_eq_true hsz
  refine wp_seq (wp_region_list ?_)
  have hlen : ops0.toList.length = 1 := by have := congrArg List.length h0; simpa using this
  obtain ⟨o, ho⟩ := List.length_eq_one_iff.1 hlen
  rw [ho] at h0 ⊢
  simp only [List.map_cons, List.map_nil, List.cons.injEq, Prod.mk.injEq, and_true] at h0
  obtain ⟨g1, g2, g3⟩ := h0
  refine wpList_plain g3 fun K hK' => ?_
  have e2 : (execOp a.eval o).run Tryd.prog w = .ok (.value v0) w := by
    unfold execOp
    simp only [g2, Act.eval, Sem.run_pure]
  unfold Oper.wp
  rw [e2]
  refine hK' _ _ ?_
  rw [g1]
  refine wpList_nil ?_
  show Code.wp _ _ _ _ _
  refine wp_seq (wp_region_list ?_)
  refine wpList_arrs 100 exec_arr l 1 _ _ _ h1 (by rw [size_put]; omega) ?_
  intro a' p1 p2 p3 p4
  refine wpList_arrs_tail l 1 _ a' _ h2 p4 hl hl0 (by rw [p2, size_put]; omega) ?_
  rintro a'' w' q1 q2 rfl
  exact wpList_nil (wp_ret (hK a'' (q1.trans p1) q2))

/-- a table's rows in memory -/
def ArrsAt (w : World) (n₀ : Nat) (v : Value) (l : List P3) : Prop :=
  ∃ b, v = .slice (some ⟨b, 0, none⟩) l.length l.length ∧ b < n₀ ∧ ∀ (j : Nat) (x : P3), l[j]? = some x →
    w.cell? ⟨b, j * 3, none⟩ = some (.int .i64 x.lo) ∧ w.cell? ⟨b, j * 3 + 1, none⟩ = some (.int .i64 x.hi) ∧ w.cell? ⟨b, j * 3 + 2, none⟩ = some (.int .i64 x.v)
theorem ArrsAt.mono {w : World} {n₀ n₁ : Nat} {v : Value} {l : List P3} (h : ArrsAt w n₀ v l) (hn : n₀ ≤ n₁) : ArrsAt w n₁ v l := by
  obtain ⟨b, h1, h2, h3⟩ := h
  exact ⟨b, h1, by omega, h3⟩
theorem ArrsAt.below {w w' : World} {n₀ N : Nat} {v : Value} {l : List P3} (h : ArrsAt w n₀ v l) (hb : Below N w w') (hN : n₀ ≤ N) : ArrsAt w' n₀ v l := by
  obtain ⟨b, h1, h2, h3⟩ := h
  refine ⟨b, h1, h2, fun j x hx => ?_⟩
  obtain ⟨c0, c1, c2⟩ := h3 j x hx
  have hbN : b < N := by omega
  exact ⟨(hb.cell (p := ⟨b, _, none⟩) hbN).trans c0, (hb.cell (p := ⟨b, _, none⟩) hbN).trans c1, (hb.cell (p := ⟨b, _, none⟩) hbN).trans c2⟩
theorem arrCells_get (l : List P3) : ∀ (j : Nat) (x : P3), l[j]? = some x →
    (arrCells l)[j * 3]? = some (.int .i64 x.lo) ∧ (arrCells l)[j * 3 + 1]? = some (.int .i64 x.hi) ∧ (arrCells l)[j * 3 + 2]? = some (.int .i64 x.v) := by
  induction l with
  | nil => intro j x h; simp at h
  | cons y l ih =>
    intro j x h
    cases j with
    | zero => simp at h; subst h; exact ⟨rfl, rfl, rfl⟩
    | succ j =>
      have := ih j x (by simpa using h)
      rw [show (j + 1) * 3 = j * 3 + 3 by omega]
      exact this
theorem ArrsAt.of_cells (w : World) (l : List P3) (t : TypeId) : ArrsAt (w.alloc (.cells (arrCells l).toArray t)) (w.alloc (.cells (arrCells l).toArray t)).heap.size (.slice (some ⟨w.heap.size, 0, none⟩) l.length l.length) l := by
  refine ⟨w.heap.size, rfl, by simp, fun j x hx => ?_⟩
  obtain ⟨c0, c1, c2⟩ := arrCells_get l j x hx
  have h3 := heap_alloc_new w (.cells (arrCells l).toArray t)
  refine ⟨?_, ?_, ?_⟩ <;> rw [cell_of_row _ _ _ _ _ _ h3]
  · simpa using c0
  · simpa using c1
  · simpa using c2

set_option maxRecDepth 100000 in
set_option maxHeartbeats 1000000 in
theorem rcluster_any (w : World) : Calls Tryd.prog 109 #[] w fun e w' => ∃ v, e = .returned v ∧ ArrsAt w' w'.heap.size v rowsC ∧ Below w.heap.size w w' := by
  have hlen : rowsC.length = 62 := by decide +kernel
  go_enter Tryd.func109, Tryd.ntmps109
  refine wp_arrs_fn rowsC (.slice none 0 0) _ _ _ _ _ w (by kernel_rfl) (by kernel_rfl) (by kernel_rfl) (by rw [hlen]; decide) (by rw [hlen]; decide) (by kernel_rfl) fun a'' q1 q2 => ?_
  refine bodyPost_ret (results_tmp rfl _ _ _) (q1.trans rfl) ?_
  rw [q2]
  exact ⟨_, rfl, ArrsAt.of_cells w rowsC _, (Below.refl _ _).alloc (Nat.le_refl _) _⟩

set_option maxRecDepth 100000 in
set_option maxHeartbeats 1000000 in
theorem rword_any (w : World) : Calls Tryd.prog 110 #[] w fun e w' => ∃ v, e = .returned v ∧ ArrsAt w' w'.heap.size v rowsW ∧ Below w.heap.size w w' := by
  have hlen : rowsW.length = 129 := by decide +kernel
  go_enter Tryd.func110, Tryd.ntmps110
  refine wp_arrs_fn rowsW (.slice none 0 0) _ _ _ _ _ w (by kernel_rfl) (by kernel_rfl) (by kernel_rfl) (by rw [hlen]; decide) (by rw [hlen]; decide) (by kernel_rfl) fun a'' q1 q2 => ?_
  refine bodyPost_ret (results_tmp rfl _ _ _) (q1.trans rfl) ?_
  rw [q2]
  exact ⟨_, rfl, ArrsAt.of_cells w rowsW _, (Below.refl _ _).alloc (Nat.le_refl _) _⟩

set_option maxRecDepth 100000 in
set_option maxHeartbeats 1000000 in
theorem rscript_any (w : World) : Calls Tryd.prog 111 #[] w fun e w' => ∃ v, e = .returned v ∧ ArrsAt w' w'.heap.size v rowsS ∧ Below w.heap.size w w' := by
  have hlen : rowsS.length = 24 := by decide +kernel
  go_enter Tryd.func111, Tryd.ntmps111
  refine wp_arrs_fn rowsS (.slice none 0 0) _ _ _ _ _ w (by kernel_rfl) (by kernel_rfl) (by kernel_rfl) (by rw [hlen]; decide) (by rw [hlen]; decide) (by kernel_rfl) fun a'' q1 q2 => ?_
  refine bodyPost_ret (results_tmp rfl _ _ _) (q1.trans rfl) ?_
  rw [q2]
  exact ⟨_, rfl, ArrsAt.of_cells w rowsS _, (Below.refl _ _).alloc (Nat.le_refl _) _⟩

set_option maxRecDepth 100000 in
set_option maxHeartbeats 1000000 in
theorem rpicto_any (w : World) : Calls Tryd.prog 112 #[] w fun e w' => ∃ v, e = .returned v ∧ ArrsAt w' w'.heap.size v rowsP ∧ Below w.heap.size w w' := by
  have hlen : rowsP.length = 66 := by decide +kernel
  go_enter Tryd.func112, Tryd.ntmps112
  refine wp_arrs_fn rowsP (.slice none 0 0) _ _ _ _ _ w (by kernel_rfl) (by kernel_rfl) (by kernel_rfl) (by rw [hlen]; decide) (by rw [hlen]; decide) (by kernel_rfl) fun a'' q1 q2 => ?_
  refine bodyPost_ret (results_tmp rfl _ _ _) (q1.trans rfl) ?_
  rw [q2]
  exact ⟨_, rfl, ArrsAt.of_cells w rowsP _, (Below.refl _ _).alloc (Nat.le_refl _) _⟩

/-- the rows of a table by its number -/
def tabOf (k : Int) : List P3 := if k = 0 then rowsC else if k = 1 then rowsW else if k = 2 then rowsS else rowsP

set_option maxRecDepth 100000 in
set_option maxHeartbeats 1000000 in
theorem rrows_any (w : World) (k : Int) : Calls Tryd.prog 90 #[.int .i64 k] w fun e w' => ∃ v, e = .returned v ∧ ArrsAt w' w'.heap.size v (tabOf k) ∧ Below w.heap.size w w' := by
  by_cases h0 : k = 0
  · subst h0
    rw [show tabOf 0 = rowsC from if_pos rfl]
    go_enter Tryd.func90, Tryd.ntmps90
    go_wp2_with (go_at_call 109; refine (rcluster_any _).mono ?_; rintro e w1 ⟨v, rfl, hv, hb⟩)
    go_ret
    exact ⟨_, rfl, hv, hb⟩
  by_cases h1 : k = 1
  · subst h1
    rw [show tabOf 1 = rowsW from (if_neg (by decide)).trans (if_pos rfl)]
    go_enter Tryd.func90, Tryd.ntmps90
    go_wp2_with (go_at_call 110; refine (rword_any _).mono ?_; rintro e w1 ⟨v, rfl, hv, hb⟩)
    go_ret
    exact ⟨_, rfl, hv, hb⟩
  by_cases h2 : k = 2
  · subst h2
    rw [show tabOf 2 = rowsS from (if_neg (by decide)).trans ((if_neg (by decide)).trans (if_pos rfl))]
    go_enter Tryd.func90, Tryd.ntmps90
    go_wp2_with (go_at_call 111; refine (rscript_any _).mono ?_; rintro e w1 ⟨v, rfl, hv, hb⟩)
    go_ret
    exact ⟨_, rfl, hv, hb⟩
  · rw [show tabOf k = rowsP from (if_neg h0).trans ((if_neg h1).trans (if_neg h2))]
    have g0 : (k == 0) = false := by simpa using h0
    have g1 : (k == 1) = false := by simpa using h1
    have g2 : (k == 2) = false := by simpa using h2
    clear h0 h1 h2
    go_enter Tryd.func90, Tryd.ntmps90
    go_wp2_with (go_at_call 112; refine (rpicto_any _).mono ?_; rintro e w1 ⟨v, rfl, hv, hb⟩)
    go_ret
    exact ⟨_, rfl, hv, hb⟩

end Go.Proofs.YtpaijpdmeiagfaaDoor

namespace Go.Proofs.YtpaijpdmeiagfaaDoor
open Go Go.RowKit Go.WideMaps Go.Proofs.Kk Go.Proofs.Tm Go.Proofs.Gg
theorem wrap_u8' (r : Int) (h0 : 0 ≤ r) (h1 : r ≤ 255) : IntKind.u8.wrap r = r := by simp [IntKind.wrap, IntKind.bits, IntKind.signed]; omega

set_option maxRecDepth 100000 in
set_option maxHeartbeats 2000000 in
theorem rprops_walk (w : World) (k : Int) (l : List P3) (hl : Hid (tabOf k = l)) (hln : l.length ≤ 1000) (hv : Hid (∀ x ∈ l, 0 ≤ x.v ∧ x.v ≤ 255)) :
    Calls Tryd.prog 61 #[.int .i64 k] w fun e w' => ∃ v, e = .returned v ∧ w'.ownsRow w.heap.size 68 3 v l.length (propCells l) ∧ Below w.heap.size w w' := by
  obtain ⟨i0, hi, hz0, hz1, hz2⟩ := info_parts infoProp
  have hiH := Lib.hid hi
  have hz0H := Lib.hid hz0
  have hz1H := Lib.hid hz1
  have hz2H := Lib.hid hz2
  clear hi hz0 hz1 hz2
  go_enter Tryd.func61, Tryd.ntmps61
  go_wp2_with (go_at_call 90; refine (rrows_any _ k).mono ?_; rw [hl.out]; rintro e w1 ⟨v, rfl, hv1, hb1⟩; obtain ⟨b, rfl, hbl, hcell⟩ := hv1; have hcH := Lib.hid hcell; clear hcell)
  go_loopw [4, 5] (fun vo vi wr => ∃ j : Nat, j ≤ l.length ∧ vi = .int .i64 j ∧ wr.ownsRow w1.heap.size 68 3 vo j (propCells (l.take j)) ∧ Below w1.heap.size w1 wr) (fun _ vi _ => l.length - (intOf vi).toNat)
  case atStart => exact ⟨0, by omega, rfl, World.ownsRow_nil _ _ _ _, Below.refl _ _⟩
  case round =>
    obtain ⟨j, hj, rfl, hrow, hb⟩ := hrel
    by_cases hlt : j < l.length
    · have hlt1 : (j : Int) < l.length := by omega
      obtain ⟨x, hx⟩ : ∃ x, l[j]? = some x := ⟨_, List.getElem?_eq_getElem hlt⟩
      obtain ⟨c0, c1, c2⟩ := hcH.out j x hx
      have hx0 := (hv.out x (List.mem_of_getElem? hx)).1
      have hx1 := (hv.out x (List.mem_of_getElem? hx)).2
      have c0 := (hb.cell (p := ⟨b, _, none⟩) hbl).trans c0
      have c1 := (hb.cell (p := ⟨b, _, none⟩) hbl).trans c1
      have c2 := (hb.cell (p := ⟨b, _, none⟩) hbl).trans c2
      have hwr := wrap_u8' x.v hx0 hx1
      have hx' := hx
      have hsn : propCells (l.take (j + 1)) = propCells (l.take j) ++ [.int .i64 x.lo, .int .i64 x.hi, .int .u8 x.v] := by
        rw [List.take_add_one, hx']
        simp [propCells]
      have hsnH := Lib.hid hsn
      clear hsn hx'
      obtain ⟨v4, w4, hrun, hown4, hg4, _, hat4⟩ := run_append_own_at (P := Tryd.prog) (w := wr.drew.alloc (.cells #[.int .i64 x.lo, .int .i64 x.hi, .int .u8 x.v] 68)) w1.heap.size 65 65 68 i0 _ 3 24 propsU hiH.out hz0H.out hz1H.out hz2H.out rfl (by decide) _ _ _ ((show wr.drew.ownsRow w1.heap.size 68 3 _ _ _ from hrow).alloc _) ⟨wr.heap.size, 0, none⟩ 1 1 [.int .i64 x.lo, .int .i64 x.hi, .int .u8 x.v] rfl
        (by
          intro q u hq
          have h0 := heap_alloc_new wr.drew (.cells #[.int .i64 x.lo, .int .i64 x.hi, .int .u8 x.v] 68)
          rw [Addr.add_lit]
          show World.cell? _ ⟨wr.drew.heap.size, _, none⟩ = _
          rw [cell_of_row _ _ _ _ _ _ h0, Nat.zero_add]
          simpa using hq)
        (by simp [Value.oneCell']) (by unfold maxLen; omega) (by omega) (by have := hb.size; simp; omega)
      have hB4 : Below w1.heap.size w1 w4 := below_grown ((hb.drew).alloc hb.size _) ((show wr.drew.ownsRow w1.heap.size 68 3 _ _ _ from hrow).alloc _) hg4 (Nat.le_refl _) (by have := hb.size; simp; omega)
      have hBa : Below w1.heap.size w1 (wr.drew.alloc (.cells #[.int .i64 x.lo, .int .i64 x.hi, .int .u8 x.v] 68)) := (hb.drew).alloc hb.size _
      have hct := hcH.out j x hx
      obtain ⟨d0, d1, d2⟩ := hct
      have a0 := (hBa.cell (p := ⟨b, _, none⟩) hbl).trans d0
      have a1 := (hBa.cell (p := ⟨b, _, none⟩) hbl).trans d1
      have a2 := (hBa.cell (p := ⟨b, _, none⟩) hbl).trans d2
      have e0 := (hB4.cell (p := ⟨b, _, none⟩) hbl).trans d0
      have e1 := (hB4.cell (p := ⟨b, _, none⟩) hbl).trans d1
      have e2 := (hB4.cell (p := ⟨b, _, none⟩) hbl).trans d2
      clear d0 d1 d2 hx
      have hrunH := Lib.hid hrun
      clear hrun
      go_wp2
      refine wp_region_G [[(true,0),(true,1),(true,2),(true,3),(true,4),(true,5),(true,6),(true,7),(true,8),(true,9),(true,10),(true,11),(true,12),(true,13),(true,14),(true,15),(true,16),(true,17),(false,18),(false,19),(true,20)]] (by kernel_rfl) (by kernel_rfl) (by kernel_rfl) (by decide) (fun c a d v w h => by cases d <;> exact h) ?_
      refine wpGs_seg (fun w' => w'.cell? ⟨b, j * 3, none⟩ = some (.int .i64 x.lo) ∧ w'.cell? ⟨b, j * 3 + 1, none⟩ = some (.int .i64 x.hi) ∧ w'.cell? ⟨b, j * 3 + 2, none⟩ = some (.int .i64 x.v)) ⟨c0, c1, c2⟩ ?_
      iterate 18 refine wpG_q rfl rfl (fun w' hS => by have hS0 := hS.1; have hS1 := hS.2.1; have hS2 := hS.2.2; go_simp; rfl) (by go_simp; rfl) ?_
      refine wpG_er (fun w' => w'.cell? ⟨b, j * 3, none⟩ = some (.int .i64 x.lo) ∧ w'.cell? ⟨b, j * 3 + 1, none⟩ = some (.int .i64 x.hi) ∧ w'.cell? ⟨b, j * 3 + 2, none⟩ = some (.int .i64 x.v)) rfl rfl (exec_buildSlice_one 65 68 (.tmp 31) rfl #[.int .i64 x.lo, .int .i64 x.hi, .int .u8 x.v] (by rfl) _ _ _ propsU infoProp (by rfl) (by decide) (by decide)) (by go_simp; rfl) (fun w h => h) ⟨a0, a1, a2⟩ ?_
      refine wpG_er (fun w' => w'.cell? ⟨b, j * 3, none⟩ = some (.int .i64 x.lo) ∧ w'.cell? ⟨b, j * 3 + 1, none⟩ = some (.int .i64 x.hi) ∧ w'.cell? ⟨b, j * 3 + 2, none⟩ = some (.int .i64 x.v)) rfl rfl (exec_append (.tmp 14) (.tmp 32) 65 rfl (by rfl) (by rfl) hrunH.out) (by go_simp; rfl) (fun w h => h) ⟨e0, e1, e2⟩ ?_
      refine wpG_q rfl rfl (fun w' hS => by go_simp; rfl) (by go_simp; rfl) ?_
      refine wpG_nil (wpGs_nil ?_)
      go_wp2
      go_roundw
      case rel => exact ⟨j + 1, by omega, by go_num, by rw [hsnH.out]; exact hown4, below_grown ((hb.drew).alloc hb.size _) ((show wr.drew.ownsRow w1.heap.size 68 3 _ _ _ from hrow).alloc _) hg4 (Nat.le_refl _) (by have := hb.size; simp; omega)⟩
      case measure => simp [intOf]; omega
    · obtain rfl : j = l.length := by omega
      rw [List.take_length] at hrow
      clear hlt hj
      go_wp2
      go_ret
      exact ⟨_, rfl, ownsRow_base hrow hb1.size, hb1.trans (hb.mono hb1.size)⟩
end Go.Proofs.YtpaijpdmeiagfaaDoor

namespace Go.Proofs.YtpaijpdmeiagfaaDoor
open Go Go.RowKit Go.WideMaps Go.Proofs.Kk Go.Proofs.Tm Go.Proofs.Gg

theorem tabOf_cases (p : List P3 → Prop) (h0 : p rowsC) (h1 : p rowsW) (h2 : p rowsS) (h3 : p rowsP) (k : Int) : p (tabOf k) := by
  unfold tabOf
  split
  · exact h0
  · split
    · exact h1
    · split
      · exact h2
      · exact h3
theorem tabOf_len (k : Int) : (tabOf k).length ≤ 1000 := tabOf_cases (fun l => l.length ≤ 1000) (by decide +kernel) (by decide +kernel) (by decide +kernel) (by decide +kernel) k
theorem tabOf_fit (k : Int) : Fits (tabOf k) := tabOf_cases Fits rowsC_fit rowsW_fit rowsS_fit rowsP_fit k
theorem tabOf_odd (k : Int) : Hid ((tabOf k).any oddB = false) := tabOf_cases (fun l => Hid (l.any oddB = false)) rowsC_odd rowsW_odd rowsS_odd rowsP_odd k
theorem tabOf_few (k : Int) : (tdOf (pval (tabOf k))).F.length ≤ 256 := tabOf_cases (fun l => (tdOf (pval l)).F.length ≤ 256) rowsC_few rowsW_few rowsS_few rowsP_few k
theorem tabOf_vals (k : Int) : ∀ x ∈ tabOf k, 0 ≤ x.v ∧ x.v ≤ 255 :=
  tabOf_cases (fun l => ∀ x ∈ l, 0 ≤ x.v ∧ x.v ≤ 255) (fun x h => by have := rowsC_in x h; omega) (fun x h => by have := rowsW_in x h; omega) (fun x h => by have := rowsS_in x h; omega) (fun x h => by have := rowsP_in x h; omega) k
theorem tabOf_fval (k r : Int) : fval (tabOf k) r = pval (tabOf k) r :=
  tabOf_cases (fun l => fval l r = pval l r) (fval_pval rowsC_rise r) (fval_pval rowsW_rise r) (fval_pval rowsS_rise r) (fval_pval rowsP_rise r) k
theorem tabOf_val (k r : Int) : (tdOf (pval (tabOf k))).val r = pval (tabOf k) r :=
  tabOf_cases (fun l => (tdOf (pval l)).val r = pval l r) (val_of rowsC_in rfl r) (val_of rowsW_in rfl r) (val_of rowsS_in rfl r) (val_of rowsP_in rfl r) k

theorem rprops_any (w : World) (k : Int) : Calls Tryd.prog 61 #[.int .i64 k] w fun e w' => ∃ v, e = .returned v ∧ PropsAt w' w'.heap.size v (tabOf k) ∧ Below w.heap.size w w' :=
  (rprops_walk w k (tabOf k) rfl (tabOf_len k) (tabOf_vals k)).mono fun e w' ⟨v, he, hrow, hb⟩ => ⟨v, he, PropsAt.of_own hrow (by have := tabOf_len k; omega) (tabOf_fit k), hb⟩

theorem fval_step {l : List P3} {k : Nat} {x : P3} (h : l[k]? = some x) (r : Int) : fval (l.drop k) r = if x.lo ≤ r ∧ r ≤ x.hi then x.v else fval (l.drop (k + 1)) r := by
  obtain ⟨h1, h2⟩ := List.getElem?_eq_some_iff.1 h
  rw [List.drop_eq_getElem_cons h1, h2]
  rfl

set_option maxRecDepth 100000 in
set_option maxHeartbeats 2000000 in
theorem rvalue_walk (w : World) (k r : Int) (l : List P3) (hl : Hid (tabOf k = l)) (hln : l.length ≤ 1000) :
    Calls Tryd.prog 30 #[.int .i64 k, .int .i64 r] w fun e w' => e = .returned (.int .i64 (fval l r)) ∧ Below w.heap.size w w' := by
  obtain ⟨y, hy⟩ : ∃ y, fval l r = y := ⟨_, rfl⟩
  rw [hy]
  have hyH := Lib.hid hy
  clear hy
  go_enter Tryd.func30, Tryd.ntmps30
  go_wp2_with (go_at_call 61; refine (rprops_any _ k).mono ?_; rw [hl.out]; rintro e w1 ⟨v, rfl, hP, hb1⟩; have hPH := Lib.hid hP; obtain ⟨ao, c, rfl, _⟩ := hP)
  go_loopw [6] (fun vi wr => ∃ j : Nat, j ≤ l.length ∧ vi = .int .i64 j ∧ Hid (fval (l.drop j) r = y) ∧ ∃ n', wr = w1.drewN n') (fun vi _ => l.length - (intOf vi).toNat)
  case atStart => exact ⟨0, by omega, rfl, hyH, 0, rfl⟩
  case round =>
    obtain ⟨j, hj, rfl, hq, n', rfl⟩ := hrel
    by_cases hlt : j < l.length
    · have hlt1 : (j : Int) < l.length := by omega
      have hj0 : (0 : Int) ≤ j := by omega
      have hP := hPH.out
      obtain ⟨ao', c', hv, _, hfit, hP⟩ := hP
      obtain ⟨b, off, ha, hbn, hc⟩ := hP (by intro e; rw [e] at hlt; simp at hlt)
      cases hv
      subst ha
      have hx : l[j]? = some l[j] := by simp [hlt]
      obtain ⟨c0, c1, c2⟩ := hc j l[j] hx
      have hst := fval_step hx r
      have hvr := hfit l[j] (List.getElem_mem hlt)
      clear hc hP hx hfit
      generalize l[j] = x at c0 c1 c2 hst hvr
      have hstH := Lib.hid hst
      clear hst
      by_cases g1 : x.lo ≤ r
      · by_cases g2 : r ≤ x.hi
        · have hq' : Hid (x.v = y) := by
            have := hq.out
            rw [hstH.out, if_pos ⟨g1, g2⟩] at this
            exact this
          have hv0 := hvr.2.2.2.2.1
          have hv1 := hvr.2.2.2.2.2
          clear hq hstH hvr
          go_wp2
          go_ret
          exact ⟨by rw [hq'.out]; rfl, below_drewN hb1 _⟩
        · have hq' : Hid (fval (l.drop (j + 1)) r = y) := by
            have := hq.out
            rw [hstH.out, if_neg (fun h => g2 h.2)] at this
            exact this
          have g3 : x.hi < r := by omega
          clear hq hstH hvr g2
          go_wp2
          go_roundw
          case rel => exact ⟨j + 1, by omega, by go_num, hq', _, rfl⟩
          case measure => simp [intOf]; omega
      · have hq' : Hid (fval (l.drop (j + 1)) r = y) := by
          have := hq.out
          rw [hstH.out, if_neg (fun h => g1 h.1)] at this
          exact this
        have g3 : r < x.lo := by omega
        clear hq hstH hvr g1
        go_wp2
        go_roundw
        case rel => exact ⟨j + 1, by omega, by go_num, hq', _, rfl⟩
        case measure => simp [intOf]; omega
    · obtain rfl : j = l.length := by omega
      have hq' : Hid (0 = y) := by
        have := hq.out
        rw [List.drop_eq_nil_of_le (Nat.le_refl _)] at this
        exact this
      clear hq hlt hj
      go_wp2
      go_ret
      exact ⟨by rw [← hq'.out]; rfl, below_drewN hb1 _⟩

/-- the document's value of a number in a table -/
theorem rvalue_any (w : World) (k r : Int) : Calls Tryd.prog 30 #[.int .i64 k, .int .i64 r] w fun e w' => e = .returned (.int .i64 (pval (tabOf k) r)) ∧ Below w.heap.size w w' := by
  rw [← tabOf_fval]
  exact rvalue_walk w k r (tabOf k) rfl (tabOf_len k)
end Go.Proofs.YtpaijpdmeiagfaaDoor

namespace Go.Proofs.YtpaijpdmeiagfaaDoor
open Go Go.RowKit Go.WideMaps Go.Proofs.Kk Go.Proofs.Tm Go.Proofs.Gg

/-- the document's data in memory, being filled: the first k of its four tries -/
structure RPart (w : World) (n₀ D : Nat) (Ts : List TD) (ps : List Value) : Prop where
  row : w.heap[D]? = some (.cells ps.toArray 74 (0, 0))
  len : ps.length = 4
  few : Ts.length ≤ 4
  ptr : ∀ v ∈ ps, ∃ a, v = Value.pointer a
  at_ : ∀ (j : Nat) (T : TD), Ts[j]? = some T → ∃ B, ps[j]? = some (Value.pointer (some ⟨B, 0, none⟩)) ∧ RefAt w n₀ B T
theorem RPart.below {w w' : World} {n₀ D N : Nat} {Ts : List TD} {ps : List Value} (h : RPart w n₀ D Ts ps) (hb : Below N w w') (hN : n₀ ≤ N) (hD : D < N) : RPart w' n₀ D Ts ps :=
  ⟨(hb.block D hD).trans h.row, h.len, h.few, h.ptr, fun j T hT => by obtain ⟨B, h1, h2⟩ := h.at_ j T hT; exact ⟨B, h1, h2.below hb hN⟩⟩
theorem RPart.mono {w : World} {n₀ n₁ D : Nat} {Ts : List TD} {ps : List Value} (h : RPart w n₀ D Ts ps) (hn : n₀ ≤ n₁) : RPart w n₁ D Ts ps :=
  ⟨h.row, h.len, h.few, h.ptr, fun j T hT => by obtain ⟨B, h1, h2⟩ := h.at_ j T hT; exact ⟨B, h1, h2.mono hn⟩⟩
theorem RPart.heap {w w' : World} {n₀ D : Nat} {Ts : List TD} {ps : List Value} (h : RPart w n₀ D Ts ps) (hw : w'.heap = w.heap) : RPart w' n₀ D Ts ps :=
  ⟨by rw [hw]; exact h.row, h.len, h.few, h.ptr, fun j T hT => by obtain ⟨B, h1, h2⟩ := h.at_ j T hT; exact ⟨B, h1, h2.heap hw⟩⟩

/-- the document's data in memory: the tries of a list -/
def RDataAt (w : World) (n₀ D : Nat) (Ts : List TD) : Prop := D < n₀ ∧ Ts.length = 4 ∧ ∃ ps, RPart w n₀ D Ts ps
theorem RDataAt.below {w w' : World} {n₀ D N : Nat} {Ts : List TD} (h : RDataAt w n₀ D Ts) (hb : Below N w w') (hN : n₀ ≤ N) : RDataAt w' n₀ D Ts := by
  obtain ⟨h1, h2, ps, h⟩ := h
  exact ⟨h1, h2, ps, h.below hb hN (by omega)⟩
theorem RDataAt.mono {w : World} {n₀ n₁ D : Nat} {Ts : List TD} (h : RDataAt w n₀ D Ts) (hn : n₀ ≤ n₁) : RDataAt w n₁ D Ts := by
  obtain ⟨h1, h2, ps, h⟩ := h
  exact ⟨by omega, h2, ps, h.mono hn⟩
theorem RDataAt.heap {w w' : World} {n₀ D : Nat} {Ts : List TD} (h : RDataAt w n₀ D Ts) (hw : w'.heap = w.heap) : RDataAt w' n₀ D Ts := by
  obtain ⟨h1, h2, ps, h⟩ := h
  exact ⟨h1, h2, ps, h.heap hw⟩
theorem RDataAt.trie {w : World} {n₀ D : Nat} {Ts : List TD} (h : RDataAt w n₀ D Ts) (j : Nat) (T : TD) (hT : Ts[j]? = some T) : ∃ B, w.cell? ⟨D, j, none⟩ = some (.pointer (some ⟨B, 0, none⟩)) ∧ RefAt w n₀ B T := by
  obtain ⟨h1, h2, ps, hr, hl, hf, hp, ha⟩ := h
  obtain ⟨B, hp, hR⟩ := ha j T hT
  exact ⟨B, by rw [cell_of_row _ _ _ _ _ _ hr]; simpa using hp, hR⟩

/-- a trie does not lie where pointers alone lie -/
theorem RefAt.other {w w' : World} {n₀ B D : Nat} {T : TD} {cs : List Value} {t : TypeId} (h : RefAt w n₀ B T) (hD : w.heap[D]? = some (.cells cs.toArray t (0, 0))) (hp : ∀ v ∈ cs, ∃ a, v = Value.pointer a)
    (hw : ∀ k, k ≠ D → w'.heap[k]? = w.heap[k]?) : RefAt w' n₀ B T := by
  have hat : ∀ i v, w.cell? ⟨D, i, none⟩ = some v → ∃ a, v = Value.pointer a := by
    intro i v hv
    rw [cell_of_row _ _ _ _ _ _ hD] at hv
    exact hp v (by have := Array.mem_of_getElem? hv; simpa using this)
  obtain ⟨hlt, hl, hps, hf, hbk, hsr, v1, g2, c2, h1, h2, h3, h4, h5, h6⟩ := h
  have hfl := flatten_len (fun c hc => (hbk c hc).len)
  have nB : B ≠ D := by
    rintro rfl
    obtain ⟨a, ha⟩ := hat 1 (.slice (some ⟨g2, 0, none⟩) 4352 c2) (by rw [cell_of_row _ _ _ _ _ _ h1]; rfl)
    cases ha
  have n2 : g2 ≠ D := by
    rintro rfl
    obtain ⟨a, ha⟩ := hat 0 _ (h6 0 (by omega))
    cases ha
  refine ⟨hlt, hl, hps, hf, hbk, hsr, v1, g2, c2, (hw B nB).trans h1, h2, ?_, h4, h5, fun i hi => (World.cell?_of_block (w := w) (hw g2 n2)).trans (h6 i hi)⟩
  obtain ⟨ao, c, e1, e2, e3, e4, e5⟩ := h3
  refine ⟨ao, c, e1, e2, e3, e4, ?_⟩
  rcases e5 with ⟨_, e5, _⟩ | ⟨b, off, e6, e7, e8⟩
  · rw [e5] at hfl; simp at hfl; omega
  · refine .inr ⟨b, off, e6, e7, fun j x hx => ?_⟩
    have nb : b ≠ D := by
      rintro rfl
      obtain ⟨a, ha⟩ := hat _ _ (e8 j x hx)
      cases ha
    exact (World.cell?_of_block (w := w) (hw b nb)).trans (e8 j x hx)

/-- one trie more is put into the data -/
theorem RPart.put {W : World} {n₀ D B : Nat} {Ts : List TD} {ps : List Value} {T : TD} (h : RPart W n₀ D Ts ps) (hT : RefAt W n₀ B T) (hk : Ts.length < 4) :
    RPart (W.setCell ⟨D, Ts.length, none⟩ (.pointer (some ⟨B, 0, none⟩))) n₀ D (Ts ++ [T]) (ps.set Ts.length (.pointer (some ⟨B, 0, none⟩))) := by
  have hw : ∀ k, k ≠ D → (W.setCell ⟨D, Ts.length, none⟩ (.pointer (some ⟨B, 0, none⟩))).heap[k]? = W.heap[k]? := fun k hk => heap_setCell_other _ _ _ _ hk
  refine ⟨?_, by rw [List.length_set]; exact h.len, by simp; omega, ?_, ?_⟩
  · rw [heap_setCell_same _ _ _ _ _ _ h.row]; simp
  · intro v hv
    rcases List.mem_or_eq_of_mem_set hv with hv | rfl
    · exact h.ptr v hv
    · exact ⟨_, rfl⟩
  · intro j U hU
    rcases Nat.lt_trichotomy j Ts.length with hj | hj | hj
    · rw [List.getElem?_append_left hj] at hU
      obtain ⟨B', h1, h2⟩ := h.at_ j U hU
      exact ⟨B', by rw [List.getElem?_set_ne (by omega)]; exact h1, h2.other h.row h.ptr hw⟩
    · subst hj
      simp at hU
      subst hU
      exact ⟨B, by rw [List.getElem?_set_self (by rw [h.len]; exact hk)], hT.other h.row h.ptr hw⟩
    · rw [List.getElem?_eq_none (by simp; omega)] at hU; cases hU
theorem RPart.cell {w : World} {n₀ D : Nat} {Ts : List TD} {ps : List Value} (h : RPart w n₀ D Ts ps) (k : Nat) (hk : k < 4) : ∃ a, w.cell? ⟨D, k, none⟩ = some (Value.pointer a) := by
  have hl : k < ps.length := by rw [h.len]; exact hk
  obtain ⟨a, ha⟩ := h.ptr ps[k] (List.getElem_mem hl)
  exact ⟨a, by rw [cell_of_row _ _ _ _ _ _ h.row, ← ha]; simp [hl]⟩
theorem RPart.free {w : World} {n₀ D : Nat} {Ts : List TD} {ps : List Value} (h : RPart w n₀ D Ts ps) (k : Nat) : w.frozen? ⟨D, k, none⟩ = false := frozen_of_row _ _ _ _ _ h.row
theorem RPart.start (w : World) : RPart (w.alloc (.cells #[.pointer none, .pointer none, .pointer none, .pointer none] 74)) (w.heap.size + 1) w.heap.size [] [.pointer none, .pointer none, .pointer none, .pointer none] :=
  ⟨heap_alloc_new w _, rfl, by simp, by simp, by simp⟩

/-- the document's shipped data -/
noncomputable def shipI (i : Nat) : TD := tdOf (pval (tabOf (i : Int)))
noncomputable def shipR : List TD := (List.range 4).map shipI
theorem shipR_eq : shipR = [tdOf (pval rowsC), tdOf (pval rowsW), tdOf (pval rowsS), tdOf (pval rowsP)] := rfl

theorem rbuilt_any (v : Value) (l : List P3) (w : World) (h : PropsAt w w.heap.size v l) (hl : l.length ≤ 4096) (ho : Hid (l.any oddB = false)) (T : TD) (hT : Hid (T = tdOf (pval l))) (hF : Hid (T.F.length ≤ 256)) :
    Calls Tryd.prog 64 #[v] w fun e w' => ∃ B, e = .returned (.tuple #[.pointer (some ⟨B, 0, none⟩), .int .i64 0]) ∧ RefAt w' w'.heap.size B T ∧ Below w.heap.size w w' :=
  (rbuild_any v l w h hl T hT hF).mono fun e w' ⟨h1, hb⟩ => by
    rcases h1 with ⟨h1, _⟩ | ⟨_, B, he, hR⟩
    · rw [ho.out] at h1; cases h1
    · exact ⟨B, he, hR, hb⟩
theorem shipI_few (k : Nat) : Hid ((shipI k).F.length ≤ 256) := tabOf_few k

set_option maxRecDepth 100000 in
set_option maxHeartbeats 2000000 in
theorem rnew_any (w : World) : Calls Tryd.prog 36 #[] w fun e w' => ∃ D, e = .returned (.pointer (some ⟨D, 0, none⟩)) ∧ RDataAt w' w'.heap.size D shipR ∧ Below w.heap.size w w' := by
  have hst := RPart.start w
  have hbs : Below w.heap.size w (w.alloc (.cells #[.pointer none, .pointer none, .pointer none, .pointer none] 74)) := (Below.refl _ w).alloc (Nat.le_refl _) _
  have hsz : (w.alloc (.cells #[.pointer none, .pointer none, .pointer none, .pointer none] 74)).heap.size = w.heap.size + 1 := by simp
  go_enter Tryd.func36, Tryd.ntmps36
  go_wp2
  generalize w.alloc (.cells #[.pointer none, .pointer none, .pointer none, .pointer none] 74) = W0 at hst hbs hsz ⊢
  obtain ⟨D, hD⟩ : ∃ D, D = w.heap.size := ⟨_, rfl⟩
  rw [← hD] at hst hsz ⊢
  have hDH := Lib.hid hD
  clear hD
  have hst2 : RPart W0 W0.heap.size D [] [.pointer none, .pointer none, .pointer none, .pointer none] := hst.mono (by omega)
  clear hst
  go_loopw [2, 3, 4] (fun vi v3 v4 wr => ∃ (k : Nat) (Ts : List TD) (ps : List Value), k ≤ 4 ∧ vi = .int .i64 k ∧ Hid (Ts = (List.range k).map shipI) ∧ RPart wr wr.heap.size D Ts ps ∧ D < wr.heap.size ∧ Below w.heap.size w wr) (fun vi _ _ _ => 4 - (intOf vi).toNat)
  case atStart => exact ⟨0, [], _, by omega, rfl, rfl, hst2, by omega, hbs⟩
  case round =>
    obtain ⟨k, Ts, ps, hk, rfl, hTs, hp, hDl, hb⟩ := hrel
    by_cases hlt : k < 4
    · have hk1 : (k : Int) < 4 := by omega
      have hk0 : (0 : Int) ≤ k := by omega
      have hbsz := hb.size
      have hlen : Ts.length = k := by rw [hTs.out]; simp
      have hTs2 : Hid (Ts ++ [shipI k] = (List.range (k + 1)).map shipI) := by rw [hTs.out, List.range_succ, List.map_append]; exact rfl
      have htab : Hid (shipI k = tdOf (pval (tabOf k))) := rfl
      have hlenH := Lib.hid hlen
      clear hlen
      go_wp2_with (first
        | (go_at_call 61; refine (rprops_any _ k).mono ?_; rintro e w1 ⟨v, rfl, hP, hb1⟩)
        | (go_at_call 64; refine (rbuilt_any _ (tabOf k) _ hP (by have := tabOf_len k; omega) (tabOf_odd k) (shipI k) htab (shipI_few k)).mono ?_; rintro e w2 ⟨B, rfl, hR, hb2⟩; have hb12 : Below wr.heap.size wr w2 := hb1.trans (hb2.mono hb1.size); have hp2 := (hp.below hb12 (Nat.le_refl _) hDl).mono hb12.size; obtain ⟨old, hcell⟩ := hp2.cell k hlt; have hfree := hp2.free k; clear hP hb1 hb2))
      go_roundw
      case rel =>
        have hb22 := hb.trans (hb12.mono hbsz)
        have hs2 := hb12.size
        have hput := hp2.put hR (by rw [hlenH.out]; exact hlt)
        rw [hlenH.out] at hput
        exact ⟨k + 1, _, _, by omega, by go_num, hTs2, hput.mono (by simp), by simp; omega, hb22.setCell (p := ⟨D, k, none⟩) (by simp; rw [hDH.out]; exact Nat.le_refl _) _⟩
      case measure => simp [intOf]; omega
    · obtain rfl : k = 4 := by omega
      go_wp2
      go_ret
      have e : Ts = shipR := hTs.out
      subst e
      exact ⟨D, rfl, ⟨hDl, rfl, ps, hp⟩, hb⟩
end Go.Proofs.YtpaijpdmeiagfaaDoor

namespace Go.Proofs.YtpaijpdmeiagfaaDoor
open Go Go.RowKit Go.WideMaps Go.Proofs.Kk Go.Proofs.Tm Go.Proofs.Gg

theorem RefAt.val_rng {w : World} {n₀ B : Nat} {t : TD} (h : RefAt w n₀ B t) (r : Int) : 0 ≤ t.val r ∧ t.val r ≤ 255 := by
  unfold TD.val
  split
  · omega
  · obtain ⟨_, _, _, _, hbk, _⟩ := h
    generalize t.L.getD (r / 256).toNat 0 = i
    rcases Nat.lt_or_ge i t.F.length with hi | hi
    · have hm : t.F.getD i [] ∈ t.F := by simp [List.getD, hi]
      have hb := hbk _ hm
      generalize t.F.getD i [] = c at hb
      rcases Nat.lt_or_ge (r % 256).toNat c.length with hj | hj
      · exact hb.rng _ (by simp [List.getD, hj])
      · simp [List.getD, hj]
    · simp [List.getD, hi]

set_option maxRecDepth 100000 in
set_option maxHeartbeats 1000000 in
theorem rdword_any (w : World) (n₀ D : Nat) (Ts : List TD) (T : TD) (r : Int) (h : RDataAt w n₀ D Ts) (hT : Ts[1]? = some T) :
    Calls Tryd.prog 40 #[.pointer (some ⟨D, 0, none⟩), .int .i64 r] w fun e w' => e = .returned (.int .i64 (T.val r)) ∧ ∃ n', w' = w.drewN n' := by
  obtain ⟨B, hc, ht⟩ := h.trie 1 T hT
  obtain ⟨h0, h1⟩ := ht.val_rng r
  obtain ⟨y, hy⟩ : ∃ y, y = T.val r := ⟨_, rfl⟩
  rw [← hy] at h0 h1 ⊢
  have hyH := Lib.hid hy
  clear h hy hT
  go_enter Tryd.func40, Tryd.ntmps40
  go_wp2_with (go_at_call 67; refine (rof_any _ n₀ B T r ht).mono ?_; rintro e w1 ⟨he, n1, rfl⟩; rw [← hyH.out] at he; subst he)
  go_ret
  exact ⟨by first | rfl | (congr 1; go_num), n1, rfl⟩

set_option maxRecDepth 100000 in
set_option maxHeartbeats 1000000 in
theorem rdscript_any (w : World) (n₀ D : Nat) (Ts : List TD) (T : TD) (r : Int) (h : RDataAt w n₀ D Ts) (hT : Ts[2]? = some T) :
    Calls Tryd.prog 41 #[.pointer (some ⟨D, 0, none⟩), .int .i64 r] w fun e w' => e = .returned (.int .i64 (T.val r)) ∧ ∃ n', w' = w.drewN n' := by
  obtain ⟨B, hc, ht⟩ := h.trie 2 T hT
  obtain ⟨h0, h1⟩ := ht.val_rng r
  obtain ⟨y, hy⟩ : ∃ y, y = T.val r := ⟨_, rfl⟩
  rw [← hy] at h0 h1 ⊢
  have hyH := Lib.hid hy
  clear h hy hT
  go_enter Tryd.func41, Tryd.ntmps41
  go_wp2_with (go_at_call 67; refine (rof_any _ n₀ B T r ht).mono ?_; rintro e w1 ⟨he, n1, rfl⟩; rw [← hyH.out] at he; subst he)
  go_ret
  exact ⟨by first | rfl | (congr 1; go_num), n1, rfl⟩

set_option maxRecDepth 100000 in
set_option maxHeartbeats 1000000 in
theorem rdpicto_any (w : World) (n₀ D : Nat) (Ts : List TD) (T : TD) (r : Int) (h : RDataAt w n₀ D Ts) (hT : Ts[3]? = some T) :
    Calls Tryd.prog 42 #[.pointer (some ⟨D, 0, none⟩), .int .i64 r] w fun e w' => e = .returned (.bool (dpic T r)) ∧ ∃ n', w' = w.drewN n' := by
  obtain ⟨B, hc, ht⟩ := h.trie 3 T hT
  obtain ⟨h0, h1⟩ := ht.val_rng r
  unfold dpic
  obtain ⟨y, hy⟩ : ∃ y, y = T.val r := ⟨_, rfl⟩
  rw [← hy] at h0 h1 ⊢
  have hyH := Lib.hid hy
  clear h hy hT
  go_enter Tryd.func42, Tryd.ntmps42
  go_wp2_with (go_at_call 67; refine (rof_any _ n₀ B T r ht).mono ?_; rintro e w1 ⟨he, n1, rfl⟩; rw [← hyH.out] at he; subst he)
  go_ret
  exact ⟨by simp [bne, Act.eval, BEq.beq], n1, rfl⟩

set_option maxRecDepth 100000 in
set_option maxHeartbeats 1000000 in
theorem rdclus_any (w : World) (n₀ D : Nat) (Ts : List TD) (T : TD) (r : Int) (h : RDataAt w n₀ D Ts) (hT : Ts[0]? = some T) :
    Calls Tryd.prog 39 #[.pointer (some ⟨D, 0, none⟩), .int .i64 r] w fun e w' => e = .returned (.int .i64 (dclu T r)) ∧ ∃ n', w' = w.drewN n' := by
  obtain ⟨B, hc, ht⟩ := h.trie 0 T hT
  obtain ⟨h0, h1⟩ := ht.val_rng r
  obtain ⟨y, hy⟩ : ∃ y, y = T.val r := ⟨_, rfl⟩
  rw [← hy] at h0 h1
  have hyH := Lib.hid hy
  clear h hT
  by_cases g1 : r < 44032
  · have e : dclu T r = T.val r := by unfold dclu; rw [if_pos (.inl g1)]
    rw [e, ← hy]
    clear e hy
    go_enter Tryd.func39, Tryd.ntmps39
    go_wp2_with (go_at_call 67; refine (rof_any _ n₀ B T r ht).mono ?_; rintro e w1 ⟨he, n1, rfl⟩; rw [← hyH.out] at he; subst he)
    go_ret
    exact ⟨by first | rfl | (congr 1; go_num), n1, rfl⟩
  · by_cases g2 : 55203 < r
    · have e : dclu T r = T.val r := by unfold dclu; rw [if_pos (.inr g2)]
      rw [e, ← hy]
      clear e hy
      have g3 : 44032 ≤ r := by omega
      clear g1
      go_enter Tryd.func39, Tryd.ntmps39
      go_wp2_with (go_at_call 67; refine (rof_any _ n₀ B T r ht).mono ?_; rintro e w1 ⟨he, n1, rfl⟩; rw [← hyH.out] at he; subst he)
      go_ret
      exact ⟨by first | rfl | (congr 1; go_num), n1, rfl⟩
    · have e : dclu T r = if (r - 44032) % 28 = 0 then 12 else 13 := by unfold dclu; rw [if_neg (by omega)]
      rw [e]
      clear e
      have g3 : 44032 ≤ r := by omega
      have g4 : r ≤ 55203 := by omega
      clear g1 g2 hy
      by_cases g5 : (r - 44032) % 28 = 0
      · rw [if_pos g5]
        have g6 : (r - 44032).tmod 28 = 0 := by rw [Int.tmod_eq_emod_of_nonneg (by omega)]; exact g5
        go_enter Tryd.func39, Tryd.ntmps39
        go_wp2
        go_ret
        exact ⟨rfl, 0, rfl⟩
      · rw [if_neg g5]
        have g6 : (r - 44032).tmod 28 ≠ 0 := by rw [Int.tmod_eq_emod_of_nonneg (by omega)]; exact g5
        go_enter Tryd.func39, Tryd.ntmps39
        go_wp2
        go_ret
        exact ⟨rfl, 0, rfl⟩

/-! the shipped ones -/
/-- the document's shipped data in memory -/
def RShipAt (w : World) (n₀ D : Nat) : Prop := RDataAt w n₀ D shipR
theorem RShipAt.below {w w' : World} {n₀ D N : Nat} (h : RShipAt w n₀ D) (hb : Below N w w') (hN : n₀ ≤ N) : RShipAt w' n₀ D := RDataAt.below h hb hN
theorem RShipAt.mono {w : World} {n₀ n₁ D : Nat} (h : RShipAt w n₀ D) (hn : n₀ ≤ n₁) : RShipAt w n₁ D := RDataAt.mono h hn
theorem RShipAt.heap {w w' : World} {n₀ D : Nat} (h : RShipAt w n₀ D) (hw : w'.heap = w.heap) : RShipAt w' n₀ D := RDataAt.heap h hw
theorem rclus_any (w : World) (n₀ D : Nat) (r : Int) (h : RShipAt w n₀ D) :
    Calls Tryd.prog 39 #[.pointer (some ⟨D, 0, none⟩), .int .i64 r] w fun e w' => e = .returned (.int .i64 (clK r)) ∧ ∃ n', w' = w.drewN n' := by
  have e : dclu (tdOf (pval rowsC)) r = clK r := by unfold dclu clK; rw [val_of rowsC_in rfl]
  rw [← e]
  exact rdclus_any w n₀ D shipR _ r h rfl
theorem rrword_any (w : World) (n₀ D : Nat) (r : Int) (h : RShipAt w n₀ D) :
    Calls Tryd.prog 40 #[.pointer (some ⟨D, 0, none⟩), .int .i64 r] w fun e w' => e = .returned (.int .i64 (wdK r)) ∧ ∃ n', w' = w.drewN n' := by
  have e : (tdOf (pval rowsW)).val r = wdK r := val_of rowsW_in rfl r
  rw [← e]
  exact rdword_any w n₀ D shipR _ r h rfl
theorem rrpicto_any (w : World) (n₀ D : Nat) (r : Int) (h : RShipAt w n₀ D) :
    Calls Tryd.prog 42 #[.pointer (some ⟨D, 0, none⟩), .int .i64 r] w fun e w' => e = .returned (.bool (piB r)) ∧ ∃ n', w' = w.drewN n' := by
  have e : dpic (tdOf (pval rowsP)) r = piB r := by unfold dpic piB; rw [val_of rowsP_in rfl]
  rw [← e]
  exact rdpicto_any w n₀ D shipR _ r h rfl
theorem rship_any (w : World) : Calls Tryd.prog 36 #[] w fun e w' => ∃ D, e = .returned (.pointer (some ⟨D, 0, none⟩)) ∧ RShipAt w' w'.heap.size D ∧ Below w.heap.size w w' := rnew_any w
end Go.Proofs.YtpaijpdmeiagfaaDoor
