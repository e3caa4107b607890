import Derived.WalkKit
import Derived.Lib.Hide
import Derived.WideKeyArr2
import Derived.Maps.OwnOps
namespace Go.Proofs.Kk
open Go Go.RowKit Go.WideMaps

/-! ### bytes as values -/
def byt (b : List Int) : List Value := b.map (Value.int .u8)
def bagg (b : List Int) : Value := .agg (byt b).toArray
structure IsBlk (b : List Int) : Prop where
  len : b.length = 256
  rng : ∀ x ∈ b, 0 ≤ x ∧ x ≤ 255

theorem byt_length (b : List Int) : (byt b).length = b.length := by simp [byt]
theorem byt_append (a b : List Int) : byt (a ++ b) = byt a ++ byt b := by simp [byt]
theorem byt_get (b : List Int) (i : Nat) : (byt b)[i]? = (b[i]?).map (Value.int .u8) := by simp [byt]
theorem byt_inj {a b : List Int} (h : byt a = byt b) : a = b := by
  unfold byt at h
  induction a generalizing b with
  | nil => cases b <;> simp_all
  | cons x a ih =>
    cases b with
    | nil => simp at h
    | cons y b =>
      simp only [List.map_cons, List.cons.injEq, Value.int.injEq, true_and] at h
      rw [h.1, ih h.2]
theorem bagg_inj {a b : List Int} (h : bagg a = bagg b) : a = b := by
  unfold bagg at h
  injection h with h
  exact byt_inj (by simpa using congrArg Array.toList h)
theorem byt_one (b : List Int) : ∀ u ∈ byt b, u.oneCell' = true := by
  intro u hu
  obtain ⟨x, _, rfl⟩ := List.mem_map.1 hu
  rfl

theorem mapM_some_nat {α : Type} (f : Nat → Option α) (g : Nat → α) : ∀ (L : List Nat), (∀ i ∈ L, f i = some (g i)) → L.mapM f = some (L.map g)
  | [], _ => rfl
  | i :: L, h => by
    rw [List.mapM_cons, h i (by simp), mapM_some_nat f g L (fun j hj => h j (by simp [hj]))]
    rfl

/-- a block of bytes is a key -/
theorem key_bagg {P : Program} {k e : TypeId} (A : ArrKey P k e 256) (he : P.underlying e = some (.int .u8)) (hsz : ∃ m, P.types.size = m + 1)
    {b : List Int} (hb : IsBlk b) : ∃ l, keyOf P k (bagg b) = some l := by
  have hkt := A.keyType hsz
  obtain ⟨m0, hm0⟩ := hsz
  have hl : (byt b).length = 256 := by rw [byt_length]; exact hb.1
  unfold keyOf
  simp only [A.hu]
  rw [if_pos (by simp [hkt, Value.formed, A.hu, A.size, bagg, hl]), hm0]
  unfold Program.keyLits
  simp only [A.hu, Value.cells, bagg]
  rw [if_pos (by rw [A.size]; simpa using hl)]
  rw [mapM_some_nat _ (fun i => [Lit.int .u8 (b.getD i 0)])]
  · exact ⟨_, rfl⟩
  · intro i hi
    have hi' := List.mem_range.1 hi
    have e1 : (((byt b).drop (i * P.cellsOf e)).take (P.cellsOf e)) = [Value.int .u8 (b.getD i 0)] := by
      rw [A.one, Nat.mul_one]
      have hlt : i < b.length := by rw [hb.1]; exact hi'
      have : (byt b).drop i = Value.int .u8 (b.getD i 0) :: (byt b).drop (i + 1) := by
        rw [List.drop_eq_getElem_cons (by rw [byt_length]; exact hlt)]
        simp [byt, List.getD, hlt]
      rw [this]; rfl
    simp only [e1]
    have hw : (Lit.int .u8 (b.getD i 0)).wf = true := by
      have hlt : i < b.length := by rw [hb.1]; exact hi'
      have := hb.2 (b.getD i 0) (by simp [List.getD, hlt])
      simp only [Lit.wf, Bool.and_eq_true, decide_eq_true_eq]
      have e2 : IntKind.max .u8 = 255 := by decide
      have e3 : IntKind.min .u8 = 0 := by decide
      rw [e2, e3]; exact this
    generalize b.getD i 0 = y at hw ⊢
    cases m0 <;> simp [Program.keyLits, he, hw]

/-! ### the map of known blocks -/
def mapEs (F : List (List Int)) : Array MapEntry := (F.mapIdx fun i b => (⟨bagg b, .int .i64 i, i⟩ : MapEntry)).toArray

theorem mapEs_snoc (F : List (List Int)) (b : List Int) : mapEs (F ++ [b]) = (mapEs F).push ⟨bagg b, .int .i64 F.length, F.length⟩ := by
  unfold mapEs
  rw [List.mapIdx_concat]; simp

theorem mapEs_get (F : List (List Int)) (j : Nat) : (mapEs F).toList[j]? = (F[j]?).map fun b => (⟨bagg b, .int .i64 j, j⟩ : MapEntry) := by
  simp [mapEs, List.getElem?_mapIdx]

theorem mapEs_mem {F : List (List Int)} {e : MapEntry} (h : e ∈ (mapEs F).toList) : ∃ (j : Nat) (b : List Int), F[j]? = some b ∧ e = ⟨bagg b, .int .i64 j, j⟩ := by
  obtain ⟨j, hj⟩ := List.mem_iff_getElem?.1 h
  rw [mapEs_get] at hj
  obtain ⟨b, hb, he⟩ := Option.map_eq_some_iff.1 hj
  exact ⟨j, b, hb, he.symm⟩

theorem run_find_known {P : Program} {k e : TypeId} (A : ArrKey P k e 256) (he : P.underlying e = some (.int .u8)) (hsz : ∃ m, P.types.size = m + 1)
    (w : World) {F : List (List Int)} (hF : ∀ c ∈ F, IsBlk c) (hn : F.Nodup) {b : List Int} (hb : IsBlk b) :
    (Instr.findKey k (bagg b) (mapEs F).toList).run P w = .ok (if b ∈ F then some (F.idxOf b, .int .i64 (F.idxOf b)) else none) w := by
  obtain ⟨l, hl⟩ := key_bagg A he hsz hb
  have hes : ∀ x ∈ (mapEs F).toList, ∃ l, keyOf P k x.key = some l := by
    intro x hx
    obtain ⟨j, c, hc, rfl⟩ := mapEs_mem hx
    exact key_bagg A he hsz (hF c (List.mem_of_getElem? hc))
  rcases A.law.find w hl _ hes with ⟨h1, h2⟩ | ⟨j, x, h1, h2, h3⟩
  · have : b ∉ F := by
      intro hm
      obtain ⟨j, hj⟩ := List.mem_iff_getElem?.1 hm
      have hx : (mapEs F).toList[j]? = some ⟨bagg b, .int .i64 j, j⟩ := by rw [mapEs_get, hj]; rfl
      exact h2 _ (List.mem_of_getElem? hx) rfl
    rw [if_neg this]; exact h1
  · rw [mapEs_get] at h2
    obtain ⟨c, hc, rfl⟩ := Option.map_eq_some_iff.1 h2
    have hcb : c = b := bagg_inj h3
    subst hcb
    have hm : c ∈ F := List.mem_of_getElem? hc
    have hlt : j < F.length := (List.getElem?_eq_some_iff.1 hc).1
    have hi : F.idxOf c = j := by
      have h4 : F[F.idxOf c]? = some c := by
        rw [List.getElem?_eq_some_iff]
        exact ⟨List.idxOf_lt_length_of_mem hm, List.getElem_idxOf (List.idxOf_lt_length_of_mem hm)⟩
      have hp := List.pairwise_iff_getElem.1 (List.nodup_iff_pairwise_ne.1 hn)
      obtain ⟨h5, h6⟩ := List.getElem?_eq_some_iff.1 h4
      obtain ⟨h7, h8⟩ := List.getElem?_eq_some_iff.1 hc
      rcases Nat.lt_trichotomy (F.idxOf c) j with h | h | h
      · exact absurd (h6.trans h8.symm) (hp _ _ h5 h7 h)
      · exact h
      · exact absurd (h8.trans h6.symm) (hp _ _ h7 h5 h)
    rw [if_pos hm, hi]; exact h1

theorem run_lookup_known {P : Program} {t k e v : TypeId} (A : ArrKey P k e 256) (he : P.underlying e = some (.int .u8)) (hsz : ∃ m, P.types.size = m + 1)
    (ht : P.underlying t = some (.map k v)) (w : World) (hz : (zeroValue v).run P w = .ok (.int .i64 0) w)
    {M : Nat} {F : List (List Int)} (hM : w.heap[M]? = some (.map (mapEs F) F.length)) (hF : ∀ c ∈ F, IsBlk c) (hn : F.Nodup) {b : List Int} (hb : IsBlk b) :
    (Instr.lookup t (.map (some M)) (bagg b) true).run P w = .ok (.tuple #[.int .i64 (if b ∈ F then (F.idxOf b : Int) else 0), .bool (decide (b ∈ F))]) w := by
  obtain ⟨l, hl⟩ := key_bagg A he hsz hb
  have hc := A.law.check w (mapEs F).isEmpty hl
  have hf := run_find_known A he hsz w hF hn hb
  have hu := run_underlying (w := w) ht
  have hgo : (getObj M).run P w = .ok (.map (mapEs F) F.length) w := by simp [getObj, Sem.run, hM]
  unfold Instr.lookup
  simp only [Sem.run_bind, hu, Result.andThen_ok, hgo, Sem.run_pure, hc, hf]
  by_cases h : b ∈ F <;> simp [h, hz, Result.andThen]

theorem run_mapUpdate_known {P : Program} {t k e v : TypeId} (A : ArrKey P k e 256) (he : P.underlying e = some (.int .u8)) (hsz : ∃ m, P.types.size = m + 1)
    (ht : P.underlying t = some (.map k v)) (w : World)
    {M : Nat} {F : List (List Int)} (hM : w.heap[M]? = some (.map (mapEs F) F.length)) (hF : ∀ c ∈ F, IsBlk c) (hn : F.Nodup) {b : List Int} (hb : IsBlk b) (hnew : b ∉ F) :
    (Instr.mapUpdate t (.map (some M)) (bagg b) (.int .i64 F.length)).run P w = .ok () { w with heap := w.heap.setIfInBounds M (.map (mapEs (F ++ [b])) (F ++ [b]).length) } := by
  obtain ⟨l, hl⟩ := key_bagg A he hsz hb
  have hc := A.law.check w false hl
  have hf := run_find_known A he hsz w hF hn hb
  rw [if_neg hnew] at hf
  have hu := run_underlying (w := w) ht
  have hgo : (getObj M).run P w = .ok (.map (mapEs F) F.length) w := by simp [getObj, Sem.run, hM]
  unfold Instr.mapUpdate
  simp only [Sem.run_bind, hu, Result.andThen_ok, hgo, hc, hf]
  simp [setObj, Sem.run, hM, mapEs_snoc]

/-! ### laws of the walk -/
section
variable {P : Program} {ops : Array Oper} {rest : List Oper} {o : Oper} {a : Act} {Q : Exit → Act → World → Prop}

theorem wpList_lookup_known {t k e v : TypeId} (hg : o.guard = none) (m x : Operand) (hop : o.op = Op.lookup t m x true)
    (A : ArrKey P k e 256) (he : P.underlying e = some (.int .u8)) (hsz : ∃ m, P.types.size = m + 1)
    (ht : P.underlying t = some (.map k v)) (w : World) (hz : (zeroValue v).run P w = .ok (.int .i64 0) w)
    (M : Nat) (F : List (List Int)) (hM : w.heap[M]? = some (.map (mapEs F) F.length)) (hF : ∀ c ∈ F, IsBlk c) (hn : F.Nodup) (b : List Int) (hb : IsBlk b)
    (hm : a.eval m = .map (some M)) (hx : a.eval x = bagg b)
    (hK : wpList P ops Q rest (a.put o.dst (.tuple #[.int .i64 (if b ∈ F then (F.idxOf b : Int) else 0), .bool (decide (b ∈ F))])) w) :
    wpList P ops Q (o :: rest) a w := by
  refine wpList_plain hg fun K hK' => ?_
  have hrun := run_lookup_known A he hsz ht w hz hM hF hn hb
  unfold Oper.wp
  simp only [execOp, hop, hm, hx, Sem.run_bind, hrun, Result.andThen_ok, Sem.run_pure]
  exact hK' _ _ hK

theorem wpList_mapUpdate_known {t k e v : TypeId} (hg : o.guard = none) (m x y : Operand) (hop : o.op = Op.mapUpdate t m x y)
    (A : ArrKey P k e 256) (he : P.underlying e = some (.int .u8)) (hsz : ∃ m, P.types.size = m + 1)
    (ht : P.underlying t = some (.map k v)) (w : World)
    (M : Nat) (F : List (List Int)) (hM : w.heap[M]? = some (.map (mapEs F) F.length)) (hF : ∀ c ∈ F, IsBlk c) (hn : F.Nodup) (b : List Int) (hb : IsBlk b) (hnew : b ∉ F)
    (hm : a.eval m = .map (some M)) (hx : a.eval x = bagg b) (hy : a.eval y = .int .i64 F.length)
    (hK : ∀ w', w'.heap[M]? = some (.map (mapEs (F ++ [b])) (F ++ [b]).length) → w.grownBy w' (some M) → w'.heap.size = w.heap.size → wpList P ops Q rest (a.put o.dst undef) w') :
    wpList P ops Q (o :: rest) a w := by
  refine wpList_plain hg fun K hK' => ?_
  have hrun := run_mapUpdate_known A he hsz ht w hM hF hn hb hnew
  have hlt : M < w.heap.size := (Array.getElem?_eq_some_iff.1 hM).1
  unfold Oper.wp
  simp only [execOp, hop, hm, hx, hy, Sem.run_bind, hrun, Result.andThen_ok, Sem.run_pure]
  refine hK' _ _ (hK _ ?_ ⟨rfl, rfl, rfl, by simp, ?_⟩ (by simp))
  · simp [hlt]
  · intro k hk hne
    have : k ≠ M := fun e => hne (by rw [e])
    simp [Ne.symm this]

/-- '&T{..}', 'var x T' boxed: a new block of an aggregate's cells -/
theorem wpList_box_agg (hg : o.guard = none) (t : TypeId) (x : Operand) (hop : o.op = Op.box t x) (w : World) (cs : Array Value) (hx : a.eval x = .agg cs)
    (hK : wpList P ops Q rest (a.put o.dst (.pointer (some ⟨w.heap.size, 0, none⟩))) (w.alloc (.cells cs t))) :
    wpList P ops Q (o :: rest) a w := by
  refine wpList_plain hg fun K hK' => ?_
  unfold Oper.wp
  simp only [execOp, hop, hx, Instr.box, newVar, newRow, newObj, Value.cells, Sem.run_bind, Sem.run, Result.andThen_ok, Sem.run_pure]
  exact hK' _ _ hK

/-- 'var x T': a new block of zeros -/
theorem wpList_alloc_z (hg : o.guard = none) (t : TypeId) (hop : o.op = Op.alloc t) (w : World) (z : Value) (hz : (P.info? t).map (·.zero) = some (some z))
    (hK : wpList P ops Q rest (a.put o.dst (.pointer (some ⟨w.heap.size, 0, none⟩))) (w.alloc (.cells z.cells t))) :
    wpList P ops Q (o :: rest) a w := by
  refine wpList_plain hg fun K hK' => ?_
  obtain ⟨i, hi, hz'⟩ := Option.map_eq_some_iff.1 hz
  have hrun : (zeroValue t).run P w = .ok z w := by simp [zeroValue, typeInfo, program, Sem.run, Sem.run_bind, hi, hz', Result.andThen]
  unfold Oper.wp
  simp only [execOp, hop, Instr.alloc, newVar, newRow, newObj, Sem.run_bind, hrun, Sem.run, Result.andThen_ok, Sem.run_pure]
  exact hK' _ _ hK

/-- 'T{}' of a struct -/
theorem wpList_build_z (hg : o.guard = none) (t : TypeId) (hop : o.op = Op.build t #[]) (w : World) (z : Array Value) (fs : Array Field) (ht : P.underlying t = some (.struct fs))
    (hz : (P.info? t).map (·.zero) = some (some (.agg z))) (hfs : ∀ f ∈ fs, (P.info? f.type).isSome = true)
    (hK : wpList P ops Q rest (a.put o.dst (.agg z)) w) :
    wpList P ops Q (o :: rest) a w := by
  refine wpList_plain hg fun K hK' => ?_
  obtain ⟨i, hi, hz'⟩ := Option.map_eq_some_iff.1 hz
  have hrun : (zeroValue t).run P w = .ok (.agg z) w := by simp [zeroValue, typeInfo, program, Sem.run, Sem.run_bind, hi, hz', Result.andThen]
  have hm : ∀ (l : List Field), (∀ f ∈ l, (P.info? f.type).isSome = true) → ∃ ps, (l.mapM (fun f => (do pure (f.offset, ← sizeOf f.type) : Sem (Nat × Nat)))).run P w = .ok ps w := by
    intro l
    induction l with
    | nil => intro _; exact ⟨[], by simp⟩
    | cons f l ih =>
      intro h
      obtain ⟨ps, hps⟩ := ih fun g hg => h g (by simp [hg])
      obtain ⟨j, hj⟩ := Option.isSome_iff_exists.1 (h f (by simp))
      refine ⟨(f.offset, j.size) :: ps, ?_⟩
      rw [List.mapM_cons]
      simp only [Sem.run_bind, sizeOf, typeInfo, program, Sem.run, hj, Result.andThen_ok, Sem.run_pure]
      simp only [sizeOf, typeInfo, program] at hps
      rw [hps]; simp [Result.andThen]
  obtain ⟨ps, hps⟩ := hm fs.toList (by simpa using hfs)
  have hps' : (fs.mapM (fun f => (do pure (f.offset, ← sizeOf f.type) : Sem (Nat × Nat)))).run P w = .ok ps.toArray w := by
    rw [Array.mapM_eq_mapM_toList]
    show Sem.run P ((List.mapM (fun f => (do pure (f.offset, ← sizeOf f.type) : Sem (Nat × Nat))) fs.toList).bind (fun x => Sem.pure x.toArray)) w = _
    have := Sem.run_bind' P (List.mapM (fun f => (do pure (f.offset, ← sizeOf f.type) : Sem (Nat × Nat))) fs.toList) (fun x => Sem.pure x.toArray) w
    refine Eq.trans this ?_
    rw [hps]; rfl
  unfold Oper.wp
  simp only [execOp, hop, Instr.build, Sem.run_bind, hrun, Result.andThen_ok, run_underlying ht, hps', Sem.run_pure, Value.cells]
  simp only [List.map_toArray, List.map_nil, Instr.fill, Sem.run_pure, Result.andThen_ok]
  exact hK' _ _ hK
end
end Go.Proofs.Kk

namespace Go.Proofs.Kk
open Go Go.RowKit
section
variable {P : Program}
theorem exec_load_row {o : Oper} {ρ : Operand → Value} {w : World} (ty : TypeId) (x : Operand) (ho : o.op = .load ty x)
    (g : Nat) (hx : ρ x = .pointer (some ⟨g, 0, none⟩)) (t : TypeId) (cs : Array Value) (fr : Nat × Nat) (d : TypeDesc) (hg : w.heap[g]? = some (.cells cs t fr))
    (hu : P.underlying ty = some d) (hd : (match d with | .struct _ | .array _ _ => true | _ => false) = true) (hi : (P.info? ty).map (·.size) = some cs.size) :
    (execOp ρ o).run P w = .ok (.value (.agg cs)) w := by
  unfold execOp
  simp only [ho, hx, Instr.loadAt, Instr.sureAddr, Sem.run_bind, Sem.run_pure, Result.andThen_ok, run_loadVar_row w g t ty cs fr d hg hu hd hi]

/-- a slice literal of one aggregate -/
theorem exec_buildSlice_one {o : Oper} {ρ : Operand → Value} {w : World} (t e : TypeId) (x : Operand) (ho : o.op = .buildSlice t 1 #[(0, x)])
    (cs : Array Value) (hx : (ρ x).cells = cs) (z : Value) (n m : Nat) (hu : P.underlying t = some (.slice e)) (hi : (P.info? e).map (fun i => (i.zero, i.size, i.bytes)) = some (some z, n, m))
    (hn : cs.size = n) (hn0 : 0 < n) (hn1 : n ≤ 1000000) :
    (execOp ρ o).run P w = .ok (.value (.slice (some ⟨w.heap.size, 0, none⟩) 1 1)) (w.alloc (.cells cs e)) := by
  obtain ⟨i, hi, h1, h2, h3⟩ := info_parts hi
  have hzr : (zeroValue e).run P w = .ok z w := by simp [zeroValue, typeInfo, program, Sem.run, Sem.run_bind, hi, h1, Result.andThen]
  have hsz : (sizeOf e).run P w = .ok n w := by simp [sizeOf, typeInfo, program, Sem.run, Sem.run_bind, hi, h2, Result.andThen]
  have hfold : ∀ (l : List Value) (k : Nat) (acc : Array Value), (l.zipIdx k).foldl (fun cs (c, j) => cs.setIfInBounds (0 + j) c) acc = (acc.toList.take k ++ (l.take (acc.size - k)) ++ acc.toList.drop (k + l.length)).toArray := by
    intro l
    induction l with
    | nil => intro k acc; simp
    | cons v l ih =>
      intro k acc
      simp only [List.zipIdx_cons, List.foldl_cons, Nat.zero_add] at ih ⊢
      rw [ih]
      apply Array.ext'
      apply List.ext_getElem?
      intro j
      simp only [List.getElem?_append, List.getElem?_take, List.getElem?_drop, List.length_take, List.length_append, Array.toList_setIfInBounds, List.getElem?_set, Array.size_setIfInBounds, Array.length_toList, List.length_cons, List.length_set]
      grind
  unfold execOp
  simp only [ho, List.map_toArray, List.map_cons, List.map_nil, Instr.buildSlice, Sem.run_bind, run_underlying hu, Result.andThen_ok, hsz, Nat.one_mul]
  rw [if_neg (by omega), if_neg (by omega)]
  simp only [Sem.run_bind, Sem.run_pure, Result.andThen_ok, hzr]
  have hfill : Instr.fill (fun i => some (i * n, n)) ((Array.range n).map (z.cells[· % z.cells.size]!)) [(0, ρ x)] = some cs := by
    unfold Instr.fill
    simp only [hx, Nat.zero_mul]
    rw [if_neg (by simp [hn])]
    unfold Instr.fill
    congr 1
    have := hfold cs.toList 0 ((Array.range n).map (z.cells[· % z.cells.size]!))
    have e1 : (cs.zipIdx).foldl (fun cs (c, j) => cs.setIfInBounds (0 + j) c) ((Array.range n).map (z.cells[· % z.cells.size]!)) = (cs.toList.zipIdx 0).foldl (fun cs (c, j) => cs.setIfInBounds (0 + j) c) ((Array.range n).map (z.cells[· % z.cells.size]!)) := by
      rw [← Array.foldl_toList]; simp
    rw [e1, this]
    simp only [List.take_zero, Array.size_map, Array.size_range, Nat.sub_zero, Nat.zero_add, List.nil_append, Array.length_toList, hn]
    rw [List.take_of_length_le (by simp [hn]), List.drop_eq_nil_of_le (by simp)]
    simp
  rw [hfill]
  simp only [newRow, newObj, Sem.run_bind, Sem.run, Result.andThen_ok, Sem.run_pure]
  rfl
end
end Go.Proofs.Kk

namespace Go.Proofs.Kk
open Go Go.RowKit
section
variable {P : Program}
theorem exec_append {o : Oper} {ρ : Operand → Value} {w w' : World} (s x : Operand) (t : TypeId)
    (ho : o.op = .call { callee := .builtin .append, args := #[s, x], argTypes := #[t, t] }) {v u r : Value} (hs : ρ s = v) (hx : ρ x = u)
    (hr : (Builtin.append_ #[t, t] o.type #[v, u]).run P w = .ok r w') : (execOp ρ o).run P w = .ok (.value r) w' := by
  unfold execOp
  simp only [ho, resolve, invoke, builtin, Sem.run_bind, Sem.run_pure, Result.andThen_ok, List.map_toArray, List.map_cons, List.map_nil, hs, hx, hr]

theorem exec_store_one {o : Oper} {ρ : Operand → Value} {w : World} (t : TypeId) (x y : Operand) (ho : o.op = .store t x y) (a : Addr) (v old : Value) (hx : ρ x = .pointer (some a)) (hy : ρ y = v)
    (h1 : v.oneCell' = true) (hi : (P.info? t).map (·.size) = some 1) (hc : w.cell? a = some old) (hf : w.frozen? a = false) :
    (execOp ρ o).run P w = .ok .skip (w.setCell a v) := by
  obtain ⟨i, hi, h2⟩ := Option.map_eq_some_iff.1 hi
  have hcs : v.cells = #[v] := by cases v <;> first | rfl | (simp [Value.oneCell'] at h1)
  have ha : a.add 0 = a := by simp [Addr.add]
  have hst := run_store P w a v .plain h1
  rw [hc, hf] at hst
  unfold execOp
  simp only [ho, hx, hy, Instr.storeAt, Instr.sureAddr, storeVar, Sem.run_bind, Sem.run_pure, Result.andThen_ok, sizeOf, typeInfo, program, Sem.run, hi, h2, hcs]
  simp only [List.size_toArray, List.length_cons, List.length_nil, ne_eq, not_true_eq_false, Nat.zero_add, ↓reduceIte, storeCells, ha, Sem.run_bind, hst, Result.andThen_ok, Bool.false_eq_true, Sem.run_pure]
end
end Go.Proofs.Kk

namespace Go.Proofs.Kk
open Go Go.RowKit
section
variable {P : Program} {ops : Array Oper} {rest : List Oper} {o : Oper} {a : Act} {Q : Exit → Act → World → Prop}
/-- 'var x T': a new block of zeros; the world behind it is a letter -/
theorem wpList_alloc_zo (hg : o.guard = none) (t : TypeId) (hop : o.op = Op.alloc t) (w : World) (z : Value) (hz : (P.info? t).map (·.zero) = some (some z))
    (hK : ∀ w', w'.heap[w.heap.size]? = some (.cells z.cells t (0, 0)) → Below w.heap.size w w' → w.heap.size < w'.heap.size → wpList P ops Q rest (a.put o.dst (.pointer (some ⟨w.heap.size, 0, none⟩))) w') :
    wpList P ops Q (o :: rest) a w :=
  wpList_alloc_z hg t hop w z hz (hK _ (heap_alloc_new _ _) ((Below.refl _ _).alloc (Nat.le_refl _) _) (by simp))
end
end Go.Proofs.Kk
