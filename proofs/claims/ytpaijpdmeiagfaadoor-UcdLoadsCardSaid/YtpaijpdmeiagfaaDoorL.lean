/- Slices of bytes in memory; their strings; an array in the midst of a block, loaded and stored whole. -/
import Derived.Test.YtpaijpdmeiagfaaDoorK
import Derived.Laws.BytesArg
import Derived.Deep.AppendLies
namespace Go.Proofs.Kk
open Go Go.RowKit

theorem u8_in {x : Int} (h : 0 ≤ x ∧ x ≤ 255) : IntKind.u8.wrap x = x := by
  simp only [IntKind.wrap, IntKind.bits, IntKind.signed]
  simp; omega

def IsB (bs : List Int) : Prop := ∀ x ∈ bs, 0 ≤ x ∧ x ≤ 255

/-- what a slice of bytes is in memory, below block n₀ -/
def BytesAt (w : World) (n₀ : Nat) (v : Value) (bs : List Int) : Prop :=
  ∃ ao c, v = .slice ao bs.length c ∧ bs.length ≤ c ∧ bs.length ≤ 140737488355328 ∧ c ≤ 9223372036854775807 ∧
    ((ao = none ∧ bs = [] ∧ c = 0) ∨ ∃ b off, ao = some ⟨b, off, none⟩ ∧ b < n₀ ∧ ∀ j x, bs[j]? = some x → w.cell? ⟨b, off + j, none⟩ = some (.int .u8 x))

theorem BytesAt.below {w w' : World} {n₀ B : Nat} {v : Value} {bs : List Int} (h : BytesAt w n₀ v bs) (hb : Below B w w') (hB : n₀ ≤ B) : BytesAt w' n₀ v bs := by
  obtain ⟨ao, c, hv, hs, hr, hc, h⟩ := h
  refine ⟨ao, c, hv, hs, hr, hc, ?_⟩
  rcases h with h | ⟨b, off, ha, hbn, hc⟩
  · exact .inl h
  · exact .inr ⟨b, off, ha, hbn, fun j x hx => (hb.cell (p := ⟨b, _, none⟩) (by simp; omega)).trans (hc j x hx)⟩
theorem BytesAt.mono {w : World} {n₀ n₁ : Nat} {v : Value} {bs : List Int} (h : BytesAt w n₀ v bs) (hn : n₀ ≤ n₁) : BytesAt w n₁ v bs := by
  obtain ⟨ao, c, hv, hs, hr, hc, h⟩ := h
  refine ⟨ao, c, hv, hs, hr, hc, ?_⟩
  rcases h with h | ⟨b, off, ha, hbn, hc⟩
  · exact .inl h
  · exact .inr ⟨b, off, ha, by omega, hc⟩
theorem BytesAt.heap {w w' : World} {n₀ : Nat} {v : Value} {bs : List Int} (h : BytesAt w n₀ v bs) (hw : w'.heap = w.heap) : BytesAt w' n₀ v bs :=
  by
  obtain ⟨ao, c, hv, hs, hr, hc, h⟩ := h
  refine ⟨ao, c, hv, hs, hr, hc, ?_⟩
  rcases h with h | ⟨b, off, ha, hbn, hc⟩
  · exact .inl h
  · refine .inr ⟨b, off, ha, hbn, fun j x hx => ?_⟩
    rw [World.cell?_of_block (w := w) (by rw [hw])]; exact hc j x hx

theorem BytesAt.of_own {w : World} {base : Nat} {e : TypeId} {v : Value} {bs : List Int} (h : w.ownsRow base e 1 v bs.length (byt bs)) (hl : bs.length ≤ 140737488355328) : BytesAt w w.heap.size v bs := by
  rcases h.2 with ⟨h1, h2⟩ | ⟨g, cap, cur, h1, _, h3, h4, h5, h6, h7⟩
  · have : bs = [] := List.eq_nil_of_length_eq_zero h2
    subst this
    exact ⟨none, 0, h1, by simp, by simp, by omega, .inl ⟨rfl, rfl, rfl⟩⟩
  · refine ⟨some ⟨g, 0, none⟩, cap, h1, h4, hl, by simpa [maxLen] using h5, .inr ⟨g, 0, rfl, (Array.getElem?_eq_some_iff.1 h3).1, ?_⟩⟩
    intro j x hx
    have hj : j < bs.length := (List.getElem?_eq_some_iff.1 hx).1
    rw [cell_of_row _ _ _ _ _ _ h3, Nat.zero_add]
    have e2 : (byt bs)[j]? = some (.int .u8 x) := by rw [byt_get, hx]; rfl
    rw [← h7, List.getElem?_take, if_pos (by omega)] at e2
    rw [← Array.getElem?_toList]; exact e2

theorem ofNat_inj {x y : Int} (hx : 0 ≤ x ∧ x ≤ 255) (hy : 0 ≤ y ∧ y ≤ 255) (h : UInt8.ofNat x.toNat = UInt8.ofNat y.toNat) : x = y := by
  have := congrArg UInt8.toNat h
  simp only [UInt8.toNat_ofNat'] at this
  rw [Nat.mod_eq_of_lt (by omega), Nat.mod_eq_of_lt (by omega)] at this
  omega

theorem strOfNums_inj {a b : List Int} (ha : IsB a) (hb : IsB b) : strOfNums a = strOfNums b ↔ a = b := by
  refine ⟨fun h => ?_, fun h => by rw [h]⟩
  have h1 : (a.map fun n => UInt8.ofNat n.toNat) = b.map fun n => UInt8.ofNat n.toNat := by
    have := congrArg (fun s : ByteArray => s.data.toList) h
    simpa [strOfNums_data] using this
  clear h
  induction a generalizing b with
  | nil => cases b <;> simp_all
  | cons x a ih =>
    cases b with
    | nil => simp at h1
    | cons y b =>
      simp only [List.map_cons, List.cons.injEq] at h1
      rw [ofNat_inj (ha x (by simp)) (hb y (by simp)) h1.1, ih (fun z hz => ha z (by simp [hz])) (fun z hz => hb z (by simp [hz])) h1.2]

section
variable {P : Program}
theorem run_conv_bytes {w : World} {n₀ : Nat} {v : Value} {bs : List Int} (h : BytesAt w n₀ v bs) (src dst e : TypeId) (hs : P.underlying src = some (.slice e)) (he : P.underlying e = some (.int .u8)) (hd : P.underlying dst = some .string) :
    (convert src dst v).run P w = .ok (.string (strOfNums bs)) w := by
  obtain ⟨ao, c, rfl, hs1, hr, hc, h⟩ := h
  rcases h with ⟨rfl, rfl, rfl⟩ | ⟨b, off, rfl, hbn, hcell⟩
  · exact run_convert_bytes_nil w src e hs he 0 0 dst hd
  · exact run_convert_bytes_arg w src e hs he b off _ c bs rfl (fun i hi => hcell i _ (by simp [List.getD, hi])) dst hd

theorem exec_conv_bytes {o : Oper} {ρ : Operand → Value} {w : World} {n₀ : Nat} {v : Value} {bs : List Int} (h : BytesAt w n₀ v bs) (src dst e : TypeId) (x : Operand) (ho : o.op = .convert src dst x) (hx : ρ x = v)
    (hs : P.underlying src = some (.slice e)) (he : P.underlying e = some (.int .u8)) (hd : P.underlying dst = some .string) :
    (execOp ρ o).run P w = .ok (.value (.string (strOfNums bs))) w := by
  unfold execOp
  simp only [ho, hx, Sem.run_bind, run_conv_bytes h src dst e hs he hd, Result.andThen_ok, Sem.run_pure]

theorem run_loadAt_cells {w : World} (ty : TypeId) (ad : Addr) (cs : List Value) (h : ∀ j v, cs[j]? = some v → w.cell? (ad.add j) = some v)
    (d : TypeDesc) (hu : P.underlying ty = some d) (hd : (match d with | .struct _ | .array _ _ => true | _ => false) = true) (hi : (P.info? ty).map (·.size) = some cs.length) :
    (Instr.loadAt ty (.pointer (some ad))).run P w = .ok (.agg cs.toArray) w := by
  obtain ⟨i, hi, h2⟩ := Option.map_eq_some_iff.1 hi
  have hl := run_loadCells_list (P := P) w ad cs h
  have ha : (isAgg ty).run P w = .ok true w := by
    unfold isAgg
    simp only [Sem.run_bind, run_underlying hu, Result.andThen_ok]
    cases d <;> first | (simp at hd; done) | rfl
  unfold Instr.loadAt loadVar
  simp only [Instr.sureAddr, Sem.run_bind, Sem.run_pure, Result.andThen_ok, ha, if_true, sizeOf, typeInfo, program, Sem.run, hi, h2, hl]

theorem exec_load_cells {o : Oper} {ρ : Operand → Value} {w : World} (ty : TypeId) (x : Operand) (ho : o.op = .load ty x) (ad : Addr) (hx : ρ x = .pointer (some ad)) (cs : List Value) (h : ∀ j v, cs[j]? = some v → w.cell? (ad.add j) = some v)
    (d : TypeDesc) (hu : P.underlying ty = some d) (hd : (match d with | .struct _ | .array _ _ => true | _ => false) = true) (hi : (P.info? ty).map (·.size) = some cs.length) :
    (execOp ρ o).run P w = .ok (.value (.agg cs.toArray)) w := by
  unfold execOp
  simp only [ho, hx, Sem.run_bind, run_loadAt_cells ty ad cs h d hu hd hi, Result.andThen_ok, Sem.run_pure]

variable {ops : Array Oper} {rest : List Oper} {o : Oper} {a : Act} {Q : Exit → Act → World → Prop}
theorem wpList_load_cells (hg : o.guard = none) (ty : TypeId) (x : Operand) (ho : o.op = .load ty x) (w : World) (ad : Addr) (hx : a.eval x = .pointer (some ad)) (cs : List Value) (h : ∀ j v, cs[j]? = some v → w.cell? (ad.add j) = some v)
    (d : TypeDesc) (hu : P.underlying ty = some d) (hd : (match d with | .struct _ | .array _ _ => true | _ => false) = true) (hi : (P.info? ty).map (·.size) = some cs.length)
    (hK : wpList P ops Q rest (a.put o.dst (.agg cs.toArray)) w) : wpList P ops Q (o :: rest) a w := by
  refine wpList_plain hg fun K hK' => ?_
  unfold Oper.wp
  rw [exec_load_cells ty x ho ad hx cs h d hu hd hi]
  exact hK' _ _ hK

/-- a whole array stored into its own block; the world behind it is a letter -/
theorem wpList_store_row_o (hg : o.guard = none) (ty : TypeId) (x y : Operand) (ho : o.op = .store ty x y) (w : World) (g : Nat) (cells : Array Value) (hx : a.eval x = .pointer (some ⟨g, 0, none⟩)) (hy : a.eval y = .agg cells)
    (t : TypeId) (old : Array Value) (hgr : w.heap[g]? = some (.cells old t (0, 0))) (hi : (P.info? ty).map (·.size) = some cells.size) (hold : old.size = cells.size) (h1 : cells.all (·.oneCell') = true)
    (hK : ∀ w', w'.heap[g]? = some (.cells cells t (0, 0)) → w.grownBy w' (some g) → w'.heap.size = w.heap.size → wpList P ops Q rest (a.put o.dst undef) w') : wpList P ops Q (o :: rest) a w := by
  refine wpList_plain hg fun K hK' => ?_
  refine wp_store_row ty x y ho g cells hx hy t old hgr hi hold h1 (hK' _ _ (hK _ (setRow_heap w g old cells t _ hgr) ⟨rfl, rfl, rfl, by simp, fun k _ hk => setRow_other w g k _ (fun e => hk (by rw [e]))⟩ (by simp)))

/-- a conversion of bytes to a string -/
theorem wpList_conv_bytes (hg : o.guard = none) (src dst e : TypeId) (x : Operand) (ho : o.op = .convert src dst x) (w : World) (n₀ : Nat) (v : Value) (bs : List Int) (hx : a.eval x = v) (h : BytesAt w n₀ v bs)
    (hs : P.underlying src = some (.slice e)) (he : P.underlying e = some (.int .u8)) (hd : P.underlying dst = some .string)
    (hK : wpList P ops Q rest (a.put o.dst (.string (strOfNums bs))) w) : wpList P ops Q (o :: rest) a w := by
  refine wpList_plain hg fun K hK' => ?_
  unfold Oper.wp
  rw [exec_conv_bytes h src dst e x ho hx hs he hd]
  exact hK' _ _ hK
end
end Go.Proofs.Kk
