/- Words: awake: plain bytes as code points. -/
import Derived.Test.YtpaijpdmeiagfaaDoorWq
import Derived.Test.YtpaijpdmeiagfaaDoorCd
import Derived.Laws.IdiomStrings
import Derived.Test.YtpaijpdmeiagfaaDoorCc
import Derived.Lib.SlBytesConst
set_option linter.unusedVariables false
set_option linter.unusedSimpArgs false
namespace Go.Proofs.YtpaijpdmeiagfaaDoor
open Go Go.RowKit Go.WideMaps Go.Proofs.Kk Go.Proofs.Tm Go.Proofs.Gg Go.Proofs.Tx

theorem unitU0 : (match Tryd.prog.underlying 90 with | some (.struct _) => true | _ => false) = true ∧ (Tryd.prog.info? 90).map (·.size) = some 4 := by constructor <;> kernel_rfl
theorem unitU : ∃ d, Tryd.prog.underlying 90 = some d ∧ (match d with | .struct _ | .array _ _ => true | _ => false) = true := by
  have h := unitU0.1
  split at h
  · rename_i x hx; exact ⟨_, hx, rfl⟩
  · cases h
theorem quad_set0 {W : World} {B : Nat} {t : TypeId} {a0 a1 a2 a3 : Value} (v : Value) (h : W.heap[B]? = some (.cells #[a0, a1, a2, a3] t (0, 0))) : (W.setCell ⟨B, 0, none⟩ v).heap[B]? = some (.cells #[v, a1, a2, a3] t (0, 0)) := by
  obtain ⟨hlt, hk⟩ := Array.getElem?_eq_some_iff.1 h
  show (W.heap.modify B _)[B]? = _
  rw [Array.getElem?_eq_getElem (by rw [Array.size_modify]; exact hlt), Array.getElem_modify_self, hk]
  rfl
theorem quad_set1 {W : World} {B : Nat} {t : TypeId} {a0 a1 a2 a3 : Value} (v : Value) (h : W.heap[B]? = some (.cells #[a0, a1, a2, a3] t (0, 0))) : (W.setCell ⟨B, 1, none⟩ v).heap[B]? = some (.cells #[a0, v, a2, a3] t (0, 0)) := by
  obtain ⟨hlt, hk⟩ := Array.getElem?_eq_some_iff.1 h
  show (W.heap.modify B _)[B]? = _
  rw [Array.getElem?_eq_getElem (by rw [Array.size_modify]; exact hlt), Array.getElem_modify_self, hk]
  rfl
theorem quad_set2 {W : World} {B : Nat} {t : TypeId} {a0 a1 a2 a3 : Value} (v : Value) (h : W.heap[B]? = some (.cells #[a0, a1, a2, a3] t (0, 0))) : (W.setCell ⟨B, 2, none⟩ v).heap[B]? = some (.cells #[a0, a1, v, a3] t (0, 0)) := by
  obtain ⟨hlt, hk⟩ := Array.getElem?_eq_some_iff.1 h
  show (W.heap.modify B _)[B]? = _
  rw [Array.getElem?_eq_getElem (by rw [Array.size_modify]; exact hlt), Array.getElem_modify_self, hk]
  rfl
theorem quad_set3 {W : World} {B : Nat} {t : TypeId} {a0 a1 a2 a3 : Value} (v : Value) (h : W.heap[B]? = some (.cells #[a0, a1, a2, a3] t (0, 0))) : (W.setCell ⟨B, 3, none⟩ v).heap[B]? = some (.cells #[a0, a1, a2, v] t (0, 0)) := by
  obtain ⟨hlt, hk⟩ := Array.getElem?_eq_some_iff.1 h
  show (W.heap.modify B _)[B]? = _
  rw [Array.getElem?_eq_getElem (by rw [Array.size_modify]; exact hlt), Array.getElem_modify_self, hk]
  rfl
theorem wrap_u8 (r : Int) (h0 : 0 ≤ r) (h1 : r < 128) : IntKind.u8.wrap r = r := by simp [IntKind.wrap, IntKind.bits, IntKind.signed]; omega

set_option maxRecDepth 100000 in
set_option maxHeartbeats 1000000 in
theorem isRune_any (w : World) (r : Int) (h0 : 0 ≤ r) (h1 : r < 128) : Calls Tryd.prog 120 #[.int .i64 r] w fun e w' => e = .returned (.bool true) ∧ w' = w := by
  have h2 : r ≤ 1114111 := by omega
  have h3 : r < 55296 := by omega
  go_enter Tryd.func120, Tryd.ntmps120
  go_wp2
  go_ret
  exact ⟨rfl, rfl⟩

set_option maxRecDepth 100000 in
set_option maxHeartbeats 1000000 in
theorem encode_any (w : World) (r : Int) (h0 : 0 ≤ r) (h1 : r < 128) : Calls Tryd.prog 117 #[.int .i64 r] w fun e w' => e = .returned (.tuple #[.slice (some ⟨w.heap.size, 0, none⟩) 1 1, .int .i64 0]) ∧ w' = w.alloc (.cells #[.int .u8 r] 5) := by
  have hw := wrap_u8 r h0 h1
  go_enter Tryd.func117, Tryd.ntmps117
  go_wp2_with (go_at_call 120; refine (isRune_any _ r h0 h1).mono ?_; rintro e w1 ⟨rfl, rfl⟩)
  refine bodyPost_ret (results_tmp2 rfl _ _ _) rfl ?_
  exact ⟨by simp, rfl⟩

set_option maxRecDepth 100000 in
set_option maxHeartbeats 1000000 in
theorem first_any (w : World) (b off n c : Nat) (x : UInt8) (hn : 1 ≤ n) (hnc : n ≤ c) (hc : c ≤ 9223372036854775807) (h1 : x.toNat < 128) (hr : w.cell? ⟨b, off, none⟩ = some (.int .u8 x.toNat)) (hbl : b < w.heap.size) :
    Calls Tryd.prog 106 #[.slice (some ⟨b, off, none⟩) n c] w fun e w' => e = .returned (.agg #[.int .i64 x.toNat, .int .i64 0, .int .i64 1, .bool false]) ∧ Below w.heap.size w w' := by
  have hn1 : (1 : Int) ≤ n := by omega
  have hn0 : (0 : Int) < n := by omega
  have hc1 : (1 : Int) ≤ c := by omega
  have hB : Below w.heap.size w ((w.alloc (.cells #[.int .i64 0, .int .i64 0, .int .i64 0, .bool false] 90)).alloc (.cells #[.int .u8 x.toNat] 5)) := ((Below.refl _ w).alloc (Nat.le_refl _) _).alloc (by simp) _
  have s1 : ∀ n', (convert 33 9 (.slice (some ⟨w.heap.size + 1, 0, none⟩) 1 1)).run Tryd.prog (((w.alloc (.cells #[.int .i64 0, .int .i64 0, .int .i64 0, .bool false] 90)).alloc (.cells #[.int .u8 x.toNat] 5)).drewN n') = .ok (.string ⟨[x].toArray⟩) (((w.alloc (.cells #[.int .i64 0, .int .i64 0, .int .i64 0, .bool false] 90)).alloc (.cells #[.int .u8 x.toNat] 5)).drewN n') := fun n' =>
    run_convert_bytes_back _ 33 9 5 ⟨w.heap.size + 1, 0, none⟩ 1 [x] rfl rfl rfl (fun j hj => by
      obtain rfl : j = 0 := by simpa using hj
      have := cell_one_new (w.alloc (.cells #[.int .i64 0, .int .i64 0, .int .i64 0, .bool false] 90)) (.int .u8 x.toNat) 5
      have h0 := this 0 _ rfl
      simpa [World.size_alloc] using h0)
  have s2 : ∀ n', (convert 33 9 (.slice (some ⟨b, off, none⟩) 1 c)).run Tryd.prog (((w.alloc (.cells #[.int .i64 0, .int .i64 0, .int .i64 0, .bool false] 90)).alloc (.cells #[.int .u8 x.toNat] 5)).drewN n') = .ok (.string ⟨[x].toArray⟩) (((w.alloc (.cells #[.int .i64 0, .int .i64 0, .int .i64 0, .bool false] 90)).alloc (.cells #[.int .u8 x.toNat] 5)).drewN n') := fun n' =>
    run_convert_bytes_back _ 33 9 5 ⟨b, off, none⟩ c [x] rfl rfl rfl (fun j hj => by
      obtain rfl : j = 0 := by simpa using hj
      exact (hB.cell (p := ⟨b, off, none⟩) hbl).trans hr)
  clear hB
  go_enter Tryd.func106, Tryd.ntmps106
  go_wp2_with (go_at_call 117; refine (encode_any _ x.toNat (by omega) (by omega)).mono ?_; rintro e w1 ⟨rfl, rfl⟩)
  go_quiet (fail)
  clear s1 s2
  go_wp2
  have hq : ((w.alloc (.cells #[.int .i64 0, .int .i64 0, .int .i64 0, .bool false] 90)).alloc (.cells #[.int .u8 x.toNat] 5)).heap[w.heap.size]? = some (.cells #[.int .i64 0, .int .i64 0, .int .i64 0, .bool false] 90 (0, 0)) :=
    (Below.heap_alloc _ _ _ (by simp)).trans (heap_alloc_new w _)
  have hB : Below w.heap.size w ((w.alloc (.cells #[.int .i64 0, .int .i64 0, .int .i64 0, .bool false] 90)).alloc (.cells #[.int .u8 x.toNat] 5)) := ((Below.refl _ w).alloc (Nat.le_refl _) _).alloc (by simp) _
  obtain ⟨d, hu, hd⟩ := unitU
  refine bodyPost_ret (results_cell_row rfl _ _ w.heap.size 90 _ (0, 0) _ rfl (quad_set3 _ (quad_set2 _ (quad_set1 _ (quad_set0 _ hq)))) hu (by cases d <;> first | rfl | exact hd) unitU0.2) rfl ?_
  exact ⟨rfl, ((((below_drewN hB _).setCell (p := ⟨w.heap.size, 0, none⟩) (Nat.le_refl _) _).setCell (p := ⟨w.heap.size, 1, none⟩) (Nat.le_refl _) _).setCell (p := ⟨w.heap.size, 2, none⟩) (Nat.le_refl _) _).setCell (p := ⟨w.heap.size, 3, none⟩) (Nat.le_refl _) _⟩
end Go.Proofs.YtpaijpdmeiagfaaDoor

namespace Go.Proofs.Tx
/-- the units of plain bytes -/
def unitsOf (bs : List UInt8) : List Value := (bs.zipIdx).flatMap fun (x, k) => [.int .i64 (x.toNat : Int), .int .i64 (k : Int), .int .i64 1, .bool false]
theorem unitsOf_snoc (bs : List UInt8) (x : UInt8) : unitsOf (bs ++ [x]) = unitsOf bs ++ [.int .i64 (x.toNat : Int), .int .i64 (bs.length : Int), .int .i64 1, .bool false] := by
  simp [unitsOf, List.zipIdx_append]
theorem unitsOf_len (bs : List UInt8) : (unitsOf bs).length = 4 * bs.length := by
  unfold unitsOf
  rw [List.length_flatMap]
  have : ∀ (l : List (UInt8 × Nat)), (l.map fun (a : UInt8 × Nat) => ([.int .i64 (a.1.toNat : Int), .int .i64 (a.2 : Int), .int .i64 1, .bool false] : List Value).length).sum = 4 * l.length := by
    intro l
    induction l with
    | nil => rfl
    | cons a l ih => rw [List.map_cons, List.sum_cons, ih]; simp; omega
  rw [this, List.length_zipIdx]
end Go.Proofs.Tx
namespace Go.Proofs.YtpaijpdmeiagfaaDoor
open Go Go.RowKit Go.WideMaps Go.Proofs.Kk Go.Proofs.Tm Go.Proofs.Gg Go.Proofs.Tx

theorem infoUnit : (Tryd.prog.info? 90).map (fun i => (i.zero, i.size, i.bytes)) = some (some (.agg #[.int .i64 0, .int .i64 0, .int .i64 0, .bool false]), 4, 32) := by kernel_rfl
theorem unitsU : Tryd.prog.underlying 87 = some (.slice 90) := by kernel_rfl

/-- a slice of plain bytes in memory -/
structure BytesAt (w : World) (n₀ b off c : Nat) (bs : List UInt8) : Prop where
  lt : b < n₀
  le : bs.length ≤ c
  cap : c ≤ 1000000
  small : ∀ x ∈ bs, x.toNat < 128
  cell : ∀ (j : Nat) x, bs[j]? = some x → w.cell? ⟨b, off + j, none⟩ = some (.int .u8 (x.toNat : Int))

theorem unit_new (w1 : World) (U : Obj) (a0 a1 a2 a3 : Value) : ∀ (j : Nat) (u : Value), [a0, a1, a2, a3][j]? = some u → ((w1.alloc U).alloc (.cells #[a0, a1, a2, a3] 90)).cell? ((⟨w1.heap.size + 1, 0, none⟩ : Addr).add j) = some u := by
  intro j u h
  have h0 := heap_alloc_new (w1.alloc U) (.cells #[a0, a1, a2, a3] 90)
  rw [World.size_alloc] at h0
  rw [Addr.add_lit, cell_of_row _ _ _ _ _ _ h0, Nat.zero_add]
  simpa using h

set_option maxRecDepth 100000 in
set_option maxHeartbeats 1000000 in
theorem decode_any (w : World) (b off c : Nat) (bs : List UInt8) (ht : BytesAt w w.heap.size b off c bs) :
    Calls Tryd.prog 88 #[.slice (some ⟨b, off, none⟩) bs.length c] w fun e w' => ∃ u, e = .returned u ∧ w'.ownsRow w.heap.size 90 4 u bs.length (unitsOf bs) ∧ Below w.heap.size w w' := by
  have hlc := ht.le
  have hcm := ht.cap
  obtain ⟨i0, hi, hz0, hz1, hz2⟩ := info_parts infoUnit
  have hiH := Lib.hid hi
  have hz0H := Lib.hid hz0
  have hz1H := Lib.hid hz1
  have hz2H := Lib.hid hz2
  clear hi hz0 hz1 hz2
  go_enter Tryd.func88, Tryd.ntmps88
  go_wp2
  go_loopw [3, 4] (fun vo va wr => ∃ (k : Nat), k ≤ bs.length ∧ va = .int .i64 k ∧ wr.ownsRow w.heap.size 90 4 vo k (unitsOf (bs.take k)) ∧ Below w.heap.size w wr) (fun _ va _ => bs.length - (intOf va).toNat)
  case atStart => exact ⟨0, by omega, rfl, World.ownsRow_nil _ _ _ _, Below.refl _ _⟩
  case round =>
    obtain ⟨k, hk, rfl, hrow, hb⟩ := hrel
    by_cases hlt : k < bs.length
    · have hk1 : (k : Int) < bs.length := by omega
      have hk2 : (k : Int) ≤ c := by omega
      have hx : bs[k]? = some bs[k] := List.getElem?_eq_getElem hlt
      have hsn : bs.take (k + 1) = bs.take k ++ [bs[k]] := List.take_succ_eq_append_getElem hlt
      have hln : (bs.take k).length = k := by simp; omega
      have hxs := ht.small _ (List.mem_of_getElem? hx)
      have hxc := ht.cell _ _ hx
      generalize bs[k] = x at hx hsn hxs hxc
      have hF := first_any wr b (off + k) (bs.length - k) (c - k) x (by omega) (by omega) (by omega) hxs ((hb.cell (p := ⟨b, _, none⟩) ht.lt).trans hxc) (Nat.lt_of_lt_of_le ht.lt hb.size)
      have hFH := Lib.hid hF
      have hsnH := Lib.hid hsn
      have hlnH := Lib.hid hln
      clear hF hsn hln hx hxc
      have hrow1 := fun (w1 : World) (hb1 : Below wr.heap.size wr w1) => ((ownsRow_below hrow hb1 (Nat.le_refl _)).alloc (.cells #[.int .i64 x.toNat, .int .i64 k, .int .i64 1, .bool false] 90)).alloc (.cells #[.int .i64 x.toNat, .int .i64 k, .int .i64 1, .bool false] 90)
      have hrow1H := Lib.hid hrow1
      have hol := own_lt hrow
      have holH := Lib.hid hol
      clear hrow1 hrow hol
      go_wp2_with (first
        | (go_at_call 106; refine hFH.out.mono ?_; rintro e w1 ⟨rfl, hb1⟩)
        | (at_builtin; refine wpList_append_own _ rfl _ _ 87 rfl w.heap.size 90 i0 _ 4 32 unitsU hiH.out hz0H.out hz1H.out hz2H.out rfl (by decide) _ _ _ rfl (hrow1H.out w1 hb1) ⟨w1.heap.size + 1, 0, none⟩ 1 1 [.int .i64 x.toNat, .int .i64 k, .int .i64 1, .bool false] rfl rfl (unit_new _ _ _ _ _ _) (by simp [Value.oneCell']) (by unfold maxLen; omega) (by omega) (by have := hb.size; have := hb1.size; simp; omega) ?_; intro v' w2 hown' hgrow _; have c2 : w2.cell? ⟨w1.heap.size, 2, none⟩ = some (.int .i64 1) := by
            rw [cell_of_row w2 w1.heap.size 2 #[.int .i64 x.toNat, .int .i64 k, .int .i64 1, .bool false] 90 (0, 0) ((hgrow.block w1.heap.size (by simp; omega) (fun e => by have := holH.out _ e.symm; have := hb1.size; omega)).trans ((Below.heap_alloc _ _ _ (by simp)).trans (heap_alloc_new w1 _)))]
            rfl))
      go_roundw
      case rel =>
        have hb2 := hb.trans (hb1.mono hb.size)
        refine ⟨k + 1, by omega, by go_num, ?_, ?_⟩
        · rw [hsnH.out, unitsOf_snoc, hlnH.out]; exact hown'
        · exact below_grown ((hb2.alloc hb2.size _).alloc (by have := hb2.size; simp; omega) _) (hrow1H.out w1 hb1) hgrow (Nat.le_refl _) (by have := hb2.size; simp; omega)
      case measure => simp [intOf]; omega
    · obtain rfl : k = bs.length := by omega
      rw [List.take_length] at hrow
      clear hlt hk
      go_wp2
      go_ret
      exact ⟨_, rfl, hrow, hb⟩
end Go.Proofs.YtpaijpdmeiagfaaDoor

namespace Go.Proofs.Tx
theorem unitsOf_get {bs : List UInt8} {j : Nat} {x : UInt8} (h : bs[j]? = some x) : (unitsOf bs)[j * 4]? = some (.int .i64 (x.toNat : Int)) := by
  have hj := (List.getElem?_eq_some_iff.1 h).1
  have e : bs = bs.take j ++ ([x] ++ bs.drop (j + 1)) := by
    rw [← List.append_assoc, ← show bs.take (j + 1) = bs.take j ++ [x] from ?_, List.take_append_drop]
    rw [List.take_add_one, h]; rfl
  have hp : ∀ (a b : List UInt8), ∃ r, unitsOf (a ++ b) = unitsOf a ++ r := by
    intro a b
    induction b generalizing a with
    | nil => exact ⟨[], by simp⟩
    | cons y b ih =>
      obtain ⟨r, hr⟩ := ih (a ++ [y])
      rw [show a ++ y :: b = (a ++ [y]) ++ b by simp, hr, unitsOf_snoc]
      exact ⟨_, List.append_assoc _ _ _⟩
  obtain ⟨r, hr⟩ := hp (bs.take j ++ [x]) (bs.drop (j + 1))
  have hl : (unitsOf (bs.take j)).length = j * 4 := by rw [unitsOf_len]; simp; omega
  rw [e, ← List.append_assoc, hr, unitsOf_snoc, List.append_assoc, List.getElem?_append_right (by omega), hl, Nat.sub_self]
  rfl
end Go.Proofs.Tx
namespace Go.Proofs.YtpaijpdmeiagfaaDoor
open Go Go.RowKit Go.WideMaps Go.Proofs.Kk Go.Proofs.Tm Go.Proofs.Gg Go.Proofs.Tx

def numsOf (bs : List UInt8) : List Int := bs.map fun x => (x.toNat : Int)

/-- a row of units, as a slice -/
theorem units_form {w : World} {base : Nat} {u : Value} {bs : List UInt8} (h : w.ownsRow base 90 4 u bs.length (unitsOf bs)) :
    ∃ ao c, u = .slice ao bs.length c ∧ bs.length ≤ c ∧ c ≤ 9223372036854775807 ∧ (∀ (j : Nat) x, bs[j]? = some x → ∃ g, ao = some ⟨g, 0, none⟩ ∧ g < w.heap.size ∧ w.cell? ⟨g, j * 4, none⟩ = some (.int .i64 (x.toNat : Int))) := by
  rcases h.2 with ⟨h1, h2⟩ | ⟨g, cap, cur, h1, _, h3, h4, h5, h6, h7⟩
  · refine ⟨none, 0, by rw [h1, h2], by omega, by omega, fun j x hx => ?_⟩
    have := (List.getElem?_eq_some_iff.1 hx).1
    omega
  · refine ⟨some ⟨g, 0, none⟩, cap, h1, h4, by simpa [maxLen] using h5, fun j x hx => ⟨g, rfl, (Array.getElem?_eq_some_iff.1 h3).1, ?_⟩⟩
    have hj := (List.getElem?_eq_some_iff.1 hx).1
    have e2 := unitsOf_get hx
    rw [cell_of_row _ _ _ _ _ _ h3]
    rw [← h7, List.getElem?_take, if_pos (by omega)] at e2
    rw [← Array.getElem?_toList]; exact e2

set_option maxRecDepth 100000 in
set_option maxHeartbeats 1000000 in
theorem runes_any (w : World) (b off c : Nat) (bs : List UInt8) (ht : BytesAt w w.heap.size b off c bs) :
    Calls Tryd.prog 55 #[.slice (some ⟨b, off, none⟩) bs.length c] w fun e w' => ∃ u, e = .returned u ∧ IntsAt w' w'.heap.size u (numsOf bs) ∧ Below w.heap.size w w' := by
  have hlc := ht.le
  have hcm := ht.cap
  obtain ⟨i0, hi, hz0, hz1, hz2⟩ := info_parts infoInt2
  have hiH := Lib.hid hi
  have hz0H := Lib.hid hz0
  have hz1H := Lib.hid hz1
  have hz2H := Lib.hid hz2
  clear hi hz0 hz1 hz2
  go_enter Tryd.func55, Tryd.ntmps55
  go_wp2_with (go_at_call 88; refine (decode_any w b off c bs ht).mono ?_; rintro e w1 ⟨u, rfl, hrow, hb1⟩; obtain ⟨ao, cu, rfl, hcu1, hcu2, hcell⟩ := units_form hrow; have hcellH := Lib.hid hcell; clear hrow hcell)
  go_loopw [4, 5] (fun vo vi wr => ∃ (k : Nat), k ≤ bs.length ∧ vi = .int .i64 k ∧ wr.ownsRow w1.heap.size 3 1 vo k (ints (numsOf (bs.take k))) ∧ Below w1.heap.size w1 wr) (fun _ vi _ => bs.length - (intOf vi).toNat)
  case atStart => exact ⟨0, by omega, rfl, World.ownsRow_nil _ _ _ _, Below.refl _ _⟩
  case round =>
    obtain ⟨k, hk, rfl, hrow, hb⟩ := hrel
    by_cases hlt : k < bs.length
    · have hk1 : (k : Int) < bs.length := by omega
      have hx : bs[k]? = some bs[k] := List.getElem?_eq_getElem hlt
      have hsn : numsOf (bs.take (k + 1)) = numsOf (bs.take k) ++ [(bs[k].toNat : Int)] := by
        unfold numsOf
        rw [List.take_succ_eq_append_getElem hlt, List.map_append]; rfl
      generalize bs[k] = x at hx hsn
      obtain ⟨g, rfl, hg, hxc⟩ := hcellH.out _ _ hx
      have hxc := (hb.cell (p := ⟨g, k * 4, none⟩) hg).trans hxc
      have hsnH := Lib.hid hsn
      clear hsn hx
      go_wp2_with (at_builtin; refine wpList_append_own _ rfl _ _ 22 rfl w1.heap.size 3 i0 (.int .i64 0) 1 8 intsU2 hiH.out hz0H.out hz1H.out hz2H.out rfl (by decide) _ _ _ rfl (hrow.alloc _) ⟨wr.heap.size, 0, none⟩ 1 1 [.int .i64 x.toNat] rfl rfl (cell_one_new _ _ _) (by simp [Value.oneCell']) (by unfold maxLen; omega) (by omega) (by have := hb.size; simp; omega) ?_; intro v' w2 hown' hgrow _)
      go_roundw
      case rel =>
        refine ⟨k + 1, by omega, by go_num, ?_, ?_⟩
        · rw [hsnH.out, ints_append]; exact hown'
        · exact below_grown (hb.alloc hb.size _) (hrow.alloc _) hgrow (Nat.le_refl _) (by have := hb.size; simp; omega)
      case measure => simp [intOf]; omega
    · obtain rfl : k = bs.length := by omega
      rw [List.take_length] at hrow
      clear hlt hk
      go_wp2
      go_ret
      exact ⟨_, rfl, IntsAt.of_own hrow (fun z hz => by obtain ⟨x, _, rfl⟩ := List.mem_map.1 hz; have := x.toNat_lt; omega), hb1.trans (hb.mono hb1.size)⟩

theorem canT : numsOf [99, 97, 110, 39, 116, 32, 51, 46, 53] = [99, 97, 110, 39, 116, 32, 51, 46, 53] := by decide
theorem awake6_pl : plI wf (sgW [99, 97, 110, 39, 116, 32, 51, 46, 53]) = [0, 5, 6, 9] := by decide +kernel

/-- All, as the slice that it hands back -/
theorem wall_at (w : World) (D : Nat) (v : Value) (zs : List Int) (hsm : zs.length ≤ 1000000) (hs : ShipAt w w.heap.size D) (ht : IntsAt w w.heap.size v zs) :
    Calls Tryd.prog 28 #[.pointer (some ⟨D, 0, none⟩), v] w fun e w' => ∃ u, e = .returned u ∧ IntsAt w' w'.heap.size u (plI wf (sgW zs)) ∧ Below w.heap.size w w' :=
  (wall_any w D v zs (by omega) hs ht).mono fun e w' ⟨u, he, hrow, hb⟩ => ⟨u, he, IntsAt.of_own hrow (fun z hz => by have := plI_rng z hz; rw [sgW_length] at this; omega), hb⟩
end Go.Proofs.YtpaijpdmeiagfaaDoor

namespace Go.Proofs.YtpaijpdmeiagfaaDoor
open Go Go.RowKit Go.WideMaps Go.Proofs.Kk Go.Proofs.Tm Go.Proofs.Gg Go.Proofs.Tx

def canBs : List UInt8 := [99, 97, 110, 39, 116, 32, 51, 46, 53]
theorem bytes_lit (w : World) (bs : List UInt8) (t : TypeId) (fr : Nat × Nat) (hs : ∀ x ∈ bs, x.toNat < 128) (hl : bs.length ≤ 1000000) :
    BytesAt (w.alloc (.cells (bs.map fun x => Value.int .u8 (x.toNat : Int)).toArray t fr)) (w.alloc (.cells (bs.map fun x => Value.int .u8 (x.toNat : Int)).toArray t fr)).heap.size w.heap.size 0 bs.length bs :=
  ⟨by simp, Nat.le_refl _, hl, hs, fun j x hx => by
    rw [cell_of_row _ _ _ _ _ _ (heap_alloc_new w _), Nat.zero_add]
    simp [hx]⟩
theorem can_bytes (w : World) : BytesAt (w.alloc (.cells #[.int .u8 99, .int .u8 97, .int .u8 110, .int .u8 39, .int .u8 116, .int .u8 32, .int .u8 51, .int .u8 46, .int .u8 53] 5 (9, 9 + 1))) (w.alloc (.cells #[.int .u8 99, .int .u8 97, .int .u8 110, .int .u8 39, .int .u8 116, .int .u8 32, .int .u8 51, .int .u8 46, .int .u8 53] 5 (9, 9 + 1))).heap.size w.heap.size 0 9 canBs := by
  have h := bytes_lit w canBs 5 (9, 9 + 1) (by decide) (by decide)
  have e : (canBs.map fun x => Value.int .u8 (x.toNat : Int)).toArray = #[.int .u8 99, .int .u8 97, .int .u8 110, .int .u8 39, .int .u8 116, .int .u8 32, .int .u8 51, .int .u8 46, .int .u8 53] := by simp [canBs]
  rw [e] at h
  exact h

set_option maxRecDepth 100000 in
set_option maxHeartbeats 2000000 in
theorem awake6_any (w : World) (hL : LaidS w) :
    Calls Tryd.prog 24 #[] w fun e w' => e = .returned (.bool true) ∧ Below w.heap.size w w' := by
  have hpl := Lib.hid awake6_pl
  have kc := fun (w : World) (C : Array Value) (n c : Nat) => Lib.run_convert_bytes_const (P := Tryd.prog) w 33 5 C n c bytesU rfl
  have hct := Lib.hid (show numsOf canBs = [99, 97, 110, 39, 116, 32, 51, 46, 53] from canT)
  go_enter Tryd.func24, Tryd.ntmps24
  go_wp2_with (first
    | (go_at_call 25; refine (new_ship _ hL).mono ?_; rintro e w1 ⟨D, rfl, hs, hb⟩)
    | (go_at_call 55; refine (runes_any _ _ 0 9 canBs (by exact can_bytes w1)).mono ?_; rw [hct.out]; rintro e w2 ⟨u1, rfl, hu1, hb2⟩; have hb2 := ((Below.refl _ w1).alloc (Nat.le_refl _) _).trans (hb2.mono (by simp)))
    | (go_at_call 28; refine (wall_at _ D _ [99, 97, 110, 39, 116, 32, 51, 46, 53] (by simp) (by exact (hs.below hb2 (Nat.le_refl _)).mono hb2.size) (by exact hu1)).mono ?_; rw [hpl.out]; rintro e w3 ⟨u, rfl, hu, hb3⟩)
    | (go_at_call 27; refine (sameInts_any _ _ [0, 5, 6, 9] _ _ (by exact (hu.below ((Below.refl _ _).alloc (Nat.le_refl _) _) (Nat.le_refl _)).mono (Nat.le_succ _)) (by exact (lit_at w3 [0, 5, 6, 9] 3 (isI_of rfl) (by simp)).mono (by simp))).mono ?_; rintro e w4 ⟨rfl, n3, rfl⟩))
  go_ret
  have h1 := hb.size
  have h2 := hb2.size
  have h3 := hb3.size
  exact ⟨rfl, below_drewN ((hb.trans ((hb2.trans (hb3.mono h2)).mono h1)).trans (((Below.refl _ w3).alloc (Nat.le_refl _) _).mono (by omega))) _⟩
end Go.Proofs.YtpaijpdmeiagfaaDoor
