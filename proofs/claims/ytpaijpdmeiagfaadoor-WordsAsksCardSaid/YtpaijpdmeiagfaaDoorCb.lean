/- Clusters: the iterator over the places; All. -/
import Derived.Test.YtpaijpdmeiagfaaDoorCa
import Derived.Test.YtpaijpdmeiagfaaDoorRx
import Derived.Test.YtpaijpdmeiagfaaDoorOw
import Derived.Shelf.Abstract
import Derived.Shelf.RegionOpen
import Derived.WalkKit
import Derived.OwnWalkIn
import Derived.TacticsInMore
import Derived.LoopNIn
import Derived.LoopIn
import Derived.Maps.AppendAt
import Derived.Maps.OwnIn
set_option linter.unusedVariables false
set_option linter.unusedSimpArgs false
namespace Go.Proofs.YtpaijpdmeiagfaaDoor
open Go Go.RowKit Go.WideMaps Go.Shelf Go.Proofs.Kk Go.Proofs.Tm Go.Proofs.Gg Go.Proofs.Tx Go.Proofs.Gr
attribute [local go_sem] Oper.semAt_some

/-- what a round keeps for an iterator with two boxes -/
def Kp2 (n₀ B1 B2 : Nat) (W W' : World) : Prop := Below n₀ W W' ∧ W'.heap[B1]? = W.heap[B1]? ∧ W'.heap[B2]? = W.heap[B2]?

theorem drewN_grown2 (W : World) (k : Nat) (row : Option Nat) : W.grownBy (W.drewN k) row := ⟨rfl, rfl, rfl, Nat.le_refl _, fun _ _ _ => rfl⟩

theorem places_in (D : Nat) (ao : Option Addr) (m c : Nat) (n : Nat) (w : World) :
    CallsIn Fence.wide n Tryd.prog 69 #[.pointer (some ⟨D, 0, none⟩), .slice ao m c] w fun e w' =>
      e = .returned (.func (.func 97) #[] #[.pointer (some ⟨w.heap.size + 1, 0, none⟩), .pointer (some ⟨w.heap.size, 0, none⟩)]) ∧ w' = (w.alloc (.cells #[.pointer (some ⟨D, 0, none⟩)] 24)).alloc (.cells #[.slice ao m c] 22) := by
  refine callsIn_of_wp Tryd.func69 rfl trivial ?_ rfl
  simp only [Tryd.ntmps69, List.size_toArray, List.length_cons, List.length_nil, Nat.reduceAdd, Nat.reduceSub, Array.replicate_succ, Array.replicate_zero, List.push_toArray, List.append_toArray, List.nil_append, List.cons_append]
  gi_wp2
  go_ret
  exact ⟨rfl, rfl⟩

/-- between two rounds of the iterator -/
structure PlSt (J : List Int → World → Prop) (n₀ Bl Bd D : Nat) (v : Value) (zs : List Int) (k : Nat) (W : World) : Prop where
  j : J (plTo cf (sgC zs) k) W
  l : W.heap[Bl]? = some (.cells #[v] 22 (0, 0))
  d : W.heap[Bd]? = some (.cells #[.pointer (some ⟨D, 0, none⟩)] 24 (0, 0))
  s : ShipAt W n₀ D
  t : IntsAt W n₀ v zs
theorem PlSt.kept {J : List Int → World → Prop} {n₀ Bl Bd D : Nat} {v : Value} {zs : List Int} {k k' : Nat} {W W' : World} (h : PlSt J n₀ Bl Bd D v zs k W) (hk : Kp2 n₀ Bl Bd W W') (hj : J (plTo cf (sgC zs) k') W') : PlSt J n₀ Bl Bd D v zs k' W' :=
  ⟨hj, hk.2.1.trans h.l, hk.2.2.trans h.d, h.s.below hk.1 (Nat.le_refl _), h.t.below hk.1 (Nat.le_refl _)⟩

set_option maxRecDepth 100000 in
set_option maxHeartbeats 4000000 in
theorem places1_in (n : Nat) (hn : 1 ≤ n) (l Bl Bd n₀ D : Nat) (v : Value) (zs : List Int) (hsm : zs.length ≤ 1000000000) (J Jx : List Int → World → Prop)
    (hY : ∀ pre x W1, J pre W1 → pre.length < zs.length + 1 → YieldAt Fence.wide (n - 1) Tryd.prog l #[.int .i64 x] W1 fun e W' => (e = .returned (.bool true) ∧ J (pre ++ [x]) W' ∧ Kp2 n₀ Bl Bd W1 W') ∨ (e = .returned (.bool false) ∧ Jx (pre ++ [x]) W'))
    (W : World) (hJ : ∀ s (A : World) k, J s A → J s (A.drewN k)) (hl : W.heap[Bl]? = some (.cells #[v] 22 (0, 0))) (hd : W.heap[Bd]? = some (.cells #[.pointer (some ⟨D, 0, none⟩)] 24 (0, 0)))
    (hs : ShipAt W n₀ D) (ht : IntsAt W n₀ v zs) (h0 : J [] W) :
    CallsIn Fence.wide n Tryd.prog 97 #[.func (.yield l) #[] #[], .pointer (some ⟨Bl, 0, none⟩), .pointer (some ⟨Bd, 0, none⟩)] W fun e W' => (∃ v, e = .returned v) ∧
      ((∃ ys, ys = plI cf (sgC zs) ∧ J ys W') ∨ (∃ pre, pre <+: plI cf (sgC zs) ∧ Jx pre W')) := by
  obtain ⟨ysF, hys⟩ : ∃ ys, ys = plI cf (sgC zs) := ⟨_, rfl⟩
  rw [← hys]
  have hysH := Lib.hid hys
  clear hys
  obtain ⟨ao, c, rfl⟩ := ht.form
  obtain ⟨_, hc1, hc2, _⟩ := ht.len
  have hst : PlSt J n₀ Bl Bd D (.slice ao zs.length c) zs 0 W := ⟨h0, hl, hd, hs, ht⟩
  clear hl hd hs ht h0
  refine callsIn_of_wp Tryd.func97 rfl trivial ?_ rfl
  simp only [Tryd.ntmps97, List.size_toArray, List.length_cons, List.length_nil, Nat.reduceAdd, Nat.reduceSub, Array.replicate_succ, Array.replicate_zero, List.push_toArray, List.append_toArray, List.nil_append, List.cons_append]
  gi_wp2
  gi_loopw [4] (fun i wr => ∃ (k : Nat), k ≤ zs.length + 1 ∧ i = .int .i64 k ∧ PlSt J n₀ Bl Bd D (.slice ao zs.length c) zs k wr) (fun i _ => zs.length + 1 - (intOf i).toNat)
  case atStart => exact ⟨0, by omega, rfl, hst⟩
  case round =>
    obtain ⟨k, hk, rfl, hs⟩ := hrel
    have cl : wr.cell? ⟨Bl, 0, none⟩ = some (.slice ao zs.length c) := by rw [cell_of_row _ _ _ _ _ _ hs.l]; rfl
    have cd : wr.cell? ⟨Bd, 0, none⟩ = some (.pointer (some ⟨D, 0, none⟩)) := by rw [cell_of_row _ _ _ _ _ _ hs.d]; rfl
    by_cases hlt : k ≤ zs.length
    · have hk1 : (k : Int) ≤ zs.length := by omega
      have hB : ∀ V, V.heap = wr.heap → CallsIn Fence.wide (n - 1) Tryd.prog 46 #[.pointer (some ⟨D, 0, none⟩), .slice ao zs.length c, .int .i64 k] V fun e W' => e = .returned (.bool (brkAt cf (sgC zs) k)) ∧ ∃ n', W' = V.drewN n' := fun V hV => by
        have := cbreak_any V n₀ D _ zs k (hs.s.heap hV) (hs.t.heap hV)
        rw [brkI_nat (by rw [sgC_length]; exact hlt)] at this
        exact callsIn_wide.2 this
      have hyes := plTo_yes (f := cf) (t := sgC zs) (k := k)
      have hno := plTo_no (f := cf) (t := sgC zs) (k := k)
      have hpre : plTo cf (sgC zs) (k + 1) <+: plI cf (sgC zs) := by rw [← plTo_all]; exact plTo_pre (by rw [sgC_length]; omega)
      have hlen : (plTo cf (sgC zs) k).length < zs.length + 1 := Nat.lt_succ_of_le (Nat.le_trans (plTo_len _ _ _) hlt)
      rw [← hysH.out] at hpre
      obtain ⟨b, hb⟩ : ∃ b, b = brkAt cf (sgC zs) k := ⟨_, rfl⟩
      rw [← hb] at hB hyes hno
      clear hb
      have hBH := Lib.hid hB
      have hyesH := Lib.hid hyes
      have hnoH := Lib.hid hno
      have hpreH := Lib.hid hpre
      have hlenH := Lib.hid hlen
      have hltH := Lib.hid hlt
      clear hB hyes hno hpre hlen hk hlt
      cases b with
      | false =>
        gi_wp2_with (refine ⟨trivial, ?_⟩; gi_at_call 46; refine (hBH.out _ rfl).mono ?_; rintro e w1 ⟨rfl, k1, rfl⟩)
        refine ⟨fun _ h => (by cases h), ?_⟩
        gi_wp2
        go_roundw
        case rel => exact ⟨k + 1, by have := hltH.out; omega, by go_num, hs.kept ⟨⟨rfl, rfl, rfl, Nat.le_refl _, fun _ _ => rfl⟩, rfl, rfl⟩ (by rw [hnoH.out trivial]; exact hJ _ _ _ hs.j)⟩
        case measure => have := hltH.out; simp [intOf]; omega
      | true =>
        gi_wp2_with (refine ⟨trivial, ?_⟩; gi_at_call 46; refine (hBH.out _ rfl).mono ?_; rintro e w1 ⟨rfl, k1, rfl⟩; obtain ⟨fn, tmps, assign, body, hy1, hR1⟩ := hY _ k _ (hJ _ _ k1 hs.j) hlenH.out)
        refine hR1.mono ?_
        rintro e W3 (⟨rfl, hJ3, hk3⟩ | ⟨rfl, hJx3⟩)
        · gi_wp2
          go_roundw
          case rel => exact ⟨k + 1, by have := hltH.out; omega, by go_num, (hs.kept (k' := k) (W' := wr.drewN k1) ⟨⟨rfl, rfl, rfl, Nat.le_refl _, fun _ _ => rfl⟩, rfl, rfl⟩ (hJ _ _ k1 hs.j)).kept hk3 (by rw [hyesH.out trivial]; exact hJ3)⟩
          case measure => have := hltH.out; simp [intOf]; omega
        · gi_wp2
          refine bodyPost_ret (results_none rfl _ _ _) rfl ?_
          exact ⟨⟨_, rfl⟩, .inr ⟨_, by rw [← hyesH.out trivial]; exact hpreH.out, hJx3⟩⟩
    · obtain rfl : k = zs.length + 1 := by omega
      have hend := hs.j
      rw [← sgC_length zs, plTo_all, ← hysH.out] at hend
      have hendH := Lib.hid hend
      clear hend hlt hk
      gi_wp2
      go_end0
      exact ⟨⟨_, rfl⟩, .inl ⟨_, rfl, hendH.out⟩⟩

theorem infoInt2 : (Tryd.prog.info? 3).map (fun i => (i.zero, i.size, i.bytes)) = some (some (.int .i64 0), 1, 8) := by kernel_rfl
theorem intsU2 : Tryd.prog.underlying 22 = some (.slice 3) := by kernel_rfl

theorem places_stops (n : Nat) (hn : 1 ≤ n) (Bl Bd n₀ D : Nat) (v : Value) (zs : List Int) (hsm : zs.length ≤ 1000000000) (Kp : World → World → Prop) (hKp : ∀ A B, Kp A B → Kp2 n₀ Bl Bd A B) (w : World)
    (hn0 : n₀ ≤ w.heap.size) (hl : w.heap[Bl]? = some (.cells #[v] 22 (0, 0))) (hd : w.heap[Bd]? = some (.cells #[.pointer (some ⟨D, 0, none⟩)] 24 (0, 0))) (hs : ShipAt w n₀ D) (ht : IntsAt w n₀ v zs) :
    SeqStopsK Fence.wide n Tryd.prog 97 #[.pointer (some ⟨Bl, 0, none⟩), .pointer (some ⟨Bd, 0, none⟩)] (fun x : Int => #[Value.int .i64 x]) Kp (fun ys => ys = plI cf (sgC zs)) (fun pre => pre <+: plI cf (sgC zs)) (zs.length + 1) w :=
  fun l J Jx W hW hJ _ hY h0 => by
    refine places1_in n hn l Bl Bd n₀ D v zs hsm J Jx (fun pre x W1 h1 h2 => (hY pre x W1 h1 h2).mono ?_) W (fun s A k h => hJ s A _ none h (drewN_grown2 A k none) (fun r e => by cases e))
      ((hW.block _ (Array.getElem?_eq_some_iff.1 hl).1).trans hl) ((hW.block _ (Array.getElem?_eq_some_iff.1 hd).1).trans hd) (hs.below hW hn0) (ht.below hW hn0) h0
    rintro e W' (⟨he, hj, hk⟩ | h)
    · exact .inl ⟨he, hj, hKp _ _ hk⟩
    · exact .inr h

set_option maxRecDepth 100000 in
set_option maxHeartbeats 4000000 in
theorem appendSeq_in (n : Nat) (hn : 3 ≤ n) (lb : Array Value) (zsF : List Int) (N : Nat) (hN : N ≤ 1000000000) (Sp : List Int → Prop) (w : World)
    (hseq : SeqStopsK Fence.wide (n - 1) Tryd.prog 97 lb (fun x : Int => #[Value.int .i64 x]) (Below w.heap.size) (fun ys => ys = zsF) Sp N (w.alloc (.cells #[.slice none 0 0] 22))) :
    CallsIn Fence.wide n Tryd.prog 96 #[.slice none 0 0, .func (.func 97) #[] lb] w fun e w' => ∃ v, e = .returned v ∧ w'.ownsRow w.heap.size 3 1 v zsF.length (ints zsF) ∧ Below w.heap.size w w' := by
  have h1 : 1 ≤ n := by omega
  obtain ⟨i0, hi, hz0, hz1, hz2⟩ := info_parts infoInt2
  refine callsIn_of_wp_marks Tryd.func96 rfl trivial ?_ rfl
  simp only [Tryd.ntmps96, List.size_toArray, List.length_cons, List.length_nil, Nat.reduceAdd, Nat.reduceSub, Array.replicate_succ, Array.replicate_zero, List.push_toArray, List.append_toArray, List.nil_append, List.cons_append]
  gi_wp2
  have bO := Boxed.new w 22 (.slice none 0 0)
  have hB0 : Below w.heap.size w (w.alloc (.cells #[.slice none 0 0] 22)) := (Below.refl _ w).alloc (Nat.le_refl _) _
  refine wpIn_rangeFunc_ownG rfl h1 (gf := 97) (lb := lb) rfl trivial (enters_of Tryd.func97 (by kernel_rfl) rfl)
    hseq belowK_t (belowK_b (by simp)) (Below.refl _ _) (fun _ => rfl)
    (fun pre W => (∃ v, Boxed W w.heap.size 22 v ∧ W.ownsRow w.heap.size 3 1 v (id pre).length (ints pre) ∧ True) ∧ Below w.heap.size w W)
    (fun _ _ _ => False)
    (OwnFrom.and (Own.from (holdsRow_own w.heap.size w.heap.size 22 3 1 (fun pre : List Int => (id pre).length) (fun pre => ints pre) (fun _ _ => True)) _) (ownFrom_below (Nat.le_refl _) (by simp)))
    (fun _ _ _ _ _ hs _ _ => hs)
    ⟨⟨_, bO, World.ownsRow_nil _ _ _ _, trivial⟩, hB0⟩
    (fun x => { tmps := #[.slice none 0 0, .func (.func 97) #[] lb, .pointer (some ⟨w.heap.size, 0, none⟩), undef, .slice none 0 0, .int .i64 x, .func (.func 97) #[] lb, .int .i64 x, undef, undef, undef, undef, undef], defers := [] }) ?assign ?body ?done ?stop
  case assign =>
    intro l x W K hK
    gi_wp2
    exact hK
  case body =>
    rintro l pre x W ⟨⟨v, hv, hrow, _⟩, hB⟩ hlt
    have hc := hv.cell
    have hpl : (id pre).length < N := hlt
    gi_wp2_with (gi_at_builtin; refine wpListIn_append_own _ rfl _ _ 22 rfl w.heap.size 3 i0 (.int .i64 0) 1 8 intsU2 hi hz0 hz1 hz2 rfl (by decide) _ _ _ rfl (hrow.alloc _) ⟨W.heap.size, 0, none⟩ 1 1 [.int .i64 x] rfl rfl (cell_one_new _ _ _) (by simp [Value.oneCell']) (by unfold maxLen; omega) (by omega) (by have := hB.size; simp; omega) ?_; intro v' w1 hown' hgrow _; obtain ⟨g', cap', rfl⟩ := ownsRow_succ hown'; obtain ⟨hv1, hv2, hr2, hk2, hb2⟩ := hv.appended (by decide) hrow hB.size (Nat.le_refl _) hown' hgrow; have hc1 := hv1.cell; have hf1 := hv1.frozen)
    exact ⟨hk2.from _, hb2, ⟨_, hv2, by rw [ints_append]; simpa [ints] using hr2, trivial⟩, hB.trans hb2⟩
  case done =>
    rintro D ys W hD rfl ⟨⟨v, hv, hrow, _⟩, hB⟩ hK
    have hc := hv.cell
    gi_wp2
    refine ⟨by simp, .inl ⟨_, _, rfl, run_takeDeferred hK, ?_⟩⟩
    exact ⟨_, results_tmp rfl _ _ _, v, rfl, ownsRow_putObj hrow _ hK rfl, hB.trans (belowK_b (w := w) (Nat.le_refl _) W D _ _ (by simp at hD; omega) hK rfl rfl)⟩
  case stop =>
    rintro D c pre W _ _ h _
    exact h.elim

set_option maxRecDepth 100000 in
set_option maxHeartbeats 1000000 in
theorem collect_in (n : Nat) (hn : 4 ≤ n) (lb : Array Value) (zsF : List Int) (N : Nat) (hN : N ≤ 1000000000) (Sp : List Int → Prop) (w : World)
    (hseq : SeqStopsK Fence.wide (n - 1 - 1) Tryd.prog 97 lb (fun x : Int => #[Value.int .i64 x]) (Below w.heap.size) (fun ys => ys = zsF) Sp N (w.alloc (.cells #[.slice none 0 0] 22))) :
    CallsIn Fence.wide n Tryd.prog 68 #[.func (.func 97) #[] lb] w fun e w' => ∃ v, e = .returned v ∧ w'.ownsRow w.heap.size 3 1 v zsF.length (ints zsF) ∧ Below w.heap.size w w' := by
  have h1 : 1 ≤ n := by omega
  refine callsIn_of_wp Tryd.func68 rfl trivial ?_ rfl
  simp only [Tryd.ntmps68, List.size_toArray, List.length_cons, List.length_nil, Nat.reduceAdd, Nat.reduceSub, Array.replicate_succ, Array.replicate_zero, List.push_toArray, List.append_toArray, List.nil_append, List.cons_append]
  gi_wp2_with (refine ⟨trivial, ?_⟩; gi_at_call 96; refine (appendSeq_in (n - 1) (by omega) lb zsF N hN Sp w hseq).mono ?_; rintro e w1 ⟨v1, rfl, hrow, hb⟩)
  go_ret
  exact ⟨_, rfl, hrow, hb⟩

set_option maxRecDepth 100000 in
set_option maxHeartbeats 1000000 in
theorem call_any (w : World) (D : Nat) (v : Value) (zs : List Int) (hsm : zs.length ≤ 100000000) (hs : ShipAt w w.heap.size D) (ht : IntsAt w w.heap.size v zs) :
    Calls Tryd.prog 44 #[.pointer (some ⟨D, 0, none⟩), v] w fun e w' => ∃ u, e = .returned u ∧ w'.ownsRow w.heap.size 3 1 u (plI cf (sgC zs)).length (ints (plI cf (sgC zs))) ∧ Below w.heap.size w w' := by
  obtain ⟨ysF, hys⟩ : ∃ ys, ys = plI cf (sgC zs) := ⟨_, rfl⟩
  rw [← hys]
  have hysH := Lib.hid hys
  clear hys
  obtain ⟨ao, c, rfl⟩ := ht.form
  refine (callsIn_wide (n := 5)).1 ?_
  refine callsIn_of_wp Tryd.func44 rfl trivial ?_ rfl
  simp only [Tryd.ntmps44, List.size_toArray, List.length_cons, List.length_nil, Nat.reduceAdd, Nat.reduceSub, Array.replicate_succ, Array.replicate_zero, List.push_toArray, List.append_toArray, List.nil_append, List.cons_append]
  have hB : Below w.heap.size w ((w.alloc (.cells #[.pointer (some ⟨D, 0, none⟩)] 24)).alloc (.cells #[.slice ao zs.length c] 22)) := ((Below.refl _ w).alloc (Nat.le_refl _) _).alloc (by simp) _
  have b1 : ((w.alloc (.cells #[.pointer (some ⟨D, 0, none⟩)] 24)).alloc (.cells #[.slice ao zs.length c] 22)).heap[w.heap.size + 1]? = some (.cells #[.slice ao zs.length c] 22 (0, 0)) := by
    have := heap_alloc_new (w.alloc (.cells #[.pointer (some ⟨D, 0, none⟩)] 24)) (.cells #[.slice ao zs.length c] 22)
    rwa [World.size_alloc] at this
  have b2 : ((w.alloc (.cells #[.pointer (some ⟨D, 0, none⟩)] 24)).alloc (.cells #[.slice ao zs.length c] 22)).heap[w.heap.size]? = some (.cells #[.pointer (some ⟨D, 0, none⟩)] 24 (0, 0)) :=
    (Below.heap_alloc _ _ _ (by simp)).trans (heap_alloc_new w _)
  have hsz : ((w.alloc (.cells #[.pointer (some ⟨D, 0, none⟩)] 24)).alloc (.cells #[.slice ao zs.length c] 22)).heap.size = w.heap.size + 2 := by simp
  have hpl := places_in D ao zs.length c (5 - 1) w
  generalize (w.alloc (.cells #[.pointer (some ⟨D, 0, none⟩)] 24)).alloc (.cells #[.slice ao zs.length c] 22) = w1 at hB b1 b2 hsz hpl
  have hs1 := hs.below hB (Nat.le_refl _)
  have ht1 := ht.below hB (Nat.le_refl _)
  have hB2 : Below w1.heap.size w1 (w1.alloc (.cells #[.slice none 0 0] 22)) := (Below.refl _ w1).alloc (Nat.le_refl _) _
  have hseq := places_stops (5 - 1 - 1 - 1) (by omega) (w.heap.size + 1) w.heap.size w.heap.size D (.slice ao zs.length c) zs (by omega) (Below w1.heap.size)
    (fun A B h => ⟨h.mono (by omega), h.block _ (by omega), h.block _ (by omega)⟩) (w1.alloc (.cells #[.slice none 0 0] 22)) (by simp; omega)
    ((Below.heap_alloc _ _ _ (by omega)).trans b1) ((Below.heap_alloc _ _ _ (by omega)).trans b2) (hs1.below hB2 (by omega)) (ht1.below hB2 (by omega))
  rw [← hysH.out] at hseq
  have hseqH := Lib.hid hseq
  have hplH := Lib.hid hpl
  clear hseq hpl hs1 ht1 hB2 b1 b2 hs ht
  gi_wp2_with (first
    | (refine ⟨trivial, ?_⟩; gi_at_call 69; refine (hplH.out).mono ?_; rintro e w2 ⟨rfl, rfl⟩)
    | (refine ⟨trivial, ?_⟩; gi_at_call 68; refine (collect_in (5 - 1) (by omega) _ ysF (zs.length + 1) (by omega) _ _ hseqH.out).mono ?_; rintro e w3 ⟨v3, rfl, hrow, hb⟩))
  go_ret
  exact ⟨_, rfl, ownsRow_base hrow (by omega), hB.trans (hb.mono (by omega))⟩
end Go.Proofs.YtpaijpdmeiagfaaDoor
