/- Words: how many heads ahead are flags. -/
import Derived.Test.YtpaijpdmeiagfaaDoorWd
import Derived.Test.YtpaijpdmeiagfaaDoorCg
import Derived.BigRegionIn
import Derived.Test.YtpaijpdmeiagfaaDoorWa
import Derived.Test.YtpaijpdmeiagfaaDoorCa
import Derived.Test.YtpaijpdmeiagfaaDoorCb
set_option linter.unusedVariables false
set_option linter.unusedSimpArgs false
namespace Go.Proofs.Tx
theorem flagsW_all {h : List Int} (a : ∀ x ∈ h, x = 7) : flagsW h = h.length := by
  unfold flagsW
  induction h with
  | nil => rfl
  | cons x h ih =>
    rw [List.takeWhile_cons_of_pos (by simp [a x (by simp)]), List.length_cons, List.length_cons, ih fun y hy => a y (by simp [hy])]
theorem flagsW_stop {h q : List Int} {x : Int} (hp : q ++ [x] <+: h) (a : ∀ y ∈ q, y = 7) (hx : x ≠ 7) : flagsW h = q.length := by
  obtain ⟨r, rfl⟩ := hp
  unfold flagsW
  rw [List.append_assoc, List.takeWhile_append_of_pos (fun y hy => by simp [a y hy])]
  simp [hx]
end Go.Proofs.Tx
namespace Go.Proofs.YtpaijpdmeiagfaaDoor
open Go Go.RowKit Go.WideMaps Go.Shelf Go.Proofs.Kk Go.Proofs.Tm Go.Proofs.Gg Go.Proofs.Gi Go.Proofs.Tx Go.Proofs.Gr
attribute [local go_sem] Oper.semAt_some

theorem grown_below {w w' : World} (h : Below w.heap.size w w') (row : Option Nat) : w.grownBy w' row := ⟨h.os, h.tape, h.output, h.size, fun k hk _ => h.block k hk⟩

theorem ahead_stops (n : Nat) (hn : 2 ≤ n) (Bi Bd Bl n₀ D : Nat) (v : Value) (zs : List Int) (hsm : zs.length ≤ 1000000000) (i : Int) (hi0 : 0 ≤ i) (hi1 : i ≤ zs.length) (w : World)
    (hn0 : n₀ ≤ w.heap.size) (hb : w.heap[Bi]? = some (.cells #[.int .i64 i] 3 (0, 0))) (hd : w.heap[Bd]? = some (.cells #[.pointer (some ⟨D, 0, none⟩)] 24 (0, 0))) (hl : w.heap[Bl]? = some (.cells #[v] 22 (0, 0))) (hs : ShipAt w n₀ D) (ht : IntsAt w n₀ v zs) :
    SeqStopsK Fence.wide n Tryd.prog 114 #[.pointer (some ⟨Bi, 0, none⟩), .pointer (some ⟨Bd, 0, none⟩), .pointer (some ⟨Bl, 0, none⟩)] (fun x : Int => #[Value.int .i64 x]) (Kp3 n₀ Bi Bd Bl) (fun ys => ys = headsOf (ahd (sgW zs) i)) (fun pre => pre <+: headsOf (ahd (sgW zs) i)) zs.length w :=
  fun l J Jx W hW hJ _ hY h0 => by
    have hB := fun {X : Nat} {o : Obj} (h : w.heap[X]? = some o) => (hW.block _ (Array.getElem?_eq_some_iff.1 h).1).trans h
    refine ahead1_in n hn l Bi Bd Bl n₀ D v zs hsm i hi0 hi1 J Jx hY W (fun s A A' h hk => hJ s A _ none h (grown_below hk none) (fun r e => by cases e))
      ⟨⟨[], by rw [Int.sub_add_cancel]; exact rfl, h0⟩, hB hb, hB hd, hB hl, hs.below hW hn0, ht.below hW hn0, Nat.le_trans hn0 hW.size⟩

theorem ahead_boxes (w : World) (D : Nat) (v : Value) (i : Int) :
    (((w.alloc (.cells #[.pointer (some ⟨D, 0, none⟩)] 24)).alloc (.cells #[v] 22)).alloc (.cells #[.int .i64 i] 3)).heap.size = w.heap.size + 3 ∧
    Below w.heap.size w (((w.alloc (.cells #[.pointer (some ⟨D, 0, none⟩)] 24)).alloc (.cells #[v] 22)).alloc (.cells #[.int .i64 i] 3)) ∧
    (((w.alloc (.cells #[.pointer (some ⟨D, 0, none⟩)] 24)).alloc (.cells #[v] 22)).alloc (.cells #[.int .i64 i] 3)).heap[w.heap.size + 1 + 1]? = some (.cells #[.int .i64 i] 3 (0, 0)) ∧
    (((w.alloc (.cells #[.pointer (some ⟨D, 0, none⟩)] 24)).alloc (.cells #[v] 22)).alloc (.cells #[.int .i64 i] 3)).heap[w.heap.size + 1]? = some (.cells #[v] 22 (0, 0)) ∧
    (((w.alloc (.cells #[.pointer (some ⟨D, 0, none⟩)] 24)).alloc (.cells #[v] 22)).alloc (.cells #[.int .i64 i] 3)).heap[w.heap.size]? = some (.cells #[.pointer (some ⟨D, 0, none⟩)] 24 (0, 0)) := by
  refine ⟨by simp, (((Below.refl _ w).alloc (Nat.le_refl _) _).alloc (by simp) _).alloc (by simp; omega) _, ?_, ?_, ?_⟩
  · have := heap_alloc_new ((w.alloc (.cells #[.pointer (some ⟨D, 0, none⟩)] 24)).alloc (.cells #[v] 22)) (.cells #[.int .i64 i] 3)
    simpa [World.size_alloc] using this
  · refine (Below.heap_alloc _ _ _ (by simp)).trans ?_
    have := heap_alloc_new (w.alloc (.cells #[.pointer (some ⟨D, 0, none⟩)] 24)) (.cells #[v] 22)
    simpa [World.size_alloc] using this
  · exact (Below.heap_alloc _ _ _ (by simp; omega)).trans ((Below.heap_alloc _ _ _ (by simp)).trans (heap_alloc_new w _))

/-- between two rounds of flags -/
structure FlI (w : World) (B : Nat) (pre : List Int) (W : World) : Prop where
  n : Boxed W B 3 (.int .i64 pre.length)
  all : ∀ y ∈ pre, y = 7
  bel : Below w.heap.size w W
/-- .. where the loop is left -/
def FlX (w : World) (B : Nat) (c : Code) (pre : List Int) (W : World) : Prop :=
  c = .exit 0 ∧ ∃ q p, pre = q ++ [p] ∧ (∀ y ∈ q, y = 7) ∧ p ≠ 7 ∧ Boxed W B 3 (.int .i64 q.length) ∧ Below w.heap.size w W
theorem FlI.own (w : World) (B N : Nat) (h1 : B < N) (hw : w.heap.size ≤ N) : OwnFrom N (FlI w B) := by
  rintro s W W' row ⟨hu, h3, hb⟩ hg hr
  have ne : ∀ k, k < N → some k ≠ row := fun k hk e => by have := (hr k e.symm).1; omega
  exact ⟨hu.kept hg (ne _ h1), h3, hb.grown hg hb.size (fun k e => by have := (hr k e).1; omega)⟩
theorem FlX.own (w : World) (B N : Nat) (c : Code) (h1 : B < N) (hw : w.heap.size ≤ N) : OwnFrom N (FlX w B c) := by
  rintro s W W' row ⟨h1, q, p, h3, h4, h5, h6, hb⟩ hg hr
  have ne : ∀ k, k < N → some k ≠ row := fun k hk e => by have := (hr k e.symm).1; omega
  exact ⟨h1, q, p, h3, h4, h5, h6.kept hg (ne _ (by assumption)), hb.grown hg hb.size (fun k e => by have := (hr k e).1; omega)⟩

set_option maxRecDepth 100000 in
set_option maxHeartbeats 8000000 in
theorem wflags_any (w : World) (D : Nat) (v : Value) (zs : List Int) (hsm : zs.length ≤ 1000000) (i : Int) (hs : ShipAt w w.heap.size D) (ht : IntsAt w w.heap.size v zs) (h0 : 0 ≤ i) (h1 : i ≤ zs.length) :
    Calls Tryd.prog 80 #[.pointer (some ⟨D, 0, none⟩), v, .int .i64 i] w fun e w' => e = .returned (.int .i64 (flagsW (headsOf (ahd (sgW zs) i)))) ∧ Below w.heap.size w w' := by
  obtain ⟨ao, c, rfl⟩ := ht.form
  obtain ⟨r, hr⟩ : ∃ r, r = flagsW (headsOf (ahd (sgW zs) i)) := ⟨_, rfl⟩
  rw [← hr]
  have hrH := Lib.hid hr
  clear hr
  refine (callsIn_wide (n := 6)).1 ?_
  refine callsIn_of_wp_marks Tryd.func80 rfl trivial ?_ rfl
  simp only [Tryd.ntmps80, List.size_toArray, List.length_cons, List.length_nil, Nat.reduceAdd, Nat.reduceSub, Array.replicate_succ, Array.replicate_zero, List.push_toArray, List.append_toArray, List.nil_append, List.cons_append]
  gi_wp2_with (refine ⟨trivial, ?_⟩; gi_at_call 98; refine (ahead_in D ao zs.length c i _ _).mono ?_; rintro e w2 ⟨rfl, rfl⟩)
  obtain ⟨hz3, hB3, b1, b2, b3⟩ := ahead_boxes (w.alloc (.cells #[.int .i64 0] 3)) D (.slice ao zs.length c) i
  have hB3 := ((Below.refl _ w).alloc (Nat.le_refl _) (.cells #[.int .i64 0] 3)).trans (hB3.mono (by simp))
  have b4 : Boxed ((((w.alloc (.cells #[.int .i64 0] 3)).alloc (.cells #[.pointer (some ⟨D, 0, none⟩)] 24)).alloc (.cells #[.slice ao zs.length c] 22)).alloc (.cells #[.int .i64 i] 3)) w.heap.size 3 (.int .i64 0) :=
    (((Boxed.new w 3 (.int .i64 0)).alloc _).alloc _).alloc _
  have hs1 : (w.alloc (.cells #[.int .i64 0] 3)).heap.size = w.heap.size + 1 := World.size_alloc _ _
  rw [hs1] at hz3 b1 b2 b3
  generalize (((w.alloc (.cells #[.int .i64 0] 3)).alloc (.cells #[.pointer (some ⟨D, 0, none⟩)] 24)).alloc (.cells #[.slice ao zs.length c] 22)).alloc (.cells #[.int .i64 i] 3) = W3 at hz3 hB3 b1 b2 b3 b4 ⊢
  have hs3 := hs.below hB3 (Nat.le_refl _)
  have ht3 := ht.below hB3 (Nat.le_refl _)
  have hseq := ahead_stops (6 - 1) (by omega) (w.heap.size + 1 + 1 + 1) (w.heap.size + 1) (w.heap.size + 1 + 1) w.heap.size D (.slice ao zs.length c) zs (by omega) i h0 h1 W3 (by omega) b1 b3 b2 hs3 ht3
  have hsmH := Lib.hid hsm
  apply wpIn_rangeFunc_ownG rfl (by omega) (gf := 114) (lb := #[.pointer (some ⟨w.heap.size + 1 + 1 + 1, 0, none⟩), .pointer (some ⟨w.heap.size + 1, 0, none⟩), .pointer (some ⟨w.heap.size + 1 + 1, 0, none⟩)]) rfl trivial (enters_of Tryd.func114 (by kernel_rfl) rfl) hseq Kp3.trans
    (fun W l o o' hl h _ _ => Kp3.put (by omega) (by omega) (by omega) (by omega) W l o o' hl h) (Below.refl _ _) (fun _ => rfl) (FlI w w.heap.size) (FlX w w.heap.size)
    (FlI.own w _ _ (by omega) (by omega)) (fun c => FlX.own w _ _ c (by omega) (by omega)) ⟨b4, by simp, hB3⟩
  case hassign =>
    intro l x W K hK
    gi_wp2
    exact hK
  case hbody =>
    rintro l pre x W ⟨hn, hall, hb⟩ hlen
    have cn := hn.cell
    have fn := hn.frozen
    have hlen2 : pre.length < 1000000 := by have := hsmH.out; omega
    by_cases hx : x = 7
    · subst hx
      clear hlen
      gi_wp2
      refine ⟨(KeepsOthers.setCell _ _ _).from _, Kp3.set _ _ _ _ (Nat.le_refl _) (by omega) (by omega) (by omega), ⟨?_, fun y hy => ?_, hb.setCell (p := ⟨w.heap.size, 0, none⟩) (Nat.le_refl _) _⟩⟩
      · have := hn.set (.int .i64 ((pre.length : Int) + 1))
        simpa using this
      · rcases List.mem_append.1 hy with g | g
        · exact hall y g
        · simpa using g
    · have hx1 : (x != 7) = true := by simpa using hx
      have hxH := Lib.hid hx
      clear hx hlen
      gi_wp2
      exact ⟨(KeepsOthers.refl _).from _, rfl, pre, x, rfl, hall, hxH.out, hn, hb⟩
  case hdone =>
    rintro Dd ys W hD rfl ⟨hn, hall, hb⟩ hK
    have cn := hn.cell
    have e : r = (headsOf (ahd (sgW zs) i)).length := by rw [hrH.out, flagsW_all hall]
    rw [← e] at cn
    clear hn hall e
    gi_wp2
    refine ⟨by simp, .inl ⟨_, _, rfl, run_takeDeferred hK, ?_⟩⟩
    exact ⟨_, results_tmp rfl _ _ _, rfl, hb.trans (belowK_b (w := w) (Nat.le_refl _) W Dd _ _ (by omega) hK rfl rfl)⟩
  case hstop =>
    rintro Dd c' pre W hD hpre ⟨rfl, q, p, rfl, hq, hp, hbox, hb⟩ hK
    have cn := hbox.cell
    have e : r = q.length := by rw [hrH.out, flagsW_stop hpre hq hp]
    rw [← e] at cn
    clear hbox hq hp e hpre
    gi_wp2
    refine ⟨by simp, .inl ⟨_, _, rfl, run_takeDeferred hK, ?_⟩⟩
    exact ⟨_, results_tmp rfl _ _ _, rfl, hb.trans (belowK_b (w := w) (Nat.le_refl _) W Dd _ _ (by omega) hK rfl rfl)⟩
end Go.Proofs.YtpaijpdmeiagfaaDoor

namespace Go.Proofs.YtpaijpdmeiagfaaDoor
open Go Go.RowKit Go.WideMaps Go.Shelf Go.Proofs.Kk Go.Proofs.Tm Go.Proofs.Gg Go.Proofs.Gi Go.Proofs.Tx Go.Proofs.Gr
attribute [local go_sem] Oper.semAt_some

/-- a block of two whole numbers -/
def Pair (W : World) (B : Nat) (x y : Int) : Prop := W.heap[B]? = some (.cells #[.int .i64 x, .int .i64 y] 110 (0, 0))
theorem Pair.lt {W : World} {B : Nat} {x y : Int} (h : Pair W B x y) : B < W.heap.size := (Array.getElem?_eq_some_iff.1 h).1
theorem Pair.c0 {W : World} {B : Nat} {x y : Int} (h : Pair W B x y) : W.cell? ⟨B, 0, none⟩ = some (.int .i64 x) := by simp [World.cell?, show W.heap[B]? = _ from h]
theorem Pair.c1 {W : World} {B : Nat} {x y : Int} (h : Pair W B x y) : W.cell? ⟨B, 1, none⟩ = some (.int .i64 y) := by simp [World.cell?, show W.heap[B]? = _ from h]
theorem Pair.f0 {W : World} {B : Nat} {x y : Int} (h : Pair W B x y) : W.frozen? ⟨B, 0, none⟩ = false := by simp [World.frozen?, show W.heap[B]? = _ from h]
theorem Pair.f1 {W : World} {B : Nat} {x y : Int} (h : Pair W B x y) : W.frozen? ⟨B, 1, none⟩ = false := by simp [World.frozen?, show W.heap[B]? = _ from h]
theorem Pair.kept {W W' : World} {row : Option Nat} {B : Nat} {x y : Int} (h : Pair W B x y) (hg : W.grownBy W' row) (hne : some B ≠ row) : Pair W' B x y := (hg.block B h.lt hne).trans h
theorem Pair.alloc {W : World} {B : Nat} {x y : Int} (h : Pair W B x y) (o : Obj) : Pair (W.alloc o) B x y := h.kept (World.grownBy_alloc W o none) (by simp)
theorem Pair.new (W : World) (x y : Int) : Pair (W.alloc (.cells #[.int .i64 x, .int .i64 y] 110)) W.heap.size x y := World.alloc_heap_new W _
theorem Pair.set0 {W : World} {B : Nat} {x y : Int} (z : Int) (h : Pair W B x y) : Pair (W.setCell ⟨B, 0, none⟩ (.int .i64 z)) B z y := by
  obtain ⟨hlt, hk⟩ := Array.getElem?_eq_some_iff.1 h
  show (W.heap.modify B _)[B]? = _
  rw [Array.getElem?_eq_getElem (by rw [Array.size_modify]; exact hlt), Array.getElem_modify_self, hk]
  rfl
theorem Pair.set1 {W : World} {B : Nat} {x y : Int} (z : Int) (h : Pair W B x y) : Pair (W.setCell ⟨B, 1, none⟩ (.int .i64 z)) B x z := by
  obtain ⟨hlt, hk⟩ := Array.getElem?_eq_some_iff.1 h
  show (W.heap.modify B _)[B]? = _
  rw [Array.getElem?_eq_getElem (by rw [Array.size_modify]; exact hlt), Array.getElem_modify_self, hk]
  rfl
theorem Pair.other {W : World} {B B' o : Nat} {x y : Int} (h : Pair W B x y) (hne : B ≠ B') (u : Value) : Pair (W.setCell ⟨B', o, none⟩ u) B x y := (Below.heap_setCell _ ⟨B', o, none⟩ _ _ hne).trans h
theorem boxed_other {W : World} {B B' o : Nat} {t : TypeId} {v : Value} (h : Boxed W B t v) (hne : B ≠ B') (u : Value) : Boxed (W.setCell ⟨B', o, none⟩ u) B t v := (Below.heap_setCell _ ⟨B', o, none⟩ _ _ hne).trans h

/-- between two rounds of around -/
structure ArI (w : World) (Ba Bn : Nat) (pre : List Int) (W : World) : Prop where
  n : Boxed W Bn 3 (.int .i64 pre.length)
  lt : pre.length < 2
  two : Pair W Ba (pre.getD 0 (-1)) (pre.getD 1 (-1))
  bel : Below w.heap.size w W
/-- .. where the loop is left -/
def ArX (w : World) (Ba : Nat) (c : Code) (pre : List Int) (W : World) : Prop :=
  c = .exit 0 ∧ pre.length = 2 ∧ Pair W Ba (pre.getD 0 (-1)) (pre.getD 1 (-1)) ∧ Below w.heap.size w W
theorem ArI.own (w : World) (Ba Bn N : Nat) (h1 : Ba < N) (h2 : Bn < N) (hw : w.heap.size ≤ N) : OwnFrom N (ArI w Ba Bn) := by
  rintro s W W' row ⟨hu, h3, hp, hb⟩ hg hr
  have ne : ∀ k, k < N → some k ≠ row := fun k hk e => by have := (hr k e.symm).1; omega
  exact ⟨hu.kept hg (ne _ h2), h3, hp.kept hg (ne _ h1), hb.grown hg hb.size (fun k e => by have := (hr k e).1; omega)⟩
theorem ArX.own (w : World) (Ba N : Nat) (c : Code) (h1 : Ba < N) (hw : w.heap.size ≤ N) : OwnFrom N (ArX w Ba c) := by
  rintro s W W' row ⟨h0, h3, hp, hb⟩ hg hr
  have ne : ∀ k, k < N → some k ≠ row := fun k hk e => by have := (hr k e.symm).1; omega
  exact ⟨h0, h3, hp.kept hg (ne _ h1), hb.grown hg hb.size (fun k e => by have := (hr k e).1; omega)⟩
theorem getD_pre {p h : List Int} (hp : p <+: h) (j : Nat) (hj : j < p.length) : p.getD j (-1) = h.getD j (-1) := by
  obtain ⟨r, rfl⟩ := hp
  simp [List.getD, List.getElem?_append_left hj]

set_option maxRecDepth 100000 in
set_option maxHeartbeats 8000000 in
theorem waround_any (w : World) (D : Nat) (v : Value) (zs : List Int) (hsm : zs.length ≤ 1000000) (i : Int) (hs : ShipAt w w.heap.size D) (ht : IntsAt w w.heap.size v zs) (h0 : 0 < i) (h1 : i < zs.length) :
    Calls Tryd.prog 76 #[.pointer (some ⟨D, 0, none⟩), v, .int .i64 i] w fun e w' => e = .returned (.tuple #[.int .i64 ((headsOf (ahd (sgW zs) i)).getD 1 (-1)), .int .i64 ((headsOf (ahd (sgW zs) i)).getD 0 (-1)), .int .i64 (nextI zs (i + 1))]) ∧ Below w.heap.size w w' := by
  obtain ⟨ao, c, rfl⟩ := ht.form
  obtain ⟨q1, hq1⟩ : ∃ r, r = (headsOf (ahd (sgW zs) i)).getD 1 (-1) := ⟨_, rfl⟩
  obtain ⟨q0, hq0⟩ : ∃ r, r = (headsOf (ahd (sgW zs) i)).getD 0 (-1) := ⟨_, rfl⟩
  obtain ⟨nF, hnF⟩ : ∃ r, r = nextI zs (i + 1) := ⟨_, rfl⟩
  rw [← hq1, ← hq0, ← hnF]
  have hq1H := Lib.hid hq1
  have hq0H := Lib.hid hq0
  have hnFH := Lib.hid hnF
  clear hq1 hq0 hnF
  refine (callsIn_wide (n := 6)).1 ?_
  refine callsIn_of_wp_marks Tryd.func76 rfl trivial ?_ rfl
  simp only [Tryd.ntmps76, List.size_toArray, List.length_cons, List.length_nil, Nat.reduceAdd, Nat.reduceSub, Array.replicate_succ, Array.replicate_zero, List.push_toArray, List.append_toArray, List.nil_append, List.cons_append]
  gi_wp2_with (refine ⟨trivial, ?_⟩; gi_at_call 98; refine (ahead_in D ao zs.length c i _ _).mono ?_; rintro e w2 ⟨rfl, rfl⟩)
  obtain ⟨hz3, hB3, b1, b2, b3⟩ := ahead_boxes ((w.alloc (.cells #[.int .i64 (-1), .int .i64 (-1)] 110)).alloc (.cells #[.int .i64 0] 3)) D (.slice ao zs.length c) i
  have hB0 : Below w.heap.size w ((w.alloc (.cells #[.int .i64 (-1), .int .i64 (-1)] 110)).alloc (.cells #[.int .i64 0] 3)) := ((Below.refl _ w).alloc (Nat.le_refl _) _).alloc (by simp) _
  have hB3 := hB0.trans (hB3.mono (by simp; omega))
  have b4 : Boxed ((((((w.alloc (.cells #[.int .i64 (-1), .int .i64 (-1)] 110)).alloc (.cells #[.int .i64 0] 3)).alloc (.cells #[.pointer (some ⟨D, 0, none⟩)] 24)).alloc (.cells #[.slice ao zs.length c] 22)).alloc (.cells #[.int .i64 i] 3))) (w.heap.size + 1) 3 (.int .i64 0) := by
    have := Boxed.new (w.alloc (.cells #[.int .i64 (-1), .int .i64 (-1)] 110)) 3 (.int .i64 0)
    rw [World.size_alloc] at this
    exact ((this.alloc _).alloc _).alloc _
  have b5 : Pair ((((((w.alloc (.cells #[.int .i64 (-1), .int .i64 (-1)] 110)).alloc (.cells #[.int .i64 0] 3)).alloc (.cells #[.pointer (some ⟨D, 0, none⟩)] 24)).alloc (.cells #[.slice ao zs.length c] 22)).alloc (.cells #[.int .i64 i] 3))) w.heap.size (-1) (-1) :=
    ((((Pair.new w (-1) (-1)).alloc _).alloc _).alloc _).alloc _
  have hs1 : ((w.alloc (.cells #[.int .i64 (-1), .int .i64 (-1)] 110)).alloc (.cells #[.int .i64 0] 3)).heap.size = w.heap.size + 1 + 1 := by simp
  rw [hs1] at hz3 b1 b2 b3
  clear hs1 hB0
  generalize ((((w.alloc (.cells #[.int .i64 (-1), .int .i64 (-1)] 110)).alloc (.cells #[.int .i64 0] 3)).alloc (.cells #[.pointer (some ⟨D, 0, none⟩)] 24)).alloc (.cells #[.slice ao zs.length c] 22)).alloc (.cells #[.int .i64 i] 3) = W3 at hz3 hB3 b1 b2 b3 b4 b5 ⊢
  have hs3 := hs.below hB3 (Nat.le_refl _)
  have ht3 := ht.below hB3 (Nat.le_refl _)
  have hseq := ahead_stops (6 - 1) (by omega) (w.heap.size + 1 + 1 + 1 + 1) (w.heap.size + 1 + 1) (w.heap.size + 1 + 1 + 1) w.heap.size D (.slice ao zs.length c) zs (by omega) i (by omega) (by omega) W3 (by omega) b1 b3 b2 hs3 ht3
  apply wpIn_rangeFunc_ownG rfl (by omega) (gf := 114) (lb := #[.pointer (some ⟨w.heap.size + 1 + 1 + 1 + 1, 0, none⟩), .pointer (some ⟨w.heap.size + 1 + 1, 0, none⟩), .pointer (some ⟨w.heap.size + 1 + 1 + 1, 0, none⟩)]) rfl trivial (enters_of Tryd.func114 (by kernel_rfl) rfl) hseq Kp3.trans
    (fun W l o o' hl h _ _ => Kp3.put (by omega) (by omega) (by omega) (by omega) W l o o' hl h) (Below.refl _ _) (fun _ => rfl) (ArI w w.heap.size (w.heap.size + 1)) (ArX w w.heap.size)
    (ArI.own w _ _ _ (by omega) (by omega) (by omega)) (fun c => ArX.own w _ _ c (by omega) (by omega)) ⟨b4, by simp, b5, hB3⟩
  case hassign =>
    intro l x W K hK
    gi_wp2
    exact hK
  case hbody =>
    rintro l pre x W ⟨hn, hlt2, hp, hb⟩ hlen
    have ne1 : w.heap.size ≠ w.heap.size + 1 := by omega
    have ne2 : w.heap.size + 1 ≠ w.heap.size := by omega
    have cn := hn.cell
    have fn := hn.frozen
    have c0 := hp.c0
    have c1 := hp.c1
    have f0 := hp.f0
    have f1 := hp.f1
    rcases pre with _ | ⟨y, _ | ⟨z, t⟩⟩
    · clear hlen hlt2
      gi_wp2
      refine ⟨((KeepsOthers.setCell _ _ _).from _).trans ((KeepsOthers.setCell _ _ _).from _), (Kp3.set _ _ _ _ (Nat.le_refl _) (by omega) (by omega) (by omega)).trans (Kp3.set _ _ _ _ (by omega) (by omega) (by omega) (by omega)), ⟨(boxed_other hn ne2 _).set _, by simp, (hp.set0 x).other ne1 _, (hb.setCell (p := ⟨w.heap.size, 0, none⟩) (Nat.le_refl _) _).setCell (p := ⟨w.heap.size + 1, 0, none⟩) (by simp) _⟩⟩
    · clear hlen hlt2
      gi_wp2
      exact ⟨((KeepsOthers.setCell _ _ _).from _).trans ((KeepsOthers.setCell _ _ _).from _), rfl, rfl, (hp.set1 x).other ne1 _, (hb.setCell (p := ⟨w.heap.size, 1, none⟩) (Nat.le_refl _) _).setCell (p := ⟨w.heap.size + 1, 0, none⟩) (by simp) _⟩
    · simp at hlt2; omega
  case hdone =>
    rintro Dd ys W hD rfl ⟨hn, hlt2, hp, hb⟩ hK
    rw [← hq0H.out, ← hq1H.out] at hp
    clear hn hlt2 hq0H hq1H
    have hsW := hs.below hb (Nat.le_refl _)
    have htW := ht.below hb (Nat.le_refl _)
    gi_wp2
    gi_loopw [12, 13] (fun vn vk wr => ∃ (nx k : Int), vn = .int .i64 nx ∧ vk = .int .i64 k ∧ i + 1 ≤ k ∧ k ≤ zs.length ∧ Hid ((nx = -1 ∧ nF = nextI zs k) ∨ (nx ≠ -1 ∧ nF = nx)) ∧ Below W.heap.size W wr) (fun _ vk _ => ((zs.length : Int) - intOf vk).toNat)
    case atStart => exact ⟨-1, i + 1, rfl, rfl, by omega, by omega, .inl ⟨rfl, hnFH.out⟩, Below.refl _ _⟩
    case round =>
      obtain ⟨nx, k, rfl, rfl, hk0, hk1, hnx, hbw⟩ := hrel
      by_cases hgo : k < zs.length ∧ nx = -1
      · obtain ⟨hlt, rfl⟩ := hgo
        have hnk : Hid (nF = nextI zs k) := by
          rcases hnx.out with h | h
          · exact h.2
          · exact absurd rfl h.1
        have hstep := nextI_step (zs := zs) (k := k) (by omega) hlt
        have hWs := hb.trans (hbw.mono hb.size)
        obtain ⟨b, off, rfl, hbo, pz⟩ := htW.at_ (i := k) (by omega) hlt
        have hr := wdK_rng (zs.getD k.toNat 0)
        generalize zs.getD k.toNat 0 = z at hstep pz hr
        have hH : CallsIn Fence.wide (6 - 1) Tryd.prog 53 #[.pointer (some ⟨D, 0, none⟩), .slice (some ⟨b, off, none⟩) zs.length c, .int .i64 k] wr fun e W' => e = .returned (.bool (headI (sgW zs) k)) ∧ Below wr.heap.size wr W' :=
          callsIn_wide.2 (whead_any wr D _ zs k ((hsW.below (hbw.mono hb.size) (Nat.le_refl _)).mono hWs.size) ((htW.below (hbw.mono hb.size) (Nat.le_refl _)).mono hWs.size))
        obtain ⟨hd, hhdv⟩ : ∃ h, h = headI (sgW zs) k := ⟨_, rfl⟩
        rw [← hhdv] at hstep hH
        have hHH := Lib.hid hH
        have hstH := Lib.hid hstep
        clear hH hstep hhdv hnx
        cases hd with
        | false =>
          have hn2 : Hid (nF = nextI zs (k + 1)) := by rw [hnk.out, hstH.out]; exact rfl
          clear hnk hstH
          gi_wp2_with (refine ⟨trivial, ?_⟩; gi_at_call 53; refine hHH.out.mono ?_; rintro e w1 ⟨rfl, hb1⟩)
          go_roundw
          case rel => exact ⟨-1, k + 1, rfl, rfl, by omega, by omega, .inl ⟨rfl, hn2.out⟩, hbw.trans (hb1.mono hbw.size)⟩
          case measure => simp [intOf]; omega
        | true =>
          have hn2 : Hid (nF = wdK z) := by rw [hnk.out, hstH.out]; exact rfl
          have hr1 : wdK z ≠ -1 := by omega
          have hWd : ∀ V, Below wr.heap.size wr V → CallsIn Fence.wide (6 - 1) Tryd.prog 26 #[.pointer (some ⟨D, 0, none⟩), .int .i64 z] V fun e W' => e = .returned (.int .i64 (wdK z)) ∧ ∃ n', W' = V.drewN n' := fun V hV =>
            callsIn_wide.2 (sword_any V w.heap.size D z ((hsW.below (hbw.mono hb.size) (Nat.le_refl _)).below (hV.mono hWs.size) (Nat.le_refl _)))
          have hWdH := Lib.hid hWd
          have pzW : Hid (∀ V, Below wr.heap.size wr V → V.cell? ⟨b, off + k.toNat, none⟩ = some (.int .i64 z)) := fun V hV => ((hbw.mono hb.size).trans (hV.mono hWs.size) |>.cell (p := ⟨b, _, none⟩) hbo).trans pz
          clear hnk hstH hWd pz hr
          gi_wp2_with (first
            | (refine ⟨trivial, ?_⟩; gi_at_call 53; refine hHH.out.mono ?_; rintro e w1 ⟨rfl, hb1⟩; have pz := pzW.out _ hb1)
            | (refine ⟨trivial, ?_⟩; gi_at_call 26; refine (hWdH.out _ hb1).mono ?_; rintro e w2 ⟨rfl, k2, rfl⟩))
          go_roundw
          case rel => exact ⟨wdK z, k + 1, rfl, rfl, by omega, by omega, .inr ⟨hr1, hn2.out⟩, hbw.trans ((below_drewN hb1 _).mono hbw.size)⟩
          case measure => simp [intOf]; omega
      · have hfin : Hid (nF = nx) := by
          rcases hnx.out with h | h
          · have hk : k = zs.length := by omega
            show nF = nx
            rw [h.2, h.1, nextI_end (by omega)]
          · exact h.2
        have hp' : Pair wr w.heap.size q0 q1 := (hbw.block _ hp.lt).trans hp
        have c0 := hp'.c0
        have c1 := hp'.c1
        have hKw : wr.heap[Dd]? = some (.deferred (some [])) := (hbw.block _ (Array.getElem?_eq_some_iff.1 hK).1).trans hK
        have hbf := hb.trans (hbw.mono hb.size)
        clear hnx
        by_cases hlt : k < zs.length
        · have hne : (nx == -1) = false := by simpa using fun e => hgo ⟨hlt, e⟩
          clear hgo
          gi_wp2
          gi_region
          gi_wp2
          refine ⟨by simp, .inl ⟨_, _, rfl, run_takeDeferred (show (wr.drew).heap[Dd]? = _ from hKw), ?_⟩⟩
          have e1 := hfin.out
          subst e1
          exact ⟨_, results_tmp3 rfl _ _ _, rfl, hbf.drew.trans (belowK_b (w := w) (Nat.le_refl _) wr.drew Dd _ _ (by omega) (show (wr.drew).heap[Dd]? = _ from hKw) rfl rfl)⟩
        · clear hgo
          gi_wp2
          gi_region
          gi_wp2
          refine ⟨by simp, .inl ⟨_, _, rfl, run_takeDeferred (show (wr.drew).heap[Dd]? = _ from hKw), ?_⟩⟩
          have e1 := hfin.out
          subst e1
          exact ⟨_, results_tmp3 rfl _ _ _, rfl, hbf.drew.trans (belowK_b (w := w) (Nat.le_refl _) wr.drew Dd _ _ (by omega) (show (wr.drew).heap[Dd]? = _ from hKw) rfl rfl)⟩
  case hstop =>
    rintro Dd c' pre W hD hpre ⟨rfl, hlt2, hp, hb⟩ hK
    rw [getD_pre hpre 0 (by omega), getD_pre hpre 1 (by omega), ← hq0H.out, ← hq1H.out] at hp
    clear hlt2 hq0H hq1H hpre
    have hsW := hs.below hb (Nat.le_refl _)
    have htW := ht.below hb (Nat.le_refl _)
    gi_wp2
    gi_loopw [12, 13] (fun vn vk wr => ∃ (nx k : Int), vn = .int .i64 nx ∧ vk = .int .i64 k ∧ i + 1 ≤ k ∧ k ≤ zs.length ∧ Hid ((nx = -1 ∧ nF = nextI zs k) ∨ (nx ≠ -1 ∧ nF = nx)) ∧ Below W.heap.size W wr) (fun _ vk _ => ((zs.length : Int) - intOf vk).toNat)
    case atStart => exact ⟨-1, i + 1, rfl, rfl, by omega, by omega, .inl ⟨rfl, hnFH.out⟩, Below.refl _ _⟩
    case round =>
      obtain ⟨nx, k, rfl, rfl, hk0, hk1, hnx, hbw⟩ := hrel
      by_cases hgo : k < zs.length ∧ nx = -1
      · obtain ⟨hlt, rfl⟩ := hgo
        have hnk : Hid (nF = nextI zs k) := by
          rcases hnx.out with h | h
          · exact h.2
          · exact absurd rfl h.1
        have hstep := nextI_step (zs := zs) (k := k) (by omega) hlt
        have hWs := hb.trans (hbw.mono hb.size)
        obtain ⟨b, off, rfl, hbo, pz⟩ := htW.at_ (i := k) (by omega) hlt
        have hr := wdK_rng (zs.getD k.toNat 0)
        generalize zs.getD k.toNat 0 = z at hstep pz hr
        have hH : CallsIn Fence.wide (6 - 1) Tryd.prog 53 #[.pointer (some ⟨D, 0, none⟩), .slice (some ⟨b, off, none⟩) zs.length c, .int .i64 k] wr fun e W' => e = .returned (.bool (headI (sgW zs) k)) ∧ Below wr.heap.size wr W' :=
          callsIn_wide.2 (whead_any wr D _ zs k ((hsW.below (hbw.mono hb.size) (Nat.le_refl _)).mono hWs.size) ((htW.below (hbw.mono hb.size) (Nat.le_refl _)).mono hWs.size))
        obtain ⟨hd, hhdv⟩ : ∃ h, h = headI (sgW zs) k := ⟨_, rfl⟩
        rw [← hhdv] at hstep hH
        have hHH := Lib.hid hH
        have hstH := Lib.hid hstep
        clear hH hstep hhdv hnx
        cases hd with
        | false =>
          have hn2 : Hid (nF = nextI zs (k + 1)) := by rw [hnk.out, hstH.out]; exact rfl
          clear hnk hstH
          gi_wp2_with (refine ⟨trivial, ?_⟩; gi_at_call 53; refine hHH.out.mono ?_; rintro e w1 ⟨rfl, hb1⟩)
          go_roundw
          case rel => exact ⟨-1, k + 1, rfl, rfl, by omega, by omega, .inl ⟨rfl, hn2.out⟩, hbw.trans (hb1.mono hbw.size)⟩
          case measure => simp [intOf]; omega
        | true =>
          have hn2 : Hid (nF = wdK z) := by rw [hnk.out, hstH.out]; exact rfl
          have hr1 : wdK z ≠ -1 := by omega
          have hWd : ∀ V, Below wr.heap.size wr V → CallsIn Fence.wide (6 - 1) Tryd.prog 26 #[.pointer (some ⟨D, 0, none⟩), .int .i64 z] V fun e W' => e = .returned (.int .i64 (wdK z)) ∧ ∃ n', W' = V.drewN n' := fun V hV =>
            callsIn_wide.2 (sword_any V w.heap.size D z ((hsW.below (hbw.mono hb.size) (Nat.le_refl _)).below (hV.mono hWs.size) (Nat.le_refl _)))
          have hWdH := Lib.hid hWd
          have pzW : Hid (∀ V, Below wr.heap.size wr V → V.cell? ⟨b, off + k.toNat, none⟩ = some (.int .i64 z)) := fun V hV => ((hbw.mono hb.size).trans (hV.mono hWs.size) |>.cell (p := ⟨b, _, none⟩) hbo).trans pz
          clear hnk hstH hWd pz hr
          gi_wp2_with (first
            | (refine ⟨trivial, ?_⟩; gi_at_call 53; refine hHH.out.mono ?_; rintro e w1 ⟨rfl, hb1⟩; have pz := pzW.out _ hb1)
            | (refine ⟨trivial, ?_⟩; gi_at_call 26; refine (hWdH.out _ hb1).mono ?_; rintro e w2 ⟨rfl, k2, rfl⟩))
          go_roundw
          case rel => exact ⟨wdK z, k + 1, rfl, rfl, by omega, by omega, .inr ⟨hr1, hn2.out⟩, hbw.trans ((below_drewN hb1 _).mono hbw.size)⟩
          case measure => simp [intOf]; omega
      · have hfin : Hid (nF = nx) := by
          rcases hnx.out with h | h
          · have hk : k = zs.length := by omega
            show nF = nx
            rw [h.2, h.1, nextI_end (by omega)]
          · exact h.2
        have hp' : Pair wr w.heap.size q0 q1 := (hbw.block _ hp.lt).trans hp
        have c0 := hp'.c0
        have c1 := hp'.c1
        have hKw : wr.heap[Dd]? = some (.deferred (some [])) := (hbw.block _ (Array.getElem?_eq_some_iff.1 hK).1).trans hK
        have hbf := hb.trans (hbw.mono hb.size)
        clear hnx
        by_cases hlt : k < zs.length
        · have hne : (nx == -1) = false := by simpa using fun e => hgo ⟨hlt, e⟩
          clear hgo
          gi_wp2
          gi_region
          gi_wp2
          refine ⟨by simp, .inl ⟨_, _, rfl, run_takeDeferred (show (wr.drew).heap[Dd]? = _ from hKw), ?_⟩⟩
          have e1 := hfin.out
          subst e1
          exact ⟨_, results_tmp3 rfl _ _ _, rfl, hbf.drew.trans (belowK_b (w := w) (Nat.le_refl _) wr.drew Dd _ _ (by omega) (show (wr.drew).heap[Dd]? = _ from hKw) rfl rfl)⟩
        · clear hgo
          gi_wp2
          gi_region
          gi_wp2
          refine ⟨by simp, .inl ⟨_, _, rfl, run_takeDeferred (show (wr.drew).heap[Dd]? = _ from hKw), ?_⟩⟩
          have e1 := hfin.out
          subst e1
          exact ⟨_, results_tmp3 rfl _ _ _, rfl, hbf.drew.trans (belowK_b (w := w) (Nat.le_refl _) wr.drew Dd _ _ (by omega) (show (wr.drew).heap[Dd]? = _ from hKw) rfl rfl)⟩
end Go.Proofs.YtpaijpdmeiagfaaDoor

namespace Go.Proofs.YtpaijpdmeiagfaaDoor
open Go Go.RowKit Go.WideMaps Go.Proofs.Kk Go.Proofs.Tm Go.Proofs.Gg Go.Proofs.Tx
set_option maxRecDepth 100000 in
set_option maxHeartbeats 4000000 in
theorem joined_any (w : World) (before last b next : Int) :
    Calls Tryd.prog 79 #[.int .i64 before, .int .i64 last, .int .i64 b, .int .i64 next] w fun e w' => e = .returned (.bool (joinedB before last b next)) ∧ Below w.heap.size w w' := by
  obtain ⟨t1, ht1⟩ : ∃ t, t = (letterK last && (letterK b || (b == 16))) := ⟨_, rfl⟩
  obtain ⟨t2, ht2⟩ : ∃ t, t = ((last == 16) && (letterK b || (b == 16))) := ⟨_, rfl⟩
  obtain ⟨t3, ht3⟩ : ∃ t, t = ((last == 8) && (b == 8)) := ⟨_, rfl⟩
  obtain ⟨t4, ht4⟩ : ∃ t, t = ((letterK last && betweenK b) && letterK next) := ⟨_, rfl⟩
  obtain ⟨t5, ht5⟩ : ∃ t, t = ((letterK before && betweenK last) && letterK b) := ⟨_, rfl⟩
  obtain ⟨t6, ht6⟩ : ∃ t, t = (((last == 16) && insideK b) && (next == 16)) := ⟨_, rfl⟩
  obtain ⟨t7, ht7⟩ : ∃ t, t = (((before == 16) && insideK last) && (b == 16)) := ⟨_, rfl⟩
  obtain ⟨t8, ht8⟩ : ∃ t, t = ((last == 9) && ((b == 11) || ((b == 12) && (next == 9)))) := ⟨_, rfl⟩
  obtain ⟨t9, ht9⟩ : ∃ t, t = (((before == 9) && (last == 12)) && (b == 9)) := ⟨_, rfl⟩
  obtain ⟨t10, ht10⟩ : ∃ t, t = (((b == 17) && (soundK last || (last == 17))) || ((last == 17) && soundK b)) := ⟨_, rfl⟩
  have hJ : joinedB before last b next = (t1 || t2 || t3 || t4 || t5 || t6 || t7 || t8 || t9 || t10) := by rw [ht1, ht2, ht3, ht4, ht5, ht6, ht7, ht8, ht9, ht10]; rfl
  rw [hJ]
  have ht1H := Lib.hid ht1
  have ht2H := Lib.hid ht2
  have ht3H := Lib.hid ht3
  have ht4H := Lib.hid ht4
  have ht5H := Lib.hid ht5
  have ht6H := Lib.hid ht6
  have ht7H := Lib.hid ht7
  have ht8H := Lib.hid ht8
  have ht9H := Lib.hid ht9
  have ht10H := Lib.hid ht10
  clear hJ ht1 ht2 ht3 ht4 ht5 ht6 ht7 ht8 ht9 ht10
  have hb := Below.refl w.heap.size w
  go_enter Tryd.func79, Tryd.ntmps79
  go_upto_region 1 with (fail)
  go_cut [9] (fun s wx => s = .bool t1 ∧ Below w.heap.size w wx)
  case first =>
    cases hk1 : letterK last with
    | false =>
      have ht : t1 = false := by rw [ht1H.out]; simp [hk1]
      subst ht
      go_wp2_with (first | (go_at_call 100; refine (letter_any _ _).mono ?_; rintro e w1 ⟨he, hb1⟩; have hb := hb.trans (hb1.mono hb.size); simp only [hk1] at he; subst he) | (go_at_call 101; refine (between_any _ _).mono ?_; rintro e w1 ⟨he, hb1⟩; have hb := hb.trans (hb1.mono hb.size); simp only [hk1] at he; subst he) | (go_at_call 102; refine (inside_any _ _).mono ?_; rintro e w1 ⟨he, hb1⟩; have hb := hb.trans (hb1.mono hb.size); simp only [hk1] at he; subst he) | (go_at_call 103; refine (sound_any _ _).mono ?_; rintro e w1 ⟨he, hb1⟩; have hb := hb.trans (hb1.mono hb.size); simp only [hk1] at he; subst he))
      go_meet
      exact ⟨rfl, hb⟩
    | true =>
      cases hk2 : letterK b with
      | false =>
        cases hk3 : (b == 16) with
        | false =>
          have ht : t1 = false := by rw [ht1H.out]; simp [hk1, hk2, hk3]
          subst ht
          go_wp2_with (first | (go_at_call 100; refine (letter_any _ _).mono ?_; rintro e w1 ⟨he, hb1⟩; have hb := hb.trans (hb1.mono hb.size); simp only [hk1, hk2, hk3] at he; subst he) | (go_at_call 101; refine (between_any _ _).mono ?_; rintro e w1 ⟨he, hb1⟩; have hb := hb.trans (hb1.mono hb.size); simp only [hk1, hk2, hk3] at he; subst he) | (go_at_call 102; refine (inside_any _ _).mono ?_; rintro e w1 ⟨he, hb1⟩; have hb := hb.trans (hb1.mono hb.size); simp only [hk1, hk2, hk3] at he; subst he) | (go_at_call 103; refine (sound_any _ _).mono ?_; rintro e w1 ⟨he, hb1⟩; have hb := hb.trans (hb1.mono hb.size); simp only [hk1, hk2, hk3] at he; subst he))
          go_meet
          exact ⟨rfl, hb⟩
        | true =>
          have ht : t1 = true := by rw [ht1H.out]; simp [hk1, hk2, hk3]
          subst ht
          go_wp2_with (first | (go_at_call 100; refine (letter_any _ _).mono ?_; rintro e w1 ⟨he, hb1⟩; have hb := hb.trans (hb1.mono hb.size); simp only [hk1, hk2, hk3] at he; subst he) | (go_at_call 101; refine (between_any _ _).mono ?_; rintro e w1 ⟨he, hb1⟩; have hb := hb.trans (hb1.mono hb.size); simp only [hk1, hk2, hk3] at he; subst he) | (go_at_call 102; refine (inside_any _ _).mono ?_; rintro e w1 ⟨he, hb1⟩; have hb := hb.trans (hb1.mono hb.size); simp only [hk1, hk2, hk3] at he; subst he) | (go_at_call 103; refine (sound_any _ _).mono ?_; rintro e w1 ⟨he, hb1⟩; have hb := hb.trans (hb1.mono hb.size); simp only [hk1, hk2, hk3] at he; subst he))
          go_meet
          exact ⟨rfl, hb⟩
      | true =>
        have ht : t1 = true := by rw [ht1H.out]; simp [hk1, hk2]
        subst ht
        go_wp2_with (first | (go_at_call 100; refine (letter_any _ _).mono ?_; rintro e w1 ⟨he, hb1⟩; have hb := hb.trans (hb1.mono hb.size); simp only [hk1, hk2] at he; subst he) | (go_at_call 101; refine (between_any _ _).mono ?_; rintro e w1 ⟨he, hb1⟩; have hb := hb.trans (hb1.mono hb.size); simp only [hk1, hk2] at he; subst he) | (go_at_call 102; refine (inside_any _ _).mono ?_; rintro e w1 ⟨he, hb1⟩; have hb := hb.trans (hb1.mono hb.size); simp only [hk1, hk2] at he; subst he) | (go_at_call 103; refine (sound_any _ _).mono ?_; rintro e w1 ⟨he, hb1⟩; have hb := hb.trans (hb1.mono hb.size); simp only [hk1, hk2] at he; subst he))
        go_meet
        exact ⟨rfl, hb⟩
  case rest =>
    obtain ⟨rfl, hb⟩ := hcut
    cases t1 with
    | true =>
      clear ht1H ht2H ht3H ht4H ht5H ht6H ht7H ht8H ht9H ht10H
      go_wp2
      go_ret
      exact ⟨rfl, hb⟩
    | false =>
      go_upto_region 2 with (fail)
      go_cut [9] (fun s wx => s = .bool t2 ∧ Below w.heap.size w wx)
      case first =>
        cases hk4 : (last == 16) with
        | false =>
          have ht : t2 = false := by rw [ht2H.out]; simp [hk4]
          subst ht
          go_wp2_with (first | (go_at_call 100; refine (letter_any _ _).mono ?_; rintro e w1 ⟨he, hb1⟩; have hb := hb.trans (hb1.mono hb.size); simp only [hk4] at he; subst he) | (go_at_call 101; refine (between_any _ _).mono ?_; rintro e w1 ⟨he, hb1⟩; have hb := hb.trans (hb1.mono hb.size); simp only [hk4] at he; subst he) | (go_at_call 102; refine (inside_any _ _).mono ?_; rintro e w1 ⟨he, hb1⟩; have hb := hb.trans (hb1.mono hb.size); simp only [hk4] at he; subst he) | (go_at_call 103; refine (sound_any _ _).mono ?_; rintro e w1 ⟨he, hb1⟩; have hb := hb.trans (hb1.mono hb.size); simp only [hk4] at he; subst he))
          go_meet
          exact ⟨rfl, hb⟩
        | true =>
          cases hk5 : letterK b with
          | false =>
            cases hk6 : (b == 16) with
            | false =>
              have ht : t2 = false := by rw [ht2H.out]; simp [hk4, hk5, hk6]
              subst ht
              go_wp2_with (first | (go_at_call 100; refine (letter_any _ _).mono ?_; rintro e w1 ⟨he, hb1⟩; have hb := hb.trans (hb1.mono hb.size); simp only [hk4, hk5, hk6] at he; subst he) | (go_at_call 101; refine (between_any _ _).mono ?_; rintro e w1 ⟨he, hb1⟩; have hb := hb.trans (hb1.mono hb.size); simp only [hk4, hk5, hk6] at he; subst he) | (go_at_call 102; refine (inside_any _ _).mono ?_; rintro e w1 ⟨he, hb1⟩; have hb := hb.trans (hb1.mono hb.size); simp only [hk4, hk5, hk6] at he; subst he) | (go_at_call 103; refine (sound_any _ _).mono ?_; rintro e w1 ⟨he, hb1⟩; have hb := hb.trans (hb1.mono hb.size); simp only [hk4, hk5, hk6] at he; subst he))
              go_meet
              exact ⟨rfl, hb⟩
            | true =>
              have ht : t2 = true := by rw [ht2H.out]; simp [hk4, hk5, hk6]
              subst ht
              go_wp2_with (first | (go_at_call 100; refine (letter_any _ _).mono ?_; rintro e w1 ⟨he, hb1⟩; have hb := hb.trans (hb1.mono hb.size); simp only [hk4, hk5, hk6] at he; subst he) | (go_at_call 101; refine (between_any _ _).mono ?_; rintro e w1 ⟨he, hb1⟩; have hb := hb.trans (hb1.mono hb.size); simp only [hk4, hk5, hk6] at he; subst he) | (go_at_call 102; refine (inside_any _ _).mono ?_; rintro e w1 ⟨he, hb1⟩; have hb := hb.trans (hb1.mono hb.size); simp only [hk4, hk5, hk6] at he; subst he) | (go_at_call 103; refine (sound_any _ _).mono ?_; rintro e w1 ⟨he, hb1⟩; have hb := hb.trans (hb1.mono hb.size); simp only [hk4, hk5, hk6] at he; subst he))
              go_meet
              exact ⟨rfl, hb⟩
          | true =>
            have ht : t2 = true := by rw [ht2H.out]; simp [hk4, hk5]
            subst ht
            go_wp2_with (first | (go_at_call 100; refine (letter_any _ _).mono ?_; rintro e w1 ⟨he, hb1⟩; have hb := hb.trans (hb1.mono hb.size); simp only [hk4, hk5] at he; subst he) | (go_at_call 101; refine (between_any _ _).mono ?_; rintro e w1 ⟨he, hb1⟩; have hb := hb.trans (hb1.mono hb.size); simp only [hk4, hk5] at he; subst he) | (go_at_call 102; refine (inside_any _ _).mono ?_; rintro e w1 ⟨he, hb1⟩; have hb := hb.trans (hb1.mono hb.size); simp only [hk4, hk5] at he; subst he) | (go_at_call 103; refine (sound_any _ _).mono ?_; rintro e w1 ⟨he, hb1⟩; have hb := hb.trans (hb1.mono hb.size); simp only [hk4, hk5] at he; subst he))
            go_meet
            exact ⟨rfl, hb⟩
      case rest =>
        obtain ⟨rfl, hb⟩ := hcut
        cases t2 with
        | true =>
          clear ht1H ht2H ht3H ht4H ht5H ht6H ht7H ht8H ht9H ht10H
          go_wp2
          go_ret
          exact ⟨rfl, hb⟩
        | false =>
          go_upto_region 3 with (fail)
          go_cut [9] (fun s wx => s = .bool t3 ∧ Below w.heap.size w wx)
          case first =>
            cases hk7 : (last == 8) with
            | false =>
              have ht : t3 = false := by rw [ht3H.out]; simp [hk7]
              subst ht
              go_wp2_with (first | (go_at_call 100; refine (letter_any _ _).mono ?_; rintro e w1 ⟨he, hb1⟩; have hb := hb.trans (hb1.mono hb.size); simp only [hk7] at he; subst he) | (go_at_call 101; refine (between_any _ _).mono ?_; rintro e w1 ⟨he, hb1⟩; have hb := hb.trans (hb1.mono hb.size); simp only [hk7] at he; subst he) | (go_at_call 102; refine (inside_any _ _).mono ?_; rintro e w1 ⟨he, hb1⟩; have hb := hb.trans (hb1.mono hb.size); simp only [hk7] at he; subst he) | (go_at_call 103; refine (sound_any _ _).mono ?_; rintro e w1 ⟨he, hb1⟩; have hb := hb.trans (hb1.mono hb.size); simp only [hk7] at he; subst he))
              go_meet
              exact ⟨rfl, hb⟩
            | true =>
              cases hk8 : (b == 8) with
              | false =>
                have ht : t3 = false := by rw [ht3H.out]; simp [hk7, hk8]
                subst ht
                go_wp2_with (first | (go_at_call 100; refine (letter_any _ _).mono ?_; rintro e w1 ⟨he, hb1⟩; have hb := hb.trans (hb1.mono hb.size); simp only [hk7, hk8] at he; subst he) | (go_at_call 101; refine (between_any _ _).mono ?_; rintro e w1 ⟨he, hb1⟩; have hb := hb.trans (hb1.mono hb.size); simp only [hk7, hk8] at he; subst he) | (go_at_call 102; refine (inside_any _ _).mono ?_; rintro e w1 ⟨he, hb1⟩; have hb := hb.trans (hb1.mono hb.size); simp only [hk7, hk8] at he; subst he) | (go_at_call 103; refine (sound_any _ _).mono ?_; rintro e w1 ⟨he, hb1⟩; have hb := hb.trans (hb1.mono hb.size); simp only [hk7, hk8] at he; subst he))
                go_meet
                exact ⟨rfl, hb⟩
              | true =>
                have ht : t3 = true := by rw [ht3H.out]; simp [hk7, hk8]
                subst ht
                go_wp2_with (first | (go_at_call 100; refine (letter_any _ _).mono ?_; rintro e w1 ⟨he, hb1⟩; have hb := hb.trans (hb1.mono hb.size); simp only [hk7, hk8] at he; subst he) | (go_at_call 101; refine (between_any _ _).mono ?_; rintro e w1 ⟨he, hb1⟩; have hb := hb.trans (hb1.mono hb.size); simp only [hk7, hk8] at he; subst he) | (go_at_call 102; refine (inside_any _ _).mono ?_; rintro e w1 ⟨he, hb1⟩; have hb := hb.trans (hb1.mono hb.size); simp only [hk7, hk8] at he; subst he) | (go_at_call 103; refine (sound_any _ _).mono ?_; rintro e w1 ⟨he, hb1⟩; have hb := hb.trans (hb1.mono hb.size); simp only [hk7, hk8] at he; subst he))
                go_meet
                exact ⟨rfl, hb⟩
          case rest =>
            obtain ⟨rfl, hb⟩ := hcut
            cases t3 with
            | true =>
              clear ht1H ht2H ht3H ht4H ht5H ht6H ht7H ht8H ht9H ht10H
              go_wp2
              go_ret
              exact ⟨rfl, hb⟩
            | false =>
              go_upto_region 5 with (fail)
              go_cut [36] (fun s wx => s = .bool t4 ∧ Below w.heap.size w wx)
              case first =>
                cases hk9 : letterK last with
                | false =>
                  have ht : t4 = false := by rw [ht4H.out]; simp [hk9]
                  subst ht
                  go_wp2_with (first | (go_at_call 100; refine (letter_any _ _).mono ?_; rintro e w1 ⟨he, hb1⟩; have hb := hb.trans (hb1.mono hb.size); simp only [hk9] at he; subst he) | (go_at_call 101; refine (between_any _ _).mono ?_; rintro e w1 ⟨he, hb1⟩; have hb := hb.trans (hb1.mono hb.size); simp only [hk9] at he; subst he) | (go_at_call 102; refine (inside_any _ _).mono ?_; rintro e w1 ⟨he, hb1⟩; have hb := hb.trans (hb1.mono hb.size); simp only [hk9] at he; subst he) | (go_at_call 103; refine (sound_any _ _).mono ?_; rintro e w1 ⟨he, hb1⟩; have hb := hb.trans (hb1.mono hb.size); simp only [hk9] at he; subst he))
                  go_meet
                  exact ⟨rfl, hb⟩
                | true =>
                  cases hk10 : betweenK b with
                  | false =>
                    have ht : t4 = false := by rw [ht4H.out]; simp [hk9, hk10]
                    subst ht
                    go_wp2_with (first | (go_at_call 100; refine (letter_any _ _).mono ?_; rintro e w1 ⟨he, hb1⟩; have hb := hb.trans (hb1.mono hb.size); simp only [hk9, hk10] at he; subst he) | (go_at_call 101; refine (between_any _ _).mono ?_; rintro e w1 ⟨he, hb1⟩; have hb := hb.trans (hb1.mono hb.size); simp only [hk9, hk10] at he; subst he) | (go_at_call 102; refine (inside_any _ _).mono ?_; rintro e w1 ⟨he, hb1⟩; have hb := hb.trans (hb1.mono hb.size); simp only [hk9, hk10] at he; subst he) | (go_at_call 103; refine (sound_any _ _).mono ?_; rintro e w1 ⟨he, hb1⟩; have hb := hb.trans (hb1.mono hb.size); simp only [hk9, hk10] at he; subst he))
                    go_meet
                    exact ⟨rfl, hb⟩
                  | true =>
                    cases hk11 : letterK next with
                    | false =>
                      have ht : t4 = false := by rw [ht4H.out]; simp [hk9, hk10, hk11]
                      subst ht
                      go_wp2_with (first | (go_at_call 100; refine (letter_any _ _).mono ?_; rintro e w1 ⟨he, hb1⟩; have hb := hb.trans (hb1.mono hb.size); simp only [hk9, hk10, hk11] at he; subst he) | (go_at_call 101; refine (between_any _ _).mono ?_; rintro e w1 ⟨he, hb1⟩; have hb := hb.trans (hb1.mono hb.size); simp only [hk9, hk10, hk11] at he; subst he) | (go_at_call 102; refine (inside_any _ _).mono ?_; rintro e w1 ⟨he, hb1⟩; have hb := hb.trans (hb1.mono hb.size); simp only [hk9, hk10, hk11] at he; subst he) | (go_at_call 103; refine (sound_any _ _).mono ?_; rintro e w1 ⟨he, hb1⟩; have hb := hb.trans (hb1.mono hb.size); simp only [hk9, hk10, hk11] at he; subst he))
                      go_meet
                      exact ⟨rfl, hb⟩
                    | true =>
                      have ht : t4 = true := by rw [ht4H.out]; simp [hk9, hk10, hk11]
                      subst ht
                      go_wp2_with (first | (go_at_call 100; refine (letter_any _ _).mono ?_; rintro e w1 ⟨he, hb1⟩; have hb := hb.trans (hb1.mono hb.size); simp only [hk9, hk10, hk11] at he; subst he) | (go_at_call 101; refine (between_any _ _).mono ?_; rintro e w1 ⟨he, hb1⟩; have hb := hb.trans (hb1.mono hb.size); simp only [hk9, hk10, hk11] at he; subst he) | (go_at_call 102; refine (inside_any _ _).mono ?_; rintro e w1 ⟨he, hb1⟩; have hb := hb.trans (hb1.mono hb.size); simp only [hk9, hk10, hk11] at he; subst he) | (go_at_call 103; refine (sound_any _ _).mono ?_; rintro e w1 ⟨he, hb1⟩; have hb := hb.trans (hb1.mono hb.size); simp only [hk9, hk10, hk11] at he; subst he))
                      go_meet
                      exact ⟨rfl, hb⟩
              case rest =>
                obtain ⟨rfl, hb⟩ := hcut
                cases t4 with
                | true =>
                  clear ht1H ht2H ht3H ht4H ht5H ht6H ht7H ht8H ht9H ht10H
                  go_wp2
                  go_ret
                  exact ⟨rfl, hb⟩
                | false =>
                  go_upto_region 6 with (fail)
                  go_cut [36] (fun s wx => s = .bool t5 ∧ Below w.heap.size w wx)
                  case first =>
                    cases hk12 : letterK before with
                    | false =>
                      have ht : t5 = false := by rw [ht5H.out]; simp [hk12]
                      subst ht
                      go_wp2_with (first | (go_at_call 100; refine (letter_any _ _).mono ?_; rintro e w1 ⟨he, hb1⟩; have hb := hb.trans (hb1.mono hb.size); simp only [hk12] at he; subst he) | (go_at_call 101; refine (between_any _ _).mono ?_; rintro e w1 ⟨he, hb1⟩; have hb := hb.trans (hb1.mono hb.size); simp only [hk12] at he; subst he) | (go_at_call 102; refine (inside_any _ _).mono ?_; rintro e w1 ⟨he, hb1⟩; have hb := hb.trans (hb1.mono hb.size); simp only [hk12] at he; subst he) | (go_at_call 103; refine (sound_any _ _).mono ?_; rintro e w1 ⟨he, hb1⟩; have hb := hb.trans (hb1.mono hb.size); simp only [hk12] at he; subst he))
                      go_meet
                      exact ⟨rfl, hb⟩
                    | true =>
                      cases hk13 : betweenK last with
                      | false =>
                        have ht : t5 = false := by rw [ht5H.out]; simp [hk12, hk13]
                        subst ht
                        go_wp2_with (first | (go_at_call 100; refine (letter_any _ _).mono ?_; rintro e w1 ⟨he, hb1⟩; have hb := hb.trans (hb1.mono hb.size); simp only [hk12, hk13] at he; subst he) | (go_at_call 101; refine (between_any _ _).mono ?_; rintro e w1 ⟨he, hb1⟩; have hb := hb.trans (hb1.mono hb.size); simp only [hk12, hk13] at he; subst he) | (go_at_call 102; refine (inside_any _ _).mono ?_; rintro e w1 ⟨he, hb1⟩; have hb := hb.trans (hb1.mono hb.size); simp only [hk12, hk13] at he; subst he) | (go_at_call 103; refine (sound_any _ _).mono ?_; rintro e w1 ⟨he, hb1⟩; have hb := hb.trans (hb1.mono hb.size); simp only [hk12, hk13] at he; subst he))
                        go_meet
                        exact ⟨rfl, hb⟩
                      | true =>
                        cases hk14 : letterK b with
                        | false =>
                          have ht : t5 = false := by rw [ht5H.out]; simp [hk12, hk13, hk14]
                          subst ht
                          go_wp2_with (first | (go_at_call 100; refine (letter_any _ _).mono ?_; rintro e w1 ⟨he, hb1⟩; have hb := hb.trans (hb1.mono hb.size); simp only [hk12, hk13, hk14] at he; subst he) | (go_at_call 101; refine (between_any _ _).mono ?_; rintro e w1 ⟨he, hb1⟩; have hb := hb.trans (hb1.mono hb.size); simp only [hk12, hk13, hk14] at he; subst he) | (go_at_call 102; refine (inside_any _ _).mono ?_; rintro e w1 ⟨he, hb1⟩; have hb := hb.trans (hb1.mono hb.size); simp only [hk12, hk13, hk14] at he; subst he) | (go_at_call 103; refine (sound_any _ _).mono ?_; rintro e w1 ⟨he, hb1⟩; have hb := hb.trans (hb1.mono hb.size); simp only [hk12, hk13, hk14] at he; subst he))
                          go_meet
                          exact ⟨rfl, hb⟩
                        | true =>
                          have ht : t5 = true := by rw [ht5H.out]; simp [hk12, hk13, hk14]
                          subst ht
                          go_wp2_with (first | (go_at_call 100; refine (letter_any _ _).mono ?_; rintro e w1 ⟨he, hb1⟩; have hb := hb.trans (hb1.mono hb.size); simp only [hk12, hk13, hk14] at he; subst he) | (go_at_call 101; refine (between_any _ _).mono ?_; rintro e w1 ⟨he, hb1⟩; have hb := hb.trans (hb1.mono hb.size); simp only [hk12, hk13, hk14] at he; subst he) | (go_at_call 102; refine (inside_any _ _).mono ?_; rintro e w1 ⟨he, hb1⟩; have hb := hb.trans (hb1.mono hb.size); simp only [hk12, hk13, hk14] at he; subst he) | (go_at_call 103; refine (sound_any _ _).mono ?_; rintro e w1 ⟨he, hb1⟩; have hb := hb.trans (hb1.mono hb.size); simp only [hk12, hk13, hk14] at he; subst he))
                          go_meet
                          exact ⟨rfl, hb⟩
                  case rest =>
                    obtain ⟨rfl, hb⟩ := hcut
                    cases t5 with
                    | true =>
                      clear ht1H ht2H ht3H ht4H ht5H ht6H ht7H ht8H ht9H ht10H
                      go_wp2
                      go_ret
                      exact ⟨rfl, hb⟩
                    | false =>
                      go_upto_region 8 with (fail)
                      go_cut [57] (fun s wx => s = .bool t6 ∧ Below w.heap.size w wx)
                      case first =>
                        cases hk15 : (last == 16) with
                        | false =>
                          have ht : t6 = false := by rw [ht6H.out]; simp [hk15]
                          subst ht
                          go_wp2_with (first | (go_at_call 100; refine (letter_any _ _).mono ?_; rintro e w1 ⟨he, hb1⟩; have hb := hb.trans (hb1.mono hb.size); simp only [hk15] at he; subst he) | (go_at_call 101; refine (between_any _ _).mono ?_; rintro e w1 ⟨he, hb1⟩; have hb := hb.trans (hb1.mono hb.size); simp only [hk15] at he; subst he) | (go_at_call 102; refine (inside_any _ _).mono ?_; rintro e w1 ⟨he, hb1⟩; have hb := hb.trans (hb1.mono hb.size); simp only [hk15] at he; subst he) | (go_at_call 103; refine (sound_any _ _).mono ?_; rintro e w1 ⟨he, hb1⟩; have hb := hb.trans (hb1.mono hb.size); simp only [hk15] at he; subst he))
                          go_meet
                          exact ⟨rfl, hb⟩
                        | true =>
                          cases hk16 : insideK b with
                          | false =>
                            have ht : t6 = false := by rw [ht6H.out]; simp [hk15, hk16]
                            subst ht
                            go_wp2_with (first | (go_at_call 100; refine (letter_any _ _).mono ?_; rintro e w1 ⟨he, hb1⟩; have hb := hb.trans (hb1.mono hb.size); simp only [hk15, hk16] at he; subst he) | (go_at_call 101; refine (between_any _ _).mono ?_; rintro e w1 ⟨he, hb1⟩; have hb := hb.trans (hb1.mono hb.size); simp only [hk15, hk16] at he; subst he) | (go_at_call 102; refine (inside_any _ _).mono ?_; rintro e w1 ⟨he, hb1⟩; have hb := hb.trans (hb1.mono hb.size); simp only [hk15, hk16] at he; subst he) | (go_at_call 103; refine (sound_any _ _).mono ?_; rintro e w1 ⟨he, hb1⟩; have hb := hb.trans (hb1.mono hb.size); simp only [hk15, hk16] at he; subst he))
                            go_meet
                            exact ⟨rfl, hb⟩
                          | true =>
                            cases hk17 : (next == 16) with
                            | false =>
                              have ht : t6 = false := by rw [ht6H.out]; simp [hk15, hk16, hk17]
                              subst ht
                              go_wp2_with (first | (go_at_call 100; refine (letter_any _ _).mono ?_; rintro e w1 ⟨he, hb1⟩; have hb := hb.trans (hb1.mono hb.size); simp only [hk15, hk16, hk17] at he; subst he) | (go_at_call 101; refine (between_any _ _).mono ?_; rintro e w1 ⟨he, hb1⟩; have hb := hb.trans (hb1.mono hb.size); simp only [hk15, hk16, hk17] at he; subst he) | (go_at_call 102; refine (inside_any _ _).mono ?_; rintro e w1 ⟨he, hb1⟩; have hb := hb.trans (hb1.mono hb.size); simp only [hk15, hk16, hk17] at he; subst he) | (go_at_call 103; refine (sound_any _ _).mono ?_; rintro e w1 ⟨he, hb1⟩; have hb := hb.trans (hb1.mono hb.size); simp only [hk15, hk16, hk17] at he; subst he))
                              go_meet
                              exact ⟨rfl, hb⟩
                            | true =>
                              have ht : t6 = true := by rw [ht6H.out]; simp [hk15, hk16, hk17]
                              subst ht
                              go_wp2_with (first | (go_at_call 100; refine (letter_any _ _).mono ?_; rintro e w1 ⟨he, hb1⟩; have hb := hb.trans (hb1.mono hb.size); simp only [hk15, hk16, hk17] at he; subst he) | (go_at_call 101; refine (between_any _ _).mono ?_; rintro e w1 ⟨he, hb1⟩; have hb := hb.trans (hb1.mono hb.size); simp only [hk15, hk16, hk17] at he; subst he) | (go_at_call 102; refine (inside_any _ _).mono ?_; rintro e w1 ⟨he, hb1⟩; have hb := hb.trans (hb1.mono hb.size); simp only [hk15, hk16, hk17] at he; subst he) | (go_at_call 103; refine (sound_any _ _).mono ?_; rintro e w1 ⟨he, hb1⟩; have hb := hb.trans (hb1.mono hb.size); simp only [hk15, hk16, hk17] at he; subst he))
                              go_meet
                              exact ⟨rfl, hb⟩
                      case rest =>
                        obtain ⟨rfl, hb⟩ := hcut
                        cases t6 with
                        | true =>
                          clear ht1H ht2H ht3H ht4H ht5H ht6H ht7H ht8H ht9H ht10H
                          go_wp2
                          go_ret
                          exact ⟨rfl, hb⟩
                        | false =>
                          go_upto_region 9 with (fail)
                          go_cut [57] (fun s wx => s = .bool t7 ∧ Below w.heap.size w wx)
                          case first =>
                            cases hk18 : (before == 16) with
                            | false =>
                              have ht : t7 = false := by rw [ht7H.out]; simp [hk18]
                              subst ht
                              go_wp2_with (first | (go_at_call 100; refine (letter_any _ _).mono ?_; rintro e w1 ⟨he, hb1⟩; have hb := hb.trans (hb1.mono hb.size); simp only [hk18] at he; subst he) | (go_at_call 101; refine (between_any _ _).mono ?_; rintro e w1 ⟨he, hb1⟩; have hb := hb.trans (hb1.mono hb.size); simp only [hk18] at he; subst he) | (go_at_call 102; refine (inside_any _ _).mono ?_; rintro e w1 ⟨he, hb1⟩; have hb := hb.trans (hb1.mono hb.size); simp only [hk18] at he; subst he) | (go_at_call 103; refine (sound_any _ _).mono ?_; rintro e w1 ⟨he, hb1⟩; have hb := hb.trans (hb1.mono hb.size); simp only [hk18] at he; subst he))
                              go_meet
                              exact ⟨rfl, hb⟩
                            | true =>
                              cases hk19 : insideK last with
                              | false =>
                                have ht : t7 = false := by rw [ht7H.out]; simp [hk18, hk19]
                                subst ht
                                go_wp2_with (first | (go_at_call 100; refine (letter_any _ _).mono ?_; rintro e w1 ⟨he, hb1⟩; have hb := hb.trans (hb1.mono hb.size); simp only [hk18, hk19] at he; subst he) | (go_at_call 101; refine (between_any _ _).mono ?_; rintro e w1 ⟨he, hb1⟩; have hb := hb.trans (hb1.mono hb.size); simp only [hk18, hk19] at he; subst he) | (go_at_call 102; refine (inside_any _ _).mono ?_; rintro e w1 ⟨he, hb1⟩; have hb := hb.trans (hb1.mono hb.size); simp only [hk18, hk19] at he; subst he) | (go_at_call 103; refine (sound_any _ _).mono ?_; rintro e w1 ⟨he, hb1⟩; have hb := hb.trans (hb1.mono hb.size); simp only [hk18, hk19] at he; subst he))
                                go_meet
                                exact ⟨rfl, hb⟩
                              | true =>
                                cases hk20 : (b == 16) with
                                | false =>
                                  have ht : t7 = false := by rw [ht7H.out]; simp [hk18, hk19, hk20]
                                  subst ht
                                  go_wp2_with (first | (go_at_call 100; refine (letter_any _ _).mono ?_; rintro e w1 ⟨he, hb1⟩; have hb := hb.trans (hb1.mono hb.size); simp only [hk18, hk19, hk20] at he; subst he) | (go_at_call 101; refine (between_any _ _).mono ?_; rintro e w1 ⟨he, hb1⟩; have hb := hb.trans (hb1.mono hb.size); simp only [hk18, hk19, hk20] at he; subst he) | (go_at_call 102; refine (inside_any _ _).mono ?_; rintro e w1 ⟨he, hb1⟩; have hb := hb.trans (hb1.mono hb.size); simp only [hk18, hk19, hk20] at he; subst he) | (go_at_call 103; refine (sound_any _ _).mono ?_; rintro e w1 ⟨he, hb1⟩; have hb := hb.trans (hb1.mono hb.size); simp only [hk18, hk19, hk20] at he; subst he))
                                  go_meet
                                  exact ⟨rfl, hb⟩
                                | true =>
                                  have ht : t7 = true := by rw [ht7H.out]; simp [hk18, hk19, hk20]
                                  subst ht
                                  go_wp2_with (first | (go_at_call 100; refine (letter_any _ _).mono ?_; rintro e w1 ⟨he, hb1⟩; have hb := hb.trans (hb1.mono hb.size); simp only [hk18, hk19, hk20] at he; subst he) | (go_at_call 101; refine (between_any _ _).mono ?_; rintro e w1 ⟨he, hb1⟩; have hb := hb.trans (hb1.mono hb.size); simp only [hk18, hk19, hk20] at he; subst he) | (go_at_call 102; refine (inside_any _ _).mono ?_; rintro e w1 ⟨he, hb1⟩; have hb := hb.trans (hb1.mono hb.size); simp only [hk18, hk19, hk20] at he; subst he) | (go_at_call 103; refine (sound_any _ _).mono ?_; rintro e w1 ⟨he, hb1⟩; have hb := hb.trans (hb1.mono hb.size); simp only [hk18, hk19, hk20] at he; subst he))
                                  go_meet
                                  exact ⟨rfl, hb⟩
                          case rest =>
                            obtain ⟨rfl, hb⟩ := hcut
                            cases t7 with
                            | true =>
                              clear ht1H ht2H ht3H ht4H ht5H ht6H ht7H ht8H ht9H ht10H
                              go_wp2
                              go_ret
                              exact ⟨rfl, hb⟩
                            | false =>
                              go_upto_region 11 with (fail)
                              go_cut [78] (fun s wx => s = .bool t8 ∧ Below w.heap.size w wx)
                              case first =>
                                cases hk21 : (last == 9) with
                                | false =>
                                  have ht : t8 = false := by rw [ht8H.out]; simp [hk21]
                                  subst ht
                                  go_wp2_with (first | (go_at_call 100; refine (letter_any _ _).mono ?_; rintro e w1 ⟨he, hb1⟩; have hb := hb.trans (hb1.mono hb.size); simp only [hk21] at he; subst he) | (go_at_call 101; refine (between_any _ _).mono ?_; rintro e w1 ⟨he, hb1⟩; have hb := hb.trans (hb1.mono hb.size); simp only [hk21] at he; subst he) | (go_at_call 102; refine (inside_any _ _).mono ?_; rintro e w1 ⟨he, hb1⟩; have hb := hb.trans (hb1.mono hb.size); simp only [hk21] at he; subst he) | (go_at_call 103; refine (sound_any _ _).mono ?_; rintro e w1 ⟨he, hb1⟩; have hb := hb.trans (hb1.mono hb.size); simp only [hk21] at he; subst he))
                                  go_meet
                                  exact ⟨rfl, hb⟩
                                | true =>
                                  cases hk22 : (b == 11) with
                                  | false =>
                                    cases hk23 : (b == 12) with
                                    | false =>
                                      have ht : t8 = false := by rw [ht8H.out]; simp [hk21, hk22, hk23]
                                      subst ht
                                      go_wp2_with (first | (go_at_call 100; refine (letter_any _ _).mono ?_; rintro e w1 ⟨he, hb1⟩; have hb := hb.trans (hb1.mono hb.size); simp only [hk21, hk22, hk23] at he; subst he) | (go_at_call 101; refine (between_any _ _).mono ?_; rintro e w1 ⟨he, hb1⟩; have hb := hb.trans (hb1.mono hb.size); simp only [hk21, hk22, hk23] at he; subst he) | (go_at_call 102; refine (inside_any _ _).mono ?_; rintro e w1 ⟨he, hb1⟩; have hb := hb.trans (hb1.mono hb.size); simp only [hk21, hk22, hk23] at he; subst he) | (go_at_call 103; refine (sound_any _ _).mono ?_; rintro e w1 ⟨he, hb1⟩; have hb := hb.trans (hb1.mono hb.size); simp only [hk21, hk22, hk23] at he; subst he))
                                      go_meet
                                      exact ⟨rfl, hb⟩
                                    | true =>
                                      cases hk24 : (next == 9) with
                                      | false =>
                                        have ht : t8 = false := by rw [ht8H.out]; simp [hk21, hk22, hk23, hk24]
                                        subst ht
                                        go_wp2_with (first | (go_at_call 100; refine (letter_any _ _).mono ?_; rintro e w1 ⟨he, hb1⟩; have hb := hb.trans (hb1.mono hb.size); simp only [hk21, hk22, hk23, hk24] at he; subst he) | (go_at_call 101; refine (between_any _ _).mono ?_; rintro e w1 ⟨he, hb1⟩; have hb := hb.trans (hb1.mono hb.size); simp only [hk21, hk22, hk23, hk24] at he; subst he) | (go_at_call 102; refine (inside_any _ _).mono ?_; rintro e w1 ⟨he, hb1⟩; have hb := hb.trans (hb1.mono hb.size); simp only [hk21, hk22, hk23, hk24] at he; subst he) | (go_at_call 103; refine (sound_any _ _).mono ?_; rintro e w1 ⟨he, hb1⟩; have hb := hb.trans (hb1.mono hb.size); simp only [hk21, hk22, hk23, hk24] at he; subst he))
                                        go_meet
                                        exact ⟨rfl, hb⟩
                                      | true =>
                                        have ht : t8 = true := by rw [ht8H.out]; simp [hk21, hk22, hk23, hk24]
                                        subst ht
                                        go_wp2_with (first | (go_at_call 100; refine (letter_any _ _).mono ?_; rintro e w1 ⟨he, hb1⟩; have hb := hb.trans (hb1.mono hb.size); simp only [hk21, hk22, hk23, hk24] at he; subst he) | (go_at_call 101; refine (between_any _ _).mono ?_; rintro e w1 ⟨he, hb1⟩; have hb := hb.trans (hb1.mono hb.size); simp only [hk21, hk22, hk23, hk24] at he; subst he) | (go_at_call 102; refine (inside_any _ _).mono ?_; rintro e w1 ⟨he, hb1⟩; have hb := hb.trans (hb1.mono hb.size); simp only [hk21, hk22, hk23, hk24] at he; subst he) | (go_at_call 103; refine (sound_any _ _).mono ?_; rintro e w1 ⟨he, hb1⟩; have hb := hb.trans (hb1.mono hb.size); simp only [hk21, hk22, hk23, hk24] at he; subst he))
                                        go_meet
                                        exact ⟨rfl, hb⟩
                                  | true =>
                                    have ht : t8 = true := by rw [ht8H.out]; simp [hk21, hk22]
                                    subst ht
                                    go_wp2_with (first | (go_at_call 100; refine (letter_any _ _).mono ?_; rintro e w1 ⟨he, hb1⟩; have hb := hb.trans (hb1.mono hb.size); simp only [hk21, hk22] at he; subst he) | (go_at_call 101; refine (between_any _ _).mono ?_; rintro e w1 ⟨he, hb1⟩; have hb := hb.trans (hb1.mono hb.size); simp only [hk21, hk22] at he; subst he) | (go_at_call 102; refine (inside_any _ _).mono ?_; rintro e w1 ⟨he, hb1⟩; have hb := hb.trans (hb1.mono hb.size); simp only [hk21, hk22] at he; subst he) | (go_at_call 103; refine (sound_any _ _).mono ?_; rintro e w1 ⟨he, hb1⟩; have hb := hb.trans (hb1.mono hb.size); simp only [hk21, hk22] at he; subst he))
                                    go_meet
                                    exact ⟨rfl, hb⟩
                              case rest =>
                                obtain ⟨rfl, hb⟩ := hcut
                                cases t8 with
                                | true =>
                                  clear ht1H ht2H ht3H ht4H ht5H ht6H ht7H ht8H ht9H ht10H
                                  go_wp2
                                  go_ret
                                  exact ⟨rfl, hb⟩
                                | false =>
                                  go_upto_region 12 with (fail)
                                  go_cut [78] (fun s wx => s = .bool t9 ∧ Below w.heap.size w wx)
                                  case first =>
                                    cases hk25 : (before == 9) with
                                    | false =>
                                      have ht : t9 = false := by rw [ht9H.out]; simp [hk25]
                                      subst ht
                                      go_wp2_with (first | (go_at_call 100; refine (letter_any _ _).mono ?_; rintro e w1 ⟨he, hb1⟩; have hb := hb.trans (hb1.mono hb.size); simp only [hk25] at he; subst he) | (go_at_call 101; refine (between_any _ _).mono ?_; rintro e w1 ⟨he, hb1⟩; have hb := hb.trans (hb1.mono hb.size); simp only [hk25] at he; subst he) | (go_at_call 102; refine (inside_any _ _).mono ?_; rintro e w1 ⟨he, hb1⟩; have hb := hb.trans (hb1.mono hb.size); simp only [hk25] at he; subst he) | (go_at_call 103; refine (sound_any _ _).mono ?_; rintro e w1 ⟨he, hb1⟩; have hb := hb.trans (hb1.mono hb.size); simp only [hk25] at he; subst he))
                                      go_meet
                                      exact ⟨rfl, hb⟩
                                    | true =>
                                      cases hk26 : (last == 12) with
                                      | false =>
                                        have ht : t9 = false := by rw [ht9H.out]; simp [hk25, hk26]
                                        subst ht
                                        go_wp2_with (first | (go_at_call 100; refine (letter_any _ _).mono ?_; rintro e w1 ⟨he, hb1⟩; have hb := hb.trans (hb1.mono hb.size); simp only [hk25, hk26] at he; subst he) | (go_at_call 101; refine (between_any _ _).mono ?_; rintro e w1 ⟨he, hb1⟩; have hb := hb.trans (hb1.mono hb.size); simp only [hk25, hk26] at he; subst he) | (go_at_call 102; refine (inside_any _ _).mono ?_; rintro e w1 ⟨he, hb1⟩; have hb := hb.trans (hb1.mono hb.size); simp only [hk25, hk26] at he; subst he) | (go_at_call 103; refine (sound_any _ _).mono ?_; rintro e w1 ⟨he, hb1⟩; have hb := hb.trans (hb1.mono hb.size); simp only [hk25, hk26] at he; subst he))
                                        go_meet
                                        exact ⟨rfl, hb⟩
                                      | true =>
                                        cases hk27 : (b == 9) with
                                        | false =>
                                          have ht : t9 = false := by rw [ht9H.out]; simp [hk25, hk26, hk27]
                                          subst ht
                                          go_wp2_with (first | (go_at_call 100; refine (letter_any _ _).mono ?_; rintro e w1 ⟨he, hb1⟩; have hb := hb.trans (hb1.mono hb.size); simp only [hk25, hk26, hk27] at he; subst he) | (go_at_call 101; refine (between_any _ _).mono ?_; rintro e w1 ⟨he, hb1⟩; have hb := hb.trans (hb1.mono hb.size); simp only [hk25, hk26, hk27] at he; subst he) | (go_at_call 102; refine (inside_any _ _).mono ?_; rintro e w1 ⟨he, hb1⟩; have hb := hb.trans (hb1.mono hb.size); simp only [hk25, hk26, hk27] at he; subst he) | (go_at_call 103; refine (sound_any _ _).mono ?_; rintro e w1 ⟨he, hb1⟩; have hb := hb.trans (hb1.mono hb.size); simp only [hk25, hk26, hk27] at he; subst he))
                                          go_meet
                                          exact ⟨rfl, hb⟩
                                        | true =>
                                          have ht : t9 = true := by rw [ht9H.out]; simp [hk25, hk26, hk27]
                                          subst ht
                                          go_wp2_with (first | (go_at_call 100; refine (letter_any _ _).mono ?_; rintro e w1 ⟨he, hb1⟩; have hb := hb.trans (hb1.mono hb.size); simp only [hk25, hk26, hk27] at he; subst he) | (go_at_call 101; refine (between_any _ _).mono ?_; rintro e w1 ⟨he, hb1⟩; have hb := hb.trans (hb1.mono hb.size); simp only [hk25, hk26, hk27] at he; subst he) | (go_at_call 102; refine (inside_any _ _).mono ?_; rintro e w1 ⟨he, hb1⟩; have hb := hb.trans (hb1.mono hb.size); simp only [hk25, hk26, hk27] at he; subst he) | (go_at_call 103; refine (sound_any _ _).mono ?_; rintro e w1 ⟨he, hb1⟩; have hb := hb.trans (hb1.mono hb.size); simp only [hk25, hk26, hk27] at he; subst he))
                                          go_meet
                                          exact ⟨rfl, hb⟩
                                  case rest =>
                                    obtain ⟨rfl, hb⟩ := hcut
                                    cases t9 with
                                    | true =>
                                      clear ht1H ht2H ht3H ht4H ht5H ht6H ht7H ht8H ht9H ht10H
                                      go_wp2
                                      go_ret
                                      exact ⟨rfl, hb⟩
                                    | false =>
                                      go_upto_region 14 with (fail)
                                      go_cut [8] (fun s wx => s = .bool t10 ∧ Below w.heap.size w wx)
                                      case first =>
                                        cases hk28 : (b == 17) with
                                        | false =>
                                          cases hk29 : (last == 17) with
                                          | false =>
                                            have ht : t10 = false := by rw [ht10H.out]; simp [hk28, hk29]
                                            subst ht
                                            go_wp2_with (first | (go_at_call 100; refine (letter_any _ _).mono ?_; rintro e w1 ⟨he, hb1⟩; have hb := hb.trans (hb1.mono hb.size); simp only [hk28, hk29] at he; subst he) | (go_at_call 101; refine (between_any _ _).mono ?_; rintro e w1 ⟨he, hb1⟩; have hb := hb.trans (hb1.mono hb.size); simp only [hk28, hk29] at he; subst he) | (go_at_call 102; refine (inside_any _ _).mono ?_; rintro e w1 ⟨he, hb1⟩; have hb := hb.trans (hb1.mono hb.size); simp only [hk28, hk29] at he; subst he) | (go_at_call 103; refine (sound_any _ _).mono ?_; rintro e w1 ⟨he, hb1⟩; have hb := hb.trans (hb1.mono hb.size); simp only [hk28, hk29] at he; subst he))
                                            go_meet
                                            exact ⟨rfl, hb⟩
                                          | true =>
                                            cases hk30 : soundK b with
                                            | false =>
                                              have ht : t10 = false := by rw [ht10H.out]; simp [hk28, hk29, hk30]
                                              subst ht
                                              go_wp2_with (first | (go_at_call 100; refine (letter_any _ _).mono ?_; rintro e w1 ⟨he, hb1⟩; have hb := hb.trans (hb1.mono hb.size); simp only [hk28, hk29, hk30] at he; subst he) | (go_at_call 101; refine (between_any _ _).mono ?_; rintro e w1 ⟨he, hb1⟩; have hb := hb.trans (hb1.mono hb.size); simp only [hk28, hk29, hk30] at he; subst he) | (go_at_call 102; refine (inside_any _ _).mono ?_; rintro e w1 ⟨he, hb1⟩; have hb := hb.trans (hb1.mono hb.size); simp only [hk28, hk29, hk30] at he; subst he) | (go_at_call 103; refine (sound_any _ _).mono ?_; rintro e w1 ⟨he, hb1⟩; have hb := hb.trans (hb1.mono hb.size); simp only [hk28, hk29, hk30] at he; subst he))
                                              go_meet
                                              exact ⟨rfl, hb⟩
                                            | true =>
                                              have ht : t10 = true := by rw [ht10H.out]; simp [hk28, hk29, hk30]
                                              subst ht
                                              go_wp2_with (first | (go_at_call 100; refine (letter_any _ _).mono ?_; rintro e w1 ⟨he, hb1⟩; have hb := hb.trans (hb1.mono hb.size); simp only [hk28, hk29, hk30] at he; subst he) | (go_at_call 101; refine (between_any _ _).mono ?_; rintro e w1 ⟨he, hb1⟩; have hb := hb.trans (hb1.mono hb.size); simp only [hk28, hk29, hk30] at he; subst he) | (go_at_call 102; refine (inside_any _ _).mono ?_; rintro e w1 ⟨he, hb1⟩; have hb := hb.trans (hb1.mono hb.size); simp only [hk28, hk29, hk30] at he; subst he) | (go_at_call 103; refine (sound_any _ _).mono ?_; rintro e w1 ⟨he, hb1⟩; have hb := hb.trans (hb1.mono hb.size); simp only [hk28, hk29, hk30] at he; subst he))
                                              go_meet
                                              exact ⟨rfl, hb⟩
                                        | true =>
                                          cases hk31 : soundK last with
                                          | false =>
                                            cases hk32 : (last == 17) with
                                            | false =>
                                              have ht : t10 = false := by rw [ht10H.out]; simp [hk28, hk31, hk32]
                                              subst ht
                                              go_wp2_with (first | (go_at_call 100; refine (letter_any _ _).mono ?_; rintro e w1 ⟨he, hb1⟩; have hb := hb.trans (hb1.mono hb.size); simp only [hk28, hk31, hk32] at he; subst he) | (go_at_call 101; refine (between_any _ _).mono ?_; rintro e w1 ⟨he, hb1⟩; have hb := hb.trans (hb1.mono hb.size); simp only [hk28, hk31, hk32] at he; subst he) | (go_at_call 102; refine (inside_any _ _).mono ?_; rintro e w1 ⟨he, hb1⟩; have hb := hb.trans (hb1.mono hb.size); simp only [hk28, hk31, hk32] at he; subst he) | (go_at_call 103; refine (sound_any _ _).mono ?_; rintro e w1 ⟨he, hb1⟩; have hb := hb.trans (hb1.mono hb.size); simp only [hk28, hk31, hk32] at he; subst he))
                                              go_meet
                                              exact ⟨rfl, hb⟩
                                            | true =>
                                              have ht : t10 = true := by rw [ht10H.out]; simp [hk28, hk31, hk32]
                                              subst ht
                                              go_wp2_with (first | (go_at_call 100; refine (letter_any _ _).mono ?_; rintro e w1 ⟨he, hb1⟩; have hb := hb.trans (hb1.mono hb.size); simp only [hk28, hk31, hk32] at he; subst he) | (go_at_call 101; refine (between_any _ _).mono ?_; rintro e w1 ⟨he, hb1⟩; have hb := hb.trans (hb1.mono hb.size); simp only [hk28, hk31, hk32] at he; subst he) | (go_at_call 102; refine (inside_any _ _).mono ?_; rintro e w1 ⟨he, hb1⟩; have hb := hb.trans (hb1.mono hb.size); simp only [hk28, hk31, hk32] at he; subst he) | (go_at_call 103; refine (sound_any _ _).mono ?_; rintro e w1 ⟨he, hb1⟩; have hb := hb.trans (hb1.mono hb.size); simp only [hk28, hk31, hk32] at he; subst he))
                                              go_meet
                                              exact ⟨rfl, hb⟩
                                          | true =>
                                            have ht : t10 = true := by rw [ht10H.out]; simp [hk28, hk31]
                                            subst ht
                                            go_wp2_with (first | (go_at_call 100; refine (letter_any _ _).mono ?_; rintro e w1 ⟨he, hb1⟩; have hb := hb.trans (hb1.mono hb.size); simp only [hk28, hk31] at he; subst he) | (go_at_call 101; refine (between_any _ _).mono ?_; rintro e w1 ⟨he, hb1⟩; have hb := hb.trans (hb1.mono hb.size); simp only [hk28, hk31] at he; subst he) | (go_at_call 102; refine (inside_any _ _).mono ?_; rintro e w1 ⟨he, hb1⟩; have hb := hb.trans (hb1.mono hb.size); simp only [hk28, hk31] at he; subst he) | (go_at_call 103; refine (sound_any _ _).mono ?_; rintro e w1 ⟨he, hb1⟩; have hb := hb.trans (hb1.mono hb.size); simp only [hk28, hk31] at he; subst he))
                                            go_meet
                                            exact ⟨rfl, hb⟩
                                      case rest =>
                                        obtain ⟨rfl, hb⟩ := hcut
                                        go_wp2
                                        go_ret
                                        exact ⟨rfl, hb⟩
end Go.Proofs.YtpaijpdmeiagfaaDoor

namespace Go.Proofs.YtpaijpdmeiagfaaDoor
open Go Go.RowKit Go.WideMaps Go.Proofs.Kk Go.Proofs.Tm Go.Proofs.Gg Go.Proofs.Tx

set_option maxRecDepth 100000 in
set_option maxHeartbeats 1000000 in
theorem wbreak_out (w : World) (D : Nat) (ao : Option Addr) (c : Nat) (zs : List Int) (i : Int) (h : i < 0 ∨ (zs.length : Int) < i) :
    Calls Tryd.prog 51 #[.pointer (some ⟨D, 0, none⟩), .slice ao zs.length c, .int .i64 i] w fun e w' => e = .returned (.bool false) ∧ Below w.heap.size w w' := by
  go_enter Tryd.func51, Tryd.ntmps51
  by_cases h0 : i < 0
  · clear h
    go_wp2
    go_ret
    exact ⟨rfl, Below.refl _ _⟩
  · have h1 : (zs.length : Int) < i := by omega
    clear h
    go_wp2
    go_ret
    exact ⟨rfl, Below.refl _ _⟩

set_option maxRecDepth 100000 in
set_option maxHeartbeats 1000000 in
theorem wbreak_ends (w : World) (D : Nat) (ao : Option Addr) (c : Nat) (zs : List Int) (i : Int) (h : i = 0 ∨ i = zs.length) :
    Calls Tryd.prog 51 #[.pointer (some ⟨D, 0, none⟩), .slice ao zs.length c, .int .i64 i] w fun e w' => e = .returned (.bool true) ∧ Below w.heap.size w w' := by
  go_enter Tryd.func51, Tryd.ntmps51
  rcases h with rfl | rfl
  · go_wp2
    go_ret
    exact ⟨rfl, Below.refl _ _⟩
  · have h2 : ¬ ((zs.length : Int) < 0) := by omega
    by_cases h0 : zs.length = 0
    · rw [h0]
      go_wp2
      go_ret
      exact ⟨rfl, Below.refl _ _⟩
    · have h3 : ((zs.length : Int) == 0) = false := by simpa using h0
      go_wp2
      go_ret
      exact ⟨rfl, Below.refl _ _⟩

set_option maxRecDepth 100000 in
set_option maxHeartbeats 16000000 in
theorem wbreak_in (w : World) (D : Nat) (ao : Option Addr) (c : Nat) (zs : List Int) (hsm : zs.length ≤ 1000000) (i : Int) (hs : ShipAt w w.heap.size D) (ht : IntsAt w w.heap.size (.slice ao zs.length c) zs) (h0 : 0 < i) (h1 : i < zs.length) :
    Calls Tryd.prog 51 #[.pointer (some ⟨D, 0, none⟩), .slice ao zs.length c, .int .i64 i] w fun e w' => e = .returned (.bool (brkI wf (sgW zs) i)) ∧ Below w.heap.size w w' := by
  have hbrk := brkW_in h0 h1
  obtain ⟨_, hc1, hc2, _⟩ := ht.len
  have htt := ht
  obtain ⟨b, off, rfl, hbl, p2⟩ := ht.at_ (i := i) (by omega) h1
  obtain ⟨b', off', ha, _, p1⟩ := ht.at_ (i := i - 1) (by omega) (by omega)
  cases ha
  have en : (i - 1).toNat = i.toNat - 1 := by omega
  rw [en] at p1 hbrk
  clear en
  generalize zs.getD (i.toNat - 1) 0 = x at p1 hbrk
  generalize zs.getD i.toNat 0 = y at p2 hbrk
  have hS : Hid (∀ V, Below w.heap.size w V → ShipAt V V.heap.size D) := fun V hV => (hs.below hV (Nat.le_refl _)).mono hV.size
  have hT : Hid (∀ V, Below w.heap.size w V → IntsAt V V.heap.size (.slice (some ⟨b, off, none⟩) zs.length c) zs) := fun V hV => (htt.below hV (Nat.le_refl _)).mono hV.size
  have hP : Hid (∀ V, Below w.heap.size w V → V.cell? ⟨b, off + i.toNat, none⟩ = some (.int .i64 y)) := fun V hV => (hV.cell (p := ⟨b, _, none⟩) hbl).trans p2
  obtain ⟨ka, hka⟩ : ∃ k, k = wdK x := ⟨_, rfl⟩
  obtain ⟨kb, hkb⟩ : ∃ k, k = wdK y := ⟨_, rfl⟩
  obtain ⟨p, hp⟩ : ∃ k, k = piB y := ⟨_, rfl⟩
  obtain ⟨q0, hq0⟩ : ∃ k, k = (headsOf (ahd (sgW zs) i)).getD 0 (-1) := ⟨_, rfl⟩
  obtain ⟨q1, hq1⟩ : ∃ k, k = (headsOf (ahd (sgW zs) i)).getD 1 (-1) := ⟨_, rfl⟩
  obtain ⟨nx, hnx⟩ : ∃ k, k = nextI zs (i + 1) := ⟨_, rfl⟩
  obtain ⟨fl, hfl⟩ : ∃ k, k = flagsW (headsOf (ahd (sgW zs) i)) := ⟨_, rfl⟩
  obtain ⟨ea, hea⟩ : ∃ k, k = endsK ka := ⟨_, rfl⟩
  obtain ⟨eb, heb⟩ : ∃ k, k = endsK kb := ⟨_, rfl⟩
  obtain ⟨mb, hmb⟩ : ∃ k, k = markK kb := ⟨_, rfl⟩
  obtain ⟨jb, hjb⟩ : ∃ k, k = joinedB q1 q0 kb nx := ⟨_, rfl⟩
  rw [← hka, ← hkb, ← hp, ← hnx] at hbrk
  unfold wfg at hbrk
  rw [← hq0, ← hq1, ← hfl] at hbrk
  simp only [] at hbrk
  rw [← hea, ← heb, ← hmb, ← hjb] at hbrk
  have cAr : Hid (∀ V, Below w.heap.size w V → Calls Tryd.prog 76 #[.pointer (some ⟨D, 0, none⟩), .slice (some ⟨b, off, none⟩) zs.length c, .int .i64 i] V fun e w' => e = .returned (.tuple #[.int .i64 q1, .int .i64 q0, .int .i64 nx]) ∧ Below V.heap.size V w') := fun V hV => by
    rw [hq0, hq1, hnx]; exact waround_any V D _ zs hsm i (hS.out V hV) (hT.out V hV) h0 h1
  have cFl : Hid (∀ V, Below w.heap.size w V → Calls Tryd.prog 80 #[.pointer (some ⟨D, 0, none⟩), .slice (some ⟨b, off, none⟩) zs.length c, .int .i64 i] V fun e w' => e = .returned (.int .i64 fl) ∧ Below V.heap.size V w') := fun V hV => by
    rw [hfl]; exact wflags_any V D _ zs hsm i (hS.out V hV) (hT.out V hV) (by omega) (by omega)
  obtain ⟨r, hr⟩ : ∃ r, r = brkI wf (sgW zs) i := ⟨_, rfl⟩
  rw [← hr] at hbrk ⊢
  have hrH := Lib.hid hbrk
  have kaH := Lib.hid hka
  have kbH := Lib.hid hkb
  have pH := Lib.hid hp
  have eaH := Lib.hid hea
  have ebH := Lib.hid heb
  have mbH := Lib.hid hmb
  have jbH := Lib.hid hjb
  have hfe := tmod2 fl
  have h1s : Hid (ka = 1 → ea = true) := fun h => by rw [hea, h]; rfl
  have e1 : (i == (0 : Int)) = false := by simp; omega
  have e2 : (i == (zs.length : Int)) = false := by simp; omega
  have cA : Hid (∀ W : World, W.heap = w.heap → Calls Tryd.prog 26 #[.pointer (some ⟨D, 0, none⟩), .int .i64 x] W fun e w' => e = .returned (.int .i64 ka) ∧ ∃ n', w' = W.drewN n') := fun W hW => by
    rw [hka]; exact sword_any W _ D x (hs.heap hW)
  have cB : Hid (∀ W : World, W.heap = w.heap → Calls Tryd.prog 26 #[.pointer (some ⟨D, 0, none⟩), .int .i64 y] W fun e w' => e = .returned (.int .i64 kb) ∧ ∃ n', w' = W.drewN n') := fun W hW => by
    rw [hkb]; exact sword_any W _ D y (hs.heap hW)
  clear hbrk hka hkb hp hq0 hq1 hnx hfl hea heb hmb hjb hr kaH kbH htt
  have hi3 : i ≤ 9223372036854775807 := by omega
  have hbb : Hid (∀ n, Below w.heap.size w (w.drewN n)) := fun n => below_drewN (Below.refl _ _) n
  go_enter Tryd.func51, Tryd.ntmps51
  go_wp2
  go_quiet ((go_at_call 26; first | ((with_reducible refine Calls.quiet_of (cA.out _ ?_)); rfl) | ((with_reducible refine Calls.quiet_of (cB.out _ ?_)); rfl)))
  go_wp2_with (first
    | (go_at_call 76; refine (cAr.out _ (below_drewN (Below.refl _ _) _)).mono ?_; rintro e w1 ⟨rfl, hb1⟩; have hb : Below w.heap.size w w1 := (below_drewN (Below.refl _ _) _).trans hb1; have p2 := hP.out _ hb; clear p1)
    | (go_at_call 77; refine (ends_any _ _).mono ?_; rintro e w1 ⟨he, hb1⟩; have hb := hb.trans (hb1.mono hb.size); have p2 := hP.out _ hb; (first | rw [← eaH.out] at he | rw [← ebH.out] at he | rw [show endsK 1 = true from rfl] at he); subst he)
    | (go_at_call 33; refine (spicto_any _ _ D _ (by exact hS.out _ hb)).mono ?_; rintro e w1 ⟨he, n1, rfl⟩; have hb := below_drewN hb n1; rw [← pH.out] at he; subst he)
    | (go_at_call 78; refine (mark_any _ _).mono ?_; rintro e w1 ⟨he, hb1⟩; have hb := hb.trans (hb1.mono hb.size); rw [← mbH.out] at he; subst he)
    | (go_at_call 79; refine (joined_any _ _ _ _ _).mono ?_; rintro e w1 ⟨he, hb1⟩; have hb := hb.trans (hb1.mono hb.size); rw [← jbH.out] at he; subst he)
    | (go_at_call 80; refine (cFl.out _ hb).mono ?_; rintro e w1 ⟨rfl, hb1⟩; have hb := hb.trans (hb1.mono hb.size)))
  all_goals
    go_ret
    refine ⟨?_, hb⟩
    rw [hrH.out]
    have q1 := h1s.out
    clear h1s hrH eaH ebH mbH jbH pH p2 hs ht cA cB cAr cFl hS hT hP hbb e1 e2
    simp_all [beq2]

theorem wbreak_any (w : World) (D : Nat) (v : Value) (zs : List Int) (hsm : zs.length ≤ 1000000) (i : Int) (hs : ShipAt w w.heap.size D) (ht : IntsAt w w.heap.size v zs) :
    Calls Tryd.prog 51 #[.pointer (some ⟨D, 0, none⟩), v, .int .i64 i] w fun e w' => e = .returned (.bool (brkI wf (sgW zs) i)) ∧ Below w.heap.size w w' := by
  obtain ⟨ao, c, rfl⟩ := ht.form
  by_cases h : i < 0 ∨ (zs.length : Int) < i
  · rw [brkI_out (by rw [sgW_length]; exact h)]
    exact wbreak_out w D ao c zs i h
  · by_cases h2 : i = 0 ∨ i = zs.length
    · rw [brkI_ends (by rw [sgW_length]; exact h2)]
      exact wbreak_ends w D ao c zs i h2
    · exact wbreak_in w D ao c zs hsm i hs ht (by omega) (by omega)
end Go.Proofs.YtpaijpdmeiagfaaDoor

namespace Go.Proofs.YtpaijpdmeiagfaaDoor
open Go Go.RowKit Go.WideMaps Go.Proofs.Kk Go.Proofs.Tm Go.Proofs.Gg Go.Proofs.Tx

set_option maxRecDepth 100000 in
set_option maxHeartbeats 4000000 in
theorem wall_any (w : World) (D : Nat) (v : Value) (zs : List Int) (hsm : zs.length ≤ 1000000) (hs : ShipAt w w.heap.size D) (ht : IntsAt w w.heap.size v zs) :
    Calls Tryd.prog 28 #[.pointer (some ⟨D, 0, none⟩), v] w fun e w' => ∃ u, e = .returned u ∧ w'.ownsRow w.heap.size 3 1 u (plI wf (sgW zs)).length (ints (plI wf (sgW zs))) ∧ Below w.heap.size w w' := by
  obtain ⟨ysF, hys⟩ : ∃ ys, ys = plI wf (sgW zs) := ⟨_, rfl⟩
  rw [← hys]
  have hysH := Lib.hid hys
  clear hys
  obtain ⟨ao, c, rfl⟩ := ht.form
  obtain ⟨i0, hi, hz0, hz1, hz2⟩ := info_parts infoInt2
  have hiH := Lib.hid hi
  have hz0H := Lib.hid hz0
  have hz1H := Lib.hid hz1
  have hz2H := Lib.hid hz2
  clear hi hz0 hz1 hz2
  go_enter Tryd.func28, Tryd.ntmps28
  go_wp2
  go_loopw [5, 6] (fun vo vi wr => ∃ (k : Nat), k ≤ zs.length + 1 ∧ vi = .int .i64 k ∧ wr.ownsRow w.heap.size 3 1 vo (plTo wf (sgW zs) k).length (ints (plTo wf (sgW zs) k)) ∧ Below w.heap.size w wr) (fun _ vi _ => zs.length + 1 - (intOf vi).toNat)
  case atStart => exact ⟨0, by omega, rfl, World.ownsRow_nil _ _ _ _, Below.refl _ _⟩
  case round =>
    obtain ⟨k, hk, rfl, hrow, hb⟩ := hrel
    by_cases hlt : k ≤ zs.length
    · have hk1 : (k : Int) ≤ zs.length := by omega
      have hB := wbreak_any wr D _ zs hsm k ((hs.below hb (Nat.le_refl _)).mono hb.size) ((ht.below hb (Nat.le_refl _)).mono hb.size)
      rw [brkI_nat (by rw [sgW_length]; exact hlt)] at hB
      have hyes := plTo_yes (f := wf) (t := sgW zs) (k := k)
      have hno := plTo_no (f := wf) (t := sgW zs) (k := k)
      have hlen : (plTo wf (sgW zs) k).length ≤ 1000000 := Nat.le_trans (plTo_len _ _ _) (by omega)
      obtain ⟨b, hb'⟩ : ∃ b, b = brkAt wf (sgW zs) k := ⟨_, rfl⟩
      rw [← hb'] at hB hyes hno
      clear hb'
      have hBH := Lib.hid hB
      have hyesH := Lib.hid hyes
      have hnoH := Lib.hid hno
      generalize plTo wf (sgW zs) k = ys at hrow hyesH hnoH hlen
      clear hB hyes hno hk
      cases b with
      | false =>
        go_wp2_with (go_at_call 51; refine hBH.out.mono ?_; rintro e w1 ⟨rfl, hb1⟩)
        go_roundw
        case rel => exact ⟨k + 1, by omega, by go_num, by rw [hnoH.out trivial]; exact ownsRow_below hrow hb1 (Nat.le_refl _), hb.trans (hb1.mono hb.size)⟩
        case measure => simp [intOf]; omega
      | true =>
        go_wp2_with (first
          | (go_at_call 51; refine hBH.out.mono ?_; rintro e w1 ⟨rfl, hb1⟩)
          | (at_builtin; refine wpList_append_own _ rfl _ _ 22 rfl w.heap.size 3 i0 (.int .i64 0) 1 8 intsU2 hiH.out hz0H.out hz1H.out hz2H.out rfl (by decide) _ _ _ rfl ((ownsRow_below hrow hb1 (Nat.le_refl _)).alloc _) ⟨w1.heap.size, 0, none⟩ 1 1 [.int .i64 k] rfl rfl (cell_one_new _ _ _) (by simp [Value.oneCell']) (by unfold maxLen; omega) (by omega) (by have := hb.size; have := hb1.size; simp; omega) ?_; intro v' w2 hown' hgrow _))
        go_roundw
        case rel =>
          have hb2 := hb.trans (hb1.mono hb.size)
          refine ⟨k + 1, by omega, by go_num, ?_, ?_⟩
          · rw [hyesH.out trivial, ints_append, List.length_append]; exact hown'
          · exact below_grown (hb2.alloc hb2.size _) ((ownsRow_below hrow hb1 (Nat.le_refl _)).alloc _) hgrow (Nat.le_refl _) (by have := hb2.size; simp; omega)
        case measure => simp [intOf]; omega
    · obtain rfl : k = zs.length + 1 := by omega
      rw [← sgW_length zs, plTo_all, ← hysH.out] at hrow
      clear hlt hk
      go_wp2
      go_ret
      exact ⟨_, rfl, hrow, hb⟩
end Go.Proofs.YtpaijpdmeiagfaaDoor
