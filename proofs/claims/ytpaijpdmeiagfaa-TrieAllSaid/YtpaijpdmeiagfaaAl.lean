/- All: its iterator. -/
import Derived.Test.YtpaijpdmeiagfaaRx
import Derived.Test.YtpaijpdmeiagfaaJ
import Derived.Test.YtpaijpdmeiagfaaU
import Derived.Shelf.Abstract
import Derived.Shelf.RegionOpen
import Derived.WalkKit
import Derived.OwnWalkIn
import Derived.TacticsInMore
import Derived.LoopNIn
import Derived.LoopIn
import Derived.Maps.AppendAt
namespace Go.Proofs.Ytpaijpdmeiagfaa
open Go Go.RowKit Go.WideMaps Go.Shelf Go.Proofs.Kk Go.Proofs.Tm Go.Proofs.Gg Go.Proofs.Gr
attribute [local go_sem] Oper.semAt_some

/-- what a round keeps for the iterator -/
def KpR (n₀ Bn X : Nat) (W W' : World) : Prop := Below n₀ W W' ∧ W'.heap[Bn]? = W.heap[Bn]? ∧ W'.heap[X]? = W.heap[X]?

def propC (x : P3) : Array Value := #[.int .i64 x.lo, .int .i64 x.hi, .int .u8 x.v]

theorem runs_in (B : Nat) (n : Nat) (w : World) :
    CallsIn Fence.wide n Try.prog 31 #[.pointer (some ⟨B, 0, none⟩)] w fun e w' => e = .returned (.func (.func 34) #[] #[.pointer (some ⟨w.heap.size, 0, none⟩)]) ∧ w' = w.alloc (.cells #[.pointer (some ⟨B, 0, none⟩)] 25) := by
  refine callsIn_of_wp Try.func31 rfl trivial ?_ rfl
  simp only [Try.ntmps31, List.size_toArray, List.length_cons, List.length_nil, Nat.reduceAdd, Nat.reduceSub, Array.replicate_succ, Array.replicate_zero, List.push_toArray, List.append_toArray, List.nil_append, List.cons_append]
  gi_wp2
  go_ret
  exact ⟨rfl, rfl⟩

/-- a step of the iterator's own: a new block, a draw, a store into its own block -/
structure ItSt (J : List P3 → World → Prop) (n₀ B Bn X : Nat) (T : TD) (pre : List P3) (cur : P3) (W : World) : Prop where
  j : J pre W
  x : W.heap[X]? = some (.cells (propC cur) 36 (0, 0))
  b : W.heap[Bn]? = some (.cells #[.pointer (some ⟨B, 0, none⟩)] 25 (0, 0))
  t : TrieAt W n₀ B T

theorem ItSt.step {J : List P3 → World → Prop} {n₀ B Bn X base : Nat} {T : TD} {pre : List P3} {cur cur' : P3} {W W' : World} (h : ItSt J n₀ B Bn X T pre cur W) (hJ : Abx base X J) (hX : n₀ ≤ X) (hne : Bn ≠ X)
    (hg : W.grownBy W' (some X)) (hx : W'.heap[X]? = some (.cells (propC cur') 36 (0, 0))) : ItSt J n₀ B Bn X T pre cur' W' :=
  ⟨hJ _ _ _ _ h.j hg (fun r e => by cases e; exact .inl rfl), hx, (hg.block _ (Array.getElem?_eq_some_iff.1 h.b).1 (fun e => hne (by cases e; rfl))).trans h.b,
    h.t.below (N := n₀) ⟨hg.os, hg.tape, hg.output, hg.size, fun k hk => by
      by_cases hl : k < W.heap.size
      · exact hg.block k hl (fun e => by cases e; omega)
      · have := (Array.getElem?_eq_some_iff.1 h.x).1
        omega⟩ (Nat.le_refl _)⟩

theorem runsTo_len (f : Int → Int) (k : Nat) : (runsTo f k).1.length ≤ k := by
  induction k with
  | zero => simp [runsTo]
  | succ k ih =>
    by_cases h : f (k + 1) = (runsTo f k).2.v
    · rw [runs_same h]; exact Nat.le_succ_of_le ih
    · rw [runs_turn h]; simp; omega

theorem drewN_grown (W : World) (k : Nat) (row : Option Nat) : W.grownBy (W.drewN k) row := ⟨rfl, rfl, rfl, Nat.le_refl _, fun _ _ _ => rfl⟩

theorem ItSt.drewN {J : List P3 → World → Prop} {n₀ B Bn X base : Nat} {T : TD} {pre : List P3} {cur : P3} {W : World} (h : ItSt J n₀ B Bn X T pre cur W) (hJ : Abx base X J) (hX : n₀ ≤ X) (hne : Bn ≠ X) (k : Nat) : ItSt J n₀ B Bn X T pre cur (W.drewN k) :=
  h.step hJ hX hne (drewN_grown W k _) h.x

theorem ItSt.set {J : List P3 → World → Prop} {n₀ B Bn X base : Nat} {T : TD} {pre : List P3} {cur : P3} {W : World} (h : ItSt J n₀ B Bn X T pre cur W) (hJ : Abx base X J) (hX : n₀ ≤ X) (hne : Bn ≠ X) (j : Nat) (v : Value) (cur' : P3)
    (he : (propC cur).setIfInBounds j v = propC cur') : ItSt J n₀ B Bn X T pre cur' (W.setCell ⟨X, j, none⟩ v) :=
  h.step hJ hX hne (grownBy_setCell _ ⟨X, j, none⟩ _) (by rw [heap_setCell_same _ _ _ _ _ _ h.x, he])

set_option maxRecDepth 100000 in
set_option maxHeartbeats 4000000 in
theorem runs1_seq (w : World) (n : Nat) (hn : 1 ≤ n) (Bn n₀ B : Nat) (T : TD) (hBn : w.heap[Bn]? = some (.cells #[.pointer (some ⟨B, 0, none⟩)] 25 (0, 0))) (ht : TrieAt w n₀ B T) (hn0 : n₀ ≤ w.heap.size)
    (l : Nat) (J : List P3 → World → Prop) (W : World) (hb : Below w.heap.size w W) (hsz : W.heap.size = w.heap.size + 2) (hJ : Abx W.heap.size (w.heap.size + 2) J)
    (hY : ∀ pre x W1, J pre W1 → pre.length < 1114112 → w.heap.size + 2 < W1.heap.size → YieldAt Fence.wide (n - 1) Try.prog l #[propV x] W1 fun e W' => e = .returned (.bool true) ∧ J (pre ++ [x]) W' ∧ KpR n₀ Bn (w.heap.size + 2) W1 W') (h0 : J [] W) :
    CallsIn Fence.wide n Try.prog 34 #[.func (.yield l) #[] #[], .pointer (some ⟨Bn, 0, none⟩)] W fun e W' => (∃ v, e = .returned v) ∧ ∃ xs, xs = (runsTo T.val 1114111).1 ++ [(runsTo T.val 1114111).2] ∧ J xs W' := by
  have hBl : Bn < w.heap.size := (Array.getElem?_eq_some_iff.1 hBn).1
  have hBnW : W.heap[Bn]? = some (.cells #[.pointer (some ⟨B, 0, none⟩)] 25 (0, 0)) := (hb.block _ hBl).trans hBn
  have hcB : W.cell? ⟨Bn, 0, none⟩ = some (.pointer (some ⟨B, 0, none⟩)) := by rw [cell_of_row _ _ _ _ _ _ hBnW]; rfl
  have htW := ht.below hb hn0
  obtain ⟨xsF, hxs⟩ : ∃ xs, xs = (runsTo T.val 1114111).1 ++ [(runsTo T.val 1114111).2] := ⟨_, rfl⟩
  have hxsH : Hid (xsF = (runsTo T.val 1114111).1 ++ [(runsTo T.val 1114111).2]) := hxs
  rw [← hxs]
  clear hxs
  refine callsIn_of_wp Try.func34 rfl trivial ?_ rfl
  simp only [Try.ntmps34, List.size_toArray, List.length_cons, List.length_nil, Nat.reduceAdd, Nat.reduceSub, Array.replicate_succ, Array.replicate_zero, List.push_toArray, List.append_toArray, List.nil_append, List.cons_append]
  gi_wp2_with (refine ⟨trivial, ?_⟩; gi_at_call 14; refine (callsIn_wide.2 (of_any _ n₀ B T _ (by exact htW))).mono ?_; rintro e w1 ⟨rfl, k1, rfl⟩)
  have hX0 : n₀ ≤ w.heap.size + 2 := by omega
  have hX1 : Bn ≠ w.heap.size + 2 := by omega
  have hst : ItSt J n₀ B Bn (w.heap.size + 2) T (runsTo T.val 0).1 (runsTo T.val 0).2 ((W.drewN k1).alloc (.cells #[.int .i64 0, .int .i64 0, .int .u8 (T.val 0)] 36)) := by
    refine ⟨hJ.alloc (hJ _ _ _ none h0 (drewN_grown W k1 none) (fun r e => by cases e)) _, ?_, ?_, ?_⟩
    · have := heap_alloc_new (W.drewN k1) (.cells #[.int .i64 0, .int .i64 0, .int .u8 (T.val 0)] 36)
      rw [show (W.drewN k1).heap.size = w.heap.size + 2 from hsz] at this
      exact this
    · exact (Below.heap_alloc (W.drewN k1) _ Bn (by show Bn < W.heap.size; omega)).trans hBnW
    · exact (htW.heap (w' := W.drewN k1) rfl).below (((Below.refl n₀ (W.drewN k1)).alloc (by show n₀ ≤ W.heap.size; omega) _)) (Nat.le_refl _)
  generalize (W.drewN k1).alloc (.cells #[.int .i64 0, .int .i64 0, .int .u8 (T.val 0)] 36) = W1 at hst ⊢
  obtain ⟨X, hX⟩ : ∃ X, X = w.heap.size + 2 := ⟨_, rfl⟩
  rw [← hX] at hst hJ hY hX0 hX1 ⊢
  clear hX hb hsz hBnW hcB htW hBn ht hn0 hBl h0
  obtain ⟨f, hf⟩ : ∃ f, f = T.val := ⟨_, rfl⟩
  have hfr : ∀ r, 0 ≤ f r ∧ f r ≤ 255 := fun r => by rw [hf]; exact hst.t.val_rng r
  have hfH : Hid (T.val = f) := hf.symm
  rw [← hf] at hst hxsH
  clear hf
  gi_loopw [4] (fun i wr => ∃ (k : Nat), k ≤ 1114111 ∧ i = .int .i64 ((k : Int) + 1) ∧ ItSt J n₀ B Bn X T (runsTo f k).1 (runsTo f k).2 wr) (fun i _ => 1114112 - (intOf i).toNat)
  case atStart => exact ⟨0, by omega, rfl, hst⟩
  case round =>
    obtain ⟨k, hk, rfl, hs⟩ := hrel
    obtain ⟨cur, hcur⟩ : ∃ cur, cur = (runsTo f k).2 := ⟨_, rfl⟩
    obtain ⟨pre, hpre⟩ : ∃ pre, pre = (runsTo f k).1 := ⟨_, rfl⟩
    have hlnH : Hid (pre.length < 1114112) := by rw [hpre]; exact Nat.lt_of_le_of_lt (runsTo_len f k) (Nat.lt_succ_of_le hk)
    have hhi : Hid (cur.hi = k) := by rw [hcur]; exact (runsOk f k).hi
    have hxl : X < wr.heap.size := (Array.getElem?_eq_some_iff.1 hs.x).1
    have hBl2 : Bn < wr.heap.size := (Array.getElem?_eq_some_iff.1 hs.b).1
    rw [← hcur, ← hpre] at hs
    have hcB : wr.cell? ⟨Bn, 0, none⟩ = some (.pointer (some ⟨B, 0, none⟩)) := by rw [cell_of_row _ _ _ _ _ _ hs.b]; rfl
    have hx0 : wr.cell? ⟨X, 0, none⟩ = some (.int .i64 cur.lo) := by rw [cell_of_row _ _ _ _ _ _ hs.x]; rfl
    have hx1 : wr.cell? ⟨X, 1, none⟩ = some (.int .i64 cur.hi) := by rw [cell_of_row _ _ _ _ _ _ hs.x]; rfl
    have hx2 : wr.cell? ⟨X, 2, none⟩ = some (.int .u8 cur.v) := by rw [cell_of_row _ _ _ _ _ _ hs.x]; rfl
    have hz1 : wr.frozen? ⟨X, 1, none⟩ = false := frozen_of_row _ _ _ _ _ hs.x
    by_cases hlt : k < 1114111
    · have hk0 : (0 : Int) ≤ k := by omega
      have hk1 : (k : Int) < 1114111 := by omega
      have hsame : Hid (f (k + 1) = cur.v → (runsTo f (k + 1)).1 = pre ∧ (runsTo f (k + 1)).2 = ⟨cur.lo, k + 1, cur.v⟩) := fun h => by
        rw [hcur] at h
        rw [runs_same h, hcur, hpre]; exact ⟨rfl, rfl⟩
      have hturn : Hid (f (k + 1) ≠ cur.v → (runsTo f (k + 1)).1 = pre ++ [cur] ∧ (runsTo f (k + 1)).2 = ⟨k + 1, k + 1, f (k + 1)⟩) := fun h => by
        rw [hcur] at h
        rw [runs_turn h, hcur, hpre]; exact ⟨rfl, rfl⟩
      obtain ⟨y, hy⟩ : ∃ y, y = f (k + 1) := ⟨_, rfl⟩
      rw [← hy] at hsame hturn
      have hyr := hfr (k + 1)
      rw [← hy] at hyr
      have hOf : ∀ W, W.heap = wr.heap → CallsIn Fence.wide (n - 1) Try.prog 14 #[.pointer (some ⟨B, 0, none⟩), .int .i64 ((k : Int) + 1)] W fun e w' => e = .returned (.int .u8 y) ∧ ∃ n', w' = W.drewN n' := fun W hW => by
        have := of_any W n₀ B T ((k : Int) + 1) (hs.t.heap hW)
        rw [hfH.out, ← hy] at this
        exact callsIn_wide.2 this
      have hltH := Lib.hid hlt
      have hOfH := Lib.hid hOf
      obtain ⟨r, hr⟩ : ∃ r : Int, r = (k : Int) + 1 := ⟨_, rfl⟩
      rw [← hr] at hOfH ⊢
      have hrH := Lib.hid hr
      have hr0 : 1 ≤ r := by omega
      have hr1 : r ≤ 1114111 := by omega
      clear hcur hpre hy hk hlt hOf hk0 hk1 hr
      by_cases hv : y = cur.v
      · obtain ⟨q1, q2⟩ := hsame.out hv
        have q1H := Lib.hid q1
        have q2H := Lib.hid q2
        clear q1 q2 hsame hturn
        subst hv
        gi_wp2_with (refine ⟨trivial, ?_⟩; gi_at_call 14; refine (hOfH.out _ rfl).mono ?_; rintro e w1 ⟨rfl, k1, rfl⟩)
        go_roundw
        case rel =>
          refine ⟨k + 1, hltH.out, congrArg (Value.int .i64) (by have := hrH.out; omega), ?_⟩
          rw [q1H.out, q2H.out]
          refine (hs.drewN hJ hX0 hX1 k1).step hJ hX0 hX1 (grownBy_setCell _ ⟨X, 1, none⟩ _) ?_
          have hx' : (wr.drewN k1).heap[X]? = some (.cells (propC cur) 36 (0, 0)) := hs.x
          rw [heap_setCell_same _ _ _ _ _ _ hx', ← hrH.out]
          rfl
        case measure => simp [intOf]; omega
      · obtain ⟨q1, q2⟩ := hturn.out hv
        have q1H := Lib.hid q1
        have q2H := Lib.hid q2
        have hvd : (y != cur.v) = true := by simpa using hv
        clear q1 q2 hsame hturn hv
        gi_wp2_with (refine ⟨trivial, ?_⟩; gi_at_call 14; refine (hOfH.out _ rfl).mono ?_; rintro e w1 ⟨rfl, k1, rfl⟩; have hs1 := hs.drewN hJ hX0 hX1 k1; obtain ⟨fn, tmps, assign, body, hy1, hR1⟩ := hY pre cur (wr.drewN k1) hs1.j hlnH.out hxl; simp only [propV] at hy1)
        refine hR1.mono ?_
        rintro e W3 ⟨rfl, hJ3, hk3⟩
        have hs3 : ItSt J n₀ B Bn X T (pre ++ [cur]) cur W3 := ⟨hJ3, hk3.2.2.trans hs1.x, hk3.2.1.trans hs1.b, hs1.t.below hk3.1 (Nat.le_refl _)⟩
        have hy0 : W3.cell? ⟨X, 0, none⟩ = some (.int .i64 cur.lo) := by rw [cell_of_row _ _ _ _ _ _ hs3.x]; rfl
        have hy1 : W3.cell? ⟨X, 1, none⟩ = some (.int .i64 cur.hi) := by rw [cell_of_row _ _ _ _ _ _ hs3.x]; rfl
        have hy2 : W3.cell? ⟨X, 2, none⟩ = some (.int .u8 cur.v) := by rw [cell_of_row _ _ _ _ _ _ hs3.x]; rfl
        have hw0 : W3.frozen? ⟨X, 0, none⟩ = false := frozen_of_row _ _ _ _ _ hs3.x
        have hw1 : W3.frozen? ⟨X, 1, none⟩ = false := frozen_of_row _ _ _ _ _ hs3.x
        have hw2 : W3.frozen? ⟨X, 2, none⟩ = false := frozen_of_row _ _ _ _ _ hs3.x
        gi_wp2
        go_roundw
        case rel =>
          refine ⟨k + 1, hltH.out, congrArg (Value.int .i64) (by have := hrH.out; omega), ?_⟩
          rw [q1H.out, q2H.out, ← hrH.out]
          exact (((hs3.set hJ hX0 hX1 0 _ ⟨r, cur.hi, cur.v⟩ rfl).set hJ hX0 hX1 1 _ ⟨r, 0, cur.v⟩ rfl).set hJ hX0 hX1 2 _ ⟨r, 0, y⟩ rfl).set hJ hX0 hX1 1 _ ⟨r, r, y⟩ rfl
        case measure => simp [intOf]; omega
    · have hke : k = 1114111 := by omega
      have hfin : Hid (pre ++ [cur] = xsF) := by rw [hxsH.out, hpre, hcur, hke]; rfl
      obtain ⟨r, hr⟩ : ∃ r : Int, r = (k : Int) + 1 := ⟨_, rfl⟩
      rw [← hr]
      have hr1 : 1114111 < r := by omega
      clear hcur hpre hk hlt hke hr
      obtain ⟨fn, tmps, assign, body, hy1, hR1⟩ := hY pre cur wr hs.j hlnH.out hxl
      simp only [propV] at hy1
      gi_wp2
      refine hR1.mono ?_
      rintro e W3 ⟨rfl, hJ3, hk3⟩
      gi_wp2
      go_end0
      refine ⟨⟨_, rfl⟩, _, rfl, ?_⟩
      rw [← hfin.out]; exact hJ3
end Go.Proofs.Ytpaijpdmeiagfaa
