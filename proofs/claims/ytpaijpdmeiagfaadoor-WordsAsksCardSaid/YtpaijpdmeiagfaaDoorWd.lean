/- Words: the iterator over the heads ahead. -/
import Derived.Test.YtpaijpdmeiagfaaDoorWc
import Derived.Test.YtpaijpdmeiagfaaDoorGi
import Derived.Test.YtpaijpdmeiagfaaDoorRx
import Derived.Shelf.Abstract
import Derived.Shelf.RegionOpen
import Derived.WalkKit
import Derived.OwnWalkIn
import Derived.TacticsInMore
import Derived.LoopNIn
import Derived.LoopIn
import Derived.Maps.AppendAt
import Derived.Maps.OwnIn
set_option linter.unusedVariables false
set_option linter.unusedSimpArgs false
namespace Go.Proofs.Tx
open Go.Proofs.Tm
theorem heads_rng {p : List Sg} {lo hi : Int} (h : ∀ x ∈ p, lo ≤ x.1 ∧ x.1 ≤ hi) : ∀ k ∈ headsOf p, lo ≤ k ∧ k ≤ hi := by
  induction p with
  | nil => intro k hk; simp [headsOf] at hk
  | cons x p ih =>
    intro k hk
    unfold headsOf at hk
    split at hk
    · rcases List.mem_cons.1 hk with e | e
      · rw [e]; exact h x (by simp)
      · exact ih (fun y hy => h y (by simp [hy])) k e
    · exact ih (fun y hy => h y (by simp [hy])) k hk
theorem heads_len {zs : List Int} (i : Int) : (headsOf (ahd (sgW zs) i)).length ≤ zs.length := by
  have h : ∀ p : List Sg, (headsOf p).length ≤ p.length := by
    intro p
    induction p with
    | nil => simp [headsOf]
    | cons x p ih =>
      unfold headsOf
      split <;> simp <;> omega
  refine Nat.le_trans (h _) ?_
  unfold ahd
  simp [sgW_length]
  omega
end Go.Proofs.Tx
namespace Go.Proofs.YtpaijpdmeiagfaaDoor
open Go Go.RowKit Go.WideMaps Go.Shelf Go.Proofs.Kk Go.Proofs.Tm Go.Proofs.Gg Go.Proofs.Gi Go.Proofs.Tx Go.Proofs.Gr
attribute [local go_sem] Oper.semAt_some

/-- what a round keeps for an iterator with three boxes -/
def Kp3 (n₀ B1 B2 B3 : Nat) (W W' : World) : Prop := Below n₀ W W' ∧ W'.heap[B1]? = W.heap[B1]? ∧ W'.heap[B2]? = W.heap[B2]? ∧ W'.heap[B3]? = W.heap[B3]?
theorem Kp3.trans {n₀ B1 B2 B3 : Nat} {A B C : World} (h : Kp3 n₀ B1 B2 B3 A B) (k : Kp3 n₀ B1 B2 B3 B C) : Kp3 n₀ B1 B2 B3 A C :=
  ⟨h.1.trans k.1, k.2.1.trans h.2.1, k.2.2.1.trans h.2.2.1, k.2.2.2.trans h.2.2.2⟩
theorem Kp3.put {n₀ B1 B2 B3 N : Nat} (hn : n₀ ≤ N) (h1 : B1 < N) (h2 : B2 < N) (h3 : B3 < N) (W : World) (l : Nat) (o o' : Obj) (hl : N ≤ l) (h : W.heap[l]? = some o) : Kp3 n₀ B1 B2 B3 W (W.putObj l o') :=
  ⟨(Below.refl n₀ W).grown (grownBy_putObj' W l o') (by have := (Array.getElem?_eq_some_iff.1 h).1; omega) (fun k e => by cases e; omega), World.putObj_heap_other (by omega), World.putObj_heap_other (by omega), World.putObj_heap_other (by omega)⟩
theorem Kp3.refl {n₀ B1 B2 B3 : Nat} (W : World) : Kp3 n₀ B1 B2 B3 W W := ⟨Below.refl _ _, rfl, rfl, rfl⟩
theorem Kp3.of_below {n₀ B1 B2 B3 N : Nat} {W W' : World} (h : Below N W W') (hn : n₀ ≤ N) (h1 : B1 < N) (h2 : B2 < N) (h3 : B3 < N) : Kp3 n₀ B1 B2 B3 W W' :=
  ⟨h.mono hn, h.block _ h1, h.block _ h2, h.block _ h3⟩
theorem Kp3.set {n₀ B1 B2 B3 : Nat} (W : World) (b o : Nat) (v : Value) (hb : n₀ ≤ b) (h1 : B1 ≠ b) (h2 : B2 ≠ b) (h3 : B3 ≠ b) : Kp3 n₀ B1 B2 B3 W (W.setCell ⟨b, o, none⟩ v) :=
  ⟨(Below.refl _ _).setCell (p := ⟨b, o, none⟩) hb _, Below.heap_setCell _ _ _ _ h1, Below.heap_setCell _ _ _ _ h2, Below.heap_setCell _ _ _ _ h3⟩

theorem ahead_in (D : Nat) (ao : Option Addr) (m c : Nat) (i : Int) (n : Nat) (w : World) :
    CallsIn Fence.wide n Tryd.prog 98 #[.pointer (some ⟨D, 0, none⟩), .slice ao m c, .int .i64 i] w fun e w' =>
      e = .returned (.func (.func 114) #[] #[.pointer (some ⟨w.heap.size + 1 + 1, 0, none⟩), .pointer (some ⟨w.heap.size, 0, none⟩), .pointer (some ⟨w.heap.size + 1, 0, none⟩)]) ∧
      w' = ((w.alloc (.cells #[.pointer (some ⟨D, 0, none⟩)] 24)).alloc (.cells #[.slice ao m c] 22)).alloc (.cells #[.int .i64 i] 3) := by
  refine callsIn_of_wp Tryd.func98 rfl trivial ?_ rfl
  simp only [Tryd.ntmps98, List.size_toArray, List.length_cons, List.length_nil, Nat.reduceAdd, Nat.reduceSub, Array.replicate_succ, Array.replicate_zero, List.push_toArray, List.append_toArray, List.nil_append, List.cons_append]
  gi_wp2
  go_ret
  exact ⟨rfl, rfl⟩

/-- between two rounds of the iterator: what has come, and what is still ahead -/
structure AhSt (J : List Int → World → Prop) (n₀ Bi Bd Bl D : Nat) (v : Value) (zs : List Int) (i : Int) (k : Int) (W : World) : Prop where
  j : ∃ pre, Hid (headsOf (ahd (sgW zs) i) = pre ++ headsOf (ahd (sgW zs) (k + 1))) ∧ J pre W
  b : W.heap[Bi]? = some (.cells #[.int .i64 i] 3 (0, 0))
  d : W.heap[Bd]? = some (.cells #[.pointer (some ⟨D, 0, none⟩)] 24 (0, 0))
  l : W.heap[Bl]? = some (.cells #[v] 22 (0, 0))
  s : ShipAt W n₀ D
  t : IntsAt W n₀ v zs
  n : n₀ ≤ W.heap.size

set_option maxRecDepth 100000 in
set_option maxHeartbeats 8000000 in
theorem ahead1_in (n : Nat) (hn : 2 ≤ n) (l Bi Bd Bl n₀ D : Nat) (v : Value) (zs : List Int) (hsm : zs.length ≤ 1000000000) (i : Int) (hi0 : 0 ≤ i) (hi1 : i ≤ zs.length) (J Jx : List Int → World → Prop)
    (hY : ∀ pre x W1, J pre W1 → pre.length < zs.length → YieldAt Fence.wide (n - 1) Tryd.prog l #[.int .i64 x] W1 fun e W' => (e = .returned (.bool true) ∧ J (pre ++ [x]) W' ∧ Kp3 n₀ Bi Bd Bl W1 W') ∨ (e = .returned (.bool false) ∧ Jx (pre ++ [x]) W'))
    (W : World) (hJ : ∀ s (A A' : World), J s A → Below A.heap.size A A' → J s A') (h0 : AhSt J n₀ Bi Bd Bl D v zs i (i - 1) W) :
    CallsIn Fence.wide n Tryd.prog 114 #[.func (.yield l) #[] #[], .pointer (some ⟨Bi, 0, none⟩), .pointer (some ⟨Bd, 0, none⟩), .pointer (some ⟨Bl, 0, none⟩)] W fun e W' => (∃ v, e = .returned v) ∧
      ((∃ ys, ys = headsOf (ahd (sgW zs) i) ∧ J ys W') ∨ (∃ pre, pre <+: headsOf (ahd (sgW zs) i) ∧ Jx pre W')) := by
  obtain ⟨ao, c, rfl⟩ := h0.t.form
  obtain ⟨_, hc1, hc2, _⟩ := h0.t.len
  have cI : W.cell? ⟨Bi, 0, none⟩ = some (.int .i64 i) := by rw [cell_of_row _ _ _ _ _ _ h0.b]; rfl
  obtain ⟨yF, hyF⟩ : ∃ y, y = headsOf (ahd (sgW zs) i) := ⟨_, rfl⟩
  have hyH := Lib.hid hyF
  rw [← hyF]
  clear hyF
  have hlenF : Hid (yF.length ≤ zs.length) := by rw [hyH.out]; exact heads_len i
  refine callsIn_of_wp Tryd.func114 rfl trivial ?_ rfl
  simp only [Tryd.ntmps114, List.size_toArray, List.length_cons, List.length_nil, Nat.reduceAdd, Nat.reduceSub, Array.replicate_succ, Array.replicate_zero, List.push_toArray, List.append_toArray, List.nil_append, List.cons_append]
  gi_wp2
  gi_loopw [5] (fun s wr => ∃ k : Int, -1 ≤ k ∧ k ≤ i - 1 ∧ s = .int .i64 k ∧ AhSt J n₀ Bi Bd Bl D (.slice ao zs.length c) zs i k wr) (fun s _ => (intOf s + 1).toNat)
  case atStart => exact ⟨i - 1, by omega, by omega, rfl, h0⟩
  case round =>
    obtain ⟨k, hk0, hk1, rfl, hst⟩ := hrel
    by_cases hlt : 0 ≤ k
    · have hhd := heads_step (zs := zs) (k := k) hlt (by omega)
      obtain ⟨pre, hpre, hj⟩ := hst.j
      have cb := hst.b
      have cd : wr.cell? ⟨Bd, 0, none⟩ = some (.pointer (some ⟨D, 0, none⟩)) := by rw [cell_of_row _ _ _ _ _ _ hst.d]; rfl
      have cl : wr.cell? ⟨Bl, 0, none⟩ = some (.slice ao zs.length c) := by rw [cell_of_row _ _ _ _ _ _ hst.l]; rfl
      obtain ⟨b, off, rfl, hb, pz⟩ := hst.t.at_ (i := k) hlt (by omega)
      generalize zs.getD k.toNat 0 = z at hhd pz
      have hnn := hst.n
      have hH : CallsIn Fence.wide (n - 1) Tryd.prog 53 #[.pointer (some ⟨D, 0, none⟩), .slice (some ⟨b, off, none⟩) zs.length c, .int .i64 k] wr.drew fun e W' => ∃ u, e = .returned u ∧ (u = .bool (headI (sgW zs) k) ∧ Below wr.heap.size wr W') :=
        callsIn_wide.2 ((whead_any wr.drew D _ zs k ((hst.s.heap (w' := wr.drew) rfl).mono hnn) ((hst.t.heap (w' := wr.drew) rfl).mono hnn)).mono fun e W' ⟨he, hb⟩ => ⟨_, he, rfl, (Below.refl _ wr).drew.trans hb⟩)
      obtain ⟨hd, hhdv⟩ : ∃ h, h = headI (sgW zs) k := ⟨_, rfl⟩
      rw [← hhdv] at hhd hH
      have hk2 : k < zs.length := by omega
      have hHH := Lib.hid hH
      have hhdH := Lib.hid hhd
      have hltB := fun {X : Nat} {o : Obj} (h : wr.heap[X]? = some o) => (Array.getElem?_eq_some_iff.1 h).1
      have l1 := hltB hst.b
      have l2 := hltB hst.d
      have l3 := hltB hst.l
      clear hhdv hH hhd hltB
      gi_wp2
      refine wpIn_region_H (fun _ => trivial) rfl [[(true,0),(true,1),(true,2),(false,3),(true,4),(true,5),(true,6),(true,7),(true,8),(true,9),(true,10),(false,11)],[(false,12)],[(true,13),(true,14)]] (by kernel_rfl) (by kernel_rfl) (by kernel_rfl) (by decide) (fun c a d v w h => by cases d <;> exact h) ?_
      refine wpHs_seg (fun w' => w'.cell? ⟨Bd, 0, none⟩ = some (.pointer (some ⟨D, 0, none⟩)) ∧ w'.cell? ⟨Bl, 0, none⟩ = some (.slice (some ⟨b, off, none⟩) zs.length c)) ⟨cd, cl⟩ ?_
      refine wpH_q rfl rfl (fun w' hS => by have hS1 := hS.1; go_simp; rfl) (by go_simp; rfl) ?_
      refine wpH_q rfl rfl (fun w' hS => by have hS1 := hS.2; go_simp; rfl) (by go_simp; rfl) ?_
      refine wpH_q rfl rfl (fun w' hS => by go_simp; rfl) (by go_simp; rfl) ?_
      refine wpH_call (fun _ => trivial) rfl (fun _ => by omega) (f := 53) (args := #[.pointer (some ⟨D, 0, none⟩), .slice (some ⟨b, off, none⟩) zs.length c, .int .i64 k]) rfl rfl (by go_simp <;> rfl) hHH.out ?_
      rintro W1 u1 ⟨rfl, hB1⟩
      have hj1 := hJ _ _ _ hj hB1
      have kk1 : Kp3 n₀ Bi Bd Bl wr W1 := Kp3.of_below hB1 hnn l1 l2 l3
      have pd1 : W1.cell? ⟨Bd, 0, none⟩ = some (.pointer (some ⟨D, 0, none⟩)) := (World.cell?_of_block kk1.2.2.1).trans cd
      have pl1 : W1.cell? ⟨Bl, 0, none⟩ = some (.slice (some ⟨b, off, none⟩) zs.length c) := (World.cell?_of_block kk1.2.2.2).trans cl
      have pz1 : W1.cell? ⟨b, off + k.toNat, none⟩ = some (.int .i64 z) := (kk1.1.cell (p := ⟨b, _, none⟩) hb).trans pz
      have hs1 := hst.s.below kk1.1 (Nat.le_refl _)
      have hst1 : ∀ (W' : World), Kp3 n₀ Bi Bd Bl W1 W' → n₀ ≤ W'.heap.size → ∀ q, Hid (headsOf (ahd (sgW zs) i) = q ++ headsOf (ahd (sgW zs) k)) → J q W' → AhSt J n₀ Bi Bd Bl D (.slice (some ⟨b, off, none⟩) zs.length c) zs i (k - 1) W' := fun W' hk hn' q hq hj' => by
        have hk' := kk1.trans hk
        exact ⟨⟨q, by rw [Int.sub_add_cancel]; exact hq, hj'⟩, hk'.2.1.trans hst.b, hk'.2.2.1.trans hst.d, hk'.2.2.2.trans hst.l, hst.s.below hk'.1 (Nat.le_refl _), hst.t.below hk'.1 (Nat.le_refl _), hn'⟩
      have hst1H := Lib.hid hst1
      have hn1 : n₀ ≤ W1.heap.size := Nat.le_trans hnn hB1.size
      clear hst1 cd cl pz hst hB1 hj cb
      refine ⟨fun w' => w'.cell? ⟨Bd, 0, none⟩ = some (.pointer (some ⟨D, 0, none⟩)) ∧ w'.cell? ⟨Bl, 0, none⟩ = some (.slice (some ⟨b, off, none⟩) zs.length c) ∧ w'.cell? ⟨b, off + k.toNat, none⟩ = some (.int .i64 z), fun w h => ⟨h.1, h.2.1⟩, ⟨pd1, pl1, pz1⟩, ?_⟩
      cases hd with
      | false =>
        have hno : Hid (headsOf (ahd (sgW zs) i) = pre ++ headsOf (ahd (sgW zs) k)) := by rw [hpre.out, hhdH.out]; exact rfl
        refine wpH_q rfl rfl (fun w' hS => by go_simp; rfl) (by go_simp; rfl) ?_
        iterate 6 refine wpH_skip rfl rfl (by go_simp; rfl) ?_
        refine wpH_eskip rfl rfl (by go_simp; rfl) ?_
        refine wpH_nil (wpHs_seg (fun _ => True) trivial ?_)
        refine wpH_eskip rfl rfl (by go_simp; rfl) ?_
        refine wpH_nil (wpHs_seg (fun _ => True) trivial ?_)
        refine wpH_skip rfl rfl (by go_simp; rfl) ?_
        refine wpH_q rfl rfl (fun w' hS => by go_simp; rfl) (by go_simp; rfl) ?_
        refine wpH_nil (wpHs_nil ?_)
        gi_wp2
        go_roundw
        case rel => exact ⟨k - 1, by omega, by omega, rfl, hst1H.out W1 (Kp3.refl _) hn1 pre hno hj1⟩
        case measure => simp [intOf]; omega
      | true =>
        have hyes : Hid (headsOf (ahd (sgW zs) i) = (pre ++ [wdK z]) ++ headsOf (ahd (sgW zs) k)) := by rw [hpre.out, hhdH.out, if_pos rfl, List.append_assoc]; exact rfl
        have hprelen : pre.length < zs.length := by
          have h1 := hlenF.out
          rw [hyH.out, hyes.out] at h1
          simp at h1
          omega
        have hprefix : pre ++ [wdK z] <+: yF := by rw [hyH.out, hyes.out]; exact List.prefix_append _ _
        have hpH := Lib.hid hprefix
        have hplH := Lib.hid hprelen
        have hWd : CallsIn Fence.wide (n - 1) _ _ _ _ _ := callsIn_wide.2 (sword_any W1 n₀ D z hs1)
        have hWdH := Lib.hid hWd
        clear hprefix hprelen hWd
        refine wpH_q rfl rfl (fun w' hS => by go_simp; rfl) (by go_simp; rfl) ?_
        refine wpH_q rfl rfl (fun w' hS => by go_simp; rfl) (by go_simp; rfl) ?_
        refine wpH_q rfl rfl (fun w' hS => by have hS1 := hS.1; go_simp; rfl) (by go_simp; rfl) ?_
        refine wpH_q rfl rfl (fun w' hS => by have hS1 := hS.2.1; go_simp; rfl) (by go_simp; rfl) ?_
        refine wpH_q rfl rfl (fun w' hS => by go_simp; rfl) (by go_simp; rfl) ?_
        refine wpH_q rfl rfl (fun w' hS => by go_simp; rfl) (by go_simp; rfl) ?_
        refine wpH_q rfl rfl (fun w' hS => by have hS1 := hS.2.2; go_simp; rfl) (by go_simp; rfl) ?_
        have hWV : CallsIn Fence.wide (n - 1) Tryd.prog 26 #[.pointer (some ⟨D, 0, none⟩), .int .i64 z] W1 fun e W' => ∃ u, e = .returned u ∧ (u = .int .i64 (wdK z) ∧ ∃ n', W' = W1.drewN n') :=
          hWdH.out.mono fun e W' ⟨he, hw⟩ => ⟨_, he, rfl, hw⟩
        refine wpH_call (fun _ => trivial) rfl (fun _ => by omega) (f := 26) (args := #[.pointer (some ⟨D, 0, none⟩), .int .i64 z]) rfl rfl (by go_simp <;> rfl) hWV ?_
        rintro W2 u2 ⟨rfl, n2, rfl⟩
        refine ⟨_, fun w h => h, ⟨pd1, pl1, pz1⟩, ?_⟩
        have hB2 : Below W1.heap.size W1 (W1.drewN n2) := below_drewN (Below.refl _ _) _
        have hj2 := hJ _ _ _ hj1 hB2
        have kk2 : Kp3 n₀ Bi Bd Bl W1 (W1.drewN n2) := ⟨below_drewN (Below.refl _ _) _, rfl, rfl, rfl⟩
        refine wpH_nil (wpHs_seg (fun _ => True) trivial ?_)
        have hYY := hY pre (wdK z) (W1.drewN n2) hj2 hplH.out
        have hYV : YieldAt Fence.wide (n - 1) Tryd.prog l #[.int .i64 (wdK z)] (W1.drewN n2) fun e W' => ∃ u, e = .returned u ∧ ((u = .bool true ∧ J (pre ++ [wdK z]) W' ∧ Kp3 n₀ Bi Bd Bl (W1.drewN n2) W') ∨ (u = .bool false ∧ Jx (pre ++ [wdK z]) W')) :=
          hYY.mono fun e W' h => h.elim (fun h => ⟨_, h.1, .inl ⟨rfl, h.2⟩⟩) (fun h => ⟨_, h.1, .inr ⟨rfl, h.2⟩⟩)
        refine wpH_yield (fun _ => trivial) rfl (fun _ => by omega) (l := l) (args := #[.int .i64 (wdK z)]) rfl rfl ?hr hYV ?hgo
        case hr => go_simp <;> rfl
        rintro W3 u3 (⟨rfl, hj3, kk3⟩ | ⟨rfl, hjx⟩)
        · refine ⟨fun w => True, fun w h => trivial, trivial, ?_⟩
          refine wpH_nil (wpHs_seg (fun _ => True) trivial ?_)
          refine wpH_q rfl rfl (fun w' hS => by go_simp; rfl) (by go_simp; rfl) ?_
          refine wpH_q rfl rfl (fun w' hS => by go_simp; rfl) (by go_simp; rfl) ?_
          refine wpH_nil (wpHs_nil ?_)
          gi_wp2
          go_roundw
          case rel => exact ⟨k - 1, by omega, by omega, rfl, hst1H.out W3 (kk2.trans kk3) (Nat.le_trans hn1 (by have := kk3.1.size; simpa using this)) _ hyes hj3⟩
          case measure => simp [intOf]; omega
        · refine ⟨fun w => True, fun w h => trivial, trivial, ?_⟩
          refine wpH_nil (wpHs_seg (fun _ => True) trivial ?_)
          refine wpH_q rfl rfl (fun w' hS => by go_simp; rfl) (by go_simp; rfl) ?_
          refine wpH_q rfl rfl (fun w' hS => by go_simp; rfl) (by go_simp; rfl) ?_
          refine wpH_nil (wpHs_nil ?_)
          gi_wp2
          refine bodyPost_ret (results_none rfl _ _ _) rfl ?_
          exact ⟨⟨_, rfl⟩, .inr ⟨_, hpH.out, hjx⟩⟩
    · obtain rfl : k = -1 := by omega
      obtain ⟨pre, hpre, hj⟩ := hst.j
      have hfin : Hid (yF = pre) := by rw [hyH.out, hpre.out, ahd_zero (by omega)]; show _ = _; simp [headsOf]
      clear hpre
      gi_wp2
      go_end0
      have hj' : J yF wr := by rw [hfin.out]; exact hj
      first | exact ⟨⟨_, rfl⟩, .inl ⟨_, rfl, hj'⟩⟩ | exact ⟨⟨_, rfl⟩, .inl hj'⟩
end Go.Proofs.YtpaijpdmeiagfaaDoor
