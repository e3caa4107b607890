/- TrieAll: the walk. -/
import Derived.Test.YtpaijpdmeiagfaaAm
import Derived.Test.YtpaijpdmeiagfaaSv
namespace Go.Proofs.Ytpaijpdmeiagfaa
open Go Go.RowKit Go.WideMaps Go.Proofs.Kk Go.Proofs.Tm Go.Proofs.Gg

theorem PropsAt.heap2 {w w' : World} {n₀ : Nat} {v : Value} {l : List P3} (h : PropsAt w n₀ v l) (hw : w'.heap = w.heap) : PropsAt w' n₀ v l := by
  obtain ⟨ao, c, hv, hs, hr, h⟩ := h
  refine ⟨ao, c, hv, hs, hr, fun hl => ?_⟩
  obtain ⟨b, off, ha, hbn, hc⟩ := h hl
  refine ⟨b, off, ha, hbn, fun j x hx => ?_⟩
  obtain ⟨h1, h2, h3⟩ := hc j x hx
  exact ⟨(World.cell?_of_block (w := w) (by rw [hw])).trans h1, (World.cell?_of_block (w := w) (by rw [hw])).trans h2, (World.cell?_of_block (w := w) (by rw [hw])).trans h3⟩

set_option maxRecDepth 100000 in
set_option maxHeartbeats 1000000 in
theorem alls_long (ao : Option Addr) (n c : Nat) (w : World) (hn : 30 < n) :
    Calls Try.prog 10 #[.slice ao n c] w fun e w' => e = .returned (.bool true) ∧ Below w.heap.size w w' := by
  have h1 : (30 : Int) < n := by omega
  go_enter Try.func10, Try.ntmps10
  go_wp2_with (go_at_call 11; refine (awake_any _).mono ?_; rintro e w' ⟨rfl, hb⟩)
  go_ret
  exact ⟨rfl, hb⟩

set_option maxRecDepth 100000 in
set_option maxHeartbeats 1000000 in
theorem alls_bad (v : Value) (l : List P3) (w : World) (h : PropsAt w w.heap.size v l) (hn : l.length ≤ 30) (ho : l.any oddB = true) :
    Calls Try.prog 10 #[v] w fun e w' => e = .returned (.bool true) ∧ Below w.heap.size w w' := by
  have h0 := h
  obtain ⟨ao, c, rfl, hsz, hr, _⟩ := h0
  have h1 : (l.length : Int) ≤ 30 := by omega
  have hb1l : badN l = 1 := by unfold badN; rw [if_neg (by omega), if_pos ho]
  have hn1 : Hid (¬ (l.length ≤ 4096 ∧ l.any oddB = false ∧ (tdOf (pval l)).F.length ≤ 256)) := by rw [ho]; simp [Hid]
  clear hr ho
  go_enter Try.func10, Try.ntmps10
  go_wp2_with (first
    | (go_at_call 11; refine (awake_any _).mono ?_; rintro e w0 ⟨rfl, hb0⟩; have hs0 := hb0.size)
    | (go_at_call 12; refine (build_bad _ l _ (by exact (h.below hb0 (Nat.le_refl _)).mono hs0) hn1.out).mono ?_; rintro e w1 ⟨rfl, hb1⟩; rw [hb1l]))
  go_ret
  exact ⟨rfl, hb0.trans (hb1.mono hs0)⟩

set_option maxRecDepth 100000 in
set_option maxHeartbeats 8000000 in
theorem alls_good (v : Value) (l : List P3) (w : World) (h : PropsAt w w.heap.size v l) (hn : l.length ≤ 30) (ho : l.any oddB = false) :
    Calls Try.prog 10 #[v] w fun e w' => e = .returned (.bool true) ∧ Below w.heap.size w w' := by
  have h0 := h
  obtain ⟨ao, c, rfl, hsz, hr, _⟩ := h0
  have h1 : (l.length : Int) ≤ 30 := by omega
  obtain ⟨T, hT⟩ : ∃ T, T = tdOf (pval l) := ⟨_, rfl⟩
  have hF : Hid (T.F.length ≤ 256) := by rw [hT]; have := tdOf_small l; show (tdOf (pval l)).F.length ≤ 256; omega
  have hT1 : Hid (T = tdOf (pval l)) := hT
  have hoH := Lib.hid ho
  obtain ⟨lF, hlF⟩ : ∃ lF, lF = allOf T.val := ⟨_, rfl⟩
  have hlH := Lib.hid hlF
  have hval : ∀ r : Int, 0 ≤ r → r ≤ 1114111 → T.val r = pval l r := fun r g1 g2 => by rw [hT]; exact tdOf_val _ r g1 g2
  have hT3 : Hid (T = tdOf (pval lF)) := by
    show T = tdOf (pval lF)
    rw [hlF, tdOf_allOf, tdOf_congr hval]; exact hT
  have hlen : lF.length ≤ 61 := by
    have := allOf_small l
    rw [hlF, allOf_congr hval]; omega
  have hvalid : Hid (∀ y ∈ lF, 0 ≤ y.lo ∧ y.lo ≤ y.hi ∧ y.hi ≤ 1114111 ∧ y.v ≠ 0) := by rw [hlF]; exact allOf_valid _
  have hpw : Hid (lF.Pairwise Apart) := by rw [hlF]; exact allOf_pw _
  have hod : Hid (lF.any oddB = false) := by
    refine List.any_eq_false.2 fun y hy => ?_
    have := hvalid.out y hy
    simp [oddB]; omega
  have hlenI : (lF.length : Int) ≤ 61 := by omega
  clear hr ho hT hlF hval
  go_enter Try.func10, Try.ntmps10
  go_wp2_with (first
    | (go_at_call 11; refine (awake_any _).mono ?_; rintro e w0 ⟨rfl, hb0⟩; have hs0 := hb0.size)
    | (go_at_call 12; have k1 := hoH; clear hoH; refine (build_good _ l _ (by exact (h.below hb0 (Nat.le_refl _)).mono hs0) (by omega) (by exact k1.out) T (by exact hT1) (by exact hF)).mono ?_; clear k1; rintro e w1 ⟨B1, rfl, ht1, hb1⟩; have hs1 := hb1.size)
    | (go_at_call 23; refine (all_any _ _ B1 T (by exact ht1) (Nat.le_refl _)).mono ?_; rw [← hlH.out]; rintro e w3 ⟨v3, rfl, hrow3, hb3⟩; have hfit : Hid (Fits lF) := (by rw [hlH.out]; exact allOf_fits (fun r => ht1.val_rng r)); have hP3 := PropsAt.of_own hrow3 (by omega) hfit.out; have hs3 := hb3.size; have ht1 := (ht1.below hb3 (Nat.le_refl _)).mono hs3; clear hrow3; have hP30 := hP3; obtain ⟨a3, c3, rfl, _, _, _⟩ := hP30)
    | (go_at_call 12; have k2 := hod; clear hod; refine (build_good _ lF _ (by exact hP3) (by omega) (by exact k2.out) T (by exact hT3) (by exact hF)).mono ?_; clear k2; rintro e w4 ⟨B2, rfl, ht2, hb4⟩; have hs4 := hb4.size))
  have hW : Below w.heap.size w w4 := ((hb0.trans (hb1.mono hs0)).trans (hb3.mono (by omega))).trans (hb4.mono (by omega))
  have ht14 := (ht1.below hb4 (Nat.le_refl _)).mono hs4
  have hP4 := (hP3.below hb4 (Nat.le_refl _)).mono hs4
  clear hb0 hb1 hb3 hb4 h hs0 hs1 hs3 hs4 hT1 hT3 hF ht1 hP3 hfit hlH
  go_loopw [9] (fun i wr => ∃ (k : Nat), k ≤ lF.length ∧ i = .int .i64 k ∧ wr.heap = w4.heap ∧ Below w.heap.size w wr) (fun i _ => lF.length - (intOf i).toNat)
  case atStart => exact ⟨0, by omega, rfl, rfl, hW⟩
  case round =>
    obtain ⟨k, hk, rfl, hh, hb⟩ := hrel
    have hhH := Lib.hid hh
    have hP := hP4.heap2 hh
    clear hh
    by_cases hlt : k < lF.length
    · obtain ⟨ao', c', hv, _, _, hP⟩ := hP
      obtain ⟨b, off, ha, hbn, hc⟩ := hP (by intro e; rw [e] at hlt; simp at hlt)
      simp only [Value.slice.injEq] at hv
      obtain ⟨rfl, _, rfl⟩ := hv
      subst ha
      have hx : lF[k]? = some lF[k] := by simp [hlt]
      obtain ⟨x1, x2, x3⟩ := hc k lF[k] hx
      obtain ⟨_, y2, _, y4⟩ := hvalid.out lF[k] (List.getElem_mem hlt)
      rcases (by omega : k = 0 ∨ 0 < k) with hk0 | hk0
      · subst hk0
        clear hc hx
        simp only [Nat.zero_mul, Nat.add_zero] at x1 x2 x3
        generalize lF[0] = x at x1 x2 x3 y2 y4
        have d1 : (x.v == 0) = false := by simpa using y4
        have d2 : decide (x.hi < x.lo) = false := by simp; omega
        have hl0 : (0 : Int) < lF.length := by omega
        go_wp2
        refine wp_region_G [[(true,0),(true,1),(true,2),(true,3),(true,4),(true,5),(true,6),(true,7),(true,8),(true,9),(true,10),(true,11),(true,12),(true,13),(true,14),(true,15),(true,16),(true,17),(true,18),(true,19),(true,20),(true,21),(true,22),(true,23),(true,24),(true,25),(true,26),(true,27),(true,28),(true,29),(true,30),(true,31),(true,32),(true,33),(true,34),(true,35),(true,36),(true,37),(true,38),(true,39),(true,40),(true,41),(true,42),(true,43),(true,44),(true,45),(true,46),(true,47),(true,48),(true,49),(true,50),(true,51),(true,52),(true,53),(true,54),(true,55),(true,56),(true,57),(true,58),(true,59),(true,60),(true,61),(true,62),(true,63),(true,64),(true,65)]] (by kernel_rfl) (by kernel_rfl) (by kernel_rfl) (by decide) (fun c a d v w h => by cases d <;> exact h) ?_
        refine wpGs_seg (fun w' => w'.cell? ⟨b, off, none⟩ = some (.int .i64 x.lo) ∧ w'.cell? ⟨b, off + 1, none⟩ = some (.int .i64 x.hi) ∧ w'.cell? ⟨b, off + 2, none⟩ = some (.int .u8 x.v)) ⟨x1, x2, x3⟩ ?_
        iterate 66 first
          | refine wpG_q rfl rfl (fun w' hS => by obtain ⟨e1, e2, e3⟩ := hS; go_simp; rfl) (by go_simp; rfl) ?_
          | refine wpG_skip rfl rfl (by go_simp; rfl) ?_
        refine wpG_nil (wpGs_nil ?_)
        go_wp2
        go_roundw
        case rel => exact ⟨0 + 1, hlt, by go_num, hhH.out, hb.drew⟩
        case measure => simp [intOf]; omega
      · have hq : lF[k - 1]? = some lF[k - 1] := List.getElem?_eq_getElem (by omega)
        obtain ⟨q1, q2, q3⟩ := hc (k - 1) lF[k - 1] hq
        have hap : Apart lF[k - 1] lF[k] := List.pairwise_iff_getElem.1 hpw.out (k - 1) k (by omega) hlt (by omega)
        have hqb := hvalid.out lF[k - 1] (List.getElem_mem (by omega))
        clear hc hx hq
        generalize lF[k] = x at x1 x2 x3 y2 y4 hap
        generalize lF[k - 1] = q at q1 q2 q3 hap hqb
        obtain ⟨ap1, ap2⟩ := hap
        obtain ⟨_, qb2, qb3, _⟩ := hqb
        have qb4 : -9223372036854775808 ≤ q.hi + 1 ∧ q.hi + 1 ≤ 9223372036854775807 := by omega
        have d1 : (x.v == 0) = false := by simpa using y4
        have d2 : decide (x.hi < x.lo) = false := by simp; omega
        have d3 : decide (x.lo ≤ q.hi) = false := by simp; omega
        have hk1 : (k : Int) < lF.length := by omega
        have hk2 : (0 : Int) < k := by omega
        have hk3 : ((k : Int) - 1).toNat = k - 1 := by omega
        have hk4 : (0 : Int) ≤ (k : Int) - 1 := by omega
        have hk5 : (k : Int) - 1 < lF.length := by omega
        have hk6 : (1 : Int) ≤ k := by omega
        have hw1 : IntKind.i64.wrap ((k : Int) - 1) = (k : Int) - 1 := IntWalk.i64_in _ (by omega)
        have hw2 : IntKind.i64.wrap (q.hi + 1) = q.hi + 1 := IntWalk.i64_in _ (by omega)
        by_cases hlo : x.lo = q.hi + 1
        · have d4 : (x.lo == q.hi + 1) = true := by simpa using hlo
          have d5 : (x.v == q.v) = false := by simpa using fun e => ap2 hlo e.symm
          clear hlo ap2
          go_wp2
          refine wp_region_G [[(true,0),(true,1),(true,2),(true,3),(true,4),(true,5),(true,6),(true,7),(true,8),(true,9),(true,10),(true,11),(true,12),(true,13),(true,14),(true,15),(true,16),(true,17),(true,18),(true,19),(true,20),(true,21),(true,22),(true,23),(true,24),(true,25),(true,26),(true,27),(true,28),(true,29),(true,30),(true,31),(true,32),(true,33),(true,34),(true,35),(true,36),(true,37),(true,38),(true,39),(true,40),(true,41),(true,42),(true,43),(true,44),(true,45),(true,46),(true,47),(true,48),(true,49),(true,50),(true,51),(true,52),(true,53),(true,54),(true,55),(true,56),(true,57),(true,58),(true,59),(true,60),(true,61),(true,62),(true,63),(true,64),(true,65)]] (by kernel_rfl) (by kernel_rfl) (by kernel_rfl) (by decide) (fun c a d v w h => by cases d <;> exact h) ?_
          refine wpGs_seg (fun w' => w'.cell? ⟨b, off + k * 3, none⟩ = some (.int .i64 x.lo) ∧ w'.cell? ⟨b, off + k * 3 + 1, none⟩ = some (.int .i64 x.hi) ∧ w'.cell? ⟨b, off + k * 3 + 2, none⟩ = some (.int .u8 x.v) ∧ w'.cell? ⟨b, off + (k - 1) * 3 + 1, none⟩ = some (.int .i64 q.hi) ∧ w'.cell? ⟨b, off + (k - 1) * 3 + 2, none⟩ = some (.int .u8 q.v)) ⟨x1, x2, x3, q2, q3⟩ ?_
          iterate 66 first
            | refine wpG_q rfl rfl (fun w' hS => by obtain ⟨e1, e2, e3, e4, e5⟩ := hS; go_simp; rfl) (by go_simp; rfl) ?_
            | refine wpG_skip rfl rfl (by go_simp; rfl) ?_
          refine wpG_nil (wpGs_nil ?_)
          go_wp2
          go_roundw
          case rel => exact ⟨k + 1, hlt, by go_num, hhH.out, hb.drew⟩
          case measure => simp [intOf]; omega
        · have d4 : (x.lo == q.hi + 1) = false := by simpa using hlo
          clear hlo ap2
          go_wp2
          refine wp_region_G [[(true,0),(true,1),(true,2),(true,3),(true,4),(true,5),(true,6),(true,7),(true,8),(true,9),(true,10),(true,11),(true,12),(true,13),(true,14),(true,15),(true,16),(true,17),(true,18),(true,19),(true,20),(true,21),(true,22),(true,23),(true,24),(true,25),(true,26),(true,27),(true,28),(true,29),(true,30),(true,31),(true,32),(true,33),(true,34),(true,35),(true,36),(true,37),(true,38),(true,39),(true,40),(true,41),(true,42),(true,43),(true,44),(true,45),(true,46),(true,47),(true,48),(true,49),(true,50),(true,51),(true,52),(true,53),(true,54),(true,55),(true,56),(true,57),(true,58),(true,59),(true,60),(true,61),(true,62),(true,63),(true,64),(true,65)]] (by kernel_rfl) (by kernel_rfl) (by kernel_rfl) (by decide) (fun c a d v w h => by cases d <;> exact h) ?_
          refine wpGs_seg (fun w' => w'.cell? ⟨b, off + k * 3, none⟩ = some (.int .i64 x.lo) ∧ w'.cell? ⟨b, off + k * 3 + 1, none⟩ = some (.int .i64 x.hi) ∧ w'.cell? ⟨b, off + k * 3 + 2, none⟩ = some (.int .u8 x.v) ∧ w'.cell? ⟨b, off + (k - 1) * 3 + 1, none⟩ = some (.int .i64 q.hi) ∧ w'.cell? ⟨b, off + (k - 1) * 3 + 2, none⟩ = some (.int .u8 q.v)) ⟨x1, x2, x3, q2, q3⟩ ?_
          iterate 66 first
            | refine wpG_q rfl rfl (fun w' hS => by obtain ⟨e1, e2, e3, e4, e5⟩ := hS; go_simp; rfl) (by go_simp; rfl) ?_
            | refine wpG_skip rfl rfl (by go_simp; rfl) ?_
          refine wpG_nil (wpGs_nil ?_)
          go_wp2
          go_roundw
          case rel => exact ⟨k + 1, hlt, by go_num, hhH.out, hb.drew⟩
          case measure => simp [intOf]; omega
    · obtain rfl : k = lF.length := by omega
      have ht1r : TrieAt wr w4.heap.size B1 T := ht14.heap hhH.out
      have ht2r : TrieAt wr w4.heap.size B2 T := ht2.heap hhH.out
      have hsz : w4.heap.size ≤ wr.heap.size := by rw [hhH.out]; exact Nat.le_refl _
      obtain ⟨s, hs⟩ : ∃ s, s = strOfNums (saveL T) := ⟨_, rfl⟩
      clear hP hP4 ht14 ht2 hvalid hpw
      go_wp2
      refine wp_region_G [[(true,0),(true,1),(true,2),(true,3),(true,4),(true,5),(true,6),(true,7),(true,10),(false,8),(true,9),(false,11),(true,12),(true,13),(true,14),(true,15)]] (by kernel_rfl) (by kernel_rfl) (by kernel_rfl) (by decide) (fun c a d v w h => by cases d <;> exact h) ?_
      refine wpGs_seg (fun w' => Below wr.heap.size wr w') ((Below.refl _ _).drew) ?_
      iterate 9 refine wpG_q rfl rfl (fun w' hS => by go_simp; rfl) (by go_simp; rfl) ?_
      have hcall : Calls Try.prog 18 #[.pointer (some ⟨B2, 0, none⟩)] wr.drew (fun e w' => ∃ u, e = .returned u ∧ (BytesAt w' w'.heap.size u (saveL T) ∧ Below wr.heap.size wr w')) :=
        (save_any wr.drew w4.heap.size B2 T (ht2r.heap rfl) hsz).mono fun e w' h => by
          obtain ⟨v, he, hv, hbw⟩ := h
          exact ⟨v, he, hv, (Below.refl _ _).drew.trans hbw⟩
      refine wpG_call (f := 18) (args := #[.pointer (some ⟨B2, 0, none⟩)]) (v := fun w' u => BytesAt w' w'.heap.size u (saveL T) ∧ Below wr.heap.size wr w') rfl rfl (by go_simp <;> rfl) hcall ?_
      intro W6 v6 hv66
      obtain ⟨hv6, hb6⟩ := hv66
      have hs6 := hb6.size
      refine ⟨fun w' => Below wr.heap.size wr w' ∧ BytesAt w' W6.heap.size v6 (saveL T), fun w h => h.1, ⟨hb6, hv6⟩, ?_⟩
      refine wpG_q rfl rfl (fun w' hS => exec_conv_bytes (bs := saveL T) hS.2 _ _ 5 _ rfl (by go_simp <;> rfl) bytesU u8U (by kernel_rfl)) (by go_simp; rfl) ?_
      rw [← hs]
      have hcall2 : Calls Try.prog 18 #[.pointer (some ⟨B1, 0, none⟩)] W6 (fun e w' => ∃ u, e = .returned u ∧ (BytesAt w' w'.heap.size u (saveL T) ∧ Below W6.heap.size W6 w')) :=
        (save_any W6 w4.heap.size B1 T (ht1r.below hb6 hsz) (Nat.le_trans hsz hs6)).mono fun e w' h => by
          obtain ⟨v, he, hv, hbw⟩ := h
          exact ⟨v, he, hv, hbw⟩
      refine wpG_call (f := 18) (args := #[.pointer (some ⟨B1, 0, none⟩)]) (v := fun w' u => BytesAt w' w'.heap.size u (saveL T) ∧ Below W6.heap.size W6 w') rfl rfl (by go_simp <;> rfl) hcall2 ?_
      intro W7 v7 hv77
      obtain ⟨hv7, hb77⟩ := hv77
      have hb7 := hb6.trans (hb77.mono hs6)
      refine ⟨fun w' => (Below wr.heap.size wr w' ∧ BytesAt w' W6.heap.size v6 (saveL T)) ∧ BytesAt w' W7.heap.size v7 (saveL T), fun w h => h.1, ⟨⟨hb7, hv6.below hb77 (Nat.le_refl _)⟩, hv7⟩, ?_⟩
      refine wpG_q rfl rfl (fun w' hS => exec_conv_bytes (bs := saveL T) hS.2 _ _ 5 _ rfl (by go_simp <;> rfl) bytesU u8U (by kernel_rfl)) (by go_simp; rfl) ?_
      rw [← hs]
      iterate 3 refine wpG_q rfl rfl (fun w' hS => by go_simp; rfl) (by go_simp; rfl) ?_
      refine wpG_nil (wpGs_nil ?_)
      go_wp2
      go_ret
      exact ⟨by simp, hb.trans (hb7.mono hb.size)⟩

theorem trieAll_walk (a : Option Addr) (n c : Nat) {w : World} (h : n ≤ 30 → ∃ l : List P3, l.length = n ∧ PropsAt w w.heap.size (.slice a n c) l) :
    Calls Try.prog 10 #[.slice a n c] w fun e w' => e = .returned (.bool true) ∧ Below w.heap.size w w' := by
  by_cases hn : n ≤ 30
  · obtain ⟨l, hl, hP⟩ := h hn
    cases ho : l.any oddB with
    | true => exact alls_bad _ l w hP (by omega) ho
    | false => exact alls_good _ l w hP (by omega) ho
  · exact alls_long a n c w (by omega)
end Go.Proofs.Ytpaijpdmeiagfaa
