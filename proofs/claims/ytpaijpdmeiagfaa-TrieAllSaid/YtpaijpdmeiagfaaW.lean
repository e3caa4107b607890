/- TrieBuilds: the walk. -/
import Derived.Test.YtpaijpdmeiagfaaVd
namespace Go.Proofs.Ytpaijpdmeiagfaa
open Go Go.RowKit Go.WideMaps Go.Proofs.Kk Go.Proofs.Tm Go.Proofs.Gg

set_option maxRecDepth 100000 in
set_option maxHeartbeats 1000000 in
theorem builds_long (ao : Option Addr) (n c : Nat) (rv : Value) (w : World) (hn : 30 < n) :
    Calls Try.prog 3 #[.slice ao n c, rv] w fun e w' => e = .returned (.bool true) ∧ Below w.heap.size w w' := by
  have h1 : (30 : Int) < n := by omega
  go_enter Try.func3, Try.ntmps3
  go_wp2_with (go_at_call 11; refine (awake_any _).mono ?_; rintro e w' ⟨rfl, hb⟩)
  go_ret
  exact ⟨rfl, hb⟩

theorem rbuild_good (v : Value) (l : List P3) (w : World) (h : PropsAt w w.heap.size v l) (hl : l.length ≤ 4096) (ho : l.any oddB = false) (T : TD) (hT : Hid (T = tdOf (pval l))) (hF : Hid (T.F.length ≤ 256)) :
    Calls Try.prog 13 #[v] w fun e w' => ∃ B, e = .returned (.tuple #[.pointer (some ⟨B, 0, none⟩), .int .i64 0]) ∧ RefAt w' w'.heap.size B T ∧ Below w.heap.size w w' :=
  (rbuild_any v l w h hl T hT hF).mono fun e w' ⟨hp, hb⟩ => by
    rcases hp with ⟨hx, _⟩ | ⟨_, B, he, ht⟩
    · rw [ho] at hx; cases hx
    · exact ⟨B, he, ht, hb⟩
theorem rbuild_bad (v : Value) (l : List P3) (w : World) (h : PropsAt w w.heap.size v l) (hl : l.length ≤ 30) (ho : l.any oddB = true) :
    Calls Try.prog 13 #[v] w fun e w' => e = .returned (.tuple #[.pointer none, .int .i64 1]) ∧ Below w.heap.size w w' :=
  (rbuild_any v l w h (by omega) _ rfl (by have := tdOf_small l; show (tdOf (pval l)).F.length ≤ 256; omega)).mono fun e w' ⟨hp, hb⟩ => by
    rcases hp with ⟨_, he⟩ | ⟨hx, _⟩
    · exact ⟨he, hb⟩
    · rw [ho] at hx; cases hx

set_option maxRecDepth 100000 in
set_option maxHeartbeats 2000000 in
theorem builds_bad (v : Value) (l : List P3) (w : World) (h : PropsAt w w.heap.size v l) (hn : l.length ≤ 30) (ar : Option Addr) (nr cr : Nat) (ho : l.any oddB = true) :
    Calls Try.prog 3 #[v, .slice ar nr cr] w fun e w' => e = .returned (.bool true) ∧ Below w.heap.size w w' := by
  have h0 := h
  obtain ⟨ao, c, rfl, hsz, hr, _⟩ := h0
  have h1 : (l.length : Int) ≤ 30 := by omega
  have hb1l : badN l = 1 := by unfold badN; rw [if_neg (by omega), if_pos ho]
  have hn1 : Hid (¬ (l.length ≤ 4096 ∧ l.any oddB = false ∧ (tdOf (pval l)).F.length ≤ 256)) := by rw [ho]; simp [Hid]
  have hoH := Lib.hid ho
  clear hr ho
  go_enter Try.func3, Try.ntmps3
  go_wp2_with (first
    | (go_at_call 11; refine (awake_any _).mono ?_; rintro e w0 ⟨rfl, hb0⟩; have hs0 := hb0.size)
    | (go_at_call 12; refine (build_bad _ l _ (by exact (h.below hb0 (Nat.le_refl _)).mono hs0) hn1.out).mono ?_; rintro e w1 ⟨rfl, hb1⟩; have hs1 := hb1.size; rw [hb1l])
    | (go_at_call 13; refine (rbuild_bad _ l _ (by exact ((h.below hb0 (Nat.le_refl _)).below hb1 hs0).mono (by omega)) hn hoH.out).mono ?_; rintro e w2 ⟨rfl, hb2⟩))
  have hW : Below w.heap.size w w2 := (hb0.trans (hb1.mono hs0)).trans (hb2.mono (by omega))
  clear hb0 hb1 hb2 h hs0 hs1 hn1 hoH hb1l
  go_loopw [10] (fun i wr => i = .int .i64 0 ∧ Below w.heap.size w wr) (fun _ _ => 0)
  case atStart => exact ⟨rfl, hW⟩
  case round =>
    obtain ⟨rfl, hb⟩ := hrel
    by_cases hnr : 0 < nr
    · have hnr1 : (0 : Int) < nr := by omega
      go_wp2
      go_ret
      exact ⟨rfl, hb⟩
    · have : nr = 0 := by omega
      subst this
      go_wp2
      go_ret
      exact ⟨rfl, hb⟩

set_option maxRecDepth 100000 in
set_option maxHeartbeats 4000000 in
theorem builds_good (v : Value) (l : List P3) (w : World) (h : PropsAt w w.heap.size v l) (hn : l.length ≤ 30) (ar : Option Addr) (nr cr : Nat) (zs : List Int) (hrow : IsRow .i64 w ar nr cr zs) (ho : l.any oddB = false) :
    Calls Try.prog 3 #[v, .slice ar nr cr] w fun e w' => e = .returned (.bool true) ∧ Below w.heap.size w w' := by
  have h0 := h
  obtain ⟨ao, c, rfl, hsz, hr, _⟩ := h0
  have h1 : (l.length : Int) ≤ 30 := by omega
  obtain ⟨T, hT⟩ : ∃ T, T = tdOf (pval l) := ⟨_, rfl⟩
  have hF : Hid (T.F.length ≤ 256) := by rw [hT]; have := tdOf_small l; show (tdOf (pval l)).F.length ≤ 256; omega
  have hT1 : Hid (T = tdOf (pval l)) := hT
  have hoH := Lib.hid ho
  have hcl : Hid (∀ k, k < nr → ∃ ad z, ar = some ad ∧ ad.block < w.heap.size ∧ w.cell? (ad.add k) = some (.int .i64 z)) := by
    intro k hk
    rcases hrow with ⟨_, h, _⟩ | ⟨x, hx, h2, h3, h4, h5, _⟩
    · omega
    · have q0 := h5 0 (by omega)
      have e0 : x.add 0 = x := by simp [Addr.add]
      rw [e0] at q0
      exact ⟨x, _, hx, World.block_lt_of_cell? w x q0, h5 k (by omega)⟩
  have hnr : nr ≤ 9223372036854775807 := by
    rcases hrow with ⟨_, h, _⟩ | ⟨x, hx, h2, h3, _⟩
    · omega
    · unfold maxLen at h3; omega
  clear hr ho hT hrow
  go_enter Try.func3, Try.ntmps3
  go_wp2_with (first
    | (go_at_call 11; refine (awake_any _).mono ?_; rintro e w0 ⟨rfl, hb0⟩; have hs0 := hb0.size)
    | (go_at_call 12; refine (build_good _ l _ (by exact (h.below hb0 (Nat.le_refl _)).mono hs0) (by omega) (by exact hoH.out) T (by exact hT1) (by exact hF)).mono ?_; rintro e w1 ⟨B1, rfl, ht1, hb1⟩; have hs1 := hb1.size)
    | (go_at_call 13; refine (rbuild_good _ l _ (by exact ((h.below hb0 (Nat.le_refl _)).below hb1 hs0).mono (by omega)) (by omega) (by exact hoH.out) T (by exact hT1) (by exact hF)).mono ?_; rintro e w2 ⟨B2, rfl, ht2, hb2⟩))
  have hW : Below w.heap.size w w2 := (hb0.trans (hb1.mono hs0)).trans (hb2.mono (by omega))
  have ht1 := ht1.below hb2 (Nat.le_refl _)
  clear hb0 hb1 hb2 h hs0 hs1 hoH hT1 hF
  go_loopw [10] (fun i wr => ∃ k : Nat, k ≤ nr ∧ i = .int .i64 k ∧ wr.heap = w2.heap ∧ Below w.heap.size w wr) (fun i _ => nr - (intOf i).toNat)
  case atStart => exact ⟨0, by omega, rfl, rfl, hW⟩
  case round =>
    obtain ⟨k, hk, rfl, hh, hb⟩ := hrel
    have hhH := Lib.hid hh
    clear hh
    by_cases hlt : k < nr
    · by_cases h200 : k < 200
      · obtain ⟨ad, z, rfl, hbl, hcell⟩ := hcl.out k hlt
        have hk0 : (0 : Int) ≤ k := by omega
        have hk1 : (k : Int) < nr := by omega
        have hk2 : (k : Int) < 200 := by omega
        have hcell : wr.cell? (ad.add k) = some (.int .i64 z) := (World.cell?_of_block (hb.block _ (by unfold Addr.add; split <;> exact hbl))).trans hcell
        go_wp2
        refine wp_region_G [[(true,0),(true,1),(true,2),(true,3),(true,4),(true,6),(true,7),(true,8),(true,9),(true,10),(false,5),(false,11),(true,12)]] (by kernel_rfl) (by kernel_rfl) (by kernel_rfl) (by decide) (fun c a d v w h => by cases d <;> exact h) ?_
        refine wpGs_seg (fun w' => w'.heap = wr.heap ∧ w'.cell? (ad.add k) = some (.int .i64 z)) ⟨rfl, hcell⟩ ?_
        iterate 10 refine wpG_q rfl rfl (fun w' hS => by have hS2 := hS.2; go_simp; rfl) (by go_simp; rfl) ?_
        refine wpG_call (f := 14) (args := #[.pointer (some ⟨B1, 0, none⟩), .int .i64 z]) (v := fun w' u => u = .int .u8 (T.val z) ∧ ∃ n', w' = wr.drew.drewN n') rfl rfl (by go_simp <;> rfl) ((of_any wr.drew _ B1 T z (ht1.heap (by exact hhH.out))).mono fun e w' h => by obtain ⟨he, h⟩ := h; exact ⟨_, he, rfl, h⟩) ?_
        rintro w7 u7 ⟨rfl, n7, rfl⟩
        refine ⟨fun w' => w'.heap = wr.heap ∧ w'.cell? (ad.add k) = some (.int .i64 z), fun w h => h, ⟨rfl, hcell⟩, ?_⟩
        refine wpG_call (f := 15) (args := #[.pointer (some ⟨B2, 0, none⟩), .int .i64 z]) (v := fun w' u => u = .int .u8 (T.val z) ∧ ∃ n', w' = (wr.drew.drewN n7).drewN n') rfl rfl (by go_simp <;> rfl) ((rof_any (wr.drew.drewN n7) _ B2 T z (ht2.heap (by exact hhH.out))).mono fun e w' h => by obtain ⟨he, h⟩ := h; exact ⟨_, he, rfl, h⟩) ?_
        rintro w8 u8 ⟨rfl, n8, rfl⟩
        refine ⟨fun w' => w'.heap = wr.heap ∧ w'.cell? (ad.add k) = some (.int .i64 z), fun w h => h, ⟨rfl, hcell⟩, ?_⟩
        generalize T.val z = y
        refine wpG_q rfl rfl (fun w' hS => by go_simp; rfl) (by go_simp; rfl) ?_
        refine wpG_nil (wpGs_nil ?_)
        go_wp2
        go_roundw
        case rel => exact ⟨k + 1, by omega, by go_num, hhH.out, below_drewN hb _⟩
        case measure => simp [intOf]; omega
      · have hk1 : (k : Int) < nr := by omega
        have hk2 : (200 : Int) ≤ k := by omega
        go_wp2_with (first
          | (go_at_call 16; refine (blocks_any _ _ B1 T (by exact ht1.heap (by exact hhH.out))).mono ?_; rintro e w3 ⟨rfl, rfl⟩)
          | (go_at_call 17; refine (rblocks_any _ _ B2 T (by exact ht2.heap (by exact hhH.out))).mono ?_; rintro e w4 ⟨rfl, rfl⟩))
        go_ret
        exact ⟨by simp, hb⟩
    · obtain rfl : k = nr := by omega
      go_wp2_with (first
        | (go_at_call 16; refine (blocks_any _ _ B1 T (by exact ht1.heap (by exact hhH.out))).mono ?_; rintro e w3 ⟨rfl, rfl⟩)
        | (go_at_call 17; refine (rblocks_any _ _ B2 T (by exact ht2.heap (by exact hhH.out))).mono ?_; rintro e w4 ⟨rfl, rfl⟩))
      go_ret
      exact ⟨by simp, hb⟩

theorem trieBuilds_walk (a : Option Addr) (n c : Nat) {w : World} (h : n ≤ 30 → ∃ l : List P3, l.length = n ∧ PropsAt w w.heap.size (.slice a n c) l) (ar : Option Addr) (nr cr : Nat) (zs : List Int) (hrow : IsRow .i64 w ar nr cr zs) :
    Calls Try.prog 3 #[.slice a n c, .slice ar nr cr] w fun e w' => e = .returned (.bool true) ∧ Below w.heap.size w w' := by
  by_cases hn : n ≤ 30
  · obtain ⟨l, hl, hP⟩ := h hn
    cases ho : l.any oddB with
    | true => exact builds_bad _ l w hP (by omega) ar nr cr ho
    | false => exact builds_good _ l w hP (by omega) ar nr cr zs hrow ho
  · exact builds_long a n c _ w (by omega)
end Go.Proofs.Ytpaijpdmeiagfaa
