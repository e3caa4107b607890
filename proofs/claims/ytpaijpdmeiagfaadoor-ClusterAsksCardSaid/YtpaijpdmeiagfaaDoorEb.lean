/- ClusterBreaks, ClusterAsks: the walks. -/
import Derived.Test.YtpaijpdmeiagfaaDoorEa
set_option linter.unusedVariables false
set_option linter.unusedSimpArgs false
namespace Go.Proofs.YtpaijpdmeiagfaaDoor
open Go Go.RowKit Go.WideMaps Go.Proofs.Kk Go.Proofs.Tm Go.Proofs.Gg Go.Proofs.Tx

set_option maxRecDepth 100000 in
set_option maxHeartbeats 2000000 in
theorem breaks5_early (a0 : Option Addr) (n0 c0 : Nat) (h : 300 < n0) {w : World} (hL : LaidS w) :
    Calls Tryd.prog 12 #[.slice a0 n0 c0] w fun e w' => e = .returned (.bool true) ∧ Below w.heap.size w w' := by
  have h1 : (300 : Int) < n0 := by omega
  go_enter Tryd.func12, Tryd.ntmps12
  go_wp2_with (first
    | (go_at_call 43; refine (awake5_any _ hL).mono ?_; rintro e w1 ⟨rfl, hb1⟩)
    | (go_at_call 25; refine (new_ship _ (hL.below hb1 hL.1)).mono ?_; rintro e w2 ⟨D, rfl, hs, hb⟩))
  go_ret
  exact ⟨rfl, hb1.trans (hb.mono hb1.size)⟩

set_option maxRecDepth 100000 in
set_option maxHeartbeats 4000000 in
theorem breaks5_good (a0 : Option Addr) (n0 c0 : Nat) (zs : List Int) {w : World} (hL : LaidS w) (h0 : IntsAt w w.heap.size (.slice a0 n0 c0) zs) (g0 : n0 ≤ 300) :
    Calls Tryd.prog 12 #[.slice a0 n0 c0] w fun e w' => e = .returned (.bool true) ∧ Below w.heap.size w w' := by
  obtain ⟨hz0, hc0, hc0', _⟩ := h0.len
  have g1 : (n0 : Int) ≤ 300 := by omega
  have hzH := Lib.hid hz0
  clear hz0
  go_enter Tryd.func12, Tryd.ntmps12
  go_wp2_with (first
    | (go_at_call 43; refine (awake5_any _ hL).mono ?_; rintro e w1 ⟨rfl, hb1⟩)
    | (go_at_call 25; refine (new_ship _ (hL.below hb1 hL.1)).mono ?_; rintro e w2 ⟨D, rfl, hs, hb⟩; have hB2 : Below w.heap.size w w2 := hb1.trans (hb.mono hb1.size))
    | (go_at_call 44; refine (call_at w2 D _ zs (by rw [hzH.out]; omega) hs ((h0.below hB2 (Nat.le_refl _)).mono hB2.size)).mono ?_; rintro e w3 ⟨u3, rfl, hu3, hb3⟩; have hB3 := hB2.trans (hb3.mono hB2.size))
    | (go_at_call 36; refine (rship_any w3).mono ?_; rintro e w4 ⟨E, rfl, hr, hb4⟩; have hB4 := hB3.trans (hb4.mono hB3.size); have hu4 := (hu3.below hb4 (Nat.le_refl _)).mono hb4.size)
    | (go_at_call 45; refine (rall5_at w4 E _ zs (by rw [hzH.out]; omega) hr ((h0.below hB4 (Nat.le_refl _)).mono hB4.size)).mono ?_; rintro e w5 ⟨u5, rfl, hu5, hb5⟩; have hB5 := hB4.trans (hb5.mono hB4.size); have hu45 := (hu4.below hb5 (Nat.le_refl _)).mono hb5.size)
    | (go_at_call 27; refine (sameInts_any _ _ _ w5 _ hu45 hu5).mono ?_; rintro e w6 ⟨rfl, n6, rfl⟩))
  go_ret
  exact ⟨rfl, below_drewN hB5 _⟩

theorem clusterBreaks_walk (a0 : Option Addr) (n0 c0 : Nat) (z0 : List Int) {w : World} (h0 : IsRow .i64 w a0 n0 c0 z0) (hL : LaidS w) :
    Calls Tryd.prog 12 #[.slice a0 n0 c0] w fun e w' => e = .returned (.bool true) ∧ Below w.heap.size w w' := by
  by_cases h : 300 < n0
  · exact breaks5_early a0 n0 c0 h hL
  · exact breaks5_good a0 n0 c0 _ hL (intsAt_of h0) (by omega)

set_option maxRecDepth 100000 in
set_option maxHeartbeats 2000000 in
theorem asks5_early (a0 : Option Addr) (n0 c0 : Nat) (i : Int) (h : 300 < n0) {w : World} (hL : LaidS w) :
    Calls Tryd.prog 17 #[.slice a0 n0 c0, .int .i64 i] w fun e w' => e = .returned (.bool true) ∧ Below w.heap.size w w' := by
  have h1 : (300 : Int) < n0 := by omega
  go_enter Tryd.func17, Tryd.ntmps17
  go_wp2_with (first
    | (go_at_call 43; refine (awake5_any _ hL).mono ?_; rintro e w1 ⟨rfl, hb1⟩)
    | (go_at_call 25; refine (new_ship _ (hL.below hb1 hL.1)).mono ?_; rintro e w2 ⟨D, rfl, hs, hb⟩))
  go_ret
  exact ⟨rfl, hb1.trans (hb.mono hb1.size)⟩

set_option maxRecDepth 100000 in
set_option maxHeartbeats 4000000 in
theorem asks5_good (a0 : Option Addr) (n0 c0 : Nat) (zs : List Int) (i : Int) {w : World} (hL : LaidS w) (h0 : IntsAt w w.heap.size (.slice a0 n0 c0) zs) (g0 : n0 ≤ 300) :
    Calls Tryd.prog 17 #[.slice a0 n0 c0, .int .i64 i] w fun e w' => e = .returned (.bool true) ∧ Below w.heap.size w w' := by
  obtain ⟨hz0, hc0, hc0', _⟩ := h0.len
  have g1 : (n0 : Int) ≤ 300 := by omega
  have hzH := Lib.hid hz0
  clear hz0
  obtain ⟨bk, hbk⟩ : ∃ bk, bk = brkI cf (sgC zs) i := ⟨_, rfl⟩
  have hbH := Lib.hid hbk
  clear hbk
  go_enter Tryd.func17, Tryd.ntmps17
  go_wp2_with (first
    | (go_at_call 43; refine (awake5_any _ hL).mono ?_; rintro e w1 ⟨rfl, hb1⟩)
    | (go_at_call 25; refine (new_ship _ (hL.below hb1 hL.1)).mono ?_; rintro e w2 ⟨D, rfl, hs, hb⟩; have hB2 : Below w.heap.size w w2 := hb1.trans (hb.mono hb1.size))
    | (go_at_call 36; refine (rship_any w2).mono ?_; rintro e w3 ⟨E, rfl, hr, hb3⟩; have hB3 := hB2.trans (hb3.mono hB2.size); have hs3 := (hs.below hb3 (Nat.le_refl _)).mono hb3.size; have ht3 := ((h0.below hB3 (Nat.le_refl _)).mono hB3.size))
    | (go_at_call 47; refine (cat_any w3 D _ zs (by rw [hzH.out]; omega) i hs3 ht3).mono ?_; rintro e w4 ⟨a, b, rfl, hok, hb4⟩; have hB4 := hB3.trans (hb4.mono hB3.size); have hs4 := (hs3.below hb4 (Nat.le_refl _)); have hr4 := (hr.below hb4 (Nat.le_refl _)); have ht4 := ht3.below hb4 (Nat.le_refl _); have hokH := Lib.hid hok; clear hok)
    | (go_at_call 48; refine (rat_any w4 _ E _ zs (by rw [hzH.out]; omega) i hr4 ht4).mono ?_; rintro e w5 ⟨c, d, rfl, hok2, n5, rfl⟩; obtain ⟨q1, q2⟩ := hokH.out.uniq hok2; subst q1; subst q2; clear hok2)
    | (go_at_call 46; refine (cbreak_any _ _ D _ zs i (by exact hs4.heap rfl) (by exact ht4.heap rfl)).mono ?_; rw [← hbH.out]; rintro e w6 ⟨rfl, n6, rfl⟩)
    | (go_at_call 49; refine (rbreak_any _ _ E _ zs i (by exact hr4.heap rfl) (by exact ht4.heap rfl)).mono ?_; rw [← hbH.out]; rintro e w7 ⟨rfl, n7, rfl⟩))
  go_ret
  exact ⟨by simp, below_drewN hB4 _⟩

theorem clusterAsks_walk (a0 : Option Addr) (n0 c0 : Nat) (z0 : List Int) {w : World} (h0 : IsRow .i64 w a0 n0 c0 z0) (i : Int) (_hi : -9223372036854775808 ≤ i ∧ i ≤ 9223372036854775807) (hL : LaidS w) :
    Calls Tryd.prog 17 #[.slice a0 n0 c0, .int .i64 i] w fun e w' => e = .returned (.bool true) ∧ Below w.heap.size w w' := by
  by_cases h : 300 < n0
  · exact asks5_early a0 n0 c0 i h hL
  · exact asks5_good a0 n0 c0 _ i hL (intsAt_of h0) (by omega)
end Go.Proofs.YtpaijpdmeiagfaaDoor
