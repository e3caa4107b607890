/- ClusterLocal: the walk. -/
import Derived.Test.YtpaijpdmeiagfaaDoorCc
set_option linter.unusedVariables false
set_option linter.unusedSimpArgs false
namespace Go.Proofs.Tx
theorem local_more (zs ms : List Int) (i : Int) (h0 : 1 ≤ i) (h1 : i < zs.length) : brkI cf (sgC (zs ++ ms)) i = brkI cf (sgC zs) i := by
  obtain ⟨k, rfl⟩ : ∃ k : Nat, i = k := ⟨i.toNat, by omega⟩
  rw [brkI_nat (by rw [sgC_length, List.length_append]; omega), brkI_nat (by rw [sgC_length]; omega), sgC_append, cf_local _ _ _ (by omega) (by rw [sgC_length]; omega)]
theorem local_take (zs : List Int) (i : Int) (h0 : 1 ≤ i) (h1 : i < zs.length) : brkI cf (sgC (zs.take (i + 1).toNat)) i = brkI cf (sgC zs) i := by
  have := local_more (zs.take (i + 1).toNat) (zs.drop (i + 1).toNat) i h0 (by rw [List.length_take]; omega)
  rw [List.take_append_drop] at this
  exact this.symm
end Go.Proofs.Tx
namespace Go.Proofs.YtpaijpdmeiagfaaDoor
open Go Go.RowKit Go.WideMaps Go.Proofs.Kk Go.Proofs.Tm Go.Proofs.Gg Go.Proofs.Tx

set_option maxRecDepth 100000 in
set_option maxHeartbeats 4000000 in
theorem local_early (a0 a1 : Option Addr) (n0 c0 n1 c1 : Nat) (i : Int) {w : World} (hL : LaidS w) (h : ¬ (n0 ≤ 100 ∧ n1 ≤ 100 ∧ 1 ≤ i ∧ i < n0)) :
    Calls Tryd.prog 16 #[.slice a0 n0 c0, .slice a1 n1 c1, .int .i64 i] w fun e w' => e = .returned (.bool true) ∧ Below w.heap.size w w' := by
  by_cases g0 : n0 ≤ 100
  · have f0 : (n0 : Int) ≤ 100 := by omega
    by_cases g1 : n1 ≤ 100
    · have f1 : (n1 : Int) ≤ 100 := by omega
      by_cases g2 : 1 ≤ i
      · have f2 : (n0 : Int) ≤ i := by omega
        clear h g0 g1
        go_enter Tryd.func16, Tryd.ntmps16
        go_wp2_with (first
          | (go_at_call 43; refine (awake5_any _ hL).mono ?_; rintro e w1 ⟨rfl, hb1⟩)
          | (go_at_call 25; refine (new_ship _ (hL.below hb1 hL.1)).mono ?_; rintro e w2 ⟨D, rfl, hs, hb⟩))
        go_ret
        exact ⟨rfl, hb1.trans (hb.mono hb1.size)⟩
      · have f2 : i < 1 := by omega
        clear h g0 g1 g2
        go_enter Tryd.func16, Tryd.ntmps16
        go_wp2_with (first
          | (go_at_call 43; refine (awake5_any _ hL).mono ?_; rintro e w1 ⟨rfl, hb1⟩)
          | (go_at_call 25; refine (new_ship _ (hL.below hb1 hL.1)).mono ?_; rintro e w2 ⟨D, rfl, hs, hb⟩))
        go_ret
        exact ⟨rfl, hb1.trans (hb.mono hb1.size)⟩
    · have f1 : (100 : Int) < n1 := by omega
      clear h g0 g1
      go_enter Tryd.func16, Tryd.ntmps16
      go_wp2_with (first
        | (go_at_call 43; refine (awake5_any _ hL).mono ?_; rintro e w1 ⟨rfl, hb1⟩)
        | (go_at_call 25; refine (new_ship _ (hL.below hb1 hL.1)).mono ?_; rintro e w2 ⟨D, rfl, hs, hb⟩))
      go_ret
      exact ⟨rfl, hb1.trans (hb.mono hb1.size)⟩
  · have f0 : (100 : Int) < n0 := by omega
    clear h g0
    go_enter Tryd.func16, Tryd.ntmps16
    go_wp2_with (first
      | (go_at_call 43; refine (awake5_any _ hL).mono ?_; rintro e w1 ⟨rfl, hb1⟩)
      | (go_at_call 25; refine (new_ship _ (hL.below hb1 hL.1)).mono ?_; rintro e w2 ⟨D, rfl, hs, hb⟩))
    go_ret
    exact ⟨rfl, hb1.trans (hb.mono hb1.size)⟩

set_option maxRecDepth 100000 in
set_option maxHeartbeats 4000000 in
theorem local_good (b off n0 c0 : Nat) (a1 : Option Addr) (n1 c1 : Nat) (i : Int) (zs ms : List Int) {w : World} (hL : LaidS w) (h0 : IntsAt w w.heap.size (.slice (some ⟨b, off, none⟩) n0 c0) zs) (h1 : IntsAt w w.heap.size (.slice a1 n1 c1) ms)
    (g0 : n0 ≤ 100) (g1 : n1 ≤ 100) (g2 : 1 ≤ i) (g3 : i < n0) :
    Calls Tryd.prog 16 #[.slice (some ⟨b, off, none⟩) n0 c0, .slice a1 n1 c1, .int .i64 i] w fun e w' => e = .returned (.bool true) ∧ Below w.heap.size w w' := by
  obtain ⟨hz0, hc0, hc0', _⟩ := h0.len
  obtain ⟨hz1, hc1, hc1', _⟩ := h1.len
  have e1 := local_more zs ms i g2 (by omega)
  have e2 := local_take zs i g2 (by omega)
  have f0 : (n0 : Int) ≤ 100 := by omega
  have f1 : (n1 : Int) ≤ 100 := by omega
  have ht := h0.take (i + 1).toNat (by omega)
  obtain ⟨r, hr⟩ : ∃ r, r = brkI cf (sgC zs) i := ⟨_, rfl⟩
  rw [← hr] at e1 e2
  have e0H := Lib.hid hr
  have e1H : Hid (brkI cf (sgC ([] ++ zs ++ ms)) i = r) := e1
  have e2H := Lib.hid e2
  obtain ⟨i0, hi0, hz, hs1, hs8⟩ := info_parts infoInt
  have hzH : Hid (zs.length ≤ 1000) := by show zs.length ≤ 1000; omega
  have hmH : Hid (ms.length ≤ 1000) := by show ms.length ≤ 1000; omega
  have q1 : i + 1 ≤ c0 := by omega
  have q2 : (0 : Int) ≤ i + 1 := by omega
  clear hr e1 e2 hz0 hz1
  go_enter Tryd.func16, Tryd.ntmps16
  go_wp2_with (first
    | (go_at_call 43; refine (awake5_any _ hL).mono ?_; rintro e w1 ⟨rfl, hb1⟩; have k0 := (h0.below hb1 (Nat.le_refl _)).mono hb1.size; have k1 := (h1.below hb1 (Nat.le_refl _)).mono hb1.size; have k2 := (ht.below hb1 (Nat.le_refl _)).mono hb1.size; clear h0 h1 ht)
    | (go_at_call 25; refine (new_ship _ (hL.below hb1 hL.1)).mono ?_; rintro e w2 ⟨D, rfl, hs, hb⟩; have h0 := (k0.below hb (Nat.le_refl _)).mono hb.size; have h1 := (k1.below hb (Nat.le_refl _)).mono hb.size; have ht := (k2.below hb (Nat.le_refl _)).mono hb.size; have hW := hb1.trans (hb.mono hb1.size); have hWs := hW.size; clear k0 k1 k2 hb hb1)
    | (go_at_call 46; refine (cbreak_any _ _ D _ zs i (by exact hs.heap rfl) (by exact h0.heap rfl)).mono ?_; rw [← e0H.out]; clear e0H; rintro e w3 ⟨rfl, n3, rfl⟩)
    | (at_builtin; refine wpList_append_ints rfl _ _ 22 rfl w2.heap.size 3 i0 intsU hi0 hz hs1 hs8 _ 0 [] rfl (by exact ownsRow_lit (w2.drewN n3) 3 [] w2.heap.size (Nat.le_refl _) (by simp)) w2.heap.size _ zs rfl (by exact h0.below ((below_drewN (Below.refl _ w2) n3).alloc (Nat.le_refl _) _) (Nat.le_refl _)) (by have := hzH.out; omega) (by simp) ?_; intro v4 w4 hown4 hg4 _; have hB4 : Below w2.heap.size w2 w4 := below_grown ((below_drewN (Below.refl _ w2) n3).alloc (Nat.le_refl _) _) (by exact ownsRow_lit (w2.drewN n3) 3 [] w2.heap.size (Nat.le_refl _) (by simp)) hg4 (Nat.le_refl _) (by simp))
    | (at_builtin; refine wpList_append_ints rfl _ _ 22 rfl w2.heap.size 3 i0 intsU hi0 hz hs1 hs8 _ _ _ rfl hown4 w2.heap.size _ ms rfl (by exact h1.below hB4 (Nat.le_refl _)) (by have := hzH.out; have := hmH.out; omega) hB4.size ?_; intro v5 w5 hown5 hg5 _; have hB5 : Below w2.heap.size w2 w5 := below_grown hB4 hown4 hg5 (Nat.le_refl _) hB4.size; clear hB4; have hB4 := hB5; clear hB5; have h2 := IntsAt.of_own hown5 (by intro z hz'; rcases List.mem_append.1 hz' with g | g; (· exact h0.rng z g); (· exact h1.rng z g)))
    | (go_at_call 46; refine (cbreak_any _ _ D _ ([] ++ zs ++ ms) i (by exact (hs.below hB4 (Nat.le_refl _)).mono hB4.size) (by exact h2)).mono ?_; rw [e1H.out]; clear e1H; rintro e w6 ⟨rfl, n6, rfl⟩)
    | (go_at_call 46; refine (cbreak_any _ w2.heap.size D _ (zs.take (i + 1).toNat) i (by exact (hs.below hB4 (Nat.le_refl _)).heap rfl) (by exact (ht.below hB4 (Nat.le_refl _)).heap rfl)).mono ?_; rw [e2H.out]; rintro e w7 ⟨rfl, n7, rfl⟩))
  go_ret
  exact ⟨by simp, below_drewN (hW.trans (hB4.mono hWs)) _⟩

theorem clusterLocal_walk (a0 : Option Addr) (n0 c0 : Nat) (z0 : List Int) {w : World} (h0 : IsRow .i64 w a0 n0 c0 z0) (a1 : Option Addr) (n1 c1 : Nat) (z1 : List Int) (h1 : IsRow .i64 w a1 n1 c1 z1) (i : Int) (_hi : -9223372036854775808 ≤ i ∧ i ≤ 9223372036854775807) (hL : LaidS w) :
    Calls Tryd.prog 16 #[.slice a0 n0 c0, .slice a1 n1 c1, .int .i64 i] w fun e w' => e = .returned (.bool true) ∧ Below w.heap.size w w' := by
  by_cases h : n0 ≤ 100 ∧ n1 ≤ 100 ∧ 1 ≤ i ∧ i < n0
  · obtain ⟨g0, g1, g2, g3⟩ := h
    have k0 := intsAt_of h0
    have k1 := intsAt_of h1
    obtain ⟨b, off, rfl, _⟩ := k0.at_ (i := 0) (by omega) (by have := k0.len.1; omega)
    exact local_good b off n0 c0 a1 n1 c1 i _ _ hL k0 k1 g0 g1 g2 g3
  · exact local_early a0 a1 n0 c0 n1 c1 i hL h
end Go.Proofs.YtpaijpdmeiagfaaDoor
