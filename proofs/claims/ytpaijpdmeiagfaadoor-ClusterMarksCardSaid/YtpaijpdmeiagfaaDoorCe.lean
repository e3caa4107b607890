/- ClusterFlags: the walk. -/
import Derived.Test.YtpaijpdmeiagfaaDoorCd
set_option linter.unusedVariables false
set_option linter.unusedSimpArgs false
namespace Go.Proofs.Tx
open Go.Proofs.Tm
def flagL (k : Nat) : List Int := (List.range k).map fun j => 127462 + ((j % 26 : Nat) : Int)
def evensL (k : Nat) : List Int := (List.range k).map fun j => ((2 * j : Nat) : Int)
theorem flagL_succ (k : Nat) : flagL (k + 1) = flagL k ++ [127462 + ((k % 26 : Nat) : Int)] := by simp [flagL, List.range_succ]
theorem evensL_succ (k : Nat) : evensL (k + 1) = evensL k ++ [((2 * k : Nat) : Int)] := by simp [evensL, List.range_succ]
theorem flagL_len (k : Nat) : (flagL k).length = k := by simp [flagL]
theorem evensL_len (k : Nat) : (evensL k).length = k := by simp [evensL]
theorem flag_all : ∀ j ∈ List.range 26, clK (127462 + ((j : Nat) : Int)) = 6 ∧ piB (127462 + ((j : Nat) : Int)) = false := by decide +kernel
theorem sg_flags (n : Nat) : sgC (flagL n) = List.replicate n (6, false) := by
  rw [List.eq_replicate_iff]
  refine ⟨by rw [sgC_length, flagL_len], fun b hb => ?_⟩
  obtain ⟨r, hr, rfl⟩ := List.mem_map.1 hb
  obtain ⟨j, _, rfl⟩ := List.mem_map.1 hr
  have := flag_all (j % 26) (List.mem_range.2 (Nat.mod_lt _ (by omega)))
  rw [this.1, this.2]
theorem evens_filter (n : Nat) : ((List.range n).filter fun i => i % 2 == 0).map Int.ofNat = evensL ((n + 1) / 2) := by
  induction n with
  | zero => rfl
  | succ n ih =>
    rw [List.range_succ, List.filter_append, List.map_append, ih]
    by_cases h : n % 2 = 0
    · rw [List.filter_cons_of_pos (by simpa using h), show (n + 1 + 1) / 2 = (n + 1) / 2 + 1 by omega, evensL_succ]
      simp
      omega
    · rw [List.filter_cons_of_neg (by simpa using h), show (n + 1 + 1) / 2 = (n + 1) / 2 by omega]
      simp
theorem flags_pl (n : Nat) : plI cf (sgC (flagL n)) = evensL ((n + 1) / 2) ++ [(n : Int)] := by
  unfold plI
  rw [sg_flags, cf_flags, List.map_append, evens_filter]
  rfl
theorem flagL_rng (n : Nat) : ∀ z ∈ flagL n, 0 ≤ z ∧ z ≤ 200000 := by
  intro z hz
  obtain ⟨j, _, rfl⟩ := List.mem_map.1 hz
  omega
end Go.Proofs.Tx
namespace Go.Proofs.YtpaijpdmeiagfaaDoor
open Go Go.RowKit Go.WideMaps Go.Proofs.Kk Go.Proofs.Tm Go.Proofs.Gg Go.Proofs.Tx

set_option maxRecDepth 100000 in
set_option maxHeartbeats 2000000 in
theorem flags_early (n : Int) (h : n < 0 ∨ 100 < n) {w : World} (hL : LaidS w) :
    Calls Tryd.prog 15 #[.int .i64 n] w fun e w' => e = .returned (.bool true) ∧ Below w.heap.size w w' := by
  rcases h with h | h
  · go_enter Tryd.func15, Tryd.ntmps15
    go_wp2_with (first
      | (go_at_call 43; refine (awake5_any _ hL).mono ?_; rintro e w1 ⟨rfl, hb1⟩)
      | (go_at_call 25; refine (new_ship _ (hL.below hb1 hL.1)).mono ?_; rintro e w2 ⟨D, rfl, hs, hb⟩))
    go_ret
    exact ⟨rfl, hb1.trans (hb.mono hb1.size)⟩
  · have h0 : 0 ≤ n := by omega
    go_enter Tryd.func15, Tryd.ntmps15
    go_wp2_with (first
      | (go_at_call 43; refine (awake5_any _ hL).mono ?_; rintro e w1 ⟨rfl, hb1⟩)
      | (go_at_call 25; refine (new_ship _ (hL.below hb1 hL.1)).mono ?_; rintro e w2 ⟨D, rfl, hs, hb⟩))
    go_ret
    exact ⟨rfl, hb1.trans (hb.mono hb1.size)⟩

set_option maxRecDepth 100000 in
set_option maxHeartbeats 4000000 in
theorem flags_good (n : Int) (g0 : 0 ≤ n) (g1 : n ≤ 100) {w : World} (hL : LaidS w) :
    Calls Tryd.prog 15 #[.int .i64 n] w fun e w' => e = .returned (.bool true) ∧ Below w.heap.size w w' := by
  obtain ⟨i0, hi0, hz, hs1, hs8⟩ := info_parts infoInt
  go_enter Tryd.func15, Tryd.ntmps15
  go_wp2_with (first
    | (go_at_call 43; refine (awake5_any _ hL).mono ?_; rintro e w1 ⟨rfl, hb1⟩)
    | (go_at_call 25; refine (new_ship _ (hL.below hb1 hL.1)).mono ?_; rintro e w2 ⟨D, rfl, hs, hb⟩; have hW := hb1.trans (hb.mono hb1.size); have hWs := hW.size; clear hb hb1))
  go_loopw [5, 6] (fun v i wr => ∃ k : Int, 0 ≤ k ∧ k ≤ n ∧ i = .int .i64 k ∧ wr.ownsRow w2.heap.size 3 1 v k.toNat (ints (flagL k.toNat)) ∧ Below w2.heap.size w2 wr) (fun _ i _ => (n - intOf i).toNat)
  case atStart => exact ⟨0, by omega, g0, rfl, World.ownsRow_nil _ _ _ _, Below.refl _ _⟩
  case round =>
    obtain ⟨k, hk0, hk1, rfl, hrow, hb⟩ := hrel
    by_cases hlt : k < n
    · have hst : Hid (flagL (k + 1).toNat = flagL k.toNat ++ [127462 + k % 26]) := by
        rw [show (k + 1).toNat = k.toNat + 1 by omega, flagL_succ]
        show _ = _
        congr 2
        omega
      have hq : k.tmod 26 = k % 26 := Int.tmod_eq_emod_of_nonneg hk0
      have hq1 : 0 ≤ k % 26 := by omega
      have hq2 : k % 26 ≤ 25 := by omega
      have hkn : Hid ((k + 1).toNat = k.toNat + 1) := by show _ = _; omega
      have hkH : Hid (k.toNat ≤ 100) := by show _ ≤ _; omega
      go_wp2_with (at_builtin; refine wpList_append_ints rfl _ _ 22 rfl w2.heap.size 3 i0 intsU hi0 hz hs1 hs8 _ _ _ rfl (hrow.alloc _) _ _ [127462 + k % 26] rfl (by exact lit_at wr [127462 + k % 26] 3 (fun z hz => by simp at hz; omega) (by simp)) (by have := hkH.out; simp; omega) (by have := hb.size; simp; omega) ?_; intro v4 w4 hown4 hg4 _)
      go_roundw
      case rel => exact ⟨k + 1, by omega, by omega, rfl, by rw [hst.out, hkn.out]; exact hown4, below_grown (hb.alloc hb.size _) (hrow.alloc _) hg4 (Nat.le_refl _) (by have := hb.size; simp; omega)⟩
      case measure => simp [intOf]; omega
    · obtain rfl : k = n := by omega
      have hl2 := IntsAt.of_own hrow (fun z hz => by have := flagL_rng k.toNat z hz; omega)
      have hpl := flags_pl k.toNat
      rw [Int.toNat_of_nonneg hk0] at hpl
      have hplH := Lib.hid hpl
      clear hpl hlt hrow
      have hs2 := (hs.below hb (Nat.le_refl _)).mono hb.size
      obtain ⟨W3, rfl⟩ : ∃ W3, W3 = wr := ⟨_, rfl⟩
      have hW3 := hW.trans (hb.mono hWs)
      have hW3s := hW3.size
      clear hb hs hW
      go_wp2
      go_loopw [7, 8] (fun v i wr => ∃ m : Nat, 2 * (m : Int) ≤ k + 1 ∧ i = .int .i64 (2 * (m : Int)) ∧ wr.ownsRow W3.heap.size 3 1 v m (ints (evensL m)) ∧ Below W3.heap.size W3 wr) (fun _ i _ => (k + 1 - intOf i).toNat)
      case atStart => exact ⟨0, by omega, rfl, World.ownsRow_nil _ _ _ _, Below.refl _ _⟩
      case round =>
        obtain ⟨m, hm, rfl, hrow, hb⟩ := hrel
        have hbs := hb.size
        by_cases hlt : 2 * (m : Int) < k
        · have hst : Hid (evensL (m + 1) = evensL m ++ [2 * (m : Int)]) := by
            rw [evensL_succ]
            show _ = _
            congr 2
          have hmH : Hid (m ≤ 100) := by show _ ≤ _; omega
          obtain ⟨q, hq⟩ : ∃ q : Int, q = 2 * (m : Int) := ⟨_, rfl⟩
          rw [← hq] at hst hlt ⊢
          have hqH := Lib.hid hq
          have hq0 : 0 ≤ q := by omega
          clear hq
          go_wp2_with (at_builtin; refine wpList_append_ints rfl _ _ 22 rfl W3.heap.size 3 i0 intsU hi0 hz hs1 hs8 _ _ _ rfl (hrow.alloc _) _ _ [q] rfl (by exact lit_at wr [q] 3 (fun z hz => by simp at hz; omega) (by simp)) (by have := hmH.out; simp; omega) (by simp; omega) ?_; intro v4 w4 hown4 hg4 _)
          go_roundw
          case rel => exact ⟨m + 1, by have := hqH.out; omega, congrArg (Value.int .i64) (by have := hqH.out; omega), by rw [hst.out]; exact hown4, below_grown (hb.alloc hbs _) (hrow.alloc _) hg4 (Nat.le_refl _) (by simp; omega)⟩
          case measure => have := hqH.out; simp [intOf]; omega
        · have hme : m = (k.toNat + 1) / 2 := by omega
          rw [← hme] at hplH
          have hmH : Hid (m ≤ 100) := by show _ ≤ _; omega
          have hkH : Hid (k.toNat ≤ 100) := by show _ ≤ _; omega
          obtain ⟨q, hq⟩ : ∃ q : Int, q = 2 * (m : Int) := ⟨_, rfl⟩
          rw [← hq] at hlt ⊢
          have hlt2 : k ≤ q := by omega
          have hI : IsI (evensL m ++ [k]) := by
            intro z hz
            rcases List.mem_append.1 hz with g | g
            · obtain ⟨j, hj, rfl⟩ := List.mem_map.1 g
              have := List.mem_range.1 hj
              omega
            · simp at g; omega
          clear hme hq hm hlt
          go_wp2_with (first
            | (go_at_call 44; refine (call_any _ D _ (flagL k.toNat) (by rw [flagL_len]; have := hkH.out; omega) (by exact (hs2.below hb (Nat.le_refl _)).mono hbs) (by exact (hl2.below hb (Nat.le_refl _)).mono hbs)).mono ?_; rw [hplH.out]; rintro e w5 ⟨u5, rfl, hu5, hb5⟩; have hs5 := hb5.size)
            | (at_builtin; refine wpList_append_ints rfl _ _ 22 rfl W3.heap.size 3 i0 intsU hi0 hz hs1 hs8 _ _ _ rfl ((ownsRow_below hrow hb5 (Nat.le_refl _)).alloc _) _ _ [k] rfl (by exact lit_at w5 [k] 3 (fun z hz => by simp at hz; omega) (by simp)) (by have := hmH.out; simp; omega) (by simp; omega) ?_; intro v6 w6 hown6 hg6 _; have hb6 : Below W3.heap.size W3 w6 := below_grown ((hb.trans (hb5.mono hbs)).alloc (by omega) _) ((ownsRow_below hrow hb5 (Nat.le_refl _)).alloc _) hg6 (Nat.le_refl _) (by simp; omega))
            | (go_at_call 27; refine (sameInts_any _ _ (evensL m ++ [k]) _ w6.heap.size (by exact IntsAt.of_own ((hu5.alloc _).kept hg6 (own_apart2 hrow hu5 (Nat.le_refl _))) hI) (by exact IntsAt.of_own hown6 hI)).mono ?_; rintro e w7 ⟨rfl, n7, rfl⟩))
          go_ret
          exact ⟨rfl, below_drewN (hW3.trans (hb6.mono hW3s)) _⟩

theorem clusterFlags_walk (n : Int) (_hn : -9223372036854775808 ≤ n ∧ n ≤ 9223372036854775807) {w : World} (hL : LaidS w) :
    Calls Tryd.prog 15 #[.int .i64 n] w fun e w' => e = .returned (.bool true) ∧ Below w.heap.size w w' := by
  by_cases h : n < 0 ∨ 100 < n
  · exact flags_early n h hL
  · exact flags_good n (by omega) (by omega) hL
end Go.Proofs.YtpaijpdmeiagfaaDoor
