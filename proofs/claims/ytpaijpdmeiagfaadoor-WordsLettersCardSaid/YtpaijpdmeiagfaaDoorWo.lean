/- WordsLetters: the walk. -/
import Derived.Test.YtpaijpdmeiagfaaDoorWm
import Derived.Deep.LoopGhost
set_option linter.unusedVariables false
set_option linter.unusedSimpArgs false
namespace Go.Proofs.Tx
open Go.Proofs.Tm
theorem fst18 (k : Int) (b : Bool) (h : k = 18) : ((k, b) : Sg).1 = 18 := h
theorem wd32 : wdK 32 = 18 := by decide +kernel
theorem sgW_plain {zs : List Int} (h : ∀ z ∈ zs, plainK (wdK z) = true) : ∀ x ∈ sgW zs, plainK x.1 = true := by
  intro x hx
  obtain ⟨z, hz, rfl⟩ := List.mem_map.1 hx
  exact h z hz
theorem sgW_ne {zs : List Int} (h : zs ≠ []) : sgW zs ≠ [] := by
  cases zs with
  | nil => exact absurd rfl h
  | cons z zs => simp [sgW]
theorem letters_pl {zs : List Int} (hz : zs ≠ []) (h : ∀ z ∈ zs, plainK (wdK z) = true) : plI wf (sgW zs) = [0, (zs.length : Int)] := by
  unfold plI
  rw [wf_letters (sgW_ne hz) (sgW_plain h), sgW_length]
  rfl
theorem letters_pl2 {zs : List Int} (hz : zs ≠ []) (h : ∀ z ∈ zs, plainK (wdK z) = true) : plI wf (sgW ([] ++ zs ++ [32] ++ zs)) = [0, (zs.length : Int), (zs.length : Int) + 1, 2 * (zs.length : Int) + 1] := by
  unfold plI
  have e0 : sgW [32] = [(wdK 32, piB 32)] := rfl
  have e : sgW ([] ++ zs ++ [32] ++ zs) = sgW zs ++ (wdK 32, piB 32) :: sgW zs := by rw [List.nil_append, sgW_append, sgW_append, e0, List.append_assoc]; rfl
  rw [e, wf_letters2 (sgW_ne hz) (sgW_plain h) (wdK 32, piB 32) (fst18 _ _ wd32), sgW_length]
  simp
end Go.Proofs.Tx
namespace Go.Proofs.YtpaijpdmeiagfaaDoor
open Go Go.RowKit Go.WideMaps Go.Proofs.Kk Go.Proofs.Tm Go.Proofs.Gg Go.Proofs.Tx

set_option maxRecDepth 100000 in
set_option maxHeartbeats 2000000 in
theorem letters_early (a0 : Option Addr) (n0 c0 : Nat) (h : n0 = 0 ∨ 150 < n0) {w : World} (hL : LaidS w) :
    Calls Tryd.prog 3 #[.slice a0 n0 c0] w fun e w' => e = .returned (.bool true) ∧ Below w.heap.size w w' := by
  rcases h with rfl | h
  · go_enter Tryd.func3, Tryd.ntmps3
    go_wp2_with (first
      | (go_at_call 24; refine (awake6_any _ hL).mono ?_; rintro e w1 ⟨rfl, hb1⟩)
      | (go_at_call 25; refine (new_ship _ (hL.below hb1 hL.1)).mono ?_; rintro e w2 ⟨D, rfl, hs, hb⟩))
    go_ret
    exact ⟨rfl, hb1.trans (hb.mono hb1.size)⟩
  · have h1 : (150 : Int) < n0 := by omega
    have h2 : ((n0 : Int) == 0) = false := by simp; omega
    go_enter Tryd.func3, Tryd.ntmps3
    go_wp2_with (first
      | (go_at_call 24; refine (awake6_any _ hL).mono ?_; rintro e w1 ⟨rfl, hb1⟩)
      | (go_at_call 25; refine (new_ship _ (hL.below hb1 hL.1)).mono ?_; rintro e w2 ⟨D, rfl, hs, hb⟩))
    go_ret
    exact ⟨rfl, hb1.trans (hb.mono hb1.size)⟩

set_option maxRecDepth 100000 in
set_option maxHeartbeats 8000000 in
theorem letters_good (b off n0 c0 : Nat) (zs : List Int) {w : World} (hL : LaidS w) (h0 : IntsAt w w.heap.size (.slice (some ⟨b, off, none⟩) n0 c0) zs) (g0 : 1 ≤ n0) (g1 : n0 ≤ 150) :
    Calls Tryd.prog 3 #[.slice (some ⟨b, off, none⟩) n0 c0] w fun e w' => e = .returned (.bool true) ∧ Below w.heap.size w w' := by
  obtain ⟨hz0, hc0, hc0', _⟩ := h0.len
  have f0 : (n0 : Int) ≤ 150 := by omega
  have f1 : ((n0 : Int) == 0) = false := by simp; omega
  have hzH : Hid (zs.length = n0) := hz0
  have hrng := Lib.hid h0.rng
  obtain ⟨i0, hi0, hz, hs1, hs8⟩ := info_parts infoInt
  clear hz0
  go_enter Tryd.func3, Tryd.ntmps3
  go_wp2_with (first
    | (go_at_call 24; refine (awake6_any _ hL).mono ?_; rintro e w1 ⟨rfl, hb1⟩)
    | (go_at_call 25; refine (new_ship _ (hL.below hb1 hL.1)).mono ?_; rintro e w2 ⟨D, rfl, hs, hb⟩; have hW := hb1.trans (hb.mono hb1.size); have hWs := hW.size; have h2 := (h0.below hW (Nat.le_refl _)).mono hWs; clear hb hb1))
  go_loopg [5] n0 (fun g i wr => ∃ j : Nat, j + g = n0 ∧ i = .int .i64 j ∧ Hid (∀ m, m < j → plainK (wdK (zs.getD m 0)) = true) ∧ ∃ n', wr = w2.drewN n')
  case atStart => exact ⟨0, by omega, rfl, fun m hm => by omega, 0, rfl⟩
  case round =>
    obtain ⟨j, hj, rfl, hpl, n', rfl⟩ := hrel
    by_cases hlt : j < n0
    · have hlt1 : (j : Int) < n0 := by omega
      have hj0 : (0 : Int) ≤ j := by omega
      obtain ⟨b', off', ha, _, p1⟩ := h2.at_ (i := (j : Int)) hj0 (by rw [hzH.out]; exact hlt1)
      cases ha
      rw [Int.toNat_natCast] at p1
      have hnx : Hid (plainK (wdK (zs.getD j 0)) = true → ∀ m, m < j + 1 → plainK (wdK (zs.getD m 0)) = true) := fun h m hm => by
        by_cases e : m = j
        · rw [e]; exact h
        · exact hpl.out m (by omega)
      generalize zs.getD j 0 = z at p1 hnx
      have hWd := fun V (hV : V.heap = w2.heap) => sword_any V w2.heap.size D z (hs.heap hV)
      obtain ⟨kz, hkz⟩ : ∃ k, k = wdK z := ⟨_, rfl⟩
      simp only [← hkz] at hWd hnx
      have hWdH := Lib.hid hWd
      clear hWd hkz hpl
      by_cases hp : plainK kz = true
      · have hnx' := hnx.out hp
        have hnxH := Lib.hid hnx'
        clear hnx hnx'
        rcases plainK_cases hp with rfl | rfl | rfl
        all_goals
          clear hp
          go_wp2_with (go_at_call 26; refine (hWdH.out _ (by rfl)).mono ?_; rintro e w3 ⟨rfl, n3, rfl⟩)
          go_roundg (gk - 1)
          case rel => exact ⟨j + 1, by omega, by go_num, hnxH, _, rfl⟩
          case measure => omega
      · have p9 : (kz != 9) = true := by simp [plainK] at hp; simp; omega
        have p10 : (kz != 10) = true := by simp [plainK] at hp; simp; omega
        have p16 : (kz != 16) = true := by simp [plainK] at hp; simp; omega
        clear hp hnx
        go_wp2_with (go_at_call 26; refine (hWdH.out _ (by rfl)).mono ?_; rintro e w3 ⟨rfl, n3, rfl⟩)
        go_ret
        exact ⟨rfl, below_drewN hW _⟩
    · obtain rfl : j = n0 := by omega
      have hall : ∀ z ∈ zs, plainK (wdK z) = true := fun z hz' => by
        obtain ⟨m, hm⟩ := List.mem_iff_getElem?.1 hz'
        have hm1 := (List.getElem?_eq_some_iff.1 hm).1
        have := hpl.out m (by rw [← hzH.out]; exact hm1)
        simpa [List.getD, hm] using this
      have hne : zs ≠ [] := fun e => by have := hzH.out; rw [e] at this; simp at this; omega
      have e1 := letters_pl hne hall
      have e2 := letters_pl2 hne hall
      rw [hzH.out] at e1 e2
      have e1H := Lib.hid e1
      have e2H := Lib.hid e2
      have h2' := h2
      have hIr : Hid (IsI ([] ++ zs ++ [32] ++ zs)) := fun z hz' => by
        simp at hz'
        rcases hz' with g | g | g
        · exact hrng.out z g
        · omega
        · exact hrng.out z g
      clear e1 e2 hall hne hpl hlt h0
      go_wp2_with (first
        | (go_at_call 28; have k2 := h2; clear h2; refine (wall_at _ D _ zs (by rw [hzH.out]; omega) (by exact hs.heap rfl) (by exact k2.heap rfl)).mono ?_; rw [e1H.out]; clear e1H; rintro e w4 ⟨u4, rfl, hu4, hb4⟩; have hB4 : Below w2.heap.size w2 w4 := (below_drewN (Below.refl _ w2) _).trans hb4; clear hb4)
        | (go_at_call 27; refine (sameInts_any _ _ [0, (j : Int)] _ _ (by exact (hu4.below ((Below.refl _ _).alloc (Nat.le_refl _) _) (Nat.le_refl _)).mono (Nat.le_succ _)) (by exact (lit_at w4 [0, (j : Int)] 3 (fun z hz => by simp at hz; omega) (by simp)).mono (by simp))).mono ?_; clear hu4; rintro e w5 ⟨rfl, n5, hw5⟩; have hB5 : Below w2.heap.size w2 w5 := (by rw [hw5]; exact below_drewN (hB4.alloc hB4.size _) _); have hB5s := hB5.size; have r0 := (h2'.below hB5 (Nat.le_refl _)).mono hB5s; have r1 := r0; clear hw5 hB4)
        | (at_builtin; have k0 := r0; clear r0; refine wpList_append_ints rfl _ _ 22 rfl w5.heap.size 3 i0 intsU hi0 hz hs1 hs8 _ 0 [] rfl (by exact ownsRow_lit w5 3 [] w5.heap.size (Nat.le_refl _) (by simp)) w5.heap.size _ zs rfl (by exact k0.below ((Below.refl _ w5).alloc (Nat.le_refl _) _) (Nat.le_refl _)) (by have := hzH.out; omega) (by simp) ?_; intro v7 w7 hown7 hg7 _; have hB7 : Below w5.heap.size w5 w7 := below_grown ((Below.refl _ w5).alloc (Nat.le_refl _) _) (by exact ownsRow_lit w5 3 [] w5.heap.size (Nat.le_refl _) (by simp)) hg7 (Nat.le_refl _) (by simp))
        | (at_builtin; refine wpList_append_ints rfl _ _ 22 rfl w5.heap.size 3 i0 intsU hi0 hz hs1 hs8 _ _ _ rfl (hown7.alloc _) _ _ [32] rfl (by exact lit_at w7 [32] 3 (isI_of rfl) (by simp)) (by have := hzH.out; simp; omega) (by have := hB7.size; simp; omega) ?_; intro v8 w8 hown8 hg8 _; have hB8 : Below w5.heap.size w5 w8 := below_grown (hB7.alloc hB7.size _) (hown7.alloc _) hg8 (Nat.le_refl _) (by have := hB7.size; simp; omega))
        | (at_builtin; have k1 := r1; clear r1; refine wpList_append_ints rfl _ _ 22 rfl w5.heap.size 3 i0 intsU hi0 hz hs1 hs8 _ _ _ rfl hown8 w5.heap.size _ zs rfl (by exact k1.below hB8 (Nat.le_refl _)) (by have := hzH.out; simp; omega) hB8.size ?_; intro v9 w9 hown9 hg9 _; have hB9 : Below w5.heap.size w5 w9 := below_grown hB8 hown8 hg9 (Nat.le_refl _) hB8.size; have hB9' := hB5.trans (hB9.mono hB5s); have hu9 := IntsAt.of_own hown9 hIr.out)
        | (go_at_call 28; refine (wall_at _ D _ ([] ++ zs ++ [32] ++ zs) (by have := hzH.out; simp; omega) (by exact (hs.below hB9' (Nat.le_refl _)).mono hB9'.size) (by exact hu9)).mono ?_; rw [e2H.out]; rintro e w10 ⟨u10, rfl, hu10, hb10⟩; have hB10 := hB9'.trans (hb10.mono hB9'.size))
        | (go_at_call 27; refine (sameInts_any _ _ [0, (j : Int), (j : Int) + 1, 2 * (j : Int) + 1] _ _ (by exact (hu10.below ((Below.refl _ _).alloc (Nat.le_refl _) _) (Nat.le_refl _)).mono (Nat.le_succ _)) (by exact (lit_at w10 [0, (j : Int), (j : Int) + 1, 2 * (j : Int) + 1] 3 (fun z hz => by simp at hz; omega) (by simp)).mono (by simp))).mono ?_; rintro e w11 ⟨rfl, n11, rfl⟩))
      go_ret
      exact ⟨rfl, hW.trans ((below_drewN (hB10.alloc hB10.size _) _).mono hWs)⟩

theorem wordsLetters_walk (a0 : Option Addr) (n0 c0 : Nat) (z0 : List Int) {w : World} (h0 : IsRow .i64 w a0 n0 c0 z0) (hL : LaidS w) :
    Calls Tryd.prog 3 #[.slice a0 n0 c0] w fun e w' => e = .returned (.bool true) ∧ Below w.heap.size w w' := by
  by_cases h : n0 = 0 ∨ 150 < n0
  · exact letters_early a0 n0 c0 h hL
  · have k0 := intsAt_of h0
    obtain ⟨b, off, rfl, _⟩ := k0.at_ (i := 0) (by omega) (by have := k0.len.1; omega)
    exact letters_good b off n0 c0 _ hL k0 (by omega) (by omega)
end Go.Proofs.YtpaijpdmeiagfaaDoor
