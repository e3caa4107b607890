/- WordsSpaces: the walk. -/
import Derived.Test.YtpaijpdmeiagfaaDoorWm
import Derived.Deep.LoopGhost
set_option linter.unusedVariables false
set_option linter.unusedSimpArgs false
namespace Go.Proofs.Tx
open Go.Proofs.Tm
theorem wd20 : wdK 32 = 18 := by decide +kernel
theorem sgW_rep (n : Nat) (r : Int) : sgW (List.replicate n r) = List.replicate n (wdK r, piB r) := by simp [sgW]
theorem rep_pair (n : Nat) (k l : Int) (b : Bool) (h : k = l) : List.replicate n ((k, b) : Sg) = List.replicate n (l, b) := by rw [h]
theorem spaces_pl (n : Nat) : plI wf (sgW (List.replicate (n + 1) 32)) = [0, ((n + 1 : Nat) : Int)] := by
  unfold plI
  rw [sgW_rep, rep_pair _ _ _ _ wd20, wf_spaces]
  rfl
def everyL (n : Nat) : List Int := (List.range (n + 1)).map Int.ofNat
theorem everyL_succ (n : Nat) : everyL (n + 1) = everyL n ++ [(n : Int) + 1] := by
  unfold everyL
  rw [List.range_succ, List.map_append]
  rfl
theorem everyL_len (n : Nat) : (everyL n).length = n + 1 := by simp [everyL]
theorem alone_pl (n : Nat) (r : Int) (hk : wdK r = 0 ∨ 11 ≤ wdK r ∧ wdK r ≤ 15) (hp : piB r = false) : plI wf (sgW (List.replicate n r)) = everyL n := by
  unfold plI
  rw [sgW_rep, hp, wf_alone n _ hk]
  rfl
end Go.Proofs.Tx
namespace Go.Proofs.YtpaijpdmeiagfaaDoor
open Go Go.RowKit Go.WideMaps Go.Proofs.Kk Go.Proofs.Tm Go.Proofs.Gg Go.Proofs.Tx

/-- two rows lie in blocks of their own -/
def Apart (u v : Value) : Prop := ∀ j, u.ownBlock = some j → v.ownBlock ≠ some j
theorem Apart.symm {u v : Value} (h : Apart u v) : Apart v u := fun j hj e => h j e hj
theorem Apart.or {u v : Value} (h : Apart u v) : v.ownBlock = none ∨ v.ownBlock ≠ u.ownBlock := by
  cases hv : v.ownBlock with
  | none => exact .inl rfl
  | some j => exact .inr fun e => h j e.symm hv
theorem Apart.step {u u' v : Value} {N : Nat} (h : Apart u v) (hat : u'.ownBlock = u.ownBlock ∨ u'.ownBlock = some N) (hv : ∀ j, v.ownBlock = some j → j < N) : Apart u' v := by
  intro j hj e
  rcases hat with g | g
  · exact h j (g ▸ hj) e
  · rw [g] at hj
    cases hj
    exact Nat.lt_irrefl _ (hv _ e)

set_option maxRecDepth 100000 in
set_option maxHeartbeats 2000000 in
theorem spaces_early (n r : Int) (h : n < 1 ∨ 100 < n) {w : World} (hL : LaidS w) :
    Calls Tryd.prog 5 #[.int .i64 n, .int .i64 r] w fun e w' => e = .returned (.bool true) ∧ Below w.heap.size w w' := by
  rcases h with h | h
  · go_enter Tryd.func5, Tryd.ntmps5
    go_wp2_with (first
      | (go_at_call 24; refine (awake6_any _ hL).mono ?_; rintro e w1 ⟨rfl, hb1⟩)
      | (go_at_call 25; refine (new_ship _ (hL.below hb1 hL.1)).mono ?_; rintro e w2 ⟨D, rfl, hs, hb⟩))
    go_ret
    exact ⟨rfl, hb1.trans (hb.mono hb1.size)⟩
  · have h0 : 1 ≤ n := by omega
    go_enter Tryd.func5, Tryd.ntmps5
    go_wp2_with (first
      | (go_at_call 24; refine (awake6_any _ hL).mono ?_; rintro e w1 ⟨rfl, hb1⟩)
      | (go_at_call 25; refine (new_ship _ (hL.below hb1 hL.1)).mono ?_; rintro e w2 ⟨D, rfl, hs, hb⟩))
    go_ret
    exact ⟨rfl, hb1.trans (hb.mono hb1.size)⟩

set_option maxRecDepth 100000 in
set_option maxHeartbeats 8000000 in
theorem spaces_good (m : Nat) (r : Int) (hr : -9223372036854775808 ≤ r ∧ r ≤ 9223372036854775807) (g0 : 1 ≤ m) (g1 : m ≤ 100) {w : World} (hL : LaidS w) :
    Calls Tryd.prog 5 #[.int .i64 m, .int .i64 r] w fun e w' => e = .returned (.bool true) ∧ Below w.heap.size w w' := by
  obtain ⟨i0, hi0, hz, hs1, hs8⟩ := info_parts infoInt
  have f0 : (1 : Int) ≤ m := by omega
  have f1 : (m : Int) ≤ 100 := by omega
  have hmH : Hid (m ≤ 100) := g1
  have hrH : Hid (IsI [r]) := fun z hz => by simp at hz; omega
  obtain ⟨m', rfl⟩ : ∃ m', m = m' + 1 := ⟨m - 1, by omega⟩
  have pS := Lib.hid (spaces_pl m')
  have pO := Lib.hid (alone_pl (m' + 1) r)
  obtain ⟨m, hm⟩ : ∃ m, m = m' + 1 := ⟨_, rfl⟩
  rw [← hm] at f0 f1 hmH pS pO g0 g1 ⊢
  clear hm
  go_enter Tryd.func5, Tryd.ntmps5
  go_wp2_with (first
    | (go_at_call 24; refine (awake6_any _ hL).mono ?_; rintro e w1 ⟨rfl, hb1⟩)
    | (go_at_call 25; refine (new_ship _ (hL.below hb1 hL.1)).mono ?_; rintro e w2 ⟨D, rfl, hs, hb⟩; have hW := hb1.trans (hb.mono hb1.size); have hWs := hW.size; clear hb hb1))
  go_loopw [7, 8, 9, 10] (fun v7 v8 v9 vi wr => ∃ k : Nat, k ≤ m ∧ vi = .int .i64 k ∧ wr.ownsRow w2.heap.size 3 1 v7 k (ints (List.replicate k 32)) ∧ wr.ownsRow w2.heap.size 3 1 v8 k (ints (List.replicate k r)) ∧ wr.ownsRow w2.heap.size 3 1 v9 (k + 1) (ints (everyL k)) ∧ Apart v7 v8 ∧ Apart v7 v9 ∧ Apart v8 v9 ∧ Below w2.heap.size w2 wr) (fun _ _ _ vi _ => m - (intOf vi).toNat)
  case atStart =>
    refine ⟨0, by omega, rfl, World.ownsRow_nil _ _ _ _, World.ownsRow_nil _ _ _ _, ?_, (fun j h => by cases h), (fun j h => by cases h), (fun j h => by cases h), (Below.refl _ _).alloc (Nat.le_refl _) _⟩
    exact ownsRow_lit w2 3 [.int .i64 0] w2.heap.size (Nat.le_refl _) (by decide)
  case round =>
    obtain ⟨k, hk, rfl, h7, h8, h9, a78, a79, a89, hb⟩ := hrel
    have hbs := hb.size
    by_cases hlt : k < m
    · have hlt1 : (k : Int) < m := by omega
      have hkH : Hid (k ≤ 100) := by show k ≤ 100; omega
      go_wp2_with (first
        | (at_builtin; have k7 := h7; clear h7; refine wpList_append_ints rfl _ _ 22 rfl w2.heap.size 3 i0 intsU hi0 hz hs1 hs8 _ _ _ rfl (k7.alloc _) _ _ [32] rfl (by exact lit_at wr [32] 3 (isI_of rfl) (by simp)) (by have := hkH.out; simp; omega) (by simp; omega) ?_; intro v7' w7 hown7 hg7 hat7; have hB7 : Below w2.heap.size w2 w7 := below_grown (hb.alloc hbs _) (k7.alloc _) hg7 (Nat.le_refl _) (by simp; omega); have h8' := (h8.alloc _).kept hg7 a78.or; have h9' := (h9.alloc _).kept hg7 a79.or; have a78' := a78.step hat7 (own_lt (h8.alloc _)); have a79' := a79.step hat7 (own_lt (h9.alloc _)); clear h8 h9 a78 a79 hat7 k7)
        | (at_builtin; refine wpList_append_ints rfl _ _ 22 rfl w2.heap.size 3 i0 intsU hi0 hz hs1 hs8 _ _ _ rfl (h8'.alloc _) _ _ [r] rfl (by exact lit_at w7 [r] 3 hrH.out (by simp)) (by have := hkH.out; simp; omega) (by have := hB7.size; simp; omega) ?_; intro v8' w8 hown8 hg8 hat8; have hB8 : Below w2.heap.size w2 w8 := below_grown (hB7.alloc hB7.size _) (h8'.alloc _) hg8 (Nat.le_refl _) (by have := hB7.size; simp; omega); have h7'' := (hown7.alloc _).kept hg8 a78'.symm.or; have h9'' := (h9'.alloc _).kept hg8 a89.or; have a78'' := (a78'.symm.step hat8 (own_lt (hown7.alloc _))).symm; have a89' := a89.step hat8 (own_lt (h9'.alloc _)); clear h8' h9' hown7 a78' a89 hat8)
        | (at_builtin; refine wpList_append_ints rfl _ _ 22 rfl w2.heap.size 3 i0 intsU hi0 hz hs1 hs8 _ _ _ rfl (h9''.alloc _) _ _ [(k : Int) + 1] rfl (by exact lit_at w8 [(k : Int) + 1] 3 (fun z hz => by have := hkH.out; simp at hz; omega) (by simp)) (by have := hkH.out; simp; omega) (by have := hB8.size; simp; omega) ?_; intro v9' w9 hown9 hg9 hat9; have hB9 : Below w2.heap.size w2 w9 := below_grown (hB8.alloc hB8.size _) (h9''.alloc _) hg9 (Nat.le_refl _) (by have := hB8.size; simp; omega); have h7f := (h7''.alloc _).kept hg9 a79'.symm.or; have h8f := (hown8.alloc _).kept hg9 a89'.symm.or; have a79f := (a79'.symm.step hat9 (own_lt (h7''.alloc _))).symm; have a89f := (a89'.symm.step hat9 (own_lt (hown8.alloc _))).symm))
      go_roundw
      case rel => exact ⟨k + 1, by omega, by go_num, by rw [List.replicate_succ']; exact h7f, by rw [List.replicate_succ']; exact h8f, by rw [everyL_succ]; exact hown9, a78'', a79f, a89f, hB9⟩
      case measure => simp [intOf]; omega
    · obtain rfl : k = m := by omega
      have i7 := IntsAt.of_own h7 (fun z hz => by have := (List.mem_replicate.1 hz).2; omega)
      have i8 := IntsAt.of_own h8 (fun z hz => by have := (List.mem_replicate.1 hz).2; omega)
      have i9 := IntsAt.of_own h9 (fun z hz => by obtain ⟨j, hj, rfl⟩ := List.mem_map.1 hz; have := List.mem_range.1 hj; show -9223372036854775808 ≤ (j : Int) ∧ (j : Int) ≤ 9223372036854775807; omega)
      have hs' := (hs.below hb (Nat.le_refl _)).mono hbs
      have hWr := hW.trans (hb.mono hWs)
      have hWrs := hWr.size
      have hwd := fun (V : World) (hV : Below wr.heap.size wr V) => sword_any V wr.heap.size D r (hs'.below hV (Nat.le_refl _))
      have hpi := fun (V : World) (hV : Below wr.heap.size wr V) => spicto_any V wr.heap.size D r (hs'.below hV (Nat.le_refl _))
      obtain ⟨kr, hkr⟩ : ∃ k, k = wdK r := ⟨_, rfl⟩
      obtain ⟨p, hp⟩ : ∃ k, k = piB r := ⟨_, rfl⟩
      simp only [← hkr] at hwd
      simp only [← hp] at hpi
      have pO' : Hid ((kr = 0 ∨ 11 ≤ kr ∧ kr ≤ 15) → p = false → plI wf (sgW (List.replicate k r)) = everyL k) := by rw [hkr, hp]; exact pO.out
      have hwdH := Lib.hid hwd
      have hpiH := Lib.hid hpi
      have hcase : (kr ≠ 0 ∧ kr < 11) ∨ (15 < kr) ∨ (kr = 0 ∧ p = true) ∨ (kr = 0 ∧ p = false) ∨ ((11 ≤ kr ∧ kr ≤ 15) ∧ p = true) ∨ ((11 ≤ kr ∧ kr ≤ 15) ∧ p = false) := by
        cases p <;> simp <;> omega
      clear hwd hpi hkr hp pO h7 h8 h9 a78 a79 a89 hlt hk hs hW
      rcases hcase with ⟨q1, q2⟩ | q1 | ⟨rfl, rfl⟩ | ⟨rfl, rfl⟩ | ⟨⟨q1, q2⟩, rfl⟩ | ⟨⟨q1, q2⟩, rfl⟩
      · have q3 : (kr != 0) = true := by simpa using q1
        clear q1 pO'
        go_wp2_with (first
          | (go_at_call 28; have k7 := i7; clear i7; refine (wall_at wr D _ (List.replicate k 32) (by have := hmH.out; simp; omega) (by exact hs') (by exact k7)).mono ?_; rw [pS.out]; rintro e w4 ⟨u4, rfl, hu4, hb4⟩)
          | (go_at_call 27; refine (sameInts_any _ _ [0, (k : Int)] _ _ (by exact (hu4.below ((Below.refl _ _).alloc (Nat.le_refl _) _) (Nat.le_refl _)).mono (Nat.le_succ _)) (by exact (lit_at w4 [0, (k : Int)] 3 (fun z hz => by have := hmH.out; simp at hz; omega) (by simp)).mono (by simp))).mono ?_; clear hu4; rintro e w5 ⟨rfl, n5, hw5⟩; have hB5 : Below wr.heap.size wr w5 := (by rw [hw5]; exact below_drewN (hb4.alloc hb4.size _) _); clear hw5)
          | (go_at_call 26; refine (hwdH.out _ hB5).mono ?_; rintro e w6 ⟨rfl, n6, hw6⟩; have hB6 : Below wr.heap.size wr w6 := (by rw [hw6]; exact below_drewN hB5 _); clear hw6)
          | (go_at_call 33; refine (hpiH.out _ hB6).mono ?_; rintro e w7 ⟨rfl, n7, hw7⟩; have hB7 : Below wr.heap.size wr w7 := (by rw [hw7]; exact below_drewN hB6 _); clear hw7)
          | (go_at_call 28; have k8 := i8; clear i8; refine (wall_at w7 D _ (List.replicate k r) (by have := hmH.out; simp; omega) (by exact (hs'.below hB7 (Nat.le_refl _)).mono hB7.size) (by exact (k8.below hB7 (Nat.le_refl _)).mono hB7.size)).mono ?_; rw [pO2.out]; rintro e w8 ⟨u8, rfl, hu8, hb8⟩; have hB8 := hB7.trans (hb8.mono hB7.size))
          | (go_at_call 27; refine (sameInts_any _ _ (everyL k) _ _ (by exact hu8) (by exact (i9.below hB8 (Nat.le_refl _)).mono hB8.size)).mono ?_; rintro e w9 ⟨rfl, n9, hw9⟩; have hB9 : Below wr.heap.size wr w9 := (by rw [hw9]; exact below_drewN hB8 _); clear hw9))
        go_ret
        first
          | exact ⟨rfl, hWr.trans (hB9.mono hWrs)⟩
          | exact ⟨rfl, hWr.trans (hB7.mono hWrs)⟩
          | exact ⟨rfl, hWr.trans (hB6.mono hWrs)⟩
      · have q3 : (kr != 0) = true := by simp; omega
        have q4 : 11 ≤ kr := by omega
        clear pO'
        go_wp2_with (first
          | (go_at_call 28; have k7 := i7; clear i7; refine (wall_at wr D _ (List.replicate k 32) (by have := hmH.out; simp; omega) (by exact hs') (by exact k7)).mono ?_; rw [pS.out]; rintro e w4 ⟨u4, rfl, hu4, hb4⟩)
          | (go_at_call 27; refine (sameInts_any _ _ [0, (k : Int)] _ _ (by exact (hu4.below ((Below.refl _ _).alloc (Nat.le_refl _) _) (Nat.le_refl _)).mono (Nat.le_succ _)) (by exact (lit_at w4 [0, (k : Int)] 3 (fun z hz => by have := hmH.out; simp at hz; omega) (by simp)).mono (by simp))).mono ?_; clear hu4; rintro e w5 ⟨rfl, n5, hw5⟩; have hB5 : Below wr.heap.size wr w5 := (by rw [hw5]; exact below_drewN (hb4.alloc hb4.size _) _); clear hw5)
          | (go_at_call 26; refine (hwdH.out _ hB5).mono ?_; rintro e w6 ⟨rfl, n6, hw6⟩; have hB6 : Below wr.heap.size wr w6 := (by rw [hw6]; exact below_drewN hB5 _); clear hw6)
          | (go_at_call 33; refine (hpiH.out _ hB6).mono ?_; rintro e w7 ⟨rfl, n7, hw7⟩; have hB7 : Below wr.heap.size wr w7 := (by rw [hw7]; exact below_drewN hB6 _); clear hw7)
          | (go_at_call 28; have k8 := i8; clear i8; refine (wall_at w7 D _ (List.replicate k r) (by have := hmH.out; simp; omega) (by exact (hs'.below hB7 (Nat.le_refl _)).mono hB7.size) (by exact (k8.below hB7 (Nat.le_refl _)).mono hB7.size)).mono ?_; rw [pO2.out]; rintro e w8 ⟨u8, rfl, hu8, hb8⟩; have hB8 := hB7.trans (hb8.mono hB7.size))
          | (go_at_call 27; refine (sameInts_any _ _ (everyL k) _ _ (by exact hu8) (by exact (i9.below hB8 (Nat.le_refl _)).mono hB8.size)).mono ?_; rintro e w9 ⟨rfl, n9, hw9⟩; have hB9 : Below wr.heap.size wr w9 := (by rw [hw9]; exact below_drewN hB8 _); clear hw9))
        go_ret
        first
          | exact ⟨rfl, hWr.trans (hB9.mono hWrs)⟩
          | exact ⟨rfl, hWr.trans (hB7.mono hWrs)⟩
          | exact ⟨rfl, hWr.trans (hB6.mono hWrs)⟩
      · clear pO'
        go_wp2_with (first
          | (go_at_call 28; have k7 := i7; clear i7; refine (wall_at wr D _ (List.replicate k 32) (by have := hmH.out; simp; omega) (by exact hs') (by exact k7)).mono ?_; rw [pS.out]; rintro e w4 ⟨u4, rfl, hu4, hb4⟩)
          | (go_at_call 27; refine (sameInts_any _ _ [0, (k : Int)] _ _ (by exact (hu4.below ((Below.refl _ _).alloc (Nat.le_refl _) _) (Nat.le_refl _)).mono (Nat.le_succ _)) (by exact (lit_at w4 [0, (k : Int)] 3 (fun z hz => by have := hmH.out; simp at hz; omega) (by simp)).mono (by simp))).mono ?_; clear hu4; rintro e w5 ⟨rfl, n5, hw5⟩; have hB5 : Below wr.heap.size wr w5 := (by rw [hw5]; exact below_drewN (hb4.alloc hb4.size _) _); clear hw5)
          | (go_at_call 26; refine (hwdH.out _ hB5).mono ?_; rintro e w6 ⟨rfl, n6, hw6⟩; have hB6 : Below wr.heap.size wr w6 := (by rw [hw6]; exact below_drewN hB5 _); clear hw6)
          | (go_at_call 33; refine (hpiH.out _ hB6).mono ?_; rintro e w7 ⟨rfl, n7, hw7⟩; have hB7 : Below wr.heap.size wr w7 := (by rw [hw7]; exact below_drewN hB6 _); clear hw7)
          | (go_at_call 28; have k8 := i8; clear i8; refine (wall_at w7 D _ (List.replicate k r) (by have := hmH.out; simp; omega) (by exact (hs'.below hB7 (Nat.le_refl _)).mono hB7.size) (by exact (k8.below hB7 (Nat.le_refl _)).mono hB7.size)).mono ?_; rw [pO2.out]; rintro e w8 ⟨u8, rfl, hu8, hb8⟩; have hB8 := hB7.trans (hb8.mono hB7.size))
          | (go_at_call 27; refine (sameInts_any _ _ (everyL k) _ _ (by exact hu8) (by exact (i9.below hB8 (Nat.le_refl _)).mono hB8.size)).mono ?_; rintro e w9 ⟨rfl, n9, hw9⟩; have hB9 : Below wr.heap.size wr w9 := (by rw [hw9]; exact below_drewN hB8 _); clear hw9))
        go_ret
        first
          | exact ⟨rfl, hWr.trans (hB9.mono hWrs)⟩
          | exact ⟨rfl, hWr.trans (hB7.mono hWrs)⟩
          | exact ⟨rfl, hWr.trans (hB6.mono hWrs)⟩
      · have pO2 := Lib.hid (pO'.out (.inl rfl) rfl)
        clear pO'
        go_wp2_with (first
          | (go_at_call 28; have k7 := i7; clear i7; refine (wall_at wr D _ (List.replicate k 32) (by have := hmH.out; simp; omega) (by exact hs') (by exact k7)).mono ?_; rw [pS.out]; rintro e w4 ⟨u4, rfl, hu4, hb4⟩)
          | (go_at_call 27; refine (sameInts_any _ _ [0, (k : Int)] _ _ (by exact (hu4.below ((Below.refl _ _).alloc (Nat.le_refl _) _) (Nat.le_refl _)).mono (Nat.le_succ _)) (by exact (lit_at w4 [0, (k : Int)] 3 (fun z hz => by have := hmH.out; simp at hz; omega) (by simp)).mono (by simp))).mono ?_; clear hu4; rintro e w5 ⟨rfl, n5, hw5⟩; have hB5 : Below wr.heap.size wr w5 := (by rw [hw5]; exact below_drewN (hb4.alloc hb4.size _) _); clear hw5)
          | (go_at_call 26; refine (hwdH.out _ hB5).mono ?_; rintro e w6 ⟨rfl, n6, hw6⟩; have hB6 : Below wr.heap.size wr w6 := (by rw [hw6]; exact below_drewN hB5 _); clear hw6)
          | (go_at_call 33; refine (hpiH.out _ hB6).mono ?_; rintro e w7 ⟨rfl, n7, hw7⟩; have hB7 : Below wr.heap.size wr w7 := (by rw [hw7]; exact below_drewN hB6 _); clear hw7)
          | (go_at_call 28; have k8 := i8; clear i8; refine (wall_at w7 D _ (List.replicate k r) (by have := hmH.out; simp; omega) (by exact (hs'.below hB7 (Nat.le_refl _)).mono hB7.size) (by exact (k8.below hB7 (Nat.le_refl _)).mono hB7.size)).mono ?_; rw [pO2.out]; rintro e w8 ⟨u8, rfl, hu8, hb8⟩; have hB8 := hB7.trans (hb8.mono hB7.size))
          | (go_at_call 27; refine (sameInts_any _ _ (everyL k) _ _ (by exact hu8) (by exact (i9.below hB8 (Nat.le_refl _)).mono hB8.size)).mono ?_; rintro e w9 ⟨rfl, n9, hw9⟩; have hB9 : Below wr.heap.size wr w9 := (by rw [hw9]; exact below_drewN hB8 _); clear hw9))
        go_ret
        first
          | exact ⟨rfl, hWr.trans (hB9.mono hWrs)⟩
          | exact ⟨rfl, hWr.trans (hB7.mono hWrs)⟩
          | exact ⟨rfl, hWr.trans (hB6.mono hWrs)⟩
      · have q3 : (kr != 0) = true := by simp; omega
        clear pO'
        go_wp2_with (first
          | (go_at_call 28; have k7 := i7; clear i7; refine (wall_at wr D _ (List.replicate k 32) (by have := hmH.out; simp; omega) (by exact hs') (by exact k7)).mono ?_; rw [pS.out]; rintro e w4 ⟨u4, rfl, hu4, hb4⟩)
          | (go_at_call 27; refine (sameInts_any _ _ [0, (k : Int)] _ _ (by exact (hu4.below ((Below.refl _ _).alloc (Nat.le_refl _) _) (Nat.le_refl _)).mono (Nat.le_succ _)) (by exact (lit_at w4 [0, (k : Int)] 3 (fun z hz => by have := hmH.out; simp at hz; omega) (by simp)).mono (by simp))).mono ?_; clear hu4; rintro e w5 ⟨rfl, n5, hw5⟩; have hB5 : Below wr.heap.size wr w5 := (by rw [hw5]; exact below_drewN (hb4.alloc hb4.size _) _); clear hw5)
          | (go_at_call 26; refine (hwdH.out _ hB5).mono ?_; rintro e w6 ⟨rfl, n6, hw6⟩; have hB6 : Below wr.heap.size wr w6 := (by rw [hw6]; exact below_drewN hB5 _); clear hw6)
          | (go_at_call 33; refine (hpiH.out _ hB6).mono ?_; rintro e w7 ⟨rfl, n7, hw7⟩; have hB7 : Below wr.heap.size wr w7 := (by rw [hw7]; exact below_drewN hB6 _); clear hw7)
          | (go_at_call 28; have k8 := i8; clear i8; refine (wall_at w7 D _ (List.replicate k r) (by have := hmH.out; simp; omega) (by exact (hs'.below hB7 (Nat.le_refl _)).mono hB7.size) (by exact (k8.below hB7 (Nat.le_refl _)).mono hB7.size)).mono ?_; rw [pO2.out]; rintro e w8 ⟨u8, rfl, hu8, hb8⟩; have hB8 := hB7.trans (hb8.mono hB7.size))
          | (go_at_call 27; refine (sameInts_any _ _ (everyL k) _ _ (by exact hu8) (by exact (i9.below hB8 (Nat.le_refl _)).mono hB8.size)).mono ?_; rintro e w9 ⟨rfl, n9, hw9⟩; have hB9 : Below wr.heap.size wr w9 := (by rw [hw9]; exact below_drewN hB8 _); clear hw9))
        go_ret
        first
          | exact ⟨rfl, hWr.trans (hB9.mono hWrs)⟩
          | exact ⟨rfl, hWr.trans (hB7.mono hWrs)⟩
          | exact ⟨rfl, hWr.trans (hB6.mono hWrs)⟩
      · have q3 : (kr != 0) = true := by simp; omega
        have pO2 := Lib.hid (pO'.out (.inr ⟨q1, q2⟩) rfl)
        clear pO'
        go_wp2_with (first
          | (go_at_call 28; have k7 := i7; clear i7; refine (wall_at wr D _ (List.replicate k 32) (by have := hmH.out; simp; omega) (by exact hs') (by exact k7)).mono ?_; rw [pS.out]; rintro e w4 ⟨u4, rfl, hu4, hb4⟩)
          | (go_at_call 27; refine (sameInts_any _ _ [0, (k : Int)] _ _ (by exact (hu4.below ((Below.refl _ _).alloc (Nat.le_refl _) _) (Nat.le_refl _)).mono (Nat.le_succ _)) (by exact (lit_at w4 [0, (k : Int)] 3 (fun z hz => by have := hmH.out; simp at hz; omega) (by simp)).mono (by simp))).mono ?_; clear hu4; rintro e w5 ⟨rfl, n5, hw5⟩; have hB5 : Below wr.heap.size wr w5 := (by rw [hw5]; exact below_drewN (hb4.alloc hb4.size _) _); clear hw5)
          | (go_at_call 26; refine (hwdH.out _ hB5).mono ?_; rintro e w6 ⟨rfl, n6, hw6⟩; have hB6 : Below wr.heap.size wr w6 := (by rw [hw6]; exact below_drewN hB5 _); clear hw6)
          | (go_at_call 33; refine (hpiH.out _ hB6).mono ?_; rintro e w7 ⟨rfl, n7, hw7⟩; have hB7 : Below wr.heap.size wr w7 := (by rw [hw7]; exact below_drewN hB6 _); clear hw7)
          | (go_at_call 28; have k8 := i8; clear i8; refine (wall_at w7 D _ (List.replicate k r) (by have := hmH.out; simp; omega) (by exact (hs'.below hB7 (Nat.le_refl _)).mono hB7.size) (by exact (k8.below hB7 (Nat.le_refl _)).mono hB7.size)).mono ?_; rw [pO2.out]; rintro e w8 ⟨u8, rfl, hu8, hb8⟩; have hB8 := hB7.trans (hb8.mono hB7.size))
          | (go_at_call 27; refine (sameInts_any _ _ (everyL k) _ _ (by exact hu8) (by exact (i9.below hB8 (Nat.le_refl _)).mono hB8.size)).mono ?_; rintro e w9 ⟨rfl, n9, hw9⟩; have hB9 : Below wr.heap.size wr w9 := (by rw [hw9]; exact below_drewN hB8 _); clear hw9))
        go_ret
        first
          | exact ⟨rfl, hWr.trans (hB9.mono hWrs)⟩
          | exact ⟨rfl, hWr.trans (hB7.mono hWrs)⟩
          | exact ⟨rfl, hWr.trans (hB6.mono hWrs)⟩

theorem wordsSpaces_walk (n : Int) (_hn : -9223372036854775808 ≤ n ∧ n ≤ 9223372036854775807) (r : Int) (hr : -9223372036854775808 ≤ r ∧ r ≤ 9223372036854775807) {w : World} (hL : LaidS w) :
    Calls Tryd.prog 5 #[.int .i64 n, .int .i64 r] w fun e w' => e = .returned (.bool true) ∧ Below w.heap.size w w' := by
  by_cases h : n < 1 ∨ 100 < n
  · exact spaces_early n r h hL
  · obtain ⟨m, rfl⟩ : ∃ m : Nat, n = m := ⟨n.toNat, by omega⟩
    exact spaces_good m r hr (by omega) (by omega) hL
end Go.Proofs.YtpaijpdmeiagfaaDoor
