/- WordsLines: the walk. -/
import Derived.Test.YtpaijpdmeiagfaaDoorWm
import Derived.Test.YtpaijpdmeiagfaaDoorCh
import Derived.Test.YtpaijpdmeiagfaaDoorCf
set_option linter.unusedVariables false
set_option linter.unusedSimpArgs false
namespace Go.Proofs.Tx
open Go.Proofs.Tm
theorem fst2 (k : Int) (b : Bool) (h : k = 2) : ((k, b) : Sg).1 = 2 := h
theorem wd10 : wdK 10 = 2 := by decide +kernel
theorem lines_pl (a b : List Int) : plI wf (sgW (([] ++ a ++ [10]) ++ b)) = plI wf (sgW ([] ++ a ++ [10])) ++ ((plI wf (sgW b)).drop 1).map (((([] ++ a ++ [10] : List Int).length : Nat) : Int) + ·) := by
  have e : sgW ([] ++ a ++ [10]) = sgW a ++ [(wdK 10, piB 10)] := by rw [List.nil_append, sgW_append]; rfl
  unfold plI
  rw [sgW_append, e, wf_lines _ _ (wdK 10, piB 10) (fst2 _ _ wd10), List.map_append, ← e, sgW_length, ← List.map_drop, List.map_map, List.map_map]
  congr 1
end Go.Proofs.Tx
namespace Go.Proofs.YtpaijpdmeiagfaaDoor
open Go Go.RowKit Go.WideMaps Go.Proofs.Kk Go.Proofs.Tm Go.Proofs.Gg Go.Proofs.Tx

set_option maxRecDepth 100000 in
set_option maxHeartbeats 2000000 in
theorem lines_early (a0 a1 : Option Addr) (n0 c0 n1 c1 : Nat) {w : World} (hL : LaidS w) (h : 100 < n0 ∨ 100 < n1) :
    Calls Tryd.prog 23 #[.slice a0 n0 c0, .slice a1 n1 c1] w fun e w' => e = .returned (.bool true) ∧ Below w.heap.size w w' := by
  by_cases g0 : 100 < n0
  · have g1 : (100 : Int) < n0 := by omega
    clear h
    go_enter Tryd.func23, Tryd.ntmps23
    go_wp2_with (first
      | (go_at_call 24; refine (awake6_any _ hL).mono ?_; rintro e w1 ⟨rfl, hb1⟩)
      | (go_at_call 25; refine (new_ship _ (hL.below hb1 hL.1)).mono ?_; rintro e w2 ⟨D, rfl, hs, hb⟩))
    go_ret
    exact ⟨rfl, hb1.trans (hb.mono hb1.size)⟩
  · have g1 : (n0 : Int) ≤ 100 := by omega
    have g2 : (100 : Int) < n1 := by omega
    clear h
    go_enter Tryd.func23, Tryd.ntmps23
    go_wp2_with (first
      | (go_at_call 24; refine (awake6_any _ hL).mono ?_; rintro e w1 ⟨rfl, hb1⟩)
      | (go_at_call 25; refine (new_ship _ (hL.below hb1 hL.1)).mono ?_; rintro e w2 ⟨D, rfl, hs, hb⟩))
    go_ret
    exact ⟨rfl, hb1.trans (hb.mono hb1.size)⟩

set_option maxRecDepth 100000 in
set_option maxHeartbeats 8000000 in
theorem lines_good (a0 a1 : Option Addr) (n0 c0 n1 c1 : Nat) (zs ms : List Int) {w : World} (hL : LaidS w) (h0 : IntsAt w w.heap.size (.slice a0 n0 c0) zs) (h1 : IntsAt w w.heap.size (.slice a1 n1 c1) ms)
    (g2 : n0 ≤ 100) (g3 : n1 ≤ 100) :
    Calls Tryd.prog 23 #[.slice a0 n0 c0, .slice a1 n1 c1] w fun e w' => e = .returned (.bool true) ∧ Below w.heap.size w w' := by
  obtain ⟨hz0, hc0, hc0', _⟩ := h0.len
  obtain ⟨hz1, hc1, hc1', _⟩ := h1.len
  have hpl := lines_pl zs ms
  obtain ⟨ls, hls⟩ : ∃ l, l = [] ++ zs ++ [10] := ⟨_, rfl⟩
  rw [← hls] at hpl
  obtain ⟨nl, hnl⟩ : ∃ n, n = ls.length := ⟨_, rfl⟩
  have hnl' : nl = n0 + 1 := by rw [hnl, hls]; simp; omega
  obtain ⟨pA, hpA⟩ : ∃ l, l = plI wf (sgW ls) := ⟨_, rfl⟩
  obtain ⟨pB, hpB⟩ : ∃ l, l = plI wf (sgW ms) := ⟨_, rfl⟩
  have hlA := plI_len wf (sgW ls)
  have hlB := plI_len wf (sgW ms)
  have hpos := plI_pos (f := wf) (t := sgW ms)
  rw [sgW_length, ← hnl, ← hpA] at hlA
  rw [sgW_length, hz1, ← hpB] at hlB
  rw [← hpB] at hpos
  rw [← hpA, ← hpB, ← hnl] at hpl
  have hst : Hid (∀ k, k + 1 < pB.length → wantL nl pA pB (k + 1) = wantL nl pA pB k ++ [(nl : Int) + pB.getD (k + 1) 0]) := fun k h => wantL_succ h
  have hw0 : Hid (wantL nl pA pB 0 = pA) := by show _ = _; simp [wantL]
  have hwE : Hid (wantL nl pA pB (pB.length - 1) = plI wf (sgW (ls ++ ms))) := by
    show _ = _
    rw [hpl]
    unfold wantL
    rw [List.take_of_length_le (by simp)]
  have hwl : Hid (∀ k, k < pB.length → (wantL nl pA pB k).length = pA.length + k) := fun k h => wantL_len h
  have hrB : Hid (∀ z ∈ pB, 0 ≤ z ∧ z ≤ 100) := fun z hz => by rw [hpB] at hz; have := plI_rng z hz; rw [sgW_length] at this; omega
  have hrL : Hid (IsI ls) := fun z hz => by
    rw [hls] at hz
    simp at hz
    rcases hz with g | g
    · exact h0.rng z g
    · omega
  have hAH := Lib.hid hpA
  have hBH := Lib.hid hpB
  have hlsH := Lib.hid hls
  have f2 : (n0 : Int) ≤ 100 := by omega
  have f3 : (n1 : Int) ≤ 100 := by omega
  have hz0H : Hid (ls.length = nl) := hnl.symm
  have hzz : Hid (zs.length = n0) := hz0
  have hnlH : Hid (nl = n0 + 1) := hnl'
  have hz1H : Hid (ms.length = n1) := hz1
  have hnl2 : nl ≤ 101 := by omega
  obtain ⟨i0, hi0, hz, hs1, hs8⟩ := info_parts infoInt
  clear hpl hpA hpB hz0 hz1 hls hnl hnl'
  go_enter Tryd.func23, Tryd.ntmps23
  go_wp2_with (first
    | (go_at_call 24; refine (awake6_any _ hL).mono ?_; rintro e w1 ⟨rfl, hb1⟩)
    | (go_at_call 25; refine (new_ship _ (hL.below hb1 hL.1)).mono ?_; rintro e w2 ⟨D, rfl, hs0, hb⟩; have hW2 := hb1.trans (hb.mono hb1.size); have hW2s := hW2.size; have r2 := (h0.below hW2 (Nat.le_refl _)).mono hW2s; clear hb hb1)
    | (at_builtin; have k0 := r2; clear r2; refine wpList_append_ints rfl _ _ 22 rfl w2.heap.size 3 i0 intsU hi0 hz hs1 hs8 _ 0 [] rfl (by exact ownsRow_lit w2 3 [] w2.heap.size (Nat.le_refl _) (by simp)) w2.heap.size _ zs rfl (by exact k0.below ((Below.refl _ w2).alloc (Nat.le_refl _) _) (Nat.le_refl _)) (by have := hzz.out; omega) (by simp) ?_; intro v7 w7 hown7 hg7 _; have hB7 : Below w2.heap.size w2 w7 := below_grown ((Below.refl _ w2).alloc (Nat.le_refl _) _) (by exact ownsRow_lit w2 3 [] w2.heap.size (Nat.le_refl _) (by simp)) hg7 (Nat.le_refl _) (by simp))
    | (at_builtin; refine wpList_append_ints rfl _ _ 22 rfl w2.heap.size 3 i0 intsU hi0 hz hs1 hs8 _ _ _ rfl (hown7.alloc _) _ _ [10] rfl (by exact lit_at w7 [10] 3 (isI_of rfl) (by simp)) (by have := hzz.out; simp; omega) (by have := hB7.size; simp; omega) ?_; intro v8 w8 hown8 hg8 _; have hB8 : Below w2.heap.size w2 w8 := below_grown (hB7.alloc hB7.size _) (hown7.alloc _) hg8 (Nat.le_refl _) (by have := hB7.size; simp; omega); rw [← hlsH.out] at hown8; have h2 := IntsAt.of_own hown8 hrL.out; obtain ⟨ao8, c8, rfl⟩ := h2.form; rw [hz0H.out] at h2 ⊢; have hW := hW2.trans (hB8.mono hW2s); have hWs := hW.size; have h3 := (h1.below hW (Nat.le_refl _)).mono hWs; have hs := (hs0.below hB8 (Nat.le_refl _)).mono hB8.size; have h2' := h2; have h3' := h3; clear hown7 hown8 hg7 hg8 hB7 hs0 k0)
    | (go_at_call 28; have k2 := h2; clear h2; refine (wall_any w8 D _ ls (by rw [hz0H.out]; omega) (by exact hs) (by exact k2)).mono ?_; rw [← hAH.out]; rintro e w4 ⟨u4, rfl, hu4, hb4⟩; have hB4 : Below w8.heap.size w8 w4 := hb4; clear hb4)
    | (go_at_call 28; have k3 := h3; clear h3; refine (wall_any _ D _ ms (by rw [hz1H.out]; omega) (by exact (hs.below hB4 (Nat.le_refl _)).mono hB4.size) (by exact (k3.below hB4 (Nat.le_refl _)).mono hB4.size)).mono ?_; rw [← hBH.out]; rintro e w5 ⟨u5, rfl, hu5, hb5⟩; obtain ⟨g5, c5, rfl, hg5, hg5'⟩ := hu5.form hpos))
  have hB5 : Below w8.heap.size w8 w5 := hB4.trans (hb5.mono hB4.size)
  have hu45 := ownsRow_below (ownsRow_base hu4 (b' := w8.heap.size) (Nat.le_refl _)) hb5 (Nat.le_refl _)
  have hap : ∀ j, u4.ownBlock = some j → j ≠ g5 := fun j e => by have := own_lt hu4 j e; omega
  have hlA' : pA.length ≤ 1000 := by omega
  have hlB' : pB.length ≤ 1000 := by omega
  clear hu4 hb5 hB4
  go_loopw [8, 10] (fun v i wr => ∃ k : Nat, k < pB.length ∧ i = .int .i64 ((k : Int) + 1) ∧ wr.ownsRow w8.heap.size 3 1 v (pA.length + k) (ints (wantL nl pA pB k)) ∧ (∀ j, v.ownBlock = some j → j ≠ g5) ∧ wr.ownsRow w4.heap.size 3 1 (.slice (some ⟨g5, 0, none⟩) pB.length c5) pB.length (ints pB) ∧ Below w8.heap.size w8 wr) (fun _ i _ => pB.length - (intOf i).toNat)
  case atStart => exact ⟨0, hpos, rfl, by rw [hw0.out]; exact hu45, hap, hu5, hB5⟩
  case round =>
    obtain ⟨k, hk, rfl, hrow, hap', hm, hb⟩ := hrel
    have hbs := hb.size
    have hmI := IntsAt.of_own hm (fun z hz => by have := hrB.out z hz; omega)
    by_cases hlt : k + 1 < pB.length
    · have hx : pB[k + 1]? = some (pB.getD (k + 1) 0) := by simp [List.getD, hlt]
      have hc9 : wr.cell? ⟨g5, 0 + (k + 1), none⟩ = some (.int .i64 (pB.getD (k + 1) 0)) := IntsAt.cell hmI hx
      rw [Nat.zero_add] at hc9
      have hr9 := hrB.out (pB.getD (k + 1) 0) (List.mem_of_getElem? hx)
      have hst' := hst.out k hlt
      have hlt1 : (k : Int) + 1 < pB.length := by omega
      generalize pB.getD (k + 1) 0 = z at hc9 hr9 hst'
      have hstH := Lib.hid hst'
      obtain ⟨z0, z1⟩ := hr9
      have hkH : Hid (k ≤ 1000) := by show _ ≤ _; omega
      clear hx hst' hk
      go_wp2_with (at_builtin; refine wpList_append_ints rfl _ _ 22 rfl w8.heap.size 3 i0 intsU hi0 hz hs1 hs8 _ _ _ rfl (hrow.alloc _) _ _ [(nl : Int) + z] rfl (by exact lit_at wr [(nl : Int) + z] 3 (fun z hz => by simp at hz; omega) (by simp)) (by have := hkH.out; simp; omega) (by simp; omega) ?_; intro v6 w6 hown6 hg6 hat6)
      go_roundw
      case rel =>
        refine ⟨k + 1, hlt, by go_num, by rw [hstH.out]; exact hown6, ?_, (hm.alloc _).kept hg6 (.inr fun e => hap' g5 e.symm rfl), below_grown (hb.alloc hbs _) (hrow.alloc _) hg6 (Nat.le_refl _) (by simp; omega)⟩
        intro j e
        rcases hat6 with h | h
        · exact hap' j (h ▸ e)
        · rw [h] at e
          obtain ⟨g', c', hv, _, hlt5⟩ := hm.form hpos
          cases hv
          simp at e
          omega
      case measure => simp [intOf]; omega
    · have hk1 : k = pB.length - 1 := by omega
      have hfin : Hid (wantL nl pA pB k = plI wf (sgW ([] ++ ls ++ ms))) := by rw [hk1]; exact hwE.out
      have hI : IsI (wantL nl pA pB k) := fun z hz => by
        rw [hfin.out] at hz
        have := plI_rng z hz
        rw [sgW_length] at this
        have e1 : ([] ++ ls ++ ms).length = ls.length + ms.length := by simp
        have := hz0H.out
        have := hz1H.out
        omega
      have hlt1 : (pB.length : Int) ≤ (k : Int) + 1 := by omega
      have hs2 := (hs.below hb (Nat.le_refl _)).mono hbs
      have r0 := (h2'.below hb (Nat.le_refl _)).mono hbs
      have r1 := (h3'.below hb (Nat.le_refl _)).mono hbs
      have hWr := hW.trans (hb.mono hWs)
      have hWrs := hWr.size
      clear hk1 hlt hmI hs hb hW h2' h3' hst hw0 hwl hwE hap' hm
      go_wp2_with (first
        | (at_builtin; have k0 := r0; clear r0; refine wpList_append_ints rfl _ _ 22 rfl wr.heap.size 3 i0 intsU hi0 hz hs1 hs8 _ 0 [] rfl (by exact ownsRow_lit wr 3 [] wr.heap.size (Nat.le_refl _) (by simp)) wr.heap.size _ ls rfl (by exact k0.below ((Below.refl _ wr).alloc (Nat.le_refl _) _) (Nat.le_refl _)) (by have := hz0H.out; omega) (by simp) ?_; intro v70 w70 hown70 hg70 _; have hB70 : Below wr.heap.size wr w70 := below_grown ((Below.refl _ wr).alloc (Nat.le_refl _) _) (by exact ownsRow_lit wr 3 [] wr.heap.size (Nat.le_refl _) (by simp)) hg70 (Nat.le_refl _) (by simp))
        | (at_builtin; have k1 := r1; clear r1; refine wpList_append_ints rfl _ _ 22 rfl wr.heap.size 3 i0 intsU hi0 hz hs1 hs8 _ _ _ rfl hown70 wr.heap.size _ ms rfl (by exact k1.below hB70 (Nat.le_refl _)) (by have := hz0H.out; have := hz1H.out; omega) hB70.size ?_; intro v80 w80 hown80 hg80 _; have hB80 : Below wr.heap.size wr w80 := below_grown hB70 hown70 hg80 (Nat.le_refl _) hB70.size)
        | (go_at_call 28; refine (wall_any _ D _ ([] ++ ls ++ ms) (by have := hz0H.out; have := hz1H.out; simp; omega) (by exact (hs2.below hB80 (Nat.le_refl _)).mono hB80.size) (by exact IntsAt.of_own hown80 (by intro z hz'; rcases List.mem_append.1 hz' with g | g; (· exact k0.rng z g); (· exact k1.rng z g)))).mono ?_; rw [← hfin.out]; rintro e w9 ⟨u9, rfl, hu9, hb9⟩; have hB9 := hB80.trans (hb9.mono hB80.size))
        | (go_at_call 27; refine (sameInts_any _ _ (wantL nl pA pB k) _ w9.heap.size (by exact IntsAt.of_own hu9 hI) (by exact IntsAt.of_own (ownsRow_below hrow hB9 (Nat.le_refl _)) hI)).mono ?_; rintro e w10 ⟨rfl, n10, rfl⟩))
      go_ret
      exact ⟨rfl, below_drewN (hWr.trans (hB9.mono hWrs)) _⟩

theorem wordsLines_walk (a0 : Option Addr) (n0 c0 : Nat) (z0 : List Int) {w : World} (h0 : IsRow .i64 w a0 n0 c0 z0) (a1 : Option Addr) (n1 c1 : Nat) (z1 : List Int) (h1 : IsRow .i64 w a1 n1 c1 z1) (hL : LaidS w) :
    Calls Tryd.prog 23 #[.slice a0 n0 c0, .slice a1 n1 c1] w fun e w' => e = .returned (.bool true) ∧ Below w.heap.size w w' := by
  by_cases h : 100 < n0 ∨ 100 < n1
  · exact lines_early a0 a1 n0 c0 n1 c1 hL h
  · exact lines_good a0 a1 n0 c0 n1 c1 _ _ hL (intsAt_of h0) (intsAt_of h1) (by omega) (by omega)
end Go.Proofs.YtpaijpdmeiagfaaDoor
