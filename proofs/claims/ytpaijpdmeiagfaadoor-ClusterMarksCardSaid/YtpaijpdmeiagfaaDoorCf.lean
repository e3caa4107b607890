/- ClusterControls, ClusterMarks: the walks. -/
import Derived.Test.YtpaijpdmeiagfaaDoorCe
set_option linter.unusedVariables false
set_option linter.unusedSimpArgs false
namespace Go.Proofs.Tx
open Go.Proofs.Tm
theorem controls_pl {a b : List Int} {x y : Int} (hx : a.getLast? = some x) (hy : b.head? = some y) (hc : clK x = 3 ∨ clK y = 3 ∨ clK x = 2 ∨ clK y = 1) :
    plI cf (sgC (a ++ b)) = plI cf (sgC a) ++ ((plI cf (sgC b)).drop 1).map ((a.length : Int) + ·) := by
  unfold plI
  rw [sgC_append, cf_controls (x := (clK x, piB x)) (y := (clK y, piB y)) (by simp [sgC, List.getLast?_map, hx]) (by simp [sgC, List.head?_map, hy]) hc ?_, List.map_append, sgC_length, ← List.map_drop, List.map_map, List.map_map]
  · congr 1
  · intro z hz hp
    rw [← sgC_append] at hz
    obtain ⟨r, _, rfl⟩ := List.mem_map.1 hz
    have := law_pict r hp
    simp [steers]
    omega
theorem plI_head (t : List Sg) : ∃ l, plI cf t = 0 :: l := by
  unfold plI
  have := placesOf_head (f := cf) (t := t)
  cases h : placesOf cf t with
  | nil => rw [h] at this; cases this
  | cons a l => rw [h] at this; simp at this; subst this; exact ⟨_, rfl⟩
theorem one_pl (r : Int) : plI cf (sgC [r]) = [0, 1] := by
  unfold plI placesOf
  have e : (sgC [r]).length = 1 := rfl
  rw [e]
  have h0 := brkAt_zero (f := cf) (sgC [r])
  have h1 := brkAt_end (f := cf) (sgC [r])
  rw [e] at h1
  rw [show List.range (1 + 1) = [0, 1] from rfl, List.filter_cons_of_pos h0, List.filter_cons_of_pos h1]
  rfl
theorem snoc_pl {zs : List Int} (r : Int) (h : zs ≠ []) : plI cf (sgC (zs ++ [r])) = (plI cf (sgC zs)).dropLast ++ (if brkAt cf (sgC (zs ++ [r])) zs.length then [(zs.length : Int), (zs.length : Int) + 1] else [(zs.length : Int) + 1]) := by
  unfold plI
  have e : sgC (zs ++ [r]) = sgC zs ++ [(clK r, piB r)] := by rw [sgC_append]; rfl
  rw [e, places_snoc (fun i h0 h1 => cf_local _ _ i h0 h1) (by intro e; exact h (by simpa [sgC] using e)), List.map_append, sgC_length, List.map_dropLast]
  congr 1
  split <;> simp
theorem pl_ne (zs : List Int) : plI cf (sgC zs) ≠ [] := by
  obtain ⟨l, hl⟩ := plI_head (sgC zs)
  rw [hl]; simp
theorem set_last {l : List Int} (h : l ≠ []) (x : Int) : l.set (l.length - 1) x = l.dropLast ++ [x] := by
  obtain ⟨m, y, rfl⟩ : ∃ m y, l = m ++ [y] := ⟨l.dropLast, l.getLast h, (List.dropLast_concat_getLast h).symm⟩
  simp
theorem mark_pl {zs : List Int} {r x : Int} (hx : zs.getLast? = some x) (h : clK r = 4 ∨ clK r = 5 ∨ clK r = 8) (hk : clK x < 1 ∨ 3 < clK x) :
    plI cf (sgC (zs ++ [r])) = (plI cf (sgC zs)).set ((plI cf (sgC zs)).length - 1) ((zs.length : Int) + 1) := by
  have hne : zs ≠ [] := by rintro rfl; simp at hx
  rw [snoc_pl r hne, set_last (pl_ne zs)]
  have e : sgC (zs ++ [r]) = sgC zs ++ [(clK r, piB r)] := by rw [sgC_append]; rfl
  have := cf_mark (t := sgC zs) (x := (clK x, piB x)) (y := (clK r, piB r)) (by simp [sgC, List.getLast?_map, hx]) h hk
  rw [sgC_length] at this
  rw [e, this]
  simp
theorem len_pl {zs : List Int} (r : Int) (h : zs ≠ []) : (plI cf (sgC (zs ++ [r]))).length = (plI cf (sgC zs)).length ∨ (plI cf (sgC (zs ++ [r]))).length = (plI cf (sgC zs)).length + 1 := by
  rw [snoc_pl r h]
  have := List.length_pos_iff.2 (pl_ne zs)
  split
  · right; simp; omega
  · left; simp; omega
end Go.Proofs.Tx
namespace Go.Proofs.YtpaijpdmeiagfaaDoor
open Go Go.RowKit Go.WideMaps Go.Proofs.Kk Go.Proofs.Tm Go.Proofs.Gg Go.Proofs.Tx

set_option maxRecDepth 100000 in
set_option maxHeartbeats 4000000 in
theorem controls_early (a0 a1 : Option Addr) (n0 c0 n1 c1 : Nat) {w : World} (hL : LaidS w) (h : n0 = 0 ∨ n1 = 0 ∨ 100 < n0 ∨ 100 < n1) :
    Calls Tryd.prog 13 #[.slice a0 n0 c0, .slice a1 n1 c1] w fun e w' => e = .returned (.bool true) ∧ Below w.heap.size w w' := by
  by_cases g0 : n0 = 0
  · subst g0
    clear h
    go_enter Tryd.func13, Tryd.ntmps13
    go_wp2_with (first
      | (go_at_call 43; refine (awake5_any _ hL).mono ?_; rintro e w1 ⟨rfl, hb1⟩)
      | (go_at_call 25; refine (new_ship _ (hL.below hb1 hL.1)).mono ?_; rintro e w2 ⟨D, rfl, hs, hb⟩))
    go_ret
    exact ⟨rfl, hb1.trans (hb.mono hb1.size)⟩
  · have f0 : ((n0 : Int) == 0) = false := by simp; omega
    by_cases g1 : n1 = 0
    · subst g1
      clear h
      go_enter Tryd.func13, Tryd.ntmps13
      go_wp2_with (first
        | (go_at_call 43; refine (awake5_any _ hL).mono ?_; rintro e w1 ⟨rfl, hb1⟩)
        | (go_at_call 25; refine (new_ship _ (hL.below hb1 hL.1)).mono ?_; rintro e w2 ⟨D, rfl, hs, hb⟩))
      go_ret
      exact ⟨rfl, hb1.trans (hb.mono hb1.size)⟩
    · have f1 : ((n1 : Int) == 0) = false := by simp; omega
      by_cases g2 : 100 < n0
      · have f2 : (100 : Int) < n0 := by omega
        clear h g2
        go_enter Tryd.func13, Tryd.ntmps13
        go_wp2_with (first
          | (go_at_call 43; refine (awake5_any _ hL).mono ?_; rintro e w1 ⟨rfl, hb1⟩)
          | (go_at_call 25; refine (new_ship _ (hL.below hb1 hL.1)).mono ?_; rintro e w2 ⟨D, rfl, hs, hb⟩))
        go_ret
        exact ⟨rfl, hb1.trans (hb.mono hb1.size)⟩
      · have f2 : (n0 : Int) ≤ 100 := by omega
        have f3 : (100 : Int) < n1 := by omega
        clear h g2
        go_enter Tryd.func13, Tryd.ntmps13
        go_wp2_with (first
          | (go_at_call 43; refine (awake5_any _ hL).mono ?_; rintro e w1 ⟨rfl, hb1⟩)
          | (go_at_call 25; refine (new_ship _ (hL.below hb1 hL.1)).mono ?_; rintro e w2 ⟨D, rfl, hs, hb⟩))
        go_ret
        exact ⟨rfl, hb1.trans (hb.mono hb1.size)⟩

/-- the numbers that want is made of -/
def wantL (n : Nat) (pA pB : List Int) (k : Nat) : List Int := pA ++ ((pB.drop 1).take k).map ((n : Int) + ·)
theorem wantL_succ {n : Nat} {pA pB : List Int} {k : Nat} (h : k + 1 < pB.length) : wantL n pA pB (k + 1) = wantL n pA pB k ++ [(n : Int) + pB.getD (k + 1) 0] := by
  unfold wantL
  have hk : k < (pB.drop 1).length := by simp; omega
  rw [List.take_succ_eq_append_getElem hk, List.map_append, ← List.append_assoc]
  congr 1
  simp [List.getD, h, Nat.add_comm]
theorem wantL_len {n : Nat} {pA pB : List Int} {k : Nat} (h : k < pB.length) : (wantL n pA pB k).length = pA.length + k := by
  unfold wantL
  simp
  omega
theorem plI_pos' (t : List Sg) : 0 < (plI cf t).length := by
  obtain ⟨l, hl⟩ := plI_head t
  rw [hl]; simp

set_option maxRecDepth 100000 in
set_option maxHeartbeats 8000000 in
theorem controls_good (a0 a1 : Option Addr) (n0 c0 n1 c1 : Nat) (zs ms : List Int) {w : World} (hL : LaidS w) (h0 : IntsAt w w.heap.size (.slice a0 n0 c0) zs) (h1 : IntsAt w w.heap.size (.slice a1 n1 c1) ms)
    (g0 : 0 < n0) (g1 : 0 < n1) (g2 : n0 ≤ 100) (g3 : n1 ≤ 100) (x y : Int) (hx : zs.getLast? = some x) (hy : ms.head? = some y) (p q : Int) (hp : p = clK x) (hq : q = clK y)
    (hc : p = 3 ∨ p ≠ 3 ∧ q = 3 ∨ p ≠ 3 ∧ q ≠ 3 ∧ p = 2 ∨ p ≠ 3 ∧ q ≠ 3 ∧ p ≠ 2 ∧ q = 1) :
    Calls Tryd.prog 13 #[.slice a0 n0 c0, .slice a1 n1 c1] w fun e w' => e = .returned (.bool true) ∧ Below w.heap.size w w' := by
  obtain ⟨hz0, hc0, hc0', _⟩ := h0.len
  obtain ⟨hz1, hc1, hc1', _⟩ := h1.len
  obtain ⟨b, off, rfl, hb0, p0⟩ := h0.at_ (i := (n0 : Int) - 1) (by omega) (by omega)
  obtain ⟨b', off', rfl, hb1', p1⟩ := h1.at_ (i := 0) (by omega) (by omega)
  have ex : zs.getD ((n0 : Int) - 1).toNat 0 = x := by
    rw [List.getLast?_eq_getElem?, hz0] at hx
    rw [show ((n0 : Int) - 1).toNat = n0 - 1 by omega]
    simp [List.getD, hx]
  have ey : ms.getD (0 : Int).toNat 0 = y := by
    rw [List.head?_eq_getElem?] at hy
    show ms.getD 0 0 = y
    simp [List.getD, hy]
  rw [ex, show ((n0 : Int) - 1).toNat = n0 - 1 by omega] at p0
  rw [ey] at p1
  have p1' : w.cell? ⟨b', off', none⟩ = some (.int .i64 y) := p1
  have hpl := controls_pl (a := zs) (b := ms) hx hy (by rw [← hp, ← hq]; omega)
  obtain ⟨pA, hpA⟩ : ∃ l, l = plI cf (sgC zs) := ⟨_, rfl⟩
  obtain ⟨pB, hpB⟩ : ∃ l, l = plI cf (sgC ms) := ⟨_, rfl⟩
  have hlA := plI_len cf (sgC zs)
  have hlB := plI_len cf (sgC ms)
  have hpos := plI_pos' (sgC ms)
  rw [sgC_length, hz0, ← hpA] at hlA
  rw [sgC_length, hz1, ← hpB] at hlB
  rw [← hpB] at hpos
  rw [← hpA, ← hpB, hz0] at hpl
  have hst : Hid (∀ k, k + 1 < pB.length → wantL n0 pA pB (k + 1) = wantL n0 pA pB k ++ [(n0 : Int) + pB.getD (k + 1) 0]) := fun k h => wantL_succ h
  have hw0 : Hid (wantL n0 pA pB 0 = pA) := by show _ = _; simp [wantL]
  have hwE : Hid (wantL n0 pA pB (pB.length - 1) = plI cf (sgC (zs ++ ms))) := by
    show _ = _
    rw [hpl]
    unfold wantL
    rw [List.take_of_length_le (by simp)]
  have hwl : Hid (∀ k, k < pB.length → (wantL n0 pA pB k).length = pA.length + k) := fun k h => wantL_len h
  have hrA : Hid (IsI pA) := fun z hz => by rw [hpA] at hz; have := plI_rng z hz; rw [sgC_length] at this; omega
  have hrB : Hid (∀ z ∈ pB, 0 ≤ z ∧ z ≤ 100) := fun z hz => by rw [hpB] at hz; have := plI_rng z hz; rw [sgC_length] at this; omega
  have hAH := Lib.hid hpA
  have hBH := Lib.hid hpB
  have f0 : ((n0 : Int) == 0) = false := by simp; omega
  have f1 : ((n1 : Int) == 0) = false := by simp; omega
  have f2 : (n0 : Int) ≤ 100 := by omega
  have f3 : (n1 : Int) ≤ 100 := by omega
  have f4 : (1 : Int) ≤ n0 := by omega
  have f5 : (0 : Int) < n1 := by omega
  have hpH := Lib.hid hp
  have hqH := Lib.hid hq
  have hz0H : Hid (zs.length = n0) := hz0
  have hz1H : Hid (ms.length = n1) := hz1
  obtain ⟨i0, hi0, hz, hs1, hs8⟩ := info_parts infoInt
  clear hpl hpA hpB hp hq ex ey hx hy hz0 hz1 p1
  rcases hc with rfl | ⟨d1, rfl⟩ | ⟨d1, d2, rfl⟩ | ⟨d1, d2, d3, rfl⟩
  all_goals
    go_enter Tryd.func13, Tryd.ntmps13
    go_wp2_with (first
      | (go_at_call 43; refine (awake5_any _ hL).mono ?_; rintro e w1 ⟨rfl, hb1⟩)
      | (go_at_call 25; refine (new_ship _ (hL.below hb1 hL.1)).mono ?_; rintro e w2 ⟨D, rfl, hs, hb⟩; have hW := hb1.trans (hb.mono hb1.size); have hWs := hW.size; have h2 := (h0.below hW (Nat.le_refl _)).mono hWs; have h3 := (h1.below hW (Nat.le_refl _)).mono hWs; have q0 : w2.cell? ⟨b, off + (n0 - 1), none⟩ = some (.int .i64 x) := (hW.cell (p := ⟨b, _, none⟩) hb0).trans p0; have q1 : w2.cell? ⟨b', off', none⟩ = some (.int .i64 y) := (hW.cell (p := ⟨b', _, none⟩) hb1').trans p1'; clear hb hb1 p0 p1')
      | (go_at_call 31; refine (sclus_any _ _ D _ (by exact hs.heap rfl)).mono ?_; rintro e w3 ⟨he, n3, rfl⟩; (first | rw [← hpH.out] at he | rw [← hqH.out] at he); subst he)
      | (go_at_call 44; have k2 := h2; clear h2; refine (call_any _ D _ zs (by rw [hz0H.out]; omega) (by exact hs.heap rfl) (by exact k2.heap rfl)).mono ?_; rw [← hAH.out]; rintro e w4 ⟨u4, rfl, hu4, hb4⟩; have hB4 : Below w2.heap.size w2 w4 := (below_drewN (Below.refl _ w2) _).trans hb4; clear hb4)
      | (go_at_call 44; have k3 := h3; clear h3; refine (call_any _ D _ ms (by rw [hz1H.out]; omega) (by exact (hs.below hB4 (Nat.le_refl _)).mono hB4.size) (by exact (k3.below hB4 (Nat.le_refl _)).mono hB4.size)).mono ?_; rw [← hBH.out]; rintro e w5 ⟨u5, rfl, hu5, hb5⟩; obtain ⟨g5, c5, rfl, hg5, hg5'⟩ := hu5.form hpos))
    have hB5 : Below w2.heap.size w2 w5 := hB4.trans (hb5.mono hB4.size)
    have hu45 := ownsRow_below (ownsRow_base hu4 (b' := w2.heap.size) (Nat.le_refl _)) hb5 (Nat.le_refl _)
    have hap : ∀ j, u4.ownBlock = some j → j ≠ g5 := fun j e => by have := own_lt hu4 j e; omega
    have hlA' : pA.length ≤ 1000 := by omega
    have hlB' : pB.length ≤ 1000 := by omega
    have h2' := (h0.below hW (Nat.le_refl _)).mono hWs
    have h3' := (h1.below hW (Nat.le_refl _)).mono hWs
    clear hu4 hb5 hB4 q0 q1 h0 h1
    go_loopw [9, 11] (fun v i wr => ∃ k : Nat, k < pB.length ∧ i = .int .i64 ((k : Int) + 1) ∧ wr.ownsRow w2.heap.size 3 1 v (pA.length + k) (ints (wantL n0 pA pB k)) ∧ (∀ j, v.ownBlock = some j → j ≠ g5) ∧ wr.ownsRow w4.heap.size 3 1 (.slice (some ⟨g5, 0, none⟩) pB.length c5) pB.length (ints pB) ∧ Below w2.heap.size w2 wr) (fun _ i _ => pB.length - (intOf i).toNat)
    case atStart => exact ⟨0, hpos, rfl, by rw [hw0.out]; exact hu45, hap, hu5, hB5⟩
    case round =>
      obtain ⟨k, hk, rfl, hrow, hap', hm, hb⟩ := hrel
      have hbs := hb.size
      have hmI := IntsAt.of_own hm (fun z hz => by have := hrB.out z hz; omega)
      by_cases hlt : k + 1 < pB.length
      · have hx : pB[k + 1]? = some (pB.getD (k + 1) 0) := by simp [List.getD, hlt]
        have hc9 : wr.cell? ⟨g5, 0 + (k + 1), none⟩ = some (.int .i64 (pB.getD (k + 1) 0)) := IntsAt.cell hmI hx
        rw [Nat.zero_add] at hc9
        have hr9 := hrB.out (pB.getD (k + 1) 0) (List.mem_of_getElem? hx)
        have hst' := hst.out k hlt
        have hlt1 : (k : Int) + 1 < pB.length := by omega
        generalize pB.getD (k + 1) 0 = z at hc9 hr9 hst'
        have hstH := Lib.hid hst'
        obtain ⟨z0, z1⟩ := hr9
        have hkH : Hid (k ≤ 1000) := by show _ ≤ _; omega
        clear hx hst' hk
        go_wp2_with (at_builtin; refine wpList_append_ints rfl _ _ 22 rfl w2.heap.size 3 i0 intsU hi0 hz hs1 hs8 _ _ _ rfl (hrow.alloc _) _ _ [(n0 : Int) + z] rfl (by exact lit_at wr [(n0 : Int) + z] 3 (fun z hz => by simp at hz; omega) (by simp)) (by have := hkH.out; simp; omega) (by simp; omega) ?_; intro v6 w6 hown6 hg6 hat6)
        go_roundw
        case rel =>
          refine ⟨k + 1, hlt, by go_num, by rw [hstH.out]; exact hown6, ?_, (hm.alloc _).kept hg6 (.inr fun e => hap' g5 e.symm rfl), below_grown (hb.alloc hbs _) (hrow.alloc _) hg6 (Nat.le_refl _) (by simp; omega)⟩
          intro j e
          rcases hat6 with h | h
          · exact hap' j (h ▸ e)
          · rw [h] at e
            obtain ⟨g', c', hv, _, hlt5⟩ := hm.form hpos
            cases hv
            simp at e
            omega
        case measure => simp [intOf]; omega
      · have hk1 : k = pB.length - 1 := by omega
        have hfin : Hid (wantL n0 pA pB k = plI cf (sgC ([] ++ zs ++ ms))) := by rw [hk1]; exact hwE.out
        have hI : IsI (wantL n0 pA pB k) := fun z hz => by
          rw [hfin.out] at hz
          have := plI_rng z hz
          rw [sgC_length] at this
          have e1 : ([] ++ zs ++ ms).length = zs.length + ms.length := by simp
          have := hz0H.out
          have := hz1H.out
          omega
        have hlt1 : (pB.length : Int) ≤ (k : Int) + 1 := by omega
        have hs2 := (hs.below hb (Nat.le_refl _)).mono hbs
        have r0 := (h2'.below hb (Nat.le_refl _)).mono hbs
        have r1 := (h3'.below hb (Nat.le_refl _)).mono hbs
        have hWr := hW.trans (hb.mono hWs)
        have hWrs := hWr.size
        clear hk1 hlt hmI hs hb hW h2' h3' hst hw0 hwl hwE hap' hm
        go_wp2_with (first
          | (at_builtin; have k0 := r0; clear r0; refine wpList_append_ints rfl _ _ 22 rfl wr.heap.size 3 i0 intsU hi0 hz hs1 hs8 _ 0 [] rfl (by exact ownsRow_lit wr 3 [] wr.heap.size (Nat.le_refl _) (by simp)) wr.heap.size _ zs rfl (by exact k0.below ((Below.refl _ wr).alloc (Nat.le_refl _) _) (Nat.le_refl _)) (by have := hz0H.out; omega) (by simp) ?_; intro v7 w7 hown7 hg7 _; have hB7 : Below wr.heap.size wr w7 := below_grown ((Below.refl _ wr).alloc (Nat.le_refl _) _) (by exact ownsRow_lit wr 3 [] wr.heap.size (Nat.le_refl _) (by simp)) hg7 (Nat.le_refl _) (by simp))
          | (at_builtin; have k1 := r1; clear r1; refine wpList_append_ints rfl _ _ 22 rfl wr.heap.size 3 i0 intsU hi0 hz hs1 hs8 _ _ _ rfl hown7 wr.heap.size _ ms rfl (by exact k1.below hB7 (Nat.le_refl _)) (by have := hz0H.out; have := hz1H.out; omega) hB7.size ?_; intro v8 w8 hown8 hg8 _; have hB8 : Below wr.heap.size wr w8 := below_grown hB7 hown7 hg8 (Nat.le_refl _) hB7.size)
          | (go_at_call 44; refine (call_any _ D _ ([] ++ zs ++ ms) (by have := hz0H.out; have := hz1H.out; simp; omega) (by exact (hs2.below hB8 (Nat.le_refl _)).mono hB8.size) (by exact IntsAt.of_own hown8 (by intro z hz'; rcases List.mem_append.1 hz' with g | g; (· exact k0.rng z g); (· exact k1.rng z g)))).mono ?_; rw [← hfin.out]; rintro e w9 ⟨u9, rfl, hu9, hb9⟩; have hB9 := hB8.trans (hb9.mono hB8.size))
          | (go_at_call 27; refine (sameInts_any _ _ (wantL n0 pA pB k) _ w9.heap.size (by exact IntsAt.of_own hu9 hI) (by exact IntsAt.of_own (ownsRow_below hrow hB9 (Nat.le_refl _)) hI)).mono ?_; rintro e w10 ⟨rfl, n10, rfl⟩))
        go_ret
        exact ⟨rfl, below_drewN (hWr.trans (hB9.mono hWrs)) _⟩

set_option maxRecDepth 100000 in
set_option maxHeartbeats 8000000 in
theorem controls_none (a0 a1 : Option Addr) (n0 c0 n1 c1 : Nat) (zs ms : List Int) {w : World} (hL : LaidS w) (h0 : IntsAt w w.heap.size (.slice a0 n0 c0) zs) (h1 : IntsAt w w.heap.size (.slice a1 n1 c1) ms)
    (g0 : 0 < n0) (g1 : 0 < n1) (g2 : n0 ≤ 100) (g3 : n1 ≤ 100) (x y : Int) (hx : zs.getLast? = some x) (hy : ms.head? = some y) (p q : Int) (hp : p = clK x) (hq : q = clK y)
    (d1 : p ≠ 3) (d2 : q ≠ 3) (d3 : p ≠ 2) (d4 : q ≠ 1) :
    Calls Tryd.prog 13 #[.slice a0 n0 c0, .slice a1 n1 c1] w fun e w' => e = .returned (.bool true) ∧ Below w.heap.size w w' := by
  obtain ⟨hz0, hc0, hc0', _⟩ := h0.len
  obtain ⟨hz1, hc1, hc1', _⟩ := h1.len
  obtain ⟨b, off, rfl, hb0, p0⟩ := h0.at_ (i := (n0 : Int) - 1) (by omega) (by omega)
  obtain ⟨b', off', rfl, hb1', p1⟩ := h1.at_ (i := 0) (by omega) (by omega)
  have ex : zs.getD ((n0 : Int) - 1).toNat 0 = x := by
    rw [List.getLast?_eq_getElem?, hz0] at hx
    rw [show ((n0 : Int) - 1).toNat = n0 - 1 by omega]
    simp [List.getD, hx]
  have ey : ms.getD (0 : Int).toNat 0 = y := by
    rw [List.head?_eq_getElem?] at hy
    show ms.getD 0 0 = y
    simp [List.getD, hy]
  rw [ex, show ((n0 : Int) - 1).toNat = n0 - 1 by omega] at p0
  rw [ey] at p1
  have p1' : w.cell? ⟨b', off', none⟩ = some (.int .i64 y) := p1
  have f0 : ((n0 : Int) == 0) = false := by simp; omega
  have f1 : ((n1 : Int) == 0) = false := by simp; omega
  have f2 : (n0 : Int) ≤ 100 := by omega
  have f3 : (n1 : Int) ≤ 100 := by omega
  have f4 : (1 : Int) ≤ n0 := by omega
  have f5 : (0 : Int) < n1 := by omega
  have t1 : (p != 3) = true := by simpa using d1
  have t2 : (q != 3) = true := by simpa using d2
  have t3 : (p != 2) = true := by simpa using d3
  have t4 : (q != 1) = true := by simpa using d4
  have hpH := Lib.hid hp
  have hqH := Lib.hid hq
  clear hp hq ex ey hx hy hz0 hz1 p1
  go_enter Tryd.func13, Tryd.ntmps13
  go_wp2_with (first
    | (go_at_call 43; refine (awake5_any _ hL).mono ?_; rintro e w1 ⟨rfl, hb1⟩)
    | (go_at_call 25; refine (new_ship _ (hL.below hb1 hL.1)).mono ?_; rintro e w2 ⟨D, rfl, hs, hb⟩; have hW := hb1.trans (hb.mono hb1.size); have q0 : w2.cell? ⟨b, off + (n0 - 1), none⟩ = some (.int .i64 x) := (hW.cell (p := ⟨b, _, none⟩) hb0).trans p0; have q1 : w2.cell? ⟨b', off', none⟩ = some (.int .i64 y) := (hW.cell (p := ⟨b', _, none⟩) hb1').trans p1'; clear hb hb1 p0 p1')
    | (go_at_call 31; refine (sclus_any _ _ D _ (by exact hs.heap rfl)).mono ?_; rintro e w3 ⟨he, n3, rfl⟩; (first | rw [← hpH.out] at he | rw [← hqH.out] at he); subst he))
  go_ret
  exact ⟨rfl, by (repeat apply below_drewN); exact hW⟩

theorem clusterControls_walk (a0 : Option Addr) (n0 c0 : Nat) (z0 : List Int) {w : World} (h0 : IsRow .i64 w a0 n0 c0 z0) (a1 : Option Addr) (n1 c1 : Nat) (z1 : List Int) (h1 : IsRow .i64 w a1 n1 c1 z1) (hL : LaidS w) :
    Calls Tryd.prog 13 #[.slice a0 n0 c0, .slice a1 n1 c1] w fun e w' => e = .returned (.bool true) ∧ Below w.heap.size w w' := by
  by_cases h : n0 = 0 ∨ n1 = 0 ∨ 100 < n0 ∨ 100 < n1
  · exact controls_early a0 a1 n0 c0 n1 c1 hL h
  · have k0 := intsAt_of h0
    have k1 := intsAt_of h1
    obtain ⟨x, hx⟩ : ∃ x, (z0.take n0).getLast? = some x := by
      rw [List.getLast?_eq_getElem?]
      exact ⟨_, List.getElem?_eq_getElem (by have := k0.len.1; omega)⟩
    obtain ⟨y, hy⟩ : ∃ y, (z1.take n1).head? = some y := by
      rw [List.head?_eq_getElem?]
      exact ⟨_, List.getElem?_eq_getElem (by have := k1.len.1; omega)⟩
    by_cases hc : clK x ≠ 3 ∧ clK y ≠ 3 ∧ clK x ≠ 2 ∧ clK y ≠ 1
    · exact controls_none a0 a1 n0 c0 n1 c1 _ _ hL k0 k1 (by omega) (by omega) (by omega) (by omega) x y hx hy _ _ rfl rfl hc.1 hc.2.1 hc.2.2.1 hc.2.2.2
    · exact controls_good a0 a1 n0 c0 n1 c1 _ _ hL k0 k1 (by omega) (by omega) (by omega) (by omega) x y hx hy _ _ rfl rfl (by omega)
end Go.Proofs.YtpaijpdmeiagfaaDoor
