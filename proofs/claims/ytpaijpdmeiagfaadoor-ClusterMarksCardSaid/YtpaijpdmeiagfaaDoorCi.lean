/- ClusterMarks: the walk. -/
import Derived.Test.YtpaijpdmeiagfaaDoorCf
set_option linter.unusedVariables false
set_option linter.unusedSimpArgs false
namespace Go.Proofs.Kk
open Go Go.RowKit
/-- one number of a slice turned -/
theorem IntsAt.set_ {w : World} {n₀ g m c : Nat} {zs : List Int} (h : IntsAt w n₀ (.slice (some ⟨g, 0, none⟩) m c) zs) {k : Nat} (hk : k < zs.length) (y : Int) (hy : -9223372036854775808 ≤ y ∧ y ≤ 9223372036854775807) : IntsAt (w.setCell ⟨g, k, none⟩ (.int .i64 y)) n₀ (.slice (some ⟨g, 0, none⟩) m c) (zs.set k y) := by
  obtain ⟨ao', c', hv, h1, h2, h3, h⟩ := h
  simp only [Value.slice.injEq] at hv
  obtain ⟨rfl, rfl, rfl⟩ := hv
  obtain ⟨b, off, ha, hb, hc⟩ := h (by intro e; rw [e] at hk; simp at hk)
  cases ha
  refine ⟨_, c, by rw [List.length_set], by rw [List.length_set]; exact h1, h2, ?_, fun _ => ⟨g, 0, rfl, hb, ?_⟩⟩
  · intro z hz
    rcases List.mem_or_eq_of_mem_set hz with e | e
    · exact h3 z e
    · rw [e]; exact hy
  · intro j x hx
    rw [List.getElem?_set] at hx
    have hck : w.cell? ⟨g, k, none⟩ = some (.int .i64 zs[k]) := by
      have := hc k zs[k] (List.getElem?_eq_getElem hk)
      rwa [Nat.zero_add] at this
    split at hx
    · rename_i e
      subst e
      first | (rw [if_pos hk] at hx; cases hx) | cases hx
      rw [Nat.zero_add]
      exact World.cell?_setCell_same' _ _ _ (by rw [hck]; rfl)
    · rename_i e
      rw [World.cell?_setCell_other _ _ _ _ (fun e2 => e (by cases e2; omega))]
      exact hc j x hx
theorem IntsAt.other {w : World} {n₀ g k : Nat} {v y : Value} {zs : List Int} (h : IntsAt w n₀ v zs) (hne : ∀ b off m c, v = .slice (some ⟨b, off, none⟩) m c → b ≠ g) : IntsAt (w.setCell ⟨g, k, none⟩ y) n₀ v zs := by
  obtain ⟨ao, c, hv, h1, h2, h3, h⟩ := h
  refine ⟨ao, c, hv, h1, h2, h3, fun hz => ?_⟩
  obtain ⟨b, off, ha, hb, hc⟩ := h hz
  refine ⟨b, off, ha, hb, fun j x hx => ?_⟩
  rw [World.cell?_setCell_other _ _ _ _ (fun e => hne b off _ c (by rw [hv, ha]) (by cases e; rfl))]
  exact hc j x hx
theorem own_frozen {w : World} {base : Nat} {e : TypeId} {size g n cap k : Nat} {xs : List Value} (h : w.ownsRow base e size (.slice (some ⟨g, 0, none⟩) n cap) k xs) (j : Nat) : w.frozen? ⟨g, j, none⟩ = false := by
  rcases h.2 with ⟨h1, _⟩ | ⟨g', cap', cur, h1, _, hg, _⟩
  · cases h1
  · cases h1
    simp [World.frozen?, hg]
end Go.Proofs.Kk
namespace Go.Proofs.YtpaijpdmeiagfaaDoor
open Go Go.RowKit Go.WideMaps Go.Proofs.Kk Go.Proofs.Tm Go.Proofs.Gg Go.Proofs.Tx

set_option maxRecDepth 100000 in
set_option maxHeartbeats 2000000 in
theorem cmarks_early (a0 : Option Addr) (n0 c0 : Nat) (r : Int) (h : 200 < n0) {w : World} (hL : LaidS w) :
    Calls Tryd.prog 14 #[.slice a0 n0 c0, .int .i64 r] w fun e w' => e = .returned (.bool true) ∧ Below w.heap.size w w' := by
  have h1 : (200 : Int) < n0 := by omega
  go_enter Tryd.func14, Tryd.ntmps14
  go_wp2_with (first
    | (go_at_call 43; refine (awake5_any _ hL).mono ?_; rintro e w1 ⟨rfl, hb1⟩)
    | (go_at_call 25; refine (new_ship _ (hL.below hb1 hL.1)).mono ?_; rintro e w2 ⟨D, rfl, hs, hb⟩))
  go_ret
  exact ⟨rfl, hb1.trans (hb.mono hb1.size)⟩

set_option maxRecDepth 100000 in
set_option maxHeartbeats 2000000 in
theorem cmarks_none (a0 : Option Addr) (c0 : Nat) (r : Int) (hr : -9223372036854775808 ≤ r ∧ r ≤ 9223372036854775807) {w : World} (hL : LaidS w) :
    Calls Tryd.prog 14 #[.slice a0 0 c0, .int .i64 r] w fun e w' => e = .returned (.bool true) ∧ Below w.heap.size w w' := by
  have hone := Lib.hid (one_pl r)
  have hrH := Lib.hid hr
  clear hr
  go_enter Tryd.func14, Tryd.ntmps14
  go_wp2_with (first
    | (go_at_call 43; refine (awake5_any _ hL).mono ?_; rintro e w1 ⟨rfl, hb1⟩)
    | (go_at_call 25; refine (new_ship _ (hL.below hb1 hL.1)).mono ?_; rintro e w2 ⟨D, rfl, hs, hb⟩; have hW := hb1.trans (hb.mono hb1.size); have hWs := hW.size; clear hb hb1)
    | (go_at_call 44; refine (call_at _ D _ [r] (by simp) (by exact (hs.below ((Below.refl _ _).alloc (Nat.le_refl _) _) (Nat.le_refl _)).mono (by simp)) (by exact lit_at w2 [r] 3 (fun z hz => by simp at hz; rw [hz]; exact hrH.out) (by simp))).mono ?_; rw [hone.out]; rintro e w3 ⟨u, rfl, hu, hb3⟩; have hB3 : Below w2.heap.size w2 w3 := ((Below.refl _ w2).alloc (Nat.le_refl _) _).trans (hb3.mono (by simp)))
    | (go_at_call 27; refine (sameInts_any _ _ [0, 1] _ _ (by exact (hu.below ((Below.refl _ _).alloc (Nat.le_refl _) _) (Nat.le_refl _)).mono (Nat.le_succ _)) (by exact (lit_at w3 [0, 1] 3 (isI_of rfl) (by simp)).mono (by simp))).mono ?_; rintro e w4 ⟨rfl, n4, rfl⟩))
  go_ret
  exact ⟨rfl, below_drewN (hW.trans ((hB3.alloc hB3.size _).mono hWs)) _⟩

set_option maxRecDepth 100000 in
set_option maxHeartbeats 8000000 in
theorem cmarks_good (a0 : Option Addr) (n0 c0 : Nat) (zs : List Int) (r : Int) (hr : -9223372036854775808 ≤ r ∧ r ≤ 9223372036854775807) {w : World} (hL : LaidS w) (h0 : IntsAt w w.heap.size (.slice a0 n0 c0) zs) (g0 : 0 < n0) (g1 : n0 ≤ 200) :
    Calls Tryd.prog 14 #[.slice a0 n0 c0, .int .i64 r] w fun e w' => e = .returned (.bool true) ∧ Below w.heap.size w w' := by
  obtain ⟨hz0, hc0, hc0', _⟩ := h0.len
  obtain ⟨b, off, rfl, hb0, p0⟩ := h0.at_ (i := (n0 : Int) - 1) (by omega) (by omega)
  obtain ⟨x, hx⟩ : ∃ x, zs.getLast? = some x := by
    rw [List.getLast?_eq_getElem?]
    exact ⟨_, List.getElem?_eq_getElem (by omega)⟩
  have hne : zs ≠ [] := by rintro rfl; simp at hx
  have ex : zs.getD ((n0 : Int) - 1).toNat 0 = x := by
    rw [List.getLast?_eq_getElem?, hz0] at hx
    rw [show ((n0 : Int) - 1).toNat = n0 - 1 by omega]
    simp [List.getD, hx]
  rw [ex, show ((n0 : Int) - 1).toNat = n0 - 1 by omega] at p0
  obtain ⟨k, hk⟩ : ∃ k, k = clK x := ⟨_, rfl⟩
  obtain ⟨m, hm⟩ : ∃ m, m = clK r := ⟨_, rfl⟩
  obtain ⟨pA, hpA⟩ : ∃ l, l = plI cf (sgC zs) := ⟨_, rfl⟩
  obtain ⟨pB, hpB⟩ : ∃ l, l = plI cf (sgC ([] ++ zs ++ [r])) := ⟨_, rfl⟩
  have hmk : Hid ((m = 4 ∨ m = 5 ∨ m = 8) → (k < 1 ∨ 3 < k) → pB = pA.set (pA.length - 1) ((n0 : Int) + 1)) := fun e1 e2 => by
    rw [hpA, hpB, ← hz0]
    exact mark_pl hx (by rw [← hm]; exact e1) (by rw [← hk]; exact e2)
  have hll : pB.length = pA.length ∨ pB.length = pA.length + 1 := by rw [hpA, hpB]; exact len_pl r hne
  have hpa := plI_pos' (sgC zs)
  have hla := plI_len cf (sgC zs)
  rw [sgC_length, hz0] at hla
  rw [← hpA] at hpa hla
  have hrA : Hid (IsI pA) := fun z hz => by rw [hpA] at hz; have := plI_rng z hz; rw [sgC_length] at this; omega
  have hrB : Hid (IsI pB) := fun z hz => by rw [hpB] at hz; have := plI_rng z hz; rw [sgC_length] at this; simp at this; omega
  have hAH := Lib.hid hpA
  have hBH := Lib.hid hpB
  have hkH := Lib.hid hk
  have hmH := Lib.hid hm
  obtain ⟨lA, hlA⟩ : ∃ l, l = pA.length := ⟨_, rfl⟩
  obtain ⟨lB, hlB⟩ : ∃ l, l = pB.length := ⟨_, rfl⟩
  rw [← hlA] at hmk hll hpa hla
  rw [← hlB] at hll
  have hlAH := Lib.hid hlA
  have hlBH := Lib.hid hlB
  have hone := Lib.hid (one_pl r)
  have hrH := Lib.hid hr
  have f0 : ((n0 : Int) == 0) = false := by simp; omega
  have f1 : (n0 : Int) ≤ 200 := by omega
  have f2 : (1 : Int) ≤ n0 := by omega
  have f3 : (1 : Int) ≤ lA := by omega
  have f6 : (lA : Int) ≤ 1000 := by omega
  have hz0H : Hid (zs.length = n0) := hz0
  obtain ⟨i0, hi0, hz, hs1, hs8⟩ := info_parts infoInt
  have hllH : Hid (lB = lA ∨ lB = lA + 1) := hll
  have hlaH : Hid (lA ≤ 201 ∧ lB ≤ 202) := by constructor <;> omega
  clear hr hk hm hpA hpB hlA hlB hx ex hz0 hll hne hla
  go_enter Tryd.func14, Tryd.ntmps14
  go_wp2_with (first
    | (go_at_call 43; refine (awake5_any _ hL).mono ?_; rintro e w1 ⟨rfl, hb1⟩)
    | (go_at_call 25; refine (new_ship _ (hL.below hb1 hL.1)).mono ?_; rintro e w2 ⟨D, rfl, hs, hb⟩; have hW := hb1.trans (hb.mono hb1.size); have hWs := hW.size; have h2 := (h0.below hW (Nat.le_refl _)).mono hWs; have q0 : w2.cell? ⟨b, off + (n0 - 1), none⟩ = some (.int .i64 x) := (hW.cell (p := ⟨b, _, none⟩) hb0).trans p0; clear hb hb1 h0 p0)
    | (go_at_call 44; have hone2 := hone; clear hone; refine (call_at _ D _ [r] (by simp) (by exact (hs.below ((Below.refl _ _).alloc (Nat.le_refl _) _) (Nat.le_refl _)).mono (by simp)) (by exact lit_at w2 [r] 3 (fun z hz => by simp at hz; rw [hz]; exact hrH.out) (by simp))).mono ?_; rw [hone2.out]; rintro e w3 ⟨u, rfl, hu, hb3⟩; have hB3 : Below w2.heap.size w2 w3 := ((Below.refl _ w2).alloc (Nat.le_refl _) _).trans (hb3.mono (by simp)); clear hb3)
    | (go_at_call 27; have hu2 := hu; clear hu; refine (sameInts_any _ _ [0, 1] _ _ (by exact (hu2.below ((Below.refl _ _).alloc (Nat.le_refl _) _) (Nat.le_refl _)).mono (Nat.le_succ _)) (by exact (lit_at w3 [0, 1] 3 (isI_of rfl) (by simp)).mono (by simp))).mono ?_; rintro e w4 ⟨rfl, n4, rfl⟩; have hB4 : Below w2.heap.size w2 ((w3.alloc (.cells #[.int .i64 0, .int .i64 1] 3)).drewN n4) := below_drewN (hB3.alloc hB3.size _) n4; have q4 : ((w3.alloc (.cells #[.int .i64 0, .int .i64 1] 3)).drewN n4).cell? ⟨b, off + (n0 - 1), none⟩ = some (.int .i64 x) := (hB4.cell (p := ⟨b, _, none⟩) (Nat.lt_of_lt_of_le hb0 hWs)).trans q0; generalize (w3.alloc (.cells #[.int .i64 0, .int .i64 1] 3)).drewN n4 = W4 at hB4 q4 ⊢; have hs4 := (hs.below hB4 (Nat.le_refl _)).mono hB4.size; have h4 := (h2.below hB4 (Nat.le_refl _)).mono hB4.size; clear hs h2 q0 hB3)
    | (go_at_call 31; refine (sclus_any _ _ D _ (by exact hs4.heap rfl)).mono ?_; rintro e w5 ⟨he, n5, rfl⟩; (first | rw [← hkH.out] at he | rw [← hmH.out] at he); subst he)
    | (go_at_call 44; have k4 := h4; clear h4; refine (call_any _ D _ zs (by rw [hz0H.out]; omega) (by exact hs4.heap rfl) (by exact k4.heap rfl)).mono ?_; rw [← hAH.out]; rintro e w6 ⟨u6, rfl, hu6, hb6⟩; have hB6 : Below W4.heap.size W4 w6 := (below_drewN (Below.refl _ W4) _).trans hb6; rw [← hlAH.out] at hu6; obtain ⟨g6, c6, rfl, hg6, hg6'⟩ := hu6.form hpa; clear hb6)
    | (at_builtin; refine wpList_append_ints rfl _ _ 22 rfl w6.heap.size 3 i0 intsU hi0 hz hs1 hs8 _ 0 [] rfl (by exact ownsRow_lit w6 3 [] w6.heap.size (Nat.le_refl _) (by simp)) W4.heap.size _ zs rfl (by exact (k4.below hB6 (Nat.le_refl _)).below ((Below.refl _ w6).alloc (Nat.le_refl _) _) hB6.size) (by have := hz0H.out; omega) (by simp) ?_; intro v7 w7 hown7 hg7 _; have hB7 : Below w6.heap.size w6 w7 := below_grown ((Below.refl _ w6).alloc (Nat.le_refl _) _) (by exact ownsRow_lit w6 3 [] w6.heap.size (Nat.le_refl _) (by simp)) hg7 (Nat.le_refl _) (by simp))
    | (at_builtin; refine wpList_append_ints rfl _ _ 22 rfl w6.heap.size 3 i0 intsU hi0 hz hs1 hs8 _ _ _ rfl (hown7.alloc _) _ _ [r] rfl (by exact lit_at w7 [r] 3 (fun z hz => by simp at hz; rw [hz]; exact hrH.out) (by simp)) (by have := hz0H.out; simp; omega) (by have := hB7.size; simp; omega) ?_; intro v8 w8 hown8 hg8 _; have hB8 : Below w6.heap.size w6 w8 := below_grown (hB7.alloc hB7.size _) (hown7.alloc _) hg8 (Nat.le_refl _) (by have := hB7.size; simp; omega))
    | (go_at_call 44; refine (call_any _ D _ ([] ++ zs ++ [r]) (by have := hz0H.out; simp; omega) (by exact ((hs4.below hB6 (Nat.le_refl _)).below hB8 hB6.size).mono (Nat.le_trans hB6.size hB8.size)) (by exact IntsAt.of_own hown8 (by intro z hz'; rcases List.mem_append.1 hz' with g | g; (· exact k4.rng z g); (· simp at g; rw [g]; exact hrH.out)))).mono ?_; rw [← hBH.out]; rintro e w9 ⟨u9, rfl, hu9, hb9⟩; have hB9 : Below w6.heap.size w6 w9 := hB8.trans (hb9.mono hB8.size); have hu69 := ownsRow_below hu6 hB9 (Nat.le_refl _); rw [← hlBH.out] at hu9; obtain ⟨g9, c9, rfl, hg9, hg9'⟩ := hu9.form (by have := hllH.out; omega); have iA := IntsAt.of_own hu69 hrA.out; have iB := IntsAt.of_own hu9 hrB.out; have hlast : pA[lA - 1]? = some (pA.getD (lA - 1) 0) := (by have : lA - 1 < pA.length := (by rw [← hlAH.out]; omega); simp [List.getD, this]); have c9' : w9.cell? ⟨g6, lA - 1, none⟩ = some (.int .i64 (pA.getD (lA - 1) 0)) := (by have := iA.cell hlast; rwa [Nat.zero_add] at this); have f9 := own_frozen hu69 (lA - 1); have hne9 : g9 ≠ g6 := (by have := hB8.size; omega); have iA' := IntsAt.set_ iA (k := lA - 1) (by rw [← hlAH.out]; omega) ((n0 : Int) + 1) (by omega); have hB9s := hB9.size; generalize pA.getD (lA - 1) 0 = last9 at c9' hlast; clear hlast)
    | (go_at_call 27; have e9 := hmk.out (by first | omega | simp) (by first | omega | simp); refine (sameInts_any _ _ pB _ w9.heap.size (by exact iB.other (fun b off m c e => by cases e; exact hne9)) (by rw [e9]; exact iA')).mono ?_; rintro e w10 ⟨rfl, n10, rfl⟩))
  all_goals
    have hAll : Below w.heap.size w w9 := hW.trans ((hB4.trans ((hB6.trans (hB9.mono hB6.size)).mono hB4.size)).mono hWs)
    have a1 := hB4.size
    have a2 : W4.heap.size ≤ g6 := hg6
    have h9 := hllH.out
    go_ret
    refine ⟨?_, ?_⟩
    · first
        | rfl
        | (simp; omega)
        | (congr 2; simp; omega)
        | (simp_all; done)
        | (simp_all; omega)
    · first
        | exact hAll
        | exact below_drewN (hAll.setCell (p := ⟨g6, lA - 1, none⟩) (by show w.heap.size ≤ g6; omega) _) _

theorem clusterMarks_walk (a0 : Option Addr) (n0 c0 : Nat) (z0 : List Int) {w : World} (h0 : IsRow .i64 w a0 n0 c0 z0) (r : Int) (hr : -9223372036854775808 ≤ r ∧ r ≤ 9223372036854775807) (hL : LaidS w) :
    Calls Tryd.prog 14 #[.slice a0 n0 c0, .int .i64 r] w fun e w' => e = .returned (.bool true) ∧ Below w.heap.size w w' := by
  by_cases h : 200 < n0
  · exact cmarks_early a0 n0 c0 r h hL
  · by_cases h1 : n0 = 0
    · subst h1
      exact cmarks_none a0 c0 r hr hL
    · exact cmarks_good a0 n0 c0 _ r hr hL (intsAt_of h0) (by omega) (by omega)
end Go.Proofs.YtpaijpdmeiagfaaDoor
