/- WordsMarks: the walk. -/
import Derived.Test.YtpaijpdmeiagfaaDoorWm
import Derived.Deep.LoopGhost
set_option linter.unusedVariables false
set_option linter.unusedSimpArgs false
namespace Go.Proofs.Tx
open Go.Proofs.Tm
theorem wd769 : wdK 769 = 4 := by decide +kernel
theorem fst4 (k : Int) (b : Bool) (h : k = 4) : ((k, b) : Sg).1 = 4 := h
def wantM (at' : Int) (ps : List Int) (k : Nat) : List Int := (ps.take k).map fun n => if at' ≤ n then n + 1 else n
theorem wantM_succ {at' : Int} {ps : List Int} {k : Nat} {p : Int} (h : ps[k]? = some p) : wantM at' ps (k + 1) = wantM at' ps k ++ [if at' ≤ p then p + 1 else p] := by
  unfold wantM
  rw [List.take_add_one, h, List.map_append]
  rfl
theorem wantM_len {at' : Int} {ps : List Int} {k : Nat} (h : k ≤ ps.length) : (wantM at' ps k).length = k := by simp [wantM]; omega
theorem marks_pl {zs : List Int} {i : Nat} {x : Int} (h0 : 1 ≤ i) (hx : zs[i - 1]? = some x) (ha : endsK (wdK x) = false) (h18 : wdK x ≠ 18) (h5 : wdK x ≠ 5) :
    plI wf (sgW ([] ++ zs.take i ++ [769] ++ zs.drop i)) = wantM i (plI wf (sgW zs)) (plI wf (sgW zs)).length := by
  have hlt := (List.getElem?_eq_some_iff.1 hx).1
  have hti : zs.take i = zs.take (i - 1) ++ [x] := by
    have := List.take_add_one (l := zs) (i := i - 1)
    rw [show i - 1 + 1 = i by omega, hx] at this
    exact this
  have e0 : sgW [769] = [(wdK 769, piB 769)] := rfl
  have ex : sgW [x] = [(wdK x, piB x)] := rfl
  have e1 : sgW zs = sgW (zs.take (i - 1)) ++ (wdK x, piB x) :: sgW (zs.drop i) := by
    rw [← List.singleton_append, ← ex, ← List.append_assoc, ← sgW_append, ← hti, ← sgW_append, List.take_append_drop]
  have e2 : sgW ([] ++ zs.take i ++ [769] ++ zs.drop i) = sgW (zs.take (i - 1)) ++ (wdK x, piB x) :: (wdK 769, piB 769) :: sgW (zs.drop i) := by
    rw [List.nil_append, hti, sgW_append, sgW_append, sgW_append, ex, e0, List.append_assoc, List.append_assoc]; rfl
  have hl : (sgW (zs.take (i - 1))).length + 1 = i := by rw [sgW_length, List.length_take]; omega
  unfold wantM
  rw [List.take_length]
  unfold plI
  rw [e2, wf_marks _ _ _ (wdK 769, piB 769) (fst4 _ _ wd769) ha h18 h5, ← e1, List.map_map, List.map_map, hl]
  apply List.map_congr_left
  intro n _
  show ((if i ≤ n then n + 1 else n : Nat) : Int) = if (i : Int) ≤ (n : Int) then (n : Int) + 1 else (n : Int)
  by_cases h : i ≤ n
  · rw [if_pos h, if_pos (by omega)]; rfl
  · rw [if_neg h, if_neg (by omega)]
end Go.Proofs.Tx
namespace Go.Proofs.YtpaijpdmeiagfaaDoor
open Go Go.RowKit Go.WideMaps Go.Proofs.Kk Go.Proofs.Tm Go.Proofs.Gg Go.Proofs.Tx

set_option maxRecDepth 100000 in
set_option maxHeartbeats 4000000 in
theorem marks_early (a0 : Option Addr) (n0 c0 : Nat) (i : Int) (h : n0 = 0 ∨ (0 < n0 ∧ 150 < n0) ∨ (0 < n0 ∧ n0 ≤ 150 ∧ i < 1) ∨ (0 < n0 ∧ n0 ≤ 150 ∧ 1 ≤ i ∧ (n0 : Int) < i)) {w : World} (hL : LaidS w) :
    Calls Tryd.prog 22 #[.slice a0 n0 c0, .int .i64 i] w fun e w' => e = .returned (.bool true) ∧ Below w.heap.size w w' := by
  rcases h with rfl | ⟨h0, h⟩ | ⟨h0, h, h'⟩ | ⟨h0, h, h', h''⟩
  · go_enter Tryd.func22, Tryd.ntmps22
    go_wp2_with (first
      | (go_at_call 24; refine (awake6_any _ hL).mono ?_; rintro e w1 ⟨rfl, hb1⟩)
      | (go_at_call 25; refine (new_ship _ (hL.below hb1 hL.1)).mono ?_; rintro e w2 ⟨D, rfl, hs, hb⟩))
    go_ret
    exact ⟨rfl, hb1.trans (hb.mono hb1.size)⟩
  all_goals
    have f0 : ((n0 : Int) == 0) = false := by simp; omega
    first
      | have f1 : (150 : Int) < n0 := by omega
      | have f1 : (n0 : Int) ≤ 150 := by omega
    go_enter Tryd.func22, Tryd.ntmps22
    go_wp2_with (first
      | (go_at_call 24; refine (awake6_any _ hL).mono ?_; rintro e w1 ⟨rfl, hb1⟩)
      | (go_at_call 25; refine (new_ship _ (hL.below hb1 hL.1)).mono ?_; rintro e w2 ⟨D, rfl, hs, hb⟩))
    go_ret
    exact ⟨rfl, hb1.trans (hb.mono hb1.size)⟩

set_option maxRecDepth 100000 in
set_option maxHeartbeats 8000000 in
theorem marks_good (b off n0 c0 i : Nat) (zs : List Int) {w : World} (hL : LaidS w) (h0 : IntsAt w w.heap.size (.slice (some ⟨b, off, none⟩) n0 c0) zs) (g1 : n0 ≤ 150) (g2 : 1 ≤ i) (g3 : i ≤ n0) :
    Calls Tryd.prog 22 #[.slice (some ⟨b, off, none⟩) n0 c0, .int .i64 i] w fun e w' => e = .returned (.bool true) ∧ Below w.heap.size w w' := by
  obtain ⟨hz0, hc0, hc0', _⟩ := h0.len
  obtain ⟨b', off', ha, hb0, p0⟩ := h0.at_ (i := (i : Int) - 1) (by omega) (by omega)
  cases ha
  rw [show ((i : Int) - 1).toNat = i - 1 by omega] at p0
  have hx : zs[i - 1]? = some (zs.getD (i - 1) 0) := by
    have : i - 1 < zs.length := by omega
    simp [List.getD, this]
  generalize zs.getD (i - 1) 0 = x at p0 hx
  have hpl := fun a b c => marks_pl (zs := zs) (i := i) (x := x) g2 hx a b c
  obtain ⟨kx, hkx⟩ : ∃ k, k = wdK x := ⟨_, rfl⟩
  obtain ⟨pA, hpA⟩ : ∃ l, l = plI wf (sgW zs) := ⟨_, rfl⟩
  have hpos := plI_len wf (sgW zs)
  have hps : 0 < pA.length := by rw [hpA]; unfold plI; rw [List.length_map]; have := placesOf_head (f := wf) (t := sgW zs); exact (List.getElem?_eq_some_iff.1 this).1
  rw [sgW_length, hz0, ← hpA] at hpos
  have hrA : Hid (∀ z ∈ pA, 0 ≤ z ∧ z ≤ 150) := fun z hz => by rw [hpA] at hz; have := plI_rng z hz; rw [sgW_length] at this; omega
  simp only [← hkx, ← hpA] at hpl
  have hcase : (1 ≤ kx ∧ kx ≤ 3) ∨ kx = 18 ∨ kx = 5 ∨ kx < 1 ∨ (3 < kx ∧ kx ≠ 18 ∧ kx ≠ 5) := by omega
  have hAH := Lib.hid hpA
  have hkH := Lib.hid hkx
  have hplH := Lib.hid hpl
  have hzH : Hid (zs.length = n0) := hz0
  have f0 : ((n0 : Int) == 0) = false := by simp; omega
  have f1 : (n0 : Int) ≤ 150 := by omega
  have f2 : (1 : Int) ≤ i := by omega
  have f3 : (i : Int) ≤ n0 := by omega
  have f4 : (i : Int) ≤ c0 := by omega
  have f5 : (0 : Int) ≤ i := by omega
  obtain ⟨i0, hi0, hz, hs1, hs8⟩ := info_parts infoInt
  clear hpl hkx hpA hx hz0
  rcases hcase with ⟨q1, q2⟩ | rfl | rfl | q1 | ⟨q1, q2, q3⟩
  case inl | inr.inl | inr.inr.inl =>
    go_enter Tryd.func22, Tryd.ntmps22
    go_wp2_with (first
      | (go_at_call 24; refine (awake6_any _ hL).mono ?_; rintro e w1 ⟨rfl, hb1⟩)
      | (go_at_call 25; refine (new_ship _ (hL.below hb1 hL.1)).mono ?_; rintro e w2 ⟨D, rfl, hs, hb⟩; have hW := hb1.trans (hb.mono hb1.size); have p2 : w2.cell? ⟨b, off + (i - 1), none⟩ = some (.int .i64 x) := (hW.cell (p := ⟨b, _, none⟩) hb0).trans p0; clear p0)
      | (go_at_call 26; refine (sword_any _ _ D _ (by exact hs)).mono ?_; rintro e w3 ⟨he, n3, rfl⟩; rw [← hkH.out] at he; subst he))
    go_ret
    exact ⟨rfl, below_drewN hW _⟩
  all_goals
    have hfin := hplH.out (by simp [endsK]; omega) (by omega) (by omega)
    have hfinH := Lib.hid hfin
    try have q4 : (kx == 18) = false := by simp; omega
    try have q5 : (kx == 5) = false := by simp; omega
    try have q6 : 1 ≤ kx := by omega
    clear hfin hplH
    by_cases hci : c0 = i
    · obtain rfl : i = c0 := hci.symm
      obtain rfl : i = n0 := by omega
      go_enter Tryd.func22, Tryd.ntmps22
      go_wp2_with (first
        | (go_at_call 24; refine (awake6_any _ hL).mono ?_; rintro e w1 ⟨rfl, hb1⟩)
        | (go_at_call 25; refine (new_ship _ (hL.below hb1 hL.1)).mono ?_; rintro e w2 ⟨D, rfl, hs, hb⟩; have hW := hb1.trans (hb.mono hb1.size); have hWs := hW.size; have h2 := (h0.below hW (Nat.le_refl _)).mono hWs; have p2 : w2.cell? ⟨b, off + (i - 1), none⟩ = some (.int .i64 x) := (hW.cell (p := ⟨b, _, none⟩) hb0).trans p0; clear p0 hb hb1)
        | (go_at_call 26; refine (sword_any _ _ D _ (by exact hs)).mono ?_; rintro e w3 ⟨he, n3, hw3⟩; rw [← hkH.out] at he; subst he; have hB3 : Below w2.heap.size w2 w3 := (by rw [hw3]; exact below_drewN (Below.refl _ _) _); clear hw3; have k3 := (h2.below hB3 (Nat.le_refl _)).mono hB3.size)
        | (at_builtin; refine wpList_append_ints rfl _ _ 22 rfl w3.heap.size 3 i0 intsU hi0 hz hs1 hs8 _ 0 [] rfl (by exact ownsRow_lit w3 3 [] w3.heap.size (Nat.le_refl _) (by simp)) w3.heap.size _ (zs.take i) rfl (by exact (k3.take i (by rw [hzH.out]; omega)).below ((Below.refl _ w3).alloc (Nat.le_refl _) _) (Nat.le_refl _)) (by have := hzH.out; simp; omega) (by simp) ?_; intro v7 w7 hown7 hg7 _; have hB7 : Below w3.heap.size w3 w7 := below_grown ((Below.refl _ w3).alloc (Nat.le_refl _) _) (by exact ownsRow_lit w3 3 [] w3.heap.size (Nat.le_refl _) (by simp)) hg7 (Nat.le_refl _) (by simp))
        | (at_builtin; refine wpList_append_ints rfl _ _ 22 rfl w3.heap.size 3 i0 intsU hi0 hz hs1 hs8 _ _ _ rfl (hown7.alloc _) _ _ [769] rfl (by exact lit_at w7 [769] 3 (isI_of rfl) (by simp)) (by have := hzH.out; simp; omega) (by have := hB7.size; simp; omega) ?_; intro v8 w8 hown8 hg8 _; have hB8 : Below w3.heap.size w3 w8 := below_grown (hB7.alloc hB7.size _) (hown7.alloc _) hg8 (Nat.le_refl _) (by have := hB7.size; simp; omega); clear hown7 hg7 hB7)
        | (at_builtin; refine wpList_append_ints rfl _ _ 22 rfl w3.heap.size 3 i0 intsU hi0 hz hs1 hs8 _ _ _ rfl hown8 w3.heap.size (.slice (some ⟨b, off, none⟩) 0 _) (zs.drop i) rfl (by exact (k3.drop i (by rw [hzH.out]; omega) _ (fun h => by exfalso; have := hzH.out; omega) _ _ (by have := hzH.out; omega) (by omega) (by omega)).below hB8 (Nat.le_refl _)) (by have := hzH.out; simp; omega) hB8.size ?_; intro v9 w9 hown9 hg9 _; have hB9 : Below w3.heap.size w3 w9 := below_grown hB8 hown8 hg9 (Nat.le_refl _) hB8.size; have hB9' := hB3.trans (hB9.mono hB3.size); have hm9 := IntsAt.of_own hown9 (fun z hz => by simp at hz; rcases hz with g | g | g; (· exact k3.rng z (List.mem_of_mem_take g)); (· omega); (· exact k3.rng z (List.mem_of_mem_drop g))); clear hown8 hg8 hB8 hown9 hg9)
        | (go_at_call 28; have k2 := h2; clear h2; refine (wall_at w9 D _ zs (by rw [hzH.out]; omega) (by exact (hs.below hB9' (Nat.le_refl _)).mono hB9'.size) (by exact (k2.below hB9' (Nat.le_refl _)).mono hB9'.size)).mono ?_; rw [← hAH.out]; rintro e w10 ⟨u, rfl, hu, hb10⟩; have hB10 := hB9'.trans (hb10.mono hB9'.size); have hm10 := (hm9.below hb10 (Nat.le_refl _)).mono hb10.size; obtain ⟨au, cu, rfl⟩ := hu.form; obtain ⟨bu, ou, rfl, -, -⟩ := hu.at_ (i := 0) (by omega) (by omega); clear hm9))
      obtain ⟨m, hm⟩ : ∃ m, m = pA.length := ⟨_, rfl⟩
      rw [← hm]
      have hmH := Lib.hid hm
      have hms : m ≤ 151 := by omega
      have hs10 := (hs.below hB10 (Nat.le_refl _)).mono hB10.size
      have hW10 := hW.trans (hB10.mono hWs)
      have hW10s := hW10.size
      clear hm hpos hps hB9 hB9' hb10 hs hW hB10 h0 hL hB3 k3 k2 p2
      go_loopw [9, 11] (fun v vi wr => ∃ k : Nat, k ≤ m ∧ vi = .int .i64 k ∧ wr.ownsRow w10.heap.size 3 1 v k (ints (wantM i pA k)) ∧ Below w10.heap.size w10 wr) (fun _ vi _ => m - (intOf vi).toNat)
      case atStart => exact ⟨0, by omega, rfl, World.ownsRow_nil _ _ _ _, Below.refl _ _⟩
      case round =>
        obtain ⟨k, hk, rfl, hrow, hb⟩ := hrel
        have hbs := hb.size
        by_cases hlt : k < m
        · have hlt1 : (k : Int) < m := by omega
          obtain ⟨p, hp⟩ : ∃ p, pA[k]? = some p := ⟨_, List.getElem?_eq_getElem (by rw [← hmH.out]; exact hlt)⟩
          have cp : wr.cell? ⟨bu, ou + k, none⟩ = some (.int .i64 p) := (hu.below hb (Nat.le_refl _)).cell hp
          obtain ⟨p0, p1⟩ := hrA.out p (List.mem_of_getElem? hp)
          have hsu := wantM_succ (at' := (i : Int)) hp
          have hkH : Hid (k ≤ 151) := by show k ≤ 151; omega
          by_cases hge : (i : Int) ≤ p
          · rw [if_pos hge] at hsu
            have hsuH := Lib.hid hsu
            clear hsu hp
            go_wp2_with (at_builtin; refine wpList_append_ints rfl _ _ 22 rfl w10.heap.size 3 i0 intsU hi0 hz hs1 hs8 _ _ _ rfl (hrow.alloc _) _ _ [p + 1] rfl (by exact lit_at wr [p + 1] 3 (fun z hz => by simp at hz; omega) (by simp)) (by have := hkH.out; simp; omega) (by simp; omega) ?_; intro v11 w11 hown11 hg11 _)
            go_roundw
            case rel => exact ⟨k + 1, by omega, by go_num, by rw [hsuH.out]; exact hown11, below_grown (hb.alloc hbs _) (hrow.alloc _) hg11 (Nat.le_refl _) (by simp; omega)⟩
            case measure => simp [intOf]; omega
          · rw [if_neg hge] at hsu
            have hsuH := Lib.hid hsu
            have hge' : p < i := by omega
            clear hsu hp hge
            go_wp2_with (at_builtin; refine wpList_append_ints rfl _ _ 22 rfl w10.heap.size 3 i0 intsU hi0 hz hs1 hs8 _ _ _ rfl (hrow.alloc _) _ _ [p] rfl (by exact lit_at wr [p] 3 (fun z hz => by simp at hz; omega) (by simp)) (by have := hkH.out; simp; omega) (by simp; omega) ?_; intro v11 w11 hown11 hg11 _)
            go_roundw
            case rel => exact ⟨k + 1, by omega, by go_num, by rw [hsuH.out]; exact hown11, below_grown (hb.alloc hbs _) (hrow.alloc _) hg11 (Nat.le_refl _) (by simp; omega)⟩
            case measure => simp [intOf]; omega
        · obtain rfl : k = m := by omega
          have hwi := IntsAt.of_own hrow (fun z hz => by
            obtain ⟨y, hy, rfl⟩ := List.mem_map.1 hz
            have := hrA.out y (List.mem_of_mem_take hy)
            split <;> omega)
          have hmr := (hm10.below hb (Nat.le_refl _)).mono hbs
          have hsr := (hs10.below hb (Nat.le_refl _)).mono hbs
          have hWr := hW10.trans (hb.mono hW10s)
          have hWrs := hWr.size
          have hfin2 : Hid (plI wf (sgW ([] ++ zs.take i ++ [769] ++ zs.drop i)) = wantM i pA k) := by rw [hmH.out]; exact hfinH.out
          have hlt1 : (k : Int) ≤ k := by omega
          clear hlt hk hm10 hs10 hW10 hb hrow hfinH
          go_wp2_with (first
            | (go_at_call 28; refine (wall_at wr D _ ([] ++ zs.take i ++ [769] ++ zs.drop i) (by have := hzH.out; simp; omega) (by exact hsr) (by exact hmr)).mono ?_; rw [hfin2.out]; rintro e w12 ⟨u12, rfl, hu12, hb12⟩)
            | (go_at_call 27; refine (sameInts_any _ _ (wantM i pA k) _ _ (by exact hu12) (by exact (hwi.below hb12 (Nat.le_refl _)).mono hb12.size)).mono ?_; rintro e w13 ⟨rfl, n13, rfl⟩))
          go_ret
          exact ⟨rfl, below_drewN (hWr.trans (hb12.mono hWrs)) _⟩
    · skip
      go_enter Tryd.func22, Tryd.ntmps22
      go_wp2_with (first
        | (go_at_call 24; refine (awake6_any _ hL).mono ?_; rintro e w1 ⟨rfl, hb1⟩)
        | (go_at_call 25; refine (new_ship _ (hL.below hb1 hL.1)).mono ?_; rintro e w2 ⟨D, rfl, hs, hb⟩; have hW := hb1.trans (hb.mono hb1.size); have hWs := hW.size; have h2 := (h0.below hW (Nat.le_refl _)).mono hWs; have p2 : w2.cell? ⟨b, off + (i - 1), none⟩ = some (.int .i64 x) := (hW.cell (p := ⟨b, _, none⟩) hb0).trans p0; clear p0 hb hb1)
        | (go_at_call 26; refine (sword_any _ _ D _ (by exact hs)).mono ?_; rintro e w3 ⟨he, n3, hw3⟩; rw [← hkH.out] at he; subst he; have hB3 : Below w2.heap.size w2 w3 := (by rw [hw3]; exact below_drewN (Below.refl _ _) _); clear hw3; have k3 := (h2.below hB3 (Nat.le_refl _)).mono hB3.size)
        | (at_builtin; refine wpList_append_ints rfl _ _ 22 rfl w3.heap.size 3 i0 intsU hi0 hz hs1 hs8 _ 0 [] rfl (by exact ownsRow_lit w3 3 [] w3.heap.size (Nat.le_refl _) (by simp)) w3.heap.size _ (zs.take i) rfl (by exact (k3.take i (by rw [hzH.out]; omega)).below ((Below.refl _ w3).alloc (Nat.le_refl _) _) (Nat.le_refl _)) (by have := hzH.out; simp; omega) (by simp) ?_; intro v7 w7 hown7 hg7 _; have hB7 : Below w3.heap.size w3 w7 := below_grown ((Below.refl _ w3).alloc (Nat.le_refl _) _) (by exact ownsRow_lit w3 3 [] w3.heap.size (Nat.le_refl _) (by simp)) hg7 (Nat.le_refl _) (by simp))
        | (at_builtin; refine wpList_append_ints rfl _ _ 22 rfl w3.heap.size 3 i0 intsU hi0 hz hs1 hs8 _ _ _ rfl (hown7.alloc _) _ _ [769] rfl (by exact lit_at w7 [769] 3 (isI_of rfl) (by simp)) (by have := hzH.out; simp; omega) (by have := hB7.size; simp; omega) ?_; intro v8 w8 hown8 hg8 _; have hB8 : Below w3.heap.size w3 w8 := below_grown (hB7.alloc hB7.size _) (hown7.alloc _) hg8 (Nat.le_refl _) (by have := hB7.size; simp; omega); clear hown7 hg7 hB7)
        | (at_builtin; refine wpList_append_ints rfl _ _ 22 rfl w3.heap.size 3 i0 intsU hi0 hz hs1 hs8 _ _ _ rfl hown8 w3.heap.size (.slice (some ⟨b, off + i, none⟩) (n0 - i) _) (zs.drop i) rfl (by exact (k3.drop i (by rw [hzH.out]; omega) _ (fun h => rfl) _ _ (by rw [hzH.out]) (by omega) (by omega)).below hB8 (Nat.le_refl _)) (by have := hzH.out; simp; omega) hB8.size ?_; intro v9 w9 hown9 hg9 _; have hB9 : Below w3.heap.size w3 w9 := below_grown hB8 hown8 hg9 (Nat.le_refl _) hB8.size; have hB9' := hB3.trans (hB9.mono hB3.size); have hm9 := IntsAt.of_own hown9 (fun z hz => by simp at hz; rcases hz with g | g | g; (· exact k3.rng z (List.mem_of_mem_take g)); (· omega); (· exact k3.rng z (List.mem_of_mem_drop g))); clear hown8 hg8 hB8 hown9 hg9)
        | (go_at_call 28; have k2 := h2; clear h2; refine (wall_at w9 D _ zs (by rw [hzH.out]; omega) (by exact (hs.below hB9' (Nat.le_refl _)).mono hB9'.size) (by exact (k2.below hB9' (Nat.le_refl _)).mono hB9'.size)).mono ?_; rw [← hAH.out]; rintro e w10 ⟨u, rfl, hu, hb10⟩; have hB10 := hB9'.trans (hb10.mono hB9'.size); have hm10 := (hm9.below hb10 (Nat.le_refl _)).mono hb10.size; obtain ⟨au, cu, rfl⟩ := hu.form; obtain ⟨bu, ou, rfl, -, -⟩ := hu.at_ (i := 0) (by omega) (by omega); clear hm9))
      obtain ⟨m, hm⟩ : ∃ m, m = pA.length := ⟨_, rfl⟩
      rw [← hm]
      have hmH := Lib.hid hm
      have hms : m ≤ 151 := by omega
      have hs10 := (hs.below hB10 (Nat.le_refl _)).mono hB10.size
      have hW10 := hW.trans (hB10.mono hWs)
      have hW10s := hW10.size
      clear hm hpos hps hB9 hB9' hb10 hs hW hB10 h0 hL hB3 k3 k2 p2
      go_loopw [9, 11] (fun v vi wr => ∃ k : Nat, k ≤ m ∧ vi = .int .i64 k ∧ wr.ownsRow w10.heap.size 3 1 v k (ints (wantM i pA k)) ∧ Below w10.heap.size w10 wr) (fun _ vi _ => m - (intOf vi).toNat)
      case atStart => exact ⟨0, by omega, rfl, World.ownsRow_nil _ _ _ _, Below.refl _ _⟩
      case round =>
        obtain ⟨k, hk, rfl, hrow, hb⟩ := hrel
        have hbs := hb.size
        by_cases hlt : k < m
        · have hlt1 : (k : Int) < m := by omega
          obtain ⟨p, hp⟩ : ∃ p, pA[k]? = some p := ⟨_, List.getElem?_eq_getElem (by rw [← hmH.out]; exact hlt)⟩
          have cp : wr.cell? ⟨bu, ou + k, none⟩ = some (.int .i64 p) := (hu.below hb (Nat.le_refl _)).cell hp
          obtain ⟨p0, p1⟩ := hrA.out p (List.mem_of_getElem? hp)
          have hsu := wantM_succ (at' := (i : Int)) hp
          have hkH : Hid (k ≤ 151) := by show k ≤ 151; omega
          by_cases hge : (i : Int) ≤ p
          · rw [if_pos hge] at hsu
            have hsuH := Lib.hid hsu
            clear hsu hp
            go_wp2_with (at_builtin; refine wpList_append_ints rfl _ _ 22 rfl w10.heap.size 3 i0 intsU hi0 hz hs1 hs8 _ _ _ rfl (hrow.alloc _) _ _ [p + 1] rfl (by exact lit_at wr [p + 1] 3 (fun z hz => by simp at hz; omega) (by simp)) (by have := hkH.out; simp; omega) (by simp; omega) ?_; intro v11 w11 hown11 hg11 _)
            go_roundw
            case rel => exact ⟨k + 1, by omega, by go_num, by rw [hsuH.out]; exact hown11, below_grown (hb.alloc hbs _) (hrow.alloc _) hg11 (Nat.le_refl _) (by simp; omega)⟩
            case measure => simp [intOf]; omega
          · rw [if_neg hge] at hsu
            have hsuH := Lib.hid hsu
            have hge' : p < i := by omega
            clear hsu hp hge
            go_wp2_with (at_builtin; refine wpList_append_ints rfl _ _ 22 rfl w10.heap.size 3 i0 intsU hi0 hz hs1 hs8 _ _ _ rfl (hrow.alloc _) _ _ [p] rfl (by exact lit_at wr [p] 3 (fun z hz => by simp at hz; omega) (by simp)) (by have := hkH.out; simp; omega) (by simp; omega) ?_; intro v11 w11 hown11 hg11 _)
            go_roundw
            case rel => exact ⟨k + 1, by omega, by go_num, by rw [hsuH.out]; exact hown11, below_grown (hb.alloc hbs _) (hrow.alloc _) hg11 (Nat.le_refl _) (by simp; omega)⟩
            case measure => simp [intOf]; omega
        · obtain rfl : k = m := by omega
          have hwi := IntsAt.of_own hrow (fun z hz => by
            obtain ⟨y, hy, rfl⟩ := List.mem_map.1 hz
            have := hrA.out y (List.mem_of_mem_take hy)
            split <;> omega)
          have hmr := (hm10.below hb (Nat.le_refl _)).mono hbs
          have hsr := (hs10.below hb (Nat.le_refl _)).mono hbs
          have hWr := hW10.trans (hb.mono hW10s)
          have hWrs := hWr.size
          have hfin2 : Hid (plI wf (sgW ([] ++ zs.take i ++ [769] ++ zs.drop i)) = wantM i pA k) := by rw [hmH.out]; exact hfinH.out
          have hlt1 : (k : Int) ≤ k := by omega
          clear hlt hk hm10 hs10 hW10 hb hrow hfinH
          go_wp2_with (first
            | (go_at_call 28; refine (wall_at wr D _ ([] ++ zs.take i ++ [769] ++ zs.drop i) (by have := hzH.out; simp; omega) (by exact hsr) (by exact hmr)).mono ?_; rw [hfin2.out]; rintro e w12 ⟨u12, rfl, hu12, hb12⟩)
            | (go_at_call 27; refine (sameInts_any _ _ (wantM i pA k) _ _ (by exact hu12) (by exact (hwi.below hb12 (Nat.le_refl _)).mono hb12.size)).mono ?_; rintro e w13 ⟨rfl, n13, rfl⟩))
          go_ret
          exact ⟨rfl, below_drewN (hWr.trans (hb12.mono hWrs)) _⟩

theorem wordsMarks_walk (a0 : Option Addr) (n0 c0 : Nat) (z0 : List Int) {w : World} (h0 : IsRow .i64 w a0 n0 c0 z0) (i : Int) (_hi : -9223372036854775808 ≤ i ∧ i ≤ 9223372036854775807) (hL : LaidS w) :
    Calls Tryd.prog 22 #[.slice a0 n0 c0, .int .i64 i] w fun e w' => e = .returned (.bool true) ∧ Below w.heap.size w w' := by
  by_cases h : n0 = 0 ∨ (0 < n0 ∧ 150 < n0) ∨ (0 < n0 ∧ n0 ≤ 150 ∧ i < 1) ∨ (0 < n0 ∧ n0 ≤ 150 ∧ 1 ≤ i ∧ (n0 : Int) < i)
  · exact marks_early a0 n0 c0 i h hL
  · have k0 := intsAt_of h0
    obtain ⟨b, off, rfl, _⟩ := k0.at_ (i := 0) (by omega) (by have := k0.len.1; omega)
    obtain ⟨j, rfl⟩ : ∃ j : Nat, i = j := ⟨i.toNat, by omega⟩
    exact marks_good b off n0 c0 j _ hL k0 (by omega) (by omega) (by omega)
end Go.Proofs.YtpaijpdmeiagfaaDoor
