/- WordsParts: the walk. -/
import Derived.Test.YtpaijpdmeiagfaaDoorWm
import Derived.Test.YtpaijpdmeiagfaaDoorCh
import Derived.Deep.LoopGhost
set_option linter.unusedVariables false
set_option linter.unusedSimpArgs false
namespace Go.Proofs.YtpaijpdmeiagfaaDoor
open Go Go.RowKit Go.WideMaps Go.Proofs.Kk Go.Proofs.Tm Go.Proofs.Gg Go.Proofs.Tx

set_option maxRecDepth 100000 in
set_option maxHeartbeats 2000000 in
theorem wparts_early (a0 : Option Addr) (n0 c0 : Nat) (h : 200 < n0) {w : World} (hL : LaidS w) :
    Calls Tryd.prog 21 #[.slice a0 n0 c0] w fun e w' => e = .returned (.bool true) ∧ Below w.heap.size w w' := by
  have h1 : (200 : Int) < n0 := by omega
  go_enter Tryd.func21, Tryd.ntmps21
  go_wp2_with (first
    | (go_at_call 24; refine (awake6_any _ hL).mono ?_; rintro e w1 ⟨rfl, hb1⟩)
    | (go_at_call 25; refine (new_ship _ (hL.below hb1 hL.1)).mono ?_; rintro e w2 ⟨D, rfl, hs, hb⟩))
  go_ret
  exact ⟨rfl, hb1.trans (hb.mono hb1.size)⟩

set_option maxRecDepth 100000 in
set_option maxHeartbeats 8000000 in
theorem wparts_good (a0 : Option Addr) (n0 c0 : Nat) (zs : List Int) {w : World} (hL : LaidS w) (h0 : IntsAt w w.heap.size (.slice a0 n0 c0) zs) (g0 : n0 ≤ 200) :
    Calls Tryd.prog 21 #[.slice a0 n0 c0] w fun e w' => e = .returned (.bool true) ∧ Below w.heap.size w w' := by
  obtain ⟨hz0, hc0, hc0', _⟩ := h0.len
  have f0 : (n0 : Int) ≤ 200 := by omega
  obtain ⟨ps, hps⟩ : ∃ ps, ps = plI wf (sgW zs) := ⟨_, rfl⟩
  have hfst := plI_first (f := wf) (t := sgW zs)
  have hlst := plI_last (f := wf) (t := sgW zs)
  have hpos := plI_pos (f := wf) (t := sgW zs)
  have hplen := plI_len wf (sgW zs)
  rw [sgW_length, hz0] at hlst hplen
  rw [← hps] at hfst hlst hpos hplen
  have hpsH := Lib.hid hps
  have hzH : Hid (zs.length = n0) := hz0
  obtain ⟨m, hm⟩ : ∃ m, m = ps.length := ⟨_, rfl⟩
  rw [← hm] at hlst hpos hplen
  have hmH := Lib.hid hm
  have hm1 : m ≤ 1000 := by omega
  have hm0 : ((m : Int) == 0) = false := by simp; omega
  have fH := Lib.hid hfst
  have lH := Lib.hid hlst
  clear hfst hlst hps hz0 hm
  go_enter Tryd.func21, Tryd.ntmps21
  go_wp2_with (first
    | (go_at_call 24; refine (awake6_any _ hL).mono ?_; rintro e w1 ⟨rfl, hb1⟩)
    | (go_at_call 25; refine (new_ship _ (hL.below hb1 hL.1)).mono ?_; rintro e w2 ⟨D, rfl, hs, hb⟩; have hW := hb1.trans (hb.mono hb1.size); have hWs := hW.size; have h2 := (h0.below hW (Nat.le_refl _)).mono hWs; clear hb hb1)
    | (go_at_call 28; refine (wall_at _ D _ zs (by rw [hzH.out]; omega) (by exact hs) (by exact h2)).mono ?_; rw [← hpsH.out]; rintro e w3 ⟨u, rfl, hu, hb3⟩; have hs3 := hb3.size; obtain ⟨ao, c, rfl⟩ := hu.form; rw [← hmH.out] at hu ⊢; obtain ⟨b, off, rfl, -, -⟩ := hu.at_ (i := 0) (by omega) (by rw [← hmH.out]; omega); have cf0 : w3.cell? ⟨b, off, none⟩ = some (.int .i64 0) := hu.cell fH.out; have cl0 := hu.cell lH.out))
  clear cf0 cl0
  have hW3 := hW.trans (hb3.mono hWs)
  have hs3' := (hs.below hb3 (Nat.le_refl _)).mono hs3
  have h3 := (h2.below hb3 (Nat.le_refl _)).mono hs3
  have hW3s := hW3.size
  clear hW hb3 hs h2 hWs hs3 h0 hL
  go_loopg [6, 7] (n0 + 1) (fun g k i wr => ∃ j : Nat, j + g = n0 + 1 ∧ i = .int .i64 j ∧ k = .int .i64 (cnt wf (sgW zs) j : Nat) ∧ Below w3.heap.size w3 wr)
  case atStart => exact ⟨0, by omega, rfl, rfl, Below.refl _ _⟩
  case round =>
    obtain ⟨j, hj, rfl, rfl, hb⟩ := hrel
    have hjg : j ≤ n0 + 1 := by omega
    have hbs := hb.size
    have hsr := (hs3'.below hb (Nat.le_refl _)).mono hbs
    have htr := (h3.below hb (Nat.le_refl _)).mono hbs
    have hur := hu.below hb (Nat.le_refl _)
    have hl : (sgW zs).length = n0 := by rw [sgW_length]; exact hzH.out
    have hml : Hid (m = (placesOf wf (sgW zs)).length) := by show _ = _; rw [hmH.out, hpsH.out, plI_length]
    have hpH : Hid (plI wf (sgW zs) = ps) := hpsH.out.symm
    by_cases hjn : j ≤ n0
    · have hkm := (cnt_le (f := wf) (t := sgW zs) (i := j) (by omega)).1
      rw [← hml.out] at hkm
      have hcs := cnt_succ (f := wf) (sgW zs) j
      have hcp := cnt_pos (f := wf) (t := sgW zs) (j := j)
      have hbr := wbreak_any wr D _ zs (by rw [hzH.out]; omega) j hsr htr
      rw [brkI_nat (by omega)] at hbr
      have hyes : Hid (brkAt wf (sgW zs) j = true → ps[cnt wf (sgW zs) j]? = some (j : Int)) := fun h => by rw [← hpH.out]; exact parts_yes (by omega) h
      have hno : Hid (brkAt wf (sgW zs) j = false → ∃ z, ps[cnt wf (sgW zs) j]? = some z ∧ z ≠ (j : Int)) := fun h => by rw [← hpH.out]; exact parts_no (by omega) h
      obtain ⟨k, hk⟩ : ∃ k, k = cnt wf (sgW zs) j := ⟨_, rfl⟩
      obtain ⟨k2, hk2⟩ : ∃ k, k = cnt wf (sgW zs) (j + 1) := ⟨_, rfl⟩
      rw [← hk] at hkm hcs hyes hno ⊢
      rw [← hk2] at hcs hcp
      have hjn1 : (j : Int) ≤ n0 := by omega
      have hkm1 : (k : Int) < m := by omega
      have hk0 : (0 : Int) ≤ k := by omega
      have hk2H : Hid (k2 = cnt wf (sgW zs) (j + 1)) := hk2
      have hbrH := Lib.hid hbr
      have hendn : Hid (j = n0 → brkAt wf (sgW zs) j = true) := fun e => by rw [e, ← hl]; exact brkAt_end _
      clear hk hk2 hbr
      cases hbv : brkAt wf (sgW zs) j with
      | true =>
        rw [hbv] at hcs hbrH
        simp only [if_true] at hcs
        have c0 := fun w4 (h : Below wr.heap.size wr w4) => (hur.below h hbs).cell (hyes.out hbv)
        have c0H := Lib.hid c0
        subst hcs
        clear hno hyes hbv hendn hcp c0
        go_wp2_with (go_at_call 51; refine hbrH.out.mono ?_; clear hbrH; rintro e w4 ⟨rfl, hb4⟩; have c1 : w4.cell? ⟨b, off + k, none⟩ = some (.int .i64 j) := c0H.out _ hb4)
        go_roundg (gk - 1)
        case rel =>
          refine ⟨j + 1, ?_, ?_, ?_, hb.trans (hb4.mono hbs)⟩
          · omega
          · go_num
          · first | (rw [← hk2H.out]; done) | (rw [← hk2H.out]; first | rfl | go_num)
        case measure => omega
      | false =>
        rw [hbv] at hcs hbrH
        simp only [Bool.false_eq_true, if_false, Nat.add_zero] at hcs
        obtain rfl : k = k2 := hcs.symm
        obtain ⟨z, hz, hzn⟩ := hno.out hbv
        have c0 := fun w4 (h : Below wr.heap.size wr w4) => (hur.below h hbs).cell hz
        have c0H := Lib.hid c0
        have hzn1 : (z == (j : Int)) = false := by simpa using hzn
        clear hno hyes hbv hendn hcp hz hzn c0
        go_wp2_with (go_at_call 51; refine hbrH.out.mono ?_; clear hbrH; rintro e w4 ⟨rfl, hb4⟩; have c1 : w4.cell? ⟨b, off + k, none⟩ = some (.int .i64 z) := c0H.out _ hb4)
        go_roundg (gk - 1)
        case rel =>
          refine ⟨j + 1, ?_, ?_, ?_, hb.trans (hb4.mono hbs)⟩
          · omega
          · go_num
          · first | (rw [← hk2H.out]; done) | (rw [← hk2H.out]; first | rfl | go_num)
        case measure => omega
    · obtain rfl : j = n0 + 1 := by omega
      have hall := cnt_all (f := wf) (sgW zs)
      rw [hl, ← hml.out] at hall
      rw [hall]
      have hallH := Lib.hid hall
      clear hall hl hj hjn
      go_wp2
      go_ret
      exact ⟨rfl, hW3.trans (hb.mono hW3s)⟩

theorem wordsParts_walk (a0 : Option Addr) (n0 c0 : Nat) (z0 : List Int) {w : World} (h0 : IsRow .i64 w a0 n0 c0 z0) (hL : LaidS w) :
    Calls Tryd.prog 21 #[.slice a0 n0 c0] w fun e w' => e = .returned (.bool true) ∧ Below w.heap.size w w' := by
  by_cases h : 200 < n0
  · exact wparts_early a0 n0 c0 h hL
  · exact wparts_good a0 n0 c0 _ hL (intsAt_of h0) (by omega)
end Go.Proofs.YtpaijpdmeiagfaaDoor
