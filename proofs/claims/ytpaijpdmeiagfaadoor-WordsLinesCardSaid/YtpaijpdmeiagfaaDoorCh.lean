/- ClusterParts: the walk. -/
import Derived.Test.YtpaijpdmeiagfaaDoorCg
import Derived.Deep.LoopGhost
set_option linter.unusedVariables false
set_option linter.unusedSimpArgs false
namespace Go.Proofs.Tx
variable {f : List Sg → Sg → List Sg → Bool} {t : List Sg}
theorem plI_at {k : Nat} {x : Nat} (h : (placesOf f t)[k]? = some x) : (plI f t)[k]? = some (x : Int) := by
  unfold plI; rw [List.getElem?_map, h]; rfl
theorem plI_length : (plI f t).length = (placesOf f t).length := by simp [plI]
theorem parts_yes {j : Nat} (hj : j ≤ t.length) (h : brkAt f t j = true) : (plI f t)[cnt f t j]? = some (j : Int) := plI_at (places_at hj h)
theorem parts_no {j : Nat} (hj : j ≤ t.length) (h : brkAt f t j = false) : ∃ z, (plI f t)[cnt f t j]? = some z ∧ z ≠ (j : Int) := by
  have hl := (cnt_le (f := f) hj).1
  refine ⟨((placesOf f t)[cnt f t j] : Nat), plI_at (List.getElem?_eq_getElem hl), fun e => ?_⟩
  have := places_not (k := cnt f t j) h
  rw [List.getElem?_eq_getElem hl] at this
  exact this (by congr 1; omega)
theorem parts_from {j : Nat} {a b : Int} (hj : j ≤ t.length) (h : AtOk f t j a b) : (plI f t)[cnt f t (j + 1) - 1]? = some a := by
  unfold AtOk at h
  rw [if_neg (by omega)] at h
  split at h
  · rename_i e
    have ej : j = t.length := by omega
    have hb : brkAt f t j = true := by rw [ej]; exact brkAt_end t
    rw [h.1, cnt_succ, hb]
    exact plI_at (places_at hj hb)
  · obtain ⟨x, y, rfl, rfl, h1, h2, h3⟩ := h
    have := h1.place (by omega)
    rw [Int.toNat_natCast] at this
    exact plI_at this
theorem parts_to {j : Nat} {a b : Int} (hj : j < t.length) (h : AtOk f t j a b) : (plI f t)[cnt f t (j + 1)]? = some b := by
  unfold AtOk at h
  rw [if_neg (by omega), if_neg (by omega)] at h
  obtain ⟨x, y, rfl, rfl, h1, h2, h3⟩ := h
  have := h2.place h3
  rw [Int.toNat_natCast] at this
  exact plI_at this
theorem parts_end {j : Nat} {a b : Int} (hj : j = t.length) (h : AtOk f t j a b) : b = j := by
  unfold AtOk at h
  rw [if_neg (by omega), if_pos (by omega)] at h
  exact h.2
theorem cnt_pos {j : Nat} : 1 ≤ cnt f t (j + 1) := by
  induction j with
  | zero => rw [cnt_succ, brkAt_zero]; simp
  | succ j ih => rw [cnt_succ]; omega
theorem plI_first : (plI f t)[0]? = some 0 := plI_at placesOf_head
theorem plI_last : (plI f t)[(plI f t).length - 1]? = some (t.length : Int) := by
  rw [plI_length]
  apply plI_at
  rw [← List.getLast?_eq_getElem?]
  exact placesOf_last
theorem plI_pos : 0 < (plI f t).length := by
  have := plI_first (f := f) (t := t)
  exact (List.getElem?_eq_some_iff.1 this).1
end Go.Proofs.Tx
namespace Go.Proofs.YtpaijpdmeiagfaaDoor
open Go Go.RowKit Go.WideMaps Go.Proofs.Kk Go.Proofs.Tm Go.Proofs.Gg Go.Proofs.Tx

set_option maxRecDepth 100000 in
set_option maxHeartbeats 2000000 in
theorem parts_early (a0 : Option Addr) (n0 c0 : Nat) (h : 200 < n0) {w : World} (hL : LaidS w) :
    Calls Tryd.prog 18 #[.slice a0 n0 c0] w fun e w' => e = .returned (.bool true) ∧ Below w.heap.size w w' := by
  have h1 : (200 : Int) < n0 := by omega
  go_enter Tryd.func18, Tryd.ntmps18
  go_wp2_with (first
    | (go_at_call 43; refine (awake5_any _ hL).mono ?_; rintro e w1 ⟨rfl, hb1⟩)
    | (go_at_call 25; refine (new_ship _ (hL.below hb1 hL.1)).mono ?_; rintro e w2 ⟨D, rfl, hs, hb⟩))
  go_ret
  exact ⟨rfl, hb1.trans (hb.mono hb1.size)⟩

set_option maxRecDepth 100000 in
set_option maxHeartbeats 8000000 in
theorem parts_good (a0 : Option Addr) (n0 c0 : Nat) (zs : List Int) {w : World} (hL : LaidS w) (h0 : IntsAt w w.heap.size (.slice a0 n0 c0) zs) (g0 : n0 ≤ 200) :
    Calls Tryd.prog 18 #[.slice a0 n0 c0] w fun e w' => e = .returned (.bool true) ∧ Below w.heap.size w w' := by
  obtain ⟨hz0, hc0, hc0', _⟩ := h0.len
  have f0 : (n0 : Int) ≤ 200 := by omega
  obtain ⟨ps, hps⟩ : ∃ ps, ps = plI cf (sgC zs) := ⟨_, rfl⟩
  have hfst := plI_first (f := cf) (t := sgC zs)
  have hlst := plI_last (f := cf) (t := sgC zs)
  have hpos := plI_pos (f := cf) (t := sgC zs)
  have hplen := plI_len cf (sgC zs)
  rw [sgC_length, hz0] at hlst hplen
  rw [← hps] at hfst hlst hpos hplen
  have hpsH := Lib.hid hps
  have hzH : Hid (zs.length = n0) := hz0
  obtain ⟨m, hm⟩ : ∃ m, m = ps.length := ⟨_, rfl⟩
  rw [← hm] at hlst hpos hplen
  have hmH := Lib.hid hm
  have hm1 : m ≤ 1000 := by omega
  have hm0 : ((m : Int) == 0) = false := by simp; omega
  have fH := Lib.hid hfst
  have lH := Lib.hid hlst
  clear hfst hlst hps hz0 hm
  go_enter Tryd.func18, Tryd.ntmps18
  go_wp2_with (first
    | (go_at_call 43; refine (awake5_any _ hL).mono ?_; rintro e w1 ⟨rfl, hb1⟩)
    | (go_at_call 25; refine (new_ship _ (hL.below hb1 hL.1)).mono ?_; rintro e w2 ⟨D, rfl, hs, hb⟩; have hW := hb1.trans (hb.mono hb1.size); have hWs := hW.size; have h2 := (h0.below hW (Nat.le_refl _)).mono hWs; clear hb hb1)
    | (go_at_call 44; refine (call_at _ D _ zs (by rw [hzH.out]; omega) (by exact hs) (by exact h2)).mono ?_; rw [← hpsH.out]; rintro e w3 ⟨u, rfl, hu, hb3⟩; have hs3 := hb3.size; obtain ⟨ao, c, rfl⟩ := hu.form; rw [← hmH.out] at hu ⊢; obtain ⟨b, off, rfl, -, -⟩ := hu.at_ (i := 0) (by omega) (by rw [← hmH.out]; omega); have cf0 : w3.cell? ⟨b, off, none⟩ = some (.int .i64 0) := hu.cell fH.out; have cl0 := hu.cell lH.out))
  clear cf0 cl0
  have hW3 := hW.trans (hb3.mono hWs)
  have hs3' := (hs.below hb3 (Nat.le_refl _)).mono hs3
  have h3 := (h2.below hb3 (Nat.le_refl _)).mono hs3
  have hW3s := hW3.size
  clear hW hb3 hs h2 hWs hs3 h0 hL
  go_loopg [6, 7] (n0 + 1) (fun g k i wr => ∃ j : Nat, j + g = n0 + 1 ∧ i = .int .i64 j ∧ k = .int .i64 (cnt cf (sgC zs) j : Nat) ∧ Below w3.heap.size w3 wr)
  case atStart => exact ⟨0, by omega, rfl, rfl, Below.refl _ _⟩
  case round =>
    obtain ⟨j, hj, rfl, rfl, hb⟩ := hrel
    have hjg : j ≤ n0 + 1 := by omega
    have hbs := hb.size
    have hsr := (hs3'.below hb (Nat.le_refl _)).mono hbs
    have htr := (h3.below hb (Nat.le_refl _)).mono hbs
    have hur := hu.below hb (Nat.le_refl _)
    have hl : (sgC zs).length = n0 := by rw [sgC_length]; exact hzH.out
    have hml : Hid (m = (placesOf cf (sgC zs)).length) := by show _ = _; rw [hmH.out, hpsH.out, plI_length]
    have hpH : Hid (plI cf (sgC zs) = ps) := hpsH.out.symm
    by_cases hjn : j ≤ n0
    · have hkm := (cnt_le (f := cf) (t := sgC zs) (i := j) (by omega)).1
      rw [← hml.out] at hkm
      have hcs := cnt_succ (f := cf) (sgC zs) j
      have hcp := cnt_pos (f := cf) (t := sgC zs) (j := j)
      have hfrom : Hid (∀ a b, AtOk cf (sgC zs) j a b → ps[cnt cf (sgC zs) (j + 1) - 1]? = some a) := fun a b h => by rw [← hpH.out]; exact parts_from (by omega) h
      have hto : Hid (∀ a b, j < n0 → AtOk cf (sgC zs) j a b → ps[cnt cf (sgC zs) (j + 1)]? = some b) := fun a b hh h => by rw [← hpH.out]; exact parts_to (by omega) h
      have hend : Hid (∀ a b, j = n0 → AtOk cf (sgC zs) j a b → b = j) := fun a b hh h => parts_end (by omega) h
      have hbr := cbreak_any wr _ D _ zs j hsr htr
      rw [brkI_nat (by omega)] at hbr
      have hyes : Hid (brkAt cf (sgC zs) j = true → ps[cnt cf (sgC zs) j]? = some (j : Int)) := fun h => by rw [← hpH.out]; exact parts_yes (by omega) h
      have hno : Hid (brkAt cf (sgC zs) j = false → ∃ z, ps[cnt cf (sgC zs) j]? = some z ∧ z ≠ (j : Int)) := fun h => by rw [← hpH.out]; exact parts_no (by omega) h
      obtain ⟨k, hk⟩ : ∃ k, k = cnt cf (sgC zs) j := ⟨_, rfl⟩
      obtain ⟨k2, hk2⟩ : ∃ k, k = cnt cf (sgC zs) (j + 1) := ⟨_, rfl⟩
      rw [← hk] at hkm hcs hyes hno ⊢
      rw [← hk2] at hcs hcp hfrom hto
      have hjn1 : (j : Int) ≤ n0 := by omega
      have hkm1 : (k : Int) < m := by omega
      have hk0 : (0 : Int) ≤ k := by omega
      have hk2H : Hid (k2 = cnt cf (sgC zs) (j + 1)) := hk2
      have hbrH := Lib.hid hbr
      have hendn : Hid (j = n0 → brkAt cf (sgC zs) j = true) := fun e => by rw [e, ← hl]; exact brkAt_end _
      clear hk hk2 hbr
      cases hbv : brkAt cf (sgC zs) j with
      | true =>
        rw [hbv] at hcs hbrH
        simp only [if_true] at hcs
        have c1 : wr.cell? ⟨b, off + k, none⟩ = some (.int .i64 j) := hur.cell (hyes.out hbv)
        subst hcs
        rcases Nat.lt_or_ge j n0 with hlt | hge
        · have hlt1 : (j : Int) < n0 := by omega
          have hjne : ((j : Int) == (n0 : Int)) = false := by simp; omega
          clear hno hyes hbv hend hendn hcp
          go_wp2_with (first
            | (go_at_call 46; refine hbrH.out.mono ?_; clear hbrH; rintro e w4 ⟨rfl, n4, rfl⟩)
            | (go_at_call 47; refine (cat_any (wr.drewN n4) D _ zs (by rw [hzH.out]; omega) j (by exact hsr.heap rfl) (by exact htr.heap rfl)).mono ?_; rintro e w5 ⟨a, b', rfl, hok, hb5⟩; have c2 : w5.cell? ⟨b, off + k, none⟩ = some (.int .i64 a) := ((hur.heap (w' := wr.drewN n4) rfl).below hb5 hbs).cell (hfrom.out a b' hok); have hk9 : (k : Int) + 1 < m := (by have := (List.getElem?_eq_some_iff.1 (hto.out a b' hlt hok)).1; rw [← hmH.out] at this; omega); have c3 : w5.cell? ⟨b, off + (k + 1), none⟩ = some (.int .i64 b') := ((hur.heap (w' := wr.drewN n4) rfl).below hb5 hbs).cell (hto.out a b' hlt hok)))
          go_roundg (gk - 1)
          case rel =>
            refine ⟨j + 1, ?_, ?_, ?_, (below_drewN hb n4).trans (hb5.mono hbs)⟩
            · omega
            · go_num
            · first | (rw [← hk2H.out]; done) | (rw [← hk2H.out]; first | rfl | go_num)
          case measure => omega
        · obtain rfl : j = n0 := by omega
          clear hno hyes hbv hendn hcp hto
          go_wp2_with (first
            | (go_at_call 46; refine hbrH.out.mono ?_; clear hbrH; rintro e w4 ⟨rfl, n4, rfl⟩)
            | (go_at_call 47; refine (cat_any (wr.drewN n4) D _ zs (by rw [hzH.out]; omega) j (by exact hsr.heap rfl) (by exact htr.heap rfl)).mono ?_; rintro e w5 ⟨a, b', rfl, hok, hb5⟩; have c2 : w5.cell? ⟨b, off + k, none⟩ = some (.int .i64 a) := ((hur.heap (w' := wr.drewN n4) rfl).below hb5 hbs).cell (hfrom.out a b' hok); obtain rfl := hend.out a b' trivial hok))
          go_roundg (gk - 1)
          case rel =>
            refine ⟨j + 1, ?_, ?_, ?_, (below_drewN hb n4).trans (hb5.mono hbs)⟩
            · omega
            · go_num
            · first | (rw [← hk2H.out]; done) | (rw [← hk2H.out]; first | rfl | go_num)
          case measure => omega
      | false =>
        rw [hbv] at hcs hbrH
        simp only [Bool.false_eq_true, if_false, Nat.add_zero] at hcs
        obtain rfl : k = k2 := hcs.symm
        have hlt : j < n0 := by
          rcases Nat.lt_or_ge j n0 with h | h
          · exact h
          · have := hendn.out (by omega)
            rw [hbv] at this; cases this
        obtain ⟨z, hz, hzn⟩ := hno.out hbv
        have c1 : wr.cell? ⟨b, off + k, none⟩ = some (.int .i64 z) := hur.cell hz
        have hzn1 : (z == (j : Int)) = false := by simpa using hzn
        have hlt1 : (j : Int) < n0 := by omega
        have hjne : ((j : Int) == (n0 : Int)) = false := by simp; omega
        have hkp : (1 : Int) ≤ k := by omega
        clear hno hyes hbv hend hendn hcp hz hzn
        go_wp2_with (first
          | (go_at_call 46; refine hbrH.out.mono ?_; clear hbrH; rintro e w4 ⟨rfl, n4, rfl⟩)
          | (go_at_call 47; refine (cat_any (wr.drewN n4) D _ zs (by rw [hzH.out]; omega) j (by exact hsr.heap rfl) (by exact htr.heap rfl)).mono ?_; rintro e w5 ⟨a, b', rfl, hok, hb5⟩; have c2 : w5.cell? ⟨b, off + (k - 1), none⟩ = some (.int .i64 a) := ((hur.heap (w' := wr.drewN n4) rfl).below hb5 hbs).cell (hfrom.out a b' hok); have c3 : w5.cell? ⟨b, off + k, none⟩ = some (.int .i64 b') := ((hur.heap (w' := wr.drewN n4) rfl).below hb5 hbs).cell (hto.out a b' hlt hok)))
        go_roundg (gk - 1)
        case rel =>
          refine ⟨j + 1, ?_, ?_, ?_, (below_drewN hb n4).trans (hb5.mono hbs)⟩
          · omega
          · go_num
          · first | (rw [← hk2H.out]; done) | (rw [← hk2H.out]; first | rfl | go_num)
        case measure => omega
    · obtain rfl : j = n0 + 1 := by omega
      have hall := cnt_all (f := cf) (sgC zs)
      rw [hl, ← hml.out] at hall
      rw [hall]
      have hallH := Lib.hid hall
      clear hall hl hj hjn
      go_wp2
      go_ret
      exact ⟨rfl, hW3.trans (hb.mono hW3s)⟩

theorem clusterParts_walk (a0 : Option Addr) (n0 c0 : Nat) (z0 : List Int) {w : World} (h0 : IsRow .i64 w a0 n0 c0 z0) (hL : LaidS w) :
    Calls Tryd.prog 18 #[.slice a0 n0 c0] w fun e w' => e = .returned (.bool true) ∧ Below w.heap.size w w' := by
  by_cases h : 200 < n0
  · exact parts_early a0 n0 c0 h hL
  · exact parts_good a0 n0 c0 _ hL (intsAt_of h0) (by omega)
end Go.Proofs.YtpaijpdmeiagfaaDoor
