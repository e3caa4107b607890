/- The document's data: Load. -/
import Derived.Test.YtpaijpdmeiagfaaDoorGc
import Derived.Test.YtpaijpdmeiagfaaDoorVg
set_option linter.unusedVariables false
set_option linter.unusedSimpArgs false
namespace Go.Proofs.YtpaijpdmeiagfaaDoor
open Go Go.RowKit Go.WideMaps Go.Proofs.Kk Go.Proofs.Tm Go.Proofs.Gg

def RDLoadPost (w : World) (b : List Int) (e : Ending) (w' : World) : Prop :=
  ((∃ Ts D, dload 4 b = some Ts ∧ e = .returned (.tuple #[.pointer (some ⟨D, 0, none⟩), .int .i64 0]) ∧ RDataAt w' w'.heap.size D Ts) ∨ (dload 4 b = none ∧ e = .returned (.tuple #[.pointer none, .int .i64 2]))) ∧ Below w.heap.size w w'

set_option maxRecDepth 100000 in
set_option maxHeartbeats 8000000 in
theorem rdload_walk (ao : Option Addr) (c n : Nat) (b : List Int) (hn : b.length = n) (w : World) (hB : 4 ≤ n → BytesAt w w.heap.size (.slice ao n c) b) (hb : IsB b) :
    Calls Tryd.prog 38 #[.slice ao n c] w (RDLoadPost w b) := by
  have hst := RPart.start w
  have hbs : Below w.heap.size w (w.alloc (.cells #[.pointer none, .pointer none, .pointer none, .pointer none] 74)) := (Below.refl _ w).alloc (Nat.le_refl _) _
  have hsz : (w.alloc (.cells #[.pointer none, .pointer none, .pointer none, .pointer none] 74)).heap.size = w.heap.size + 1 := by simp
  have hbH := Lib.hid hb
  have hBH := Lib.hid hB
  have hnH := Lib.hid hn
  clear hb hB hn
  go_enter Tryd.func38, Tryd.ntmps38
  go_wp2
  generalize w.alloc (.cells #[.pointer none, .pointer none, .pointer none, .pointer none] 74) = W0 at hst hbs hsz ⊢
  obtain ⟨D, hD⟩ : ∃ D, D = w.heap.size := ⟨_, rfl⟩
  rw [← hD] at hst hsz ⊢
  have hDH := Lib.hid hD
  clear hD
  have hst2 : RPart W0 W0.heap.size D [] [.pointer none, .pointer none, .pointer none, .pointer none] := hst.mono (by omega)
  clear hst
  go_loopw [0, 5] (fun v0 vi wr => ∃ (k : Nat) (Ts : List TD) (ps : List Value) (r : List Int) (ao : Option Addr) (n c : Nat), k ≤ 4 ∧ vi = .int .i64 k ∧ v0 = .slice ao n c ∧ Hid (r.length = n) ∧ Hid (4 ≤ n → BytesAt w w.heap.size (.slice ao n c) r) ∧ Hid (IsB r) ∧
      Hid (Ts.length = k) ∧ Hid (dload 4 b = (dload (4 - k) r).map (Ts ++ ·)) ∧ RPart wr wr.heap.size D Ts ps ∧ D < wr.heap.size ∧ Below w.heap.size w wr) (fun _ vi _ => 4 - (intOf vi).toNat)
  case atStart => exact ⟨0, [], _, b, ao, n, c, by omega, rfl, rfl, hnH, hBH, hbH, rfl, (by show dload 4 b = (dload 4 b).map ([] ++ ·); cases dload 4 b <;> rfl), hst2, by omega, hbs⟩
  case round =>
    obtain ⟨k, Ts, ps, r, ao, n, c, hk, rfl, rfl, hrn, hrB, hrI, hTs, hdl, hp, hDl, hb⟩ := hrel
    clear hnH hBH hbH
    by_cases hlt : k < 4
    · have hk1 : (k : Int) < 4 := by omega
      have hk0 : (0 : Int) ≤ k := by omega
      obtain ⟨m', hm'⟩ : ∃ m', 4 - k = m' + 1 := ⟨3 - k, by omega⟩
      rw [hm'] at hdl
      have hm'H := Lib.hid hm'
      clear hm'
      by_cases h4 : n < 4
      · have h4i : (n : Int) < 4 := by omega
        have hno : Hid (dload 4 b = none) := dload_gone hdl.out (dload_short (by rw [hrn.out]; exact h4))
        clear hdl hrB hrI hrn hlt hTs
        go_wp2
        go_ret2
        exact ⟨.inr ⟨hno.out, rfl⟩, hb⟩
      · have h4i : (4 : Int) ≤ n := by omega
        have h4n : 4 ≤ n := by omega
        have hBy := hrB.out h4n
        have hBy0 := Lib.hid hBy
        obtain ⟨ao', c', hv, hlc, hl2, hc63, hx⟩ := hBy
        rw [hrn.out] at hv hlc hl2
        cases hv
        rcases hx with ⟨_, h, _⟩ | ⟨bb, off, rfl, hbb, hcell⟩
        · exfalso; have := hrn.out; rw [h] at this; simp at this; omega
        obtain ⟨x0, y0⟩ : ∃ x, r[0]? = some x := ⟨_, List.getElem?_eq_getElem (by rw [hrn.out]; omega)⟩
        obtain ⟨x1, y1⟩ : ∃ x, r[1]? = some x := ⟨_, List.getElem?_eq_getElem (by rw [hrn.out]; omega)⟩
        obtain ⟨x2, y2⟩ : ∃ x, r[2]? = some x := ⟨_, List.getElem?_eq_getElem (by rw [hrn.out]; omega)⟩
        obtain ⟨x3, y3⟩ : ∃ x, r[3]? = some x := ⟨_, List.getElem?_eq_getElem (by rw [hrn.out]; omega)⟩
        have p0 := (hb.cell (p := ⟨bb, _, none⟩) hbb).trans (hcell 0 x0 y0)
        have p1 := (hb.cell (p := ⟨bb, _, none⟩) hbb).trans (hcell 1 x1 y1)
        have p2 := (hb.cell (p := ⟨bb, _, none⟩) hbb).trans (hcell 2 x2 y2)
        have p3 := (hb.cell (p := ⟨bb, _, none⟩) hbb).trans (hcell 3 x3 y3)
        rw [Nat.add_zero] at p0
        obtain ⟨a0, a1⟩ := hrI.out x0 (List.mem_of_getElem? y0)
        obtain ⟨b0, b1⟩ := hrI.out x1 (List.mem_of_getElem? y1)
        obtain ⟨c0, c1⟩ := hrI.out x2 (List.mem_of_getElem? y2)
        obtain ⟨d0, d1⟩ := hrI.out x3 (List.mem_of_getElem? y3)
        have hl4 : len4 r = x0 + x1 * 256 + x2 * 65536 + x3 * 16777216 := by
          unfold len4
          simp only [List.getD, y0, y1, y2, y3, Option.getD_some]
          omega
        obtain ⟨m, hm⟩ : ∃ m : Nat, len4 r = (m : Int) := ⟨(len4 r).toNat, by omega⟩
        have hmH := Lib.hid hm
        have o3 : x0 + 256 * x1 + 65536 * x2 + 16777216 * x3 = (m : Int) := by omega
        have hm1 : (m : Int) ≤ 4294967295 := by omega
        have hm0 : (0 : Int) ≤ m := by omega
        clear hm hl4 hcell y0 y1 y2 y3
        by_cases hov : n < m + 4
        · have hov1 : (n : Int) - 4 < m := by omega
          have hno : Hid (dload 4 b = none) := dload_gone hdl.out (dload_over (by rw [hrn.out, hmH.out]; omega))
          clear hdl hrB hrI hrn hlt hTs hov hmH
          go_wp2
          go_quiet (fail)
          go_wp2
          go_ret2
          exact ⟨.inr ⟨hno.out, rfl⟩, below_drewN hb _⟩
        · have hov1 : (m : Int) ≤ (n : Int) - 4 := by omega
          have hov2 : m + 4 ≤ n := by omega
          have hov3 : (4 : Int) + m ≤ c := by omega
          clear hov
          obtain ⟨T, hT⟩ : ∃ T, T = TD.ofBlocks (loadBs ((r.drop 4).take m)) := ⟨_, rfl⟩
          have hTH := Lib.hid hT
          clear hT
          have hsI : IsB ((r.drop 4).take m) := fun x hx => hrI.out x (List.mem_of_mem_drop (List.mem_of_mem_take hx))
          by_cases hc4 : c = 4
          · have em : m = 0 := by omega
            subst em
            subst hc4
            have hn4 : n = 4 := by omega
            subst hn4
            have hBs : Hid (BytesAt w w.heap.size (.slice (some ⟨bb, off, none⟩) 0 0) ((r.drop 4).take 0)) := ⟨_, 0, rfl, by simp, by simp, by omega, .inr ⟨bb, off, rfl, hbb, fun j x hx => by simp at hx⟩⟩
            go_wp2
            go_quiet (fail)
            go_wp2_with (go_at_call 66; refine (rload_any _ ((r.drop 4).take 0) _ (by exact (hBs.out.below (below_drewN hb _) (Nat.le_refl _)).mono hb.size) hsI T hTH).mono ?_; rintro e w5 ⟨hld, hb5⟩; rcases hld with ⟨hok, B, he, ht⟩ | ⟨hno, he⟩; (exfalso; have := hok.len.1; simp at this); subst he)
            have hno2 : Hid (dload 4 b = none) := dload_gone hdl.out (dload_bad (c := (r.drop 4).take 0) (T := T) (by rw [hmH.out]; rfl) hTH.out hno)
            have hb5' : Below wr.heap.size wr w5 := (below_drewN (Below.refl _ wr) _).trans hb5
            clear hno hdl hb5 p0 p1 p2 p3
            go_wp2
            go_ret2
            exact ⟨.inr ⟨hno2.out, rfl⟩, hb.trans (hb5'.mono hb.size)⟩
          · have hBs : Hid (BytesAt w w.heap.size (.slice (some ⟨bb, off + 4, none⟩) m (c - 4)) ((r.drop 4).take m)) := (hBy0.out.drop 4 (by omega) (off + 4) (.inl rfl)).take m (by omega)
            have hmn : (4 + (m : Int)).toNat - 4 = m := by omega
            have hrn2 : Hid ((r.drop (4 + m)).length = n - (4 + m)) := by rw [List.length_drop, hrn.out]; exact rfl
            have hq1 : (4 + (m : Int)).toNat = 4 + m := by omega
            by_cases hct : c = 4 + m
            · obtain rfl : n = 4 + m := by omega
              subst hct
              have hBs : Hid (BytesAt w w.heap.size (.slice (some ⟨bb, off + 4, none⟩) m m) ((r.drop 4).take m)) := by have := hBs.out; rw [Nat.add_sub_cancel_left] at this; exact this
              go_wp2
              go_quiet (fail)
              go_wp2_with (go_at_call 66; refine (rload_any _ ((r.drop 4).take m) _ (by exact (hBs.out.below (below_drewN hb _) (Nat.le_refl _)).mono hb.size) hsI T hTH).mono ?_; rintro e w5 ⟨hld, hb5⟩; have hb5' : Below wr.heap.size wr w5 := (below_drewN (Below.refl _ wr) _).trans hb5; have hs5 := hb5'.size; have hp5 := (hp.below hb5' (Nat.le_refl _) hDl).mono hs5; obtain ⟨old, hcell⟩ := hp5.cell k hlt; have hfree := hp5.free k; clear hb5; rcases hld with ⟨hok, B, he, ht⟩ | ⟨hno, he⟩ <;> subst he)
              · have hW5 := hb.trans (hb5'.mono hb.size)
                have hdl2 := dload_more hdl.out (by rw [hrn.out]; exact h4n) (by rw [hrn.out, hmH.out]; omega) rfl (T := T) (by rw [hmH.out]; exact hTH.out) (by rw [hmH.out]; exact hok)
                rw [hmH.out, Int.toNat_natCast] at hdl2
                have hdl3 : Hid (dload 4 b = (dload (4 - (k + 1)) (r.drop (4 + m))).map ((Ts ++ [T]) ++ ·)) := by
                  rw [show 4 - (k + 1) = m' from by have := hm'H.out; omega]; exact hdl2
                have hput := hp5.put ht (by rw [hTs.out]; exact hlt)
                rw [hTs.out] at hput
                have hTs2 : Hid ((Ts ++ [T]).length = k + 1) := by simp [Hid, hTs.out]
                have hrI2 : Hid (IsB (r.drop (4 + m))) := fun x hx => hrI.out x (List.mem_of_mem_drop hx)
                have hsetB : Below w.heap.size w (w5.setCell ⟨D, k, none⟩ (.pointer (some ⟨B, 0, none⟩))) := hW5.setCell (p := ⟨D, k, none⟩) (by simp; rw [hDH.out]; exact Nat.le_refl _) _
                have hsz9 : (w5.setCell ⟨D, k, none⟩ (.pointer (some ⟨B, 0, none⟩))).heap.size = w5.heap.size := by simp
                have hszH := Lib.hid hsz9
                clear hdl hdl2 hok hsz9
                go_roundw
                case rel => exact ⟨k + 1, _, _, _, _, _, _, by omega, by go_num, rfl, by first | exact hrn2 | (rw [Nat.sub_self] at hrn2; exact hrn2), fun h => by omega, hrI2, hTs2, hdl3, hput.mono (Nat.le_of_eq hszH.out.symm), Nat.lt_of_lt_of_le (Nat.lt_of_lt_of_le hDl hs5) (Nat.le_of_eq hszH.out.symm), hsetB⟩
                case measure => simp [intOf]; omega
              · have hno2 : Hid (dload 4 b = none) := dload_gone hdl.out (dload_bad (c := (r.drop 4).take m) (T := T) (by rw [hmH.out]; rfl) hTH.out hno)
                clear hno hdl
                go_ret2
                exact ⟨.inr ⟨hno2.out, rfl⟩, hb.trans (hb5'.mono hb.size)⟩
            · have hrB2 : Hid (4 ≤ n - (4 + m) → BytesAt w w.heap.size (.slice (some ⟨bb, off + (4 + m), none⟩) (n - (4 + m)) (c - (4 + m))) (r.drop (4 + m))) := fun _ => hBy0.out.drop (4 + m) (by omega) _ (.inl rfl)
              go_wp2
              go_quiet (fail)
              go_wp2_with (go_at_call 66; refine (rload_any _ ((r.drop 4).take m) _ (by exact (hBs.out.below (below_drewN hb _) (Nat.le_refl _)).mono hb.size) hsI T hTH).mono ?_; rintro e w5 ⟨hld, hb5⟩; have hb5' : Below wr.heap.size wr w5 := (below_drewN (Below.refl _ wr) _).trans hb5; have hs5 := hb5'.size; have hp5 := (hp.below hb5' (Nat.le_refl _) hDl).mono hs5; obtain ⟨old, hcell⟩ := hp5.cell k hlt; have hfree := hp5.free k; clear hb5; rcases hld with ⟨hok, B, he, ht⟩ | ⟨hno, he⟩ <;> subst he)
              · have hW5 := hb.trans (hb5'.mono hb.size)
                have hdl2 := dload_more hdl.out (by rw [hrn.out]; exact h4n) (by rw [hrn.out, hmH.out]; omega) rfl (T := T) (by rw [hmH.out]; exact hTH.out) (by rw [hmH.out]; exact hok)
                rw [hmH.out, Int.toNat_natCast] at hdl2
                have hdl3 : Hid (dload 4 b = (dload (4 - (k + 1)) (r.drop (4 + m))).map ((Ts ++ [T]) ++ ·)) := by
                  rw [show 4 - (k + 1) = m' from by have := hm'H.out; omega]; exact hdl2
                have hput := hp5.put ht (by rw [hTs.out]; exact hlt)
                rw [hTs.out] at hput
                have hTs2 : Hid ((Ts ++ [T]).length = k + 1) := by simp [Hid, hTs.out]
                have hrI2 : Hid (IsB (r.drop (4 + m))) := fun x hx => hrI.out x (List.mem_of_mem_drop hx)
                have hsetB : Below w.heap.size w (w5.setCell ⟨D, k, none⟩ (.pointer (some ⟨B, 0, none⟩))) := hW5.setCell (p := ⟨D, k, none⟩) (by simp; rw [hDH.out]; exact Nat.le_refl _) _
                have hsz9 : (w5.setCell ⟨D, k, none⟩ (.pointer (some ⟨B, 0, none⟩))).heap.size = w5.heap.size := by simp
                have hszH := Lib.hid hsz9
                clear hdl hdl2 hok hsz9
                go_roundw
                case rel => exact ⟨k + 1, _, _, _, _, _, _, by omega, by go_num, rfl, hrn2, hrB2, hrI2, hTs2, hdl3, hput.mono (Nat.le_of_eq hszH.out.symm), Nat.lt_of_lt_of_le (Nat.lt_of_lt_of_le hDl hs5) (Nat.le_of_eq hszH.out.symm), hsetB⟩
                case measure => simp [intOf]; omega
              · have hno2 : Hid (dload 4 b = none) := dload_gone hdl.out (dload_bad (c := (r.drop 4).take m) (T := T) (by rw [hmH.out]; rfl) hTH.out hno)
                clear hno hdl
                go_ret2
                exact ⟨.inr ⟨hno2.out, rfl⟩, hb.trans (hb5'.mono hb.size)⟩
    · obtain rfl : k = 4 := by omega
      clear hlt hk
      by_cases hn0 : n = 0
      · subst hn0
        have hr0 : r = [] := List.eq_nil_of_length_eq_zero hrn.out
        have hdl2 : Hid (dload 4 b = some Ts) := by
          rw [hdl.out, hr0]
          show (dload 0 []).map (Ts ++ ·) = _
          simp [dload]
        clear hdl hrB hrI hrn
        go_wp2
        go_ret2
        exact ⟨.inl ⟨Ts, D, hdl2.out, rfl, hDl, hTs.out, ps, hp⟩, hb⟩
      · have hn1 : (0 : Int) < n := by omega
        have hno : Hid (dload 4 b = none) := by
          refine dload_gone hdl.out ?_
          show dload 0 r = none
          rw [dload, if_neg (by intro e; have := hrn.out; rw [e] at this; simp at this; omega)]
        clear hdl hrB hrI hrn hn0
        go_wp2
        go_ret2
        exact ⟨.inr ⟨hno.out, rfl⟩, hb⟩
end Go.Proofs.YtpaijpdmeiagfaaDoor
