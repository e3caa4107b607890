/- The document's data: New and the methods. -/
import Derived.Test.YtpaijpdmeiagfaaDoorDu
import Derived.Test.YtpaijpdmeiagfaaDoorVd
set_option linter.unusedVariables false
set_option linter.unusedSimpArgs false
namespace Go.Proofs.YtpaijpdmeiagfaaDoor
open Go Go.RowKit Go.WideMaps Go.Proofs.Kk Go.Proofs.Tm Go.Proofs.Gg

/-- the document's data in memory, being filled: the first k of its four tries -/
structure RPart (w : World) (n₀ D : Nat) (Ts : List TD) (ps : List Value) : Prop where
  row : w.heap[D]? = some (.cells ps.toArray 74 (0, 0))
  len : ps.length = 4
  few : Ts.length ≤ 4
  ptr : ∀ v ∈ ps, ∃ a, v = Value.pointer a
  at_ : ∀ (j : Nat) (T : TD), Ts[j]? = some T → ∃ B, ps[j]? = some (Value.pointer (some ⟨B, 0, none⟩)) ∧ RefAt w n₀ B T
theorem RPart.below {w w' : World} {n₀ D N : Nat} {Ts : List TD} {ps : List Value} (h : RPart w n₀ D Ts ps) (hb : Below N w w') (hN : n₀ ≤ N) (hD : D < N) : RPart w' n₀ D Ts ps :=
  ⟨(hb.block D hD).trans h.row, h.len, h.few, h.ptr, fun j T hT => by obtain ⟨B, h1, h2⟩ := h.at_ j T hT; exact ⟨B, h1, h2.below hb hN⟩⟩
theorem RPart.mono {w : World} {n₀ n₁ D : Nat} {Ts : List TD} {ps : List Value} (h : RPart w n₀ D Ts ps) (hn : n₀ ≤ n₁) : RPart w n₁ D Ts ps :=
  ⟨h.row, h.len, h.few, h.ptr, fun j T hT => by obtain ⟨B, h1, h2⟩ := h.at_ j T hT; exact ⟨B, h1, h2.mono hn⟩⟩
theorem RPart.heap {w w' : World} {n₀ D : Nat} {Ts : List TD} {ps : List Value} (h : RPart w n₀ D Ts ps) (hw : w'.heap = w.heap) : RPart w' n₀ D Ts ps :=
  ⟨by rw [hw]; exact h.row, h.len, h.few, h.ptr, fun j T hT => by obtain ⟨B, h1, h2⟩ := h.at_ j T hT; exact ⟨B, h1, h2.heap hw⟩⟩

/-- the document's data in memory: the tries of a list -/
def RDataAt (w : World) (n₀ D : Nat) (Ts : List TD) : Prop := D < n₀ ∧ Ts.length = 4 ∧ ∃ ps, RPart w n₀ D Ts ps
theorem RDataAt.below {w w' : World} {n₀ D N : Nat} {Ts : List TD} (h : RDataAt w n₀ D Ts) (hb : Below N w w') (hN : n₀ ≤ N) : RDataAt w' n₀ D Ts := by
  obtain ⟨h1, h2, ps, h⟩ := h
  exact ⟨h1, h2, ps, h.below hb hN (by omega)⟩
theorem RDataAt.mono {w : World} {n₀ n₁ D : Nat} {Ts : List TD} (h : RDataAt w n₀ D Ts) (hn : n₀ ≤ n₁) : RDataAt w n₁ D Ts := by
  obtain ⟨h1, h2, ps, h⟩ := h
  exact ⟨by omega, h2, ps, h.mono hn⟩
theorem RDataAt.heap {w w' : World} {n₀ D : Nat} {Ts : List TD} (h : RDataAt w n₀ D Ts) (hw : w'.heap = w.heap) : RDataAt w' n₀ D Ts := by
  obtain ⟨h1, h2, ps, h⟩ := h
  exact ⟨h1, h2, ps, h.heap hw⟩
theorem RDataAt.trie {w : World} {n₀ D : Nat} {Ts : List TD} (h : RDataAt w n₀ D Ts) (j : Nat) (T : TD) (hT : Ts[j]? = some T) : ∃ B, w.cell? ⟨D, j, none⟩ = some (.pointer (some ⟨B, 0, none⟩)) ∧ RefAt w n₀ B T := by
  obtain ⟨h1, h2, ps, hr, hl, hf, hp, ha⟩ := h
  obtain ⟨B, hp, hR⟩ := ha j T hT
  exact ⟨B, by rw [cell_of_row _ _ _ _ _ _ hr]; simpa using hp, hR⟩

/-- a trie does not lie where pointers alone lie -/
theorem RefAt.other {w w' : World} {n₀ B D : Nat} {T : TD} {cs : List Value} {t : TypeId} (h : RefAt w n₀ B T) (hD : w.heap[D]? = some (.cells cs.toArray t (0, 0))) (hp : ∀ v ∈ cs, ∃ a, v = Value.pointer a)
    (hw : ∀ k, k ≠ D → w'.heap[k]? = w.heap[k]?) : RefAt w' n₀ B T := by
  have hat : ∀ i v, w.cell? ⟨D, i, none⟩ = some v → ∃ a, v = Value.pointer a := by
    intro i v hv
    rw [cell_of_row _ _ _ _ _ _ hD] at hv
    exact hp v (by have := Array.mem_of_getElem? hv; simpa using this)
  obtain ⟨hlt, hl, hps, hf, hbk, hsr, v1, g2, c2, h1, h2, h3, h4, h5, h6⟩ := h
  have hfl := flatten_len (fun c hc => (hbk c hc).len)
  have nB : B ≠ D := by
    rintro rfl
    obtain ⟨a, ha⟩ := hat 1 (.slice (some ⟨g2, 0, none⟩) 4352 c2) (by rw [cell_of_row _ _ _ _ _ _ h1]; rfl)
    cases ha
  have n2 : g2 ≠ D := by
    rintro rfl
    obtain ⟨a, ha⟩ := hat 0 _ (h6 0 (by omega))
    cases ha
  refine ⟨hlt, hl, hps, hf, hbk, hsr, v1, g2, c2, (hw B nB).trans h1, h2, ?_, h4, h5, fun i hi => (World.cell?_of_block (w := w) (hw g2 n2)).trans (h6 i hi)⟩
  obtain ⟨ao, c, e1, e2, e3, e4, e5⟩ := h3
  refine ⟨ao, c, e1, e2, e3, e4, ?_⟩
  rcases e5 with ⟨_, e5, _⟩ | ⟨b, off, e6, e7, e8⟩
  · rw [e5] at hfl; simp at hfl; omega
  · refine .inr ⟨b, off, e6, e7, fun j x hx => ?_⟩
    have nb : b ≠ D := by
      rintro rfl
      obtain ⟨a, ha⟩ := hat _ _ (e8 j x hx)
      cases ha
    exact (World.cell?_of_block (w := w) (hw b nb)).trans (e8 j x hx)

/-- one trie more is put into the data -/
theorem RPart.put {W : World} {n₀ D B : Nat} {Ts : List TD} {ps : List Value} {T : TD} (h : RPart W n₀ D Ts ps) (hT : RefAt W n₀ B T) (hk : Ts.length < 4) :
    RPart (W.setCell ⟨D, Ts.length, none⟩ (.pointer (some ⟨B, 0, none⟩))) n₀ D (Ts ++ [T]) (ps.set Ts.length (.pointer (some ⟨B, 0, none⟩))) := by
  have hw : ∀ k, k ≠ D → (W.setCell ⟨D, Ts.length, none⟩ (.pointer (some ⟨B, 0, none⟩))).heap[k]? = W.heap[k]? := fun k hk => heap_setCell_other _ _ _ _ hk
  refine ⟨?_, by rw [List.length_set]; exact h.len, by simp; omega, ?_, ?_⟩
  · rw [heap_setCell_same _ _ _ _ _ _ h.row]; simp
  · intro v hv
    rcases List.mem_or_eq_of_mem_set hv with hv | rfl
    · exact h.ptr v hv
    · exact ⟨_, rfl⟩
  · intro j U hU
    rcases Nat.lt_trichotomy j Ts.length with hj | hj | hj
    · rw [List.getElem?_append_left hj] at hU
      obtain ⟨B', h1, h2⟩ := h.at_ j U hU
      exact ⟨B', by rw [List.getElem?_set_ne (by omega)]; exact h1, h2.other h.row h.ptr hw⟩
    · subst hj
      simp at hU
      subst hU
      exact ⟨B, by rw [List.getElem?_set_self (by rw [h.len]; exact hk)], hT.other h.row h.ptr hw⟩
    · rw [List.getElem?_eq_none (by simp; omega)] at hU; cases hU
theorem RPart.cell {w : World} {n₀ D : Nat} {Ts : List TD} {ps : List Value} (h : RPart w n₀ D Ts ps) (k : Nat) (hk : k < 4) : ∃ a, w.cell? ⟨D, k, none⟩ = some (Value.pointer a) := by
  have hl : k < ps.length := by rw [h.len]; exact hk
  obtain ⟨a, ha⟩ := h.ptr ps[k] (List.getElem_mem hl)
  exact ⟨a, by rw [cell_of_row _ _ _ _ _ _ h.row, ← ha]; simp [hl]⟩
theorem RPart.free {w : World} {n₀ D : Nat} {Ts : List TD} {ps : List Value} (h : RPart w n₀ D Ts ps) (k : Nat) : w.frozen? ⟨D, k, none⟩ = false := frozen_of_row _ _ _ _ _ h.row
theorem RPart.start (w : World) : RPart (w.alloc (.cells #[.pointer none, .pointer none, .pointer none, .pointer none] 74)) (w.heap.size + 1) w.heap.size [] [.pointer none, .pointer none, .pointer none, .pointer none] :=
  ⟨heap_alloc_new w _, rfl, by simp, by simp, by simp⟩

/-- the document's shipped data -/
noncomputable def shipI (i : Nat) : TD := tdOf (pval (tabOf (i : Int)))
noncomputable def shipR : List TD := (List.range 4).map shipI
theorem shipR_eq : shipR = [tdOf (pval rowsC), tdOf (pval rowsW), tdOf (pval rowsS), tdOf (pval rowsP)] := rfl

theorem rbuilt_any (v : Value) (l : List P3) (w : World) (h : PropsAt w w.heap.size v l) (hl : l.length ≤ 4096) (ho : Hid (l.any oddB = false)) (T : TD) (hT : Hid (T = tdOf (pval l))) (hF : Hid (T.F.length ≤ 256)) :
    Calls Tryd.prog 64 #[v] w fun e w' => ∃ B, e = .returned (.tuple #[.pointer (some ⟨B, 0, none⟩), .int .i64 0]) ∧ RefAt w' w'.heap.size B T ∧ Below w.heap.size w w' :=
  (rbuild_any v l w h hl T hT hF).mono fun e w' ⟨h1, hb⟩ => by
    rcases h1 with ⟨h1, _⟩ | ⟨_, B, he, hR⟩
    · rw [ho.out] at h1; cases h1
    · exact ⟨B, he, hR, hb⟩
theorem shipI_few (k : Nat) : Hid ((shipI k).F.length ≤ 256) := tabOf_few k

set_option maxRecDepth 100000 in
set_option maxHeartbeats 2000000 in
theorem rnew_any (w : World) : Calls Tryd.prog 36 #[] w fun e w' => ∃ D, e = .returned (.pointer (some ⟨D, 0, none⟩)) ∧ RDataAt w' w'.heap.size D shipR ∧ Below w.heap.size w w' := by
  have hst := RPart.start w
  have hbs : Below w.heap.size w (w.alloc (.cells #[.pointer none, .pointer none, .pointer none, .pointer none] 74)) := (Below.refl _ w).alloc (Nat.le_refl _) _
  have hsz : (w.alloc (.cells #[.pointer none, .pointer none, .pointer none, .pointer none] 74)).heap.size = w.heap.size + 1 := by simp
  go_enter Tryd.func36, Tryd.ntmps36
  go_wp2
  generalize w.alloc (.cells #[.pointer none, .pointer none, .pointer none, .pointer none] 74) = W0 at hst hbs hsz ⊢
  obtain ⟨D, hD⟩ : ∃ D, D = w.heap.size := ⟨_, rfl⟩
  rw [← hD] at hst hsz ⊢
  have hDH := Lib.hid hD
  clear hD
  have hst2 : RPart W0 W0.heap.size D [] [.pointer none, .pointer none, .pointer none, .pointer none] := hst.mono (by omega)
  clear hst
  go_loopw [2, 3, 4] (fun vi v3 v4 wr => ∃ (k : Nat) (Ts : List TD) (ps : List Value), k ≤ 4 ∧ vi = .int .i64 k ∧ Hid (Ts = (List.range k).map shipI) ∧ RPart wr wr.heap.size D Ts ps ∧ D < wr.heap.size ∧ Below w.heap.size w wr) (fun vi _ _ _ => 4 - (intOf vi).toNat)
  case atStart => exact ⟨0, [], _, by omega, rfl, rfl, hst2, by omega, hbs⟩
  case round =>
    obtain ⟨k, Ts, ps, hk, rfl, hTs, hp, hDl, hb⟩ := hrel
    by_cases hlt : k < 4
    · have hk1 : (k : Int) < 4 := by omega
      have hk0 : (0 : Int) ≤ k := by omega
      have hbsz := hb.size
      have hlen : Ts.length = k := by rw [hTs.out]; simp
      have hTs2 : Hid (Ts ++ [shipI k] = (List.range (k + 1)).map shipI) := by rw [hTs.out, List.range_succ, List.map_append]; exact rfl
      have htab : Hid (shipI k = tdOf (pval (tabOf k))) := rfl
      have hlenH := Lib.hid hlen
      clear hlen
      go_wp2_with (first
        | (go_at_call 61; refine (rprops_any _ k).mono ?_; rintro e w1 ⟨v, rfl, hP, hb1⟩)
        | (go_at_call 64; refine (rbuilt_any _ (tabOf k) _ hP (by have := tabOf_len k; omega) (tabOf_odd k) (shipI k) htab (shipI_few k)).mono ?_; rintro e w2 ⟨B, rfl, hR, hb2⟩; have hb12 : Below wr.heap.size wr w2 := hb1.trans (hb2.mono hb1.size); have hp2 := (hp.below hb12 (Nat.le_refl _) hDl).mono hb12.size; obtain ⟨old, hcell⟩ := hp2.cell k hlt; have hfree := hp2.free k; clear hP hb1 hb2))
      go_roundw
      case rel =>
        have hb22 := hb.trans (hb12.mono hbsz)
        have hs2 := hb12.size
        have hput := hp2.put hR (by rw [hlenH.out]; exact hlt)
        rw [hlenH.out] at hput
        exact ⟨k + 1, _, _, by omega, by go_num, hTs2, hput.mono (by simp), by simp; omega, hb22.setCell (p := ⟨D, k, none⟩) (by simp; rw [hDH.out]; exact Nat.le_refl _) _⟩
      case measure => simp [intOf]; omega
    · obtain rfl : k = 4 := by omega
      go_wp2
      go_ret
      have e : Ts = shipR := hTs.out
      subst e
      exact ⟨D, rfl, ⟨hDl, rfl, ps, hp⟩, hb⟩
end Go.Proofs.YtpaijpdmeiagfaaDoor
