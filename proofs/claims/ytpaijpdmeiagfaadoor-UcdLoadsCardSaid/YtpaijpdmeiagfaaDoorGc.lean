/- The data's Load. -/
import Derived.Test.YtpaijpdmeiagfaaDoorDd
import Derived.Test.YtpaijpdmeiagfaaDoorDm
import Derived.Test.YtpaijpdmeiagfaaDoorY
import Derived.Test.YtpaijpdmeiagfaaDoorZ
import Derived.BigQuiet
import Derived.Laws.BitsAllLaws
set_option linter.unusedVariables false
set_option linter.unusedSimpArgs false
namespace Go.Proofs.Kk
open Go Go.RowKit
theorem i64_or_add (x y : Int) (i : Nat) (h0 : 0 ≤ x) (h1 : x < 2 ^ i) (h2 : 0 ≤ y) (h3 : y % 2 ^ i = 0) (h4 : x + y < 9223372036854775808) : bits .or .i64 x y = x + y := by
  obtain ⟨a, rfl⟩ := Int.eq_ofNat_of_zero_le h0
  obtain ⟨b, rfl⟩ := Int.eq_ofNat_of_zero_le h2
  have ha : (BitVec.ofInt 64 (a : Int)).toNat = a := by
    rw [BitVec.ofInt_natCast, BitVec.toNat_ofNat]; exact Nat.mod_eq_of_lt (by omega)
  have hb : (BitVec.ofInt 64 (b : Int)).toNat = b := by
    rw [BitVec.ofInt_natCast, BitVec.toNat_ofNat]; exact Nat.mod_eq_of_lt (by omega)
  have hj : b ||| a = b + a := nat_join i b a (by exact_mod_cast h3) (by exact_mod_cast h1)
  show IntKind.i64.wrap ((BitVec.ofInt 64 (a : Int) ||| BitVec.ofInt 64 (b : Int)).toNat : Int) = _
  rw [BitVec.toNat_or, ha, hb, Nat.or_comm, hj]
  rw [IntWalk.i64_in _ (by omega)]
  omega
/-- the rest of a slice of bytes -/
theorem BytesAt.drop {w : World} {n₀ b off n c : Nat} {r : List Int} (h : BytesAt w n₀ (.slice (some ⟨b, off, none⟩) n c) r) (k : Nat) (hk : k ≤ n) (o : Nat) (ho : o = off + k ∨ k = n) :
    BytesAt w n₀ (.slice (some ⟨b, o, none⟩) (n - k) (c - k)) (r.drop k) := by
  obtain ⟨ao, c', hv, h1, h2, h3, h⟩ := h
  simp only [Value.slice.injEq] at hv
  obtain ⟨rfl, rfl, rfl⟩ := hv
  refine ⟨_, c - k, by rw [List.length_drop], by rw [List.length_drop]; omega, by rw [List.length_drop]; omega, by omega, ?_⟩
  rcases h with ⟨h, _⟩ | ⟨b', off', hv, hb, hc⟩
  · cases h
  · simp only [Option.some.injEq, Addr.mk.injEq, and_true] at hv
    obtain ⟨rfl, rfl⟩ := hv
    refine .inr ⟨b, o, rfl, hb, fun j x hx => ?_⟩
    rw [List.getElem?_drop] at hx
    have := (List.getElem?_eq_some_iff.1 hx).1
    have := hc _ _ hx
    rw [show o + j = off + (k + j) by omega]
    exact this
/-- the head of a slice of bytes -/
theorem BytesAt.take {w : World} {n₀ b off n c : Nat} {r : List Int} (h : BytesAt w n₀ (.slice (some ⟨b, off, none⟩) n c) r) (k : Nat) (hk : k ≤ n) :
    BytesAt w n₀ (.slice (some ⟨b, off, none⟩) k c) (r.take k) := by
  obtain ⟨ao, c', hv, h1, h2, h3, h⟩ := h
  simp only [Value.slice.injEq] at hv
  obtain ⟨rfl, rfl, rfl⟩ := hv
  have hl : (r.take k).length = k := by rw [List.length_take]; omega
  refine ⟨_, c, by rw [hl], by omega, by omega, h3, ?_⟩
  rcases h with ⟨h, _⟩ | ⟨b', off', hv, hb, hc⟩
  · cases h
  · simp only [Option.some.injEq, Addr.mk.injEq, and_true] at hv
    obtain ⟨rfl, rfl⟩ := hv
    refine .inr ⟨b, off, rfl, hb, fun j x hx => ?_⟩
    rw [List.getElem?_take] at hx
    split at hx
    · exact hc _ _ hx
    · cases hx
end Go.Proofs.Kk
namespace Go.Proofs.YtpaijpdmeiagfaaDoor
open Go Go.RowKit Go.WideMaps Go.Proofs.Kk Go.Proofs.Tm Go.Proofs.Gg

theorem TrieAt.other {w w' : World} {n₀ B D : Nat} {T : TD} {cs : Array Value} (h : TrieAt w n₀ B T) (hD : w.heap[D]? = some (.cells cs 63 (0, 0)))
    (hw : ∀ k, k ≠ D → w'.heap[k]? = w.heap[k]?) : TrieAt w' n₀ B T := by
  obtain ⟨hlt, hl, hp, hf, hbk, hsr, g, cap, cur, h1, h2, h3, h4, h5⟩ := h
  have nB : B ≠ D := by
    rintro rfl
    rw [h1] at hD
    cases hD
  have ng : g ≠ D := by
    rintro rfl
    rw [h3] at hD
    cases hD
  exact ⟨hlt, hl, hp, hf, hbk, hsr, g, cap, cur, (hw B nB).trans h1, h2, (hw g ng).trans h3, h4, h5⟩

/-- the data in memory, being filled -/
structure TPart (w : World) (n₀ D : Nat) (Ts : List TD) (ps : List Value) : Prop where
  row : w.heap[D]? = some (.cells ps.toArray 63 (0, 0))
  len : ps.length = 4
  few : Ts.length ≤ 4
  ptr : ∀ v ∈ ps, ∃ a, v = Value.pointer a
  at_ : ∀ (j : Nat) (T : TD), Ts[j]? = some T → ∃ B, ps[j]? = some (Value.pointer (some ⟨B, 0, none⟩)) ∧ TrieAt w n₀ B T
theorem TPart.below {w w' : World} {n₀ D N : Nat} {Ts : List TD} {ps : List Value} (h : TPart w n₀ D Ts ps) (hb : Below N w w') (hN : n₀ ≤ N) (hD : D < N) : TPart w' n₀ D Ts ps :=
  ⟨(hb.block D hD).trans h.row, h.len, h.few, h.ptr, fun j T hT => by obtain ⟨B, h1, h2⟩ := h.at_ j T hT; exact ⟨B, h1, h2.below hb hN⟩⟩
theorem TPart.mono {w : World} {n₀ n₁ D : Nat} {Ts : List TD} {ps : List Value} (h : TPart w n₀ D Ts ps) (hn : n₀ ≤ n₁) : TPart w n₁ D Ts ps :=
  ⟨h.row, h.len, h.few, h.ptr, fun j T hT => by obtain ⟨B, h1, h2⟩ := h.at_ j T hT; exact ⟨B, h1, h2.mono hn⟩⟩
theorem TPart.heap {w w' : World} {n₀ D : Nat} {Ts : List TD} {ps : List Value} (h : TPart w n₀ D Ts ps) (hw : w'.heap = w.heap) : TPart w' n₀ D Ts ps :=
  ⟨by rw [hw]; exact h.row, h.len, h.few, h.ptr, fun j T hT => by obtain ⟨B, h1, h2⟩ := h.at_ j T hT; exact ⟨B, h1, h2.heap hw⟩⟩
theorem TPart.put {W : World} {n₀ D B : Nat} {Ts : List TD} {ps : List Value} {T : TD} (h : TPart W n₀ D Ts ps) (hT : TrieAt W n₀ B T) (hk : Ts.length < 4) :
    TPart (W.setCell ⟨D, Ts.length, none⟩ (.pointer (some ⟨B, 0, none⟩))) n₀ D (Ts ++ [T]) (ps.set Ts.length (.pointer (some ⟨B, 0, none⟩))) := by
  have hw : ∀ k, k ≠ D → (W.setCell ⟨D, Ts.length, none⟩ (.pointer (some ⟨B, 0, none⟩))).heap[k]? = W.heap[k]? := fun k hk => heap_setCell_other _ _ _ _ hk
  refine ⟨?_, by rw [List.length_set]; exact h.len, by simp; omega, ?_, ?_⟩
  · rw [heap_setCell_same _ _ _ _ _ _ h.row]; simp
  · intro v hv
    rcases List.mem_or_eq_of_mem_set hv with hv | rfl
    · exact h.ptr v hv
    · exact ⟨_, rfl⟩
  · intro j U hU
    rcases Nat.lt_trichotomy j Ts.length with hj | hj | hj
    · rw [List.getElem?_append_left hj] at hU
      obtain ⟨B', h1, h2⟩ := h.at_ j U hU
      exact ⟨B', by rw [List.getElem?_set_ne (by omega)]; exact h1, h2.other h.row hw⟩
    · subst hj
      simp at hU
      subst hU
      exact ⟨B, by rw [List.getElem?_set_self (by rw [h.len]; exact hk)], hT.other h.row hw⟩
    · rw [List.getElem?_eq_none (by simp; omega)] at hU; cases hU
theorem TPart.cell {w : World} {n₀ D : Nat} {Ts : List TD} {ps : List Value} (h : TPart w n₀ D Ts ps) (k : Nat) (hk : k < 4) : ∃ a, w.cell? ⟨D, k, none⟩ = some (Value.pointer a) := by
  have hl : k < ps.length := by rw [h.len]; exact hk
  obtain ⟨a, ha⟩ := h.ptr ps[k] (List.getElem_mem hl)
  exact ⟨a, by rw [cell_of_row _ _ _ _ _ _ h.row, ← ha]; simp [hl]⟩
theorem TPart.free {w : World} {n₀ D : Nat} {Ts : List TD} {ps : List Value} (h : TPart w n₀ D Ts ps) (k : Nat) : w.frozen? ⟨D, k, none⟩ = false := frozen_of_row _ _ _ _ _ h.row
theorem TPart.start (w : World) : TPart (w.alloc (.cells #[.pointer none, .pointer none, .pointer none, .pointer none] 63)) (w.heap.size + 1) w.heap.size [] [.pointer none, .pointer none, .pointer none, .pointer none] :=
  ⟨heap_alloc_new w _, rfl, by simp, by simp, by simp⟩
theorem TPart.data {w : World} {n₀ D : Nat} {T0 T1 T2 T3 : TD} {ps : List Value} (h : TPart w n₀ D [T0, T1, T2, T3] ps) (hD : D < n₀) : DataAt w n₀ D T0 T1 T2 T3 := by
  obtain ⟨B0, a0, t0⟩ := h.at_ 0 T0 rfl
  obtain ⟨B1, a1, t1⟩ := h.at_ 1 T1 rfl
  obtain ⟨B2, a2, t2⟩ := h.at_ 2 T2 rfl
  obtain ⟨B3, a3, t3⟩ := h.at_ 3 T3 rfl
  have hr := h.row
  have hl := h.len
  match ps, hl with
  | [p0, p1, p2, p3], _ =>
    simp at a0 a1 a2 a3
    subst a0 a1 a2 a3
    exact ⟨hD, B0, B1, B2, B3, hr, t0, t1, t2, t3⟩

def DLoadPost (w : World) (b : List Int) (e : Ending) (w' : World) : Prop :=
  ((∃ T0 T1 T2 T3 D, dload 4 b = some [T0, T1, T2, T3] ∧ e = .returned (.tuple #[.pointer (some ⟨D, 0, none⟩), .int .i64 0]) ∧ DataAt w' w'.heap.size D T0 T1 T2 T3) ∨ (dload 4 b = none ∧ e = .returned (.tuple #[.pointer none, .int .i64 2]))) ∧ Below w.heap.size w w'

theorem dload_gone {n : Nat} {b r : List Int} {Ts : List TD} (h : dload 4 b = (dload n r).map (Ts ++ ·)) (hr : dload n r = none) : dload 4 b = none := by rw [h, hr]; rfl
theorem dload_more {m : Nat} {b r : List Int} {Ts : List TD} (h : dload 4 b = (dload (m + 1) r).map (Ts ++ ·)) (h4 : 4 ≤ r.length) (hn : len4 r ≤ (r.length : Int) - 4) {c : List Int} (hc : c = (r.drop 4).take (len4 r).toNat) {T : TD} (hT : T = TD.ofBlocks (loadBs c)) (hok : LoadOk c T) :
    dload 4 b = (dload m (r.drop (4 + (len4 r).toNat))).map ((Ts ++ [T]) ++ ·) := by
  rw [h, dload_step h4 hn hc hT hok, Option.map_map]
  congr 1
  funext l
  simp

set_option maxRecDepth 100000 in
set_option maxHeartbeats 8000000 in
theorem dload_walk (ao : Option Addr) (c n : Nat) (b : List Int) (hn : b.length = n) (w : World) (hB : 4 ≤ n → BytesAt w w.heap.size (.slice ao n c) b) (hb : IsB b) :
    Calls Tryd.prog 35 #[.slice ao n c] w (DLoadPost w b) := by
  have hst := TPart.start w
  have hbs : Below w.heap.size w (w.alloc (.cells #[.pointer none, .pointer none, .pointer none, .pointer none] 63)) := (Below.refl _ w).alloc (Nat.le_refl _) _
  have hsz : (w.alloc (.cells #[.pointer none, .pointer none, .pointer none, .pointer none] 63)).heap.size = w.heap.size + 1 := by simp
  have hbH := Lib.hid hb
  have hBH := Lib.hid hB
  have hnH := Lib.hid hn
  clear hb hB hn
  go_enter Tryd.func35, Tryd.ntmps35
  go_wp2
  generalize w.alloc (.cells #[.pointer none, .pointer none, .pointer none, .pointer none] 63) = W0 at hst hbs hsz ⊢
  obtain ⟨D, hD⟩ : ∃ D, D = w.heap.size := ⟨_, rfl⟩
  rw [← hD] at hst hsz ⊢
  have hDH := Lib.hid hD
  clear hD
  have hst2 : TPart W0 W0.heap.size D [] [.pointer none, .pointer none, .pointer none, .pointer none] := hst.mono (by omega)
  clear hst
  go_loopw [0, 11] (fun v0 vi wr => ∃ (k : Nat) (Ts : List TD) (ps : List Value) (r : List Int) (ao : Option Addr) (n c : Nat), k ≤ 4 ∧ vi = .int .i64 k ∧ v0 = .slice ao n c ∧ Hid (r.length = n) ∧ Hid (4 ≤ n → BytesAt w w.heap.size (.slice ao n c) r) ∧ Hid (IsB r) ∧
      Hid (Ts.length = k) ∧ Hid (dload 4 b = (dload (4 - k) r).map (Ts ++ ·)) ∧ TPart wr wr.heap.size D Ts ps ∧ D < wr.heap.size ∧ Below w.heap.size w wr) (fun _ vi _ => 4 - (intOf vi).toNat)
  case atStart => exact ⟨0, [], _, b, ao, n, c, by omega, rfl, rfl, hnH, hBH, hbH, rfl, (by show dload 4 b = (dload 4 b).map ([] ++ ·); cases dload 4 b <;> rfl), hst2, by omega, hbs⟩
  case round =>
    obtain ⟨k, Ts, ps, r, ao, n, c, hk, rfl, rfl, hrn, hrB, hrI, hTs, hdl, hp, hDl, hb⟩ := hrel
    clear hnH hBH hbH
    by_cases hlt : k < 4
    · have hk1 : (k : Int) < 4 := by omega
      have hk0 : (0 : Int) ≤ k := by omega
      obtain ⟨m', hm'⟩ : ∃ m', 4 - k = m' + 1 := ⟨3 - k, by omega⟩
      rw [hm'] at hdl
      have hm'H := Lib.hid hm'
      clear hm'
      by_cases h4 : n < 4
      · have h4i : (n : Int) < 4 := by omega
        have hno : Hid (dload 4 b = none) := dload_gone hdl.out (dload_short (by rw [hrn.out]; exact h4))
        clear hdl hrB hrI hrn hlt hTs
        go_wp2
        go_ret2
        exact ⟨.inr ⟨hno.out, rfl⟩, hb⟩
      · have h4i : (4 : Int) ≤ n := by omega
        have h4n : 4 ≤ n := by omega
        have hBy := hrB.out h4n
        have hBy0 := Lib.hid hBy
        obtain ⟨ao', c', hv, hlc, hl2, hc63, hx⟩ := hBy
        rw [hrn.out] at hv hlc hl2
        cases hv
        rcases hx with ⟨_, h, _⟩ | ⟨bb, off, rfl, hbb, hcell⟩
        · exfalso; have := hrn.out; rw [h] at this; simp at this; omega
        obtain ⟨x0, y0⟩ : ∃ x, r[0]? = some x := ⟨_, List.getElem?_eq_getElem (by rw [hrn.out]; omega)⟩
        obtain ⟨x1, y1⟩ : ∃ x, r[1]? = some x := ⟨_, List.getElem?_eq_getElem (by rw [hrn.out]; omega)⟩
        obtain ⟨x2, y2⟩ : ∃ x, r[2]? = some x := ⟨_, List.getElem?_eq_getElem (by rw [hrn.out]; omega)⟩
        obtain ⟨x3, y3⟩ : ∃ x, r[3]? = some x := ⟨_, List.getElem?_eq_getElem (by rw [hrn.out]; omega)⟩
        have p0 := (hb.cell (p := ⟨bb, _, none⟩) hbb).trans (hcell 0 x0 y0)
        have p1 := (hb.cell (p := ⟨bb, _, none⟩) hbb).trans (hcell 1 x1 y1)
        have p2 := (hb.cell (p := ⟨bb, _, none⟩) hbb).trans (hcell 2 x2 y2)
        have p3 := (hb.cell (p := ⟨bb, _, none⟩) hbb).trans (hcell 3 x3 y3)
        rw [Nat.add_zero] at p0
        obtain ⟨a0, a1⟩ := hrI.out x0 (List.mem_of_getElem? y0)
        obtain ⟨b0, b1⟩ := hrI.out x1 (List.mem_of_getElem? y1)
        obtain ⟨c0, c1⟩ := hrI.out x2 (List.mem_of_getElem? y2)
        obtain ⟨d0, d1⟩ := hrI.out x3 (List.mem_of_getElem? y3)
        have hl4 : len4 r = x0 + x1 * 256 + x2 * 65536 + x3 * 16777216 := by
          unfold len4
          simp only [List.getD, y0, y1, y2, y3, Option.getD_some]
          omega
        obtain ⟨m, hm⟩ : ∃ m : Nat, len4 r = (m : Int) := ⟨(len4 r).toNat, by omega⟩
        have hmH := Lib.hid hm
        have o1 := i64_or_add x0 (x1 * 256) 8 a0 (by omega) (by omega) (by omega) (by omega)
        have o2 := i64_or_add (x0 + x1 * 256) (x2 * 65536) 16 (by omega) (by omega) (by omega) (by omega) (by omega)
        have o3 := i64_or_add (x0 + x1 * 256 + x2 * 65536) (x3 * 16777216) 24 (by omega) (by omega) (by omega) (by omega) (by omega)
        rw [show x0 + x1 * 256 + x2 * 65536 + x3 * 16777216 = (m : Int) by omega] at o3
        have hm1 : (m : Int) ≤ 4294967295 := by omega
        have hm0 : (0 : Int) ≤ m := by omega
        clear hm hl4 hcell y0 y1 y2 y3
        by_cases hov : n < m + 4
        · have hov1 : (n : Int) - 4 < m := by omega
          have hno : Hid (dload 4 b = none) := dload_gone hdl.out (dload_over (by rw [hrn.out, hmH.out]; omega))
          clear hdl hrB hrI hrn hlt hTs hov hmH
          go_wp2
          go_quiet (fail)
          go_wp2
          go_ret2
          exact ⟨.inr ⟨hno.out, rfl⟩, below_drewN hb _⟩
        · have hov1 : (m : Int) ≤ (n : Int) - 4 := by omega
          have hov2 : m + 4 ≤ n := by omega
          have hov3 : (4 : Int) + m ≤ c := by omega
          clear hov
          obtain ⟨T, hT⟩ : ∃ T, T = TD.ofBlocks (loadBs ((r.drop 4).take m)) := ⟨_, rfl⟩
          have hTH := Lib.hid hT
          clear hT
          have hsI : IsB ((r.drop 4).take m) := fun x hx => hrI.out x (List.mem_of_mem_drop (List.mem_of_mem_take hx))
          by_cases hc4 : c = 4
          · have em : m = 0 := by omega
            subst em
            subst hc4
            have hn4 : n = 4 := by omega
            subst hn4
            have hBs : Hid (BytesAt w w.heap.size (.slice (some ⟨bb, off, none⟩) 0 0) ((r.drop 4).take 0)) := ⟨_, 0, rfl, by simp, by simp, by omega, .inr ⟨bb, off, rfl, hbb, fun j x hx => by simp at hx⟩⟩
            go_wp2
            go_quiet (fail)
            go_wp2_with (go_at_call 63; refine (load_any _ ((r.drop 4).take 0) _ (by exact (hBs.out.below (below_drewN hb _) (Nat.le_refl _)).mono hb.size) hsI T hTH).mono ?_; rintro e w5 ⟨hld, hb5⟩; rcases hld with ⟨hok, B, he, ht⟩ | ⟨hno, he⟩; (exfalso; have := hok.len.1; simp at this); unfold nilErr at he; subst he)
            have hno2 : Hid (dload 4 b = none) := dload_gone hdl.out (dload_bad (c := (r.drop 4).take 0) (T := T) (by rw [hmH.out]; rfl) hTH.out hno)
            have hb5' : Below wr.heap.size wr w5 := (below_drewN (Below.refl _ wr) _).trans hb5
            clear hno hdl hb5 p0 p1 p2 p3
            go_wp2
            go_ret2
            exact ⟨.inr ⟨hno2.out, rfl⟩, hb.trans (hb5'.mono hb.size)⟩
          · have hBs : Hid (BytesAt w w.heap.size (.slice (some ⟨bb, off + 4, none⟩) m (c - 4)) ((r.drop 4).take m)) := (hBy0.out.drop 4 (by omega) (off + 4) (.inl rfl)).take m (by omega)
            have hmn : (4 + (m : Int)).toNat - 4 = m := by omega
            go_wp2
            go_quiet (fail)
            go_wp2_with (go_at_call 63; refine (load_any _ ((r.drop 4).take m) _ (by exact (hBs.out.below (below_drewN hb _) (Nat.le_refl _)).mono hb.size) hsI T hTH).mono ?_; rintro e w5 ⟨hld, hb5⟩; rcases hld with ⟨hok, B, he, ht⟩ | ⟨hno, he⟩ <;> (try unfold nilErr at he) <;> subst he)
            · have hb5' : Below wr.heap.size wr w5 := (below_drewN (Below.refl _ wr) _).trans hb5
              have hs5 := hb5'.size
              have hp5 := (hp.below hb5' (Nat.le_refl _) hDl).mono hs5
              obtain ⟨old, hcell⟩ := hp5.cell k hlt
              have hfree := hp5.free k
              have hW5 := hb.trans (hb5'.mono hb.size)
              have hdl2 := dload_more hdl.out (by rw [hrn.out]; exact h4n) (by rw [hrn.out, hmH.out]; omega) rfl (T := T) (by rw [hmH.out]; exact hTH.out) (by rw [hmH.out]; exact hok)
              rw [hmH.out, Int.toNat_natCast] at hdl2
              have hdl3 : Hid (dload 4 b = (dload (4 - (k + 1)) (r.drop (4 + m))).map ((Ts ++ [T]) ++ ·)) := by
                rw [show 4 - (k + 1) = m' from by have := hm'H.out; omega]; exact hdl2
              have hput := hp5.put ht (by rw [hTs.out]; exact hlt)
              rw [hTs.out] at hput
              have hTs2 : Hid ((Ts ++ [T]).length = k + 1) := by simp [Hid, hTs.out]
              have hrI2 : Hid (IsB (r.drop (4 + m))) := fun x hx => hrI.out x (List.mem_of_mem_drop hx)
              have hrn2 : Hid ((r.drop (4 + m)).length = n - (4 + m)) := by rw [List.length_drop, hrn.out]; exact rfl
              have hputH := Lib.hid hput
              have hq1 : (4 + (m : Int)).toNat = 4 + m := by omega
              clear hdl hdl2 hput hp hp5 hok ht hb5 p0 p1 p2 p3 hBs
              have hsetB : Below w.heap.size w (w5.setCell ⟨D, k, none⟩ (.pointer (some ⟨B, 0, none⟩))) := hW5.setCell (p := ⟨D, k, none⟩) (by simp; rw [hDH.out]; exact Nat.le_refl _) _
              have hsetBH := Lib.hid hsetB
              have hsz9 : (w5.setCell ⟨D, k, none⟩ (.pointer (some ⟨B, 0, none⟩))).heap.size = w5.heap.size := by simp
              have hszH := Lib.hid hsz9
              clear hsetB hsz9
              by_cases hct : c = 4 + m
              · obtain rfl : n = 4 + m := by omega
                subst hct
                go_region
                go_wp2
                go_roundw
                case rel => exact ⟨k + 1, _, _, _, _, _, _, by omega, by go_num, rfl, by first | exact hrn2 | (rw [Nat.sub_self] at hrn2; exact hrn2), fun h => by omega, hrI2, hTs2, hdl3, (hputH.out.heap (by rfl)).mono (Nat.le_of_eq hszH.out.symm), Nat.lt_of_lt_of_le (Nat.lt_of_lt_of_le hDl hs5) (Nat.le_of_eq hszH.out.symm), hsetBH.out.drew⟩
                case measure => simp [intOf]; omega
              · have hrB2 : Hid (4 ≤ n - (4 + m) → BytesAt w w.heap.size (.slice (some ⟨bb, off + (4 + m), none⟩) (n - (4 + m)) (c - (4 + m))) (r.drop (4 + m))) := fun _ => hBy0.out.drop (4 + m) (by omega) _ (.inl rfl)
                go_region
                go_wp2
                go_roundw
                case rel => exact ⟨k + 1, _, _, _, _, _, _, by omega, by go_num, rfl, hrn2, hrB2, hrI2, hTs2, hdl3, (hputH.out.heap (by rfl)).mono (Nat.le_of_eq hszH.out.symm), Nat.lt_of_lt_of_le (Nat.lt_of_lt_of_le hDl hs5) (Nat.le_of_eq hszH.out.symm), hsetBH.out.drew⟩
                case measure => simp [intOf]; omega
            · have hno2 : Hid (dload 4 b = none) := dload_gone hdl.out (dload_bad (c := (r.drop 4).take m) (T := T) (by rw [hmH.out]; rfl) hTH.out hno)
              have hb5' : Below wr.heap.size wr w5 := (below_drewN (Below.refl _ wr) _).trans hb5
              clear hno hdl hb5 p0 p1 p2 p3
              go_wp2
              go_ret2
              exact ⟨.inr ⟨hno2.out, rfl⟩, hb.trans (hb5'.mono hb.size)⟩
    · obtain rfl : k = 4 := by omega
      clear hlt hk
      by_cases hn0 : n = 0
      · subst hn0
        have hr0 : r = [] := List.eq_nil_of_length_eq_zero hrn.out
        have hdl2 : Hid (dload 4 b = some Ts) := by
          rw [hdl.out, hr0]
          show (dload 0 []).map (Ts ++ ·) = _
          simp [dload]
        clear hdl hrB hrI hrn
        go_wp2
        go_ret2
        obtain ⟨T0, T1, T2, T3, rfl⟩ : ∃ T0 T1 T2 T3, Ts = [T0, T1, T2, T3] := by
          have hl := hTs.out
          rcases Ts with _ | ⟨T0, _ | ⟨T1, _ | ⟨T2, _ | ⟨T3, _ | ⟨T4, l⟩⟩⟩⟩⟩ <;> simp at hl
          exact ⟨T0, T1, T2, T3, rfl⟩
        exact ⟨.inl ⟨T0, T1, T2, T3, D, hdl2.out, rfl, hp.data hDl⟩, hb⟩
      · have hn1 : (0 : Int) < n := by omega
        have hno : Hid (dload 4 b = none) := by
          refine dload_gone hdl.out ?_
          show dload 0 r = none
          rw [dload, if_neg (by intro e; have := hrn.out; rw [e] at this; simp at this; omega)]
        clear hdl hrB hrI hrn hn0
        go_wp2
        go_ret2
        exact ⟨.inr ⟨hno.out, rfl⟩, hb⟩
end Go.Proofs.YtpaijpdmeiagfaaDoor
