/- The document's trie: Save. -/
import Derived.Test.YtpaijpdmeiagfaaDoorVd
set_option linter.unusedVariables false
set_option linter.unusedSimpArgs false
namespace Go.Proofs.YtpaijpdmeiagfaaDoor
open Go Go.RowKit Go.WideMaps Go.Proofs.Kk Go.Proofs.Tm Go.Proofs.Gg

set_option maxRecDepth 100000 in
set_option maxHeartbeats 2000000 in
/-- Save of the document's trie: a new row of the bytes -/
theorem rsave_any (w : World) (n₀ B : Nat) (t : TD) (ht : RefAt w n₀ B t) (hn : n₀ ≤ w.heap.size) :
   Calls Tryd.prog 65 #[.pointer (some ⟨B, 0, none⟩)] w fun e w' => ∃ v, e = .returned v ∧ w'.ownsRow w.heap.size 5 1 v (saveL t).length (byt (saveL t)) ∧ Below w.heap.size w w' := by
  have hrb0 := rblocks_any w n₀ B t ht
  have hfew := ht.few
  have hpos := ht.pos
  have hlt := ht.lt
  have hlike := ht.like
  obtain ⟨b, off, c, g2, c2, hb, hg2, hc0, hc1, hby, _, hcL⟩ := ht.cells
  have hLlen : Hid (t.L.length = 4352) := ht.len
  obtain ⟨ad, cb, hv, hadlt, hnews⟩ := hby.news (by
    intro h
    have hfl := flatten_len (fun c hc => (ht.blk c hc).len)
    rw [h] at hfl; simp at hfl; omega)
  have hfl : t.F.flatten.length = 256 * t.F.length := flatten_len (fun c hc => (ht.blk c hc).len)
  have hnewsH := Lib.hid hnews
  have hcLH := Lib.hid hcL
  have hlikeH := Lib.hid hlike
  have hflH := Lib.hid hfl
  clear ht hby hnews hcL hlike hfl
  simp only [Value.slice.injEq, Option.some.injEq] at hv
  obtain ⟨rfl, _, rfl⟩ := hv
  obtain ⟨n, hn'⟩ : ∃ n, n = t.F.length := ⟨_, rfl⟩
  rw [← hn'] at hfew hpos hc0 hlikeH hflH
  have hnH : Hid (n = t.F.length) := hn'
  rw [← hn'] at hrb0
  clear hn'
  have hn1 : (n : Int) ≤ 256 := by omega
  have hn2 : (1 : Int) ≤ n := by omega
  have hw1 : IntKind.i64.wrap ((n : Int) - 1) = (n : Int) - 1 := IntWalk.i64_in _ (by omega)
  have hw2 : IntKind.u8.wrap ((n : Int) - 1) = (n : Int) - 1 := u8_in (by omega)
  obtain ⟨i0, hi0, hz0, hz1, hz2⟩ := info_parts infoU8
  have hrow1 := ownsRow_lit w 5 [.int .u8 ((n : Int) - 1)] w.heap.size (Nat.le_refl _) (by simp [maxLen])
  have hbel1 : Below w.heap.size w (w.alloc (.cells #[.int .u8 ((n : Int) - 1)] 5)) := (Below.refl _ _).alloc (Nat.le_refl _) _
  have hBw : B < w.heap.size := by omega
  have hgw : g2 < w.heap.size := by omega
  go_enter Tryd.func65, Tryd.ntmps65
  go_wp2_with (go_at_call 95; refine hrb0.mono ?_; clear hrb0; rintro e w1 ⟨rfl, rfl⟩)
  clear hw1 hw2
  have hrow1 : (w1.alloc (.cells #[.int .u8 ((n : Int) - 1)] 5)).ownsRow w1.heap.size 5 1 (.slice (some ⟨w1.heap.size, 0, none⟩) 1 1) (1 + 0) (byt (((n : Int) - 1) :: (t.L.take 0).map Int.ofNat)) := hrow1
  generalize w1.alloc (.cells #[.int .u8 ((n : Int) - 1)] 5) = W1 at hrow1 hbel1 ⊢
  go_loopw [3, 4] (fun v i wr => ∃ k : Nat, k ≤ 4352 ∧ i = .int .i64 k ∧ wr.ownsRow w1.heap.size 5 1 v (1 + k) (byt (((n : Int) - 1) :: (t.L.take k).map Int.ofNat)) ∧ Below w1.heap.size w1 wr) (fun _ i _ => 4352 - (intOf i).toNat)
  case atStart => exact ⟨0, by omega, rfl, hrow1, hbel1⟩
  case round =>
    obtain ⟨k, hk, rfl, hrow, hbl⟩ := hrel
    have hc1' : wr.cell? ⟨B, 1, none⟩ = some (.slice (some ⟨g2, 0, none⟩) 4352 c2) := (hbl.cell (p := ⟨B, 1, none⟩) hBw).trans hc1
    by_cases hkl : k < 4352
    · have hk0 : (0 : Int) ≤ k := by omega
      have hk1 : (k : Int) < 4352 := by omega
      have hL := hcLH.out k hkl
      have hLr := hlikeH.out k hkl
      have hst : Hid (byt (((n : Int) - 1) :: (t.L.take (k + 1)).map Int.ofNat) = byt (((n : Int) - 1) :: (t.L.take k).map Int.ofNat) ++ [.int .u8 (t.L.getD k 0 : Nat)]) := by
        have hkl' : k < t.L.length := by rw [hLlen.out]; exact hkl
        show byt _ = _
        rw [List.take_succ_eq_append_getElem hkl', List.map_append, ← List.cons_append, byt_append]
        simp [byt, List.getD, hkl']
      obtain ⟨x, hx⟩ : ∃ x, x = t.L.getD k 0 := ⟨_, rfl⟩
      rw [← hx] at hL hLr hst
      have hL' : wr.cell? ⟨g2, k, none⟩ = some (.int .i64 x) := (hbl.cell (p := ⟨g2, k, none⟩) hgw).trans hL
      have hw3 : IntKind.u8.wrap (x : Int) = (x : Int) := u8_in (by omega)
      have hbs := hbl.size
      clear hx hL
      go_wp2_with (at_builtin; refine wpList_append_lies _ rfl (.tmp 19) (.tmp 28) 33 rfl w1.heap.size 5 i0 (.int .u8 0) 1 1 bytesU hi0 hz0 hz1 hz2 rfl (by decide) _ _ _ rfl (hrow.alloc _) ⟨wr.heap.size, 0, none⟩ 1 1 [.int .u8 x] rfl rfl (World.news_of_block (cs := #[.int .u8 x]) (t := 5) (fr := (0, 0)) (heap_alloc_new _ _)) (by simp [Value.oneCell']) (by decide) (by unfold maxLen; omega) (by omega) (by simp; omega) _ rfl ?_; intro g5 cap5 w5 hrow5 hg5 _ _)
      have hown5 : ∀ k, u3.ownBlock = some k → w1.heap.size ≤ k := fun k e => (hrow.lt k e).1
      go_roundw
      case rel =>
        refine ⟨k + 1, by omega, by go_num, ?_, Below.grown (hbl.alloc (by omega) _) hg5 (by simp; omega) hown5⟩
        rw [hst.out]
        exact hrow5
      case measure => simp [intOf]; omega
    · obtain rfl : k = 4352 := by omega
      have hc0' : wr.cell? ⟨B, 0, none⟩ = some (.slice (some ⟨b, off, none⟩) (256 * n) c) := (hbl.cell (p := ⟨B, 0, none⟩) hBw).trans hc0
      have hnews' : Hid (∀ j u, (byt t.F.flatten)[j]? = some u → wr.cell? ((⟨b, off, none⟩ : Addr).add j) = some u) := fun j u hu =>
        (World.cell?_of_block (hbl.block _ (by unfold Addr.add; split <;> exact Nat.lt_of_lt_of_le hadlt hn))).trans (hnewsH.out j u hu)
      have hsv : Hid (byt (((n : Int) - 1) :: (t.L.take 4352).map Int.ofNat) ++ byt t.F.flatten = byt (saveL t) ∧ 1 + 4352 + 256 * n = (saveL t).length) := by
        have e1 : t.L.take 4352 = t.L := List.take_of_length_le (by rw [hLlen.out]; exact Nat.le_refl _)
        rw [e1, ← byt_append, List.cons_append]
        refine ⟨by rw [hnH.out]; rfl, ?_⟩
        unfold saveL
        simp only [List.length_cons, List.length_append, List.length_map, hLlen.out, hflH.out]
        omega
      have hlF : (byt t.F.flatten).length = 256 * n := by rw [byt_length, hflH.out]
      have hbs := hbl.size
      obtain ⟨Fb, hFb⟩ : ∃ Fb, Fb = t.F.flatten := ⟨_, rfl⟩
      rw [← hFb] at hnews' hsv hlF
      clear hFb
      go_wp2_with (at_builtin; refine wpList_append_lies _ rfl (.tmp 30) (.tmp 34) 33 rfl w1.heap.size 5 i0 (.int .u8 0) 1 1 bytesU hi0 hz0 hz1 hz2 rfl (by decide) _ _ _ rfl hrow ⟨b, off, none⟩ (256 * n) c (byt Fb) rfl (by rw [hlF]; omega) hnews'.out (byt_one Fb) (by omega) (by unfold maxLen; omega) (by omega) hbs _ rfl ?_; intro g6 cap6 w6 hrow6 hg6 _ _)
      have hown6 : ∀ k, u3.ownBlock = some k → w1.heap.size ≤ k := fun k e => (hrow.lt k e).1
      go_ret
      refine ⟨_, rfl, ?_, Below.grown hbl hg6 hbs hown6⟩
      obtain ⟨f1, f2⟩ := hsv.out
      rw [f1] at hrow6
      rw [← f2]
      exact hrow6
end Go.Proofs.YtpaijpdmeiagfaaDoor
