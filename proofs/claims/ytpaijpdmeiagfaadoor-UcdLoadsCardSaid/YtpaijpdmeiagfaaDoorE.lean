import Derived.Test.YtpaijpdmeiagfaaDoorD
import Derived.Lib.MinMax
namespace Go.Proofs.YtpaijpdmeiagfaaDoor
open Go Go.RowKit Go.WideMaps Go.Proofs.Kk Go.Proofs.Tm Go.Proofs.Gg

def nilErr (n : Int) : Value := .tuple #[.pointer none, .int .i64 n]

set_option maxRecDepth 100000 in
set_option maxHeartbeats 1000000 in
theorem build_long (v : Value) (l : List P3) (w : World) (h : PropsAt w w.heap.size v l) (hl : 4096 < l.length) :
    Calls Tryd.prog 89 #[v] w fun e w' => e = .returned (nilErr 3) ∧ Below w.heap.size w w' := by
  obtain ⟨ao, c, rfl, hsz, hr, _⟩ := h
  have h1 : (4096 : Int) < l.length := by omega
  go_enter Tryd.func89, Tryd.ntmps89
  go_wp2
  go_ret2
  exact ⟨rfl, Below.refl _ _⟩

set_option maxRecDepth 100000 in
set_option maxHeartbeats 1000000 in
theorem build_odd (v : Value) (l : List P3) (w : World) (h : PropsAt w w.heap.size v l) (hl : l.length ≤ 4096) (ho : l.any oddB = true) :
    Calls Tryd.prog 89 #[v] w fun e w' => e = .returned (nilErr 1) ∧ Below w.heap.size w w' := by
  have h0 := h
  obtain ⟨ao, c, rfl, hsz, hr, _⟩ := h0
  have h1 : (l.length : Int) ≤ 4096 := by omega
  have ho' : Hid (l.any oddB = true) := ho
  clear hr
  go_enter Tryd.func89, Tryd.ntmps89
  go_wp2_with (go_at_call 108; refine (contains_any _ l _ h).mono ?_; rintro e w' ⟨rfl, hb⟩; rw [ho])
  go_ret2
  exact ⟨rfl, hb⟩

/-- what a build of valid entries comes to -/
def BuildPost (w : World) (T : TD) (e : Ending) (w' : World) : Prop :=
  ((∃ B, e = .returned (.tuple #[.pointer (some ⟨B, 0, none⟩), .int .i64 0]) ∧ TrieAt w' w'.heap.size B T ∧ T.F.length ≤ 256) ∨ (e = .returned (nilErr 3) ∧ 256 < T.F.length)) ∧ Below w.heap.size w w'
set_option maxRecDepth 100000 in
set_option maxHeartbeats 2000000 in
theorem build_ok (v : Value) (l : List P3) (w : World) (h : PropsAt w w.heap.size v l) (hl : l.length ≤ 4096) (ho : l.any oddB = false) (T : TD) (hT : Hid (T = tdOf (pval l))) :
    Calls Tryd.prog 89 #[v] w (BuildPost w T) := by
  have h0 := h
  obtain ⟨ao, c, rfl, hsz, hr, _⟩ := h0
  have h1 : (l.length : Int) ≤ 4096 := by omega
  have ho' : Hid (l.any oddB = false) := ho
  have hmm := @run_makeMap Tryd.prog
  go_enter Tryd.func89, Tryd.ntmps89
  go_wp2_with (first
    | (go_at_call 108; refine (contains_any _ l _ h).mono ?_; rintro e w0 ⟨rfl, hb⟩; rw [ho])
    | (with_reducible refine wpList_build_z rfl 97 rfl _ zTrie _ Tryd.underlying97 (zero_of infoTrie) trieFs ?_)
    | (with_reducible refine wpList_box_agg rfl 97 (.tmp 19) rfl _ zTrie rfl ?_))
  have hst := PT_start w0
  have hbs : Below w0.heap.size w0 ((w0.alloc (.cells zTrie 97)).alloc (.map #[] 0)) := ((Below.refl _ _).alloc (Nat.le_refl _) _).alloc (by simp) _
  generalize (w0.alloc (.cells zTrie 97)).alloc (.map #[] 0) = ws at hst hbs ⊢
  have hP0 : PropsAt w0 w.heap.size (.slice ao l.length c) l := h.below hb (Nat.le_refl _)
  have hbsz := hb.size
  clear hmm h ho
  go_loopw [22] (fun i wr => ∃ (k : Nat) (t : TD), k ≤ 4352 ∧ i = .int .i64 k ∧ Hid (t = tdK (pval l) k) ∧ PT wr w0.heap.size w0.heap.size (w0.heap.size + 1) t ∧ Below w0.heap.size w0 wr) (fun i _ => 4352 - (intOf i).toNat)
  case atStart => exact ⟨0, ⟨[], []⟩, by omega, rfl, rfl, hst, hbs⟩
  case round =>
    obtain ⟨k, t, hk, rfl, ht, hpt, hbr⟩ := hrel
    by_cases hlt : k < 4352
    · have hk1 : (k : Int) < 4352 := by omega
      have hz0 := zero_of infoBlock
      go_wp2_with (with_reducible refine wpList_alloc_zo rfl 93 rfl _ (bagg z256) hz0 ?_; intro W1 hrow0 hbl0 _)
      obtain ⟨W, hW⟩ : ∃ W, W = wr := ⟨_, rfl⟩
      rw [← hW] at hpt hbr hrow0 hbl0 ⊢
      clear hW
      have hrow0 : W1.heap[W.heap.size]? = some (.cells (byt (blk (pval (l.take 0)) k)).toArray 93 (0, 0)) := by
        rw [hrow0, show blk (pval (l.take 0)) k = z256 from blk_con fun r _ _ => rfl]; rfl
      go_loopw [29] (fun v wr => ∃ i : Nat, i ≤ l.length ∧ v = .int .i64 i ∧ wr.heap[W.heap.size]? = some (.cells (byt (blk (pval (l.take i)) k)).toArray 93 (0, 0)) ∧ Below W.heap.size W wr) (fun v _ => l.length - (intOf v).toNat)
      case atStart => exact ⟨0, by omega, rfl, hrow0, hbl0⟩
      case round =>
        obtain ⟨i, hi, rfl, hrow, hbm⟩ := hrel
        have hlm : W.heap.size < wr.heap.size := (Array.getElem?_eq_some_iff.1 hrow).1
        by_cases hil : i < l.length
        · have hP := (hP0.below hbr (by omega)).below hbm (by have := hbr.size; omega)
          obtain ⟨ao', c', hv, _, _, hP⟩ := hP
          obtain ⟨b, off, ha, hbn, hc⟩ := hP (by intro e; rw [e] at hil; simp at hil)
          cases hv
          subst ha
          have hx : l[i]? = some l[i] := by simp [hil]
          obtain ⟨h1, h2, h3⟩ := hc i l[i] hx
          have hno : oddB l[i] = false := by
            have := List.any_eq_false.1 ho'.out l[i] (List.getElem_mem hil)
            simpa using this
          have hxb : 0 ≤ l[i].lo ∧ l[i].hi ≤ 1114111 ∧ l[i].lo ≤ l[i].hi := by simp [oddB] at hno; omega
          have hxv := (hr l[i] (List.getElem_mem hil)).2.2.2.2
          clear hc hP hno
          generalize l[i] = x at hx h1 h2 h3 hxb hxv
          obtain ⟨hx1, hx2, hx3⟩ := hxb
          have hi1 : (i : Int) < l.length := by omega
          go_wp2
          obtain ⟨wx, hwx⟩ : ∃ wx, wx = wr.alloc (.cells #[.int .i64 x.lo, .int .i64 x.hi, .int .u8 x.v] 68) := ⟨_, rfl⟩
          have hX : wx.heap[wr.heap.size]? = some (.cells #[.int .i64 x.lo, .int .i64 x.hi, .int .u8 x.v] 68 (0, 0)) := by rw [hwx]; exact heap_alloc_new _ _
          have hbx : Below W.heap.size W wx := by rw [hwx]; exact hbm.alloc (by omega) _
          have hrx : wx.heap[W.heap.size]? = some (.cells (byt (blk (pval (l.take i)) k)).toArray 93 (0, 0)) := by rw [hwx]; exact (Below.heap_alloc _ _ _ hlm).trans hrow
          rw [← hwx]
          clear hwx h1 h2 h3
          obtain ⟨Bx, hBx⟩ : ∃ Bx, Bx = wr.heap.size := ⟨_, rfl⟩
          rw [← hBx] at hX hlm ⊢
          clear hBx hrow hbm
          go_loopw [12] (fun v wr => ∃ r : Int, v = .int .i64 r ∧ x.lo ≤ r ∧ (k : Int) * 256 ≤ r ∧ Hid (∀ q : Int, (k : Int) * 256 ≤ q → x.lo ≤ q → q < r → q ≤ x.hi) ∧
            wr.heap[W.heap.size]? = some (.cells (byt (blk (over (pval (l.take i)) x r) k)).toArray 93 (0, 0)) ∧
            wr.heap[Bx]? = some (.cells #[.int .i64 x.lo, .int .i64 x.hi, .int .u8 x.v] 68 (0, 0)) ∧ Below W.heap.size W wr) (fun v _ => (x.hi + 1 - intOf v).toNat)
          case atStart =>
            refine ⟨_, rfl, by omega, by omega, fun q h1 h2 h3 => by omega, ?_, hX, hbx⟩
            rw [hrx, blk_congr (f := over _ _ _) (g := pval (l.take i)) (fun q h1 h2 => by unfold over; rw [if_neg (by omega)])]
          case round =>
            obtain ⟨r, rfl, hr1, hr2, hrq, hrow, hX', hb'⟩ := hrel
            have hx0 : wr.cell? ⟨Bx, 1, none⟩ = some (.int .i64 x.hi) := by rw [cell_of_row _ _ _ _ _ _ hX']; rfl
            have hx4 : wr.cell? ⟨Bx, 2, none⟩ = some (.int .u8 x.v) := by rw [cell_of_row _ _ _ _ _ _ hX']; rfl
            by_cases hin : r ≤ x.hi ∧ r ≤ (k : Int) * 256 + 255
            · obtain ⟨hin1, hin2⟩ := hin
              obtain ⟨j, hj⟩ : ∃ j : Nat, r = (k : Int) * 256 + j := ⟨(r - k * 256).toNat, by omega⟩
              subst hj
              have hj1 : j < 256 := by omega
              have hj2 : (j : Int) < 256 := by omega
              have hj3 : (k : Int) * 256 + j ≤ min x.hi ((k : Int) * 256 + 256 - 1) := by omega
              have hcj : wr.cell? ⟨W.heap.size, j, none⟩ = some (.int .u8 ((blk (over (pval (l.take i)) x ((k : Int) * 256 + j)) k).getD j 0)) := by
                rw [cell_of_row _ _ _ _ _ _ hrow]; simp [byt, blk_length, hj1, List.getD]
              have hzj : wr.frozen? ⟨W.heap.size, j, none⟩ = false := frozen_of_row _ _ _ _ _ hrow
              have hnx : ∀ q : Int, (k : Int) * 256 ≤ q → x.lo ≤ q → q < (k : Int) * 256 + j + 1 → q ≤ x.hi := fun q h1 h2 h3 => by omega
              have hnx' := Lib.hid hnx
              have hset := over_set (pval (l.take i)) x k j hj1 (by omega)
              have hset' := Lib.hid hset
              clear hnx hset
              go_wp2
              go_roundw
              case rel =>
                  refine ⟨(k : Int) * 256 + j + 1, rfl, by omega, by omega, hnx'.out, ?_, ?_, hb'.setCell (p := ⟨W.heap.size, j, none⟩) (Nat.le_refl _) _⟩
                  · rw [hset'.out, heap_setCell_same _ _ _ _ _ _ hrow]; simp [byt, List.map_set]
                  · rw [heap_setCell_other _ _ _ _ (by simp; omega)]; exact hX'
              case measure => simp [intOf]; omega
            · have hfin : blk (over (pval (l.take i)) x r) k = blk (pval (l.take (i + 1))) k := by
                have e : l.take (i + 1) = l.take i ++ [x] := by
                  obtain ⟨h4, h5⟩ := List.getElem?_eq_some_iff.1 hx
                  rw [List.take_succ_eq_append_getElem h4, h5]
                rw [e]
                apply blk_congr
                intro q h4 h5
                rw [pval_snoc]
                unfold over
                by_cases h6 : x.lo ≤ q ∧ q < r
                · rw [if_pos h6, if_pos ⟨h6.1, hrq.out q (by omega) h6.1 h6.2⟩]
                · rw [if_neg h6, if_neg (by omega)]
              have hrow2 : Hid (wr.heap[W.heap.size]? = some (.cells (byt (blk (pval (l.take (i + 1))) k)).toArray 93 (0, 0))) := by rw [← hfin]; exact hrow
              have hin' : Hid (¬(r ≤ x.hi ∧ r ≤ (k : Int) * 256 + 255)) := hin
              clear hfin hrow
              have hc2 : min x.hi ((k : Int) * 256 + 256 - 1) < r := by omega
              clear hin
              go_wp2
              go_roundw
              case rel => exact ⟨i + 1, by omega, by go_num, hrow2.out, hb'⟩
              case measure => simp [intOf]; omega
        · obtain rfl : i = l.length := by omega
          rw [List.take_of_length_le (Nat.le_refl _)] at hrow
          have hpt2 := hpt.below hbm
          have hblk : IsBlk (blk (pval l) k) := blk_isBlk (pval_rng fun x hx => (hr x hx).2.2.2.2)
          have htL : Hid (t.L.length = k) := by rw [ht.out, tdK_L]; rfl
          have hbelr : Below w0.heap.size w0 wr := hbr.trans (hbm.mono hbr.size)
          have hts : Hid (t.add (blk (pval l) k) = tdK (pval l) (k + 1)) := by rw [ht.out, tdK_succ]; rfl
          have hnd := hpt.few
          obtain ⟨bb, hbb⟩ : ∃ bb, bb = blk (pval l) k := ⟨_, rfl⟩
          rw [← hbb] at hblk hts hrow
          clear hbb hpt
          by_cases hm : bb ∈ t.F ∨ t.F.length < 256
          · have hm' := Lib.hid hm
            clear hm hnd
            go_wp2_with (first
              | (with_reducible refine wpList_load_row rfl 93 (.tmp 8) rfl W.heap.size rfl 93 (byt bb).toArray (0, 0) _ hrow blockU rfl (by rw [size_of infoBlock]; simp [byt_length, hblk.1]) ?_)
              | (go_at_call 91; refine (add_ok wr w0.heap.size w0.heap.size (w0.heap.size + 1) t k htL bb hblk hpt2 hlt hm'.out).mono ?_; rintro e w2 ⟨rfl, hpt3, hb3⟩))
            go_roundw
            case rel => exact ⟨k + 1, _, by omega, by go_num, hts.out, hpt3, hbelr.trans hb3⟩
            case measure => simp [intOf]; omega
          · have hm1 : bb ∉ t.F := fun h => hm (.inl h)
            have hm2 : t.F.length = 256 := by omega
            have hm1' := Lib.hid hm1
            have hm2' := Lib.hid hm2
            clear hm hnd hm1 hm2
            go_wp2_with (first
              | (with_reducible refine wpList_load_row rfl 93 (.tmp 8) rfl W.heap.size rfl 93 (byt bb).toArray (0, 0) _ hrow blockU rfl (by rw [size_of infoBlock]; simp [byt_length, hblk.1]) ?_)
              | (go_at_call 91; refine (add_no wr w0.heap.size w0.heap.size (w0.heap.size + 1) t k htL bb hblk hpt2 hm1'.out hm2'.out).mono ?_; rintro e w2 ⟨rfl, hb3⟩))
            go_ret2
            refine ⟨.inr ⟨rfl, ?_⟩, hb.trans ((hbelr.trans hb3).mono hbsz)⟩
            have h5 := (tdK_prefix (pval l) (k + 1) 4352 (by omega)).length_le
            rw [tdK_all, ← hT.out, ← hts.out, TD.add_new_F _ _ hm1'.out, List.length_append, hm2'.out] at h5
            simp at h5; omega
    · obtain rfl : k = 4352 := by omega
      have hT' : Hid (t = T) := by rw [hT.out, ht.out, tdK_all]; rfl
      go_wp2
      go_ret2
      have e := hT'.out
      subst e
      refine ⟨.inl ⟨w0.heap.size, rfl, hpt.done ?_ ?_, hpt.few⟩, hb.trans (hbr.mono hbsz)⟩
      · rw [ht.out, tdK_L]
      · have h5 := (tdK_prefix (pval l) 1 4352 (by omega)).length_le
        have h6 : (tdK (pval l) 1).F.length = 1 := by simp [tdK, TD.ofBlocks, TD.add]
        rw [← ht.out] at h5
        omega
end Go.Proofs.YtpaijpdmeiagfaaDoor
