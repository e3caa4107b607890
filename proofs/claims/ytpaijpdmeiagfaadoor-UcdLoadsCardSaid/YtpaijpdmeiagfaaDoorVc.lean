/- The document's trie: Build. -/
import Derived.Test.YtpaijpdmeiagfaaDoorVb
import Derived.BigQuiet
import Derived.Deep.QuietTactic
import Derived.Laws.MakeOwn
namespace Go.Proofs.Kk
open Go Go.RowKit
theorem madeCells_one (v : Value) (n : Nat) : madeCells #[v] n = Array.replicate n v := by
  apply Array.ext
  · simp [madeCells]
  · intro i h1 h2
    have e : i % 1 = 0 := by omega
    simp [madeCells, e]
section
variable {P : Program} {ops : Array Oper} {rest : List Oper} {o : Oper} {a : Act} {Q : Exit → Act → World → Prop}
/-- 'make' of a full slice of one-cell zeros; the world behind it is a letter -/
theorem wpList_make_zo (hg : o.guard = none) (t e : TypeId) (x y : Operand) (ho : o.op = .makeSlice t x y) (w : World) (n : Nat) (z : Value) (bytes : Nat) (ht : P.underlying t = some (.slice e))
    (hi : (P.info? e).map (fun i => (i.zero, i.size, i.bytes)) = some (some z, 1, bytes)) (hz : z.cells = #[z]) (hb : (bytes : Int) * (n : Int) ≤ 281474976710656) (hn : (n : Int) ≤ 9223372036854775807)
    (hx : a.eval x = .int .i64 n) (hy : a.eval y = .int .i64 n)
    (hK : ∀ w', w'.heap[w.heap.size]? = some (.cells (Array.replicate n z) e (0, 0)) → Below w.heap.size w w' → w.heap.size < w'.heap.size → wpList P ops Q rest (a.put o.dst (.slice (some ⟨w.heap.size, 0, none⟩) n n)) w') :
    wpList P ops Q (o :: rest) a w := by
  refine wpList_plain hg fun K hK' => ?_
  obtain ⟨i, hi1, hz1, hz2, hz3⟩ := info_parts hi
  have hr := run_make (P := P) w t e i z ht hi1 hz1 .i64 .i64 n n (by omega) (Int.le_refl _) (by rw [hz3]; exact hb) hn
  rw [hz, hz2, madeCells_one, Nat.mul_one, Int.toNat_natCast] at hr
  unfold Oper.wp
  simp only [execOp, ho, hx, hy, Sem.run_bind, hr, Result.andThen_ok, Sem.run_pure]
  have := hK _ (heap_alloc_new _ _) ((Below.refl _ _).alloc (Nat.le_refl _) _) (by simp)
  exact hK' _ _ this
end
end Go.Proofs.Kk
namespace Go.Proofs.YtpaijpdmeiagfaaDoor
open Go Go.RowKit Go.WideMaps Go.Proofs.Kk Go.Proofs.Tm Go.Proofs.Gg

/-- the document's trie, whole, below block n₀ -/
structure RefAt (w : World) (n₀ B : Nat) (t : TD) : Prop where
  lt : B < n₀
  len : t.L.length = 4352
  pos : 0 < t.F.length
  few : t.F.length ≤ 256
  blk : ∀ c ∈ t.F, IsBlk c
  src : ∃ bs, t = TD.ofBlocks bs
  row : ∃ v1 g2 c2, w.heap[B]? = some (.cells #[v1, .slice (some ⟨g2, 0, none⟩) 4352 c2] 104 (0, 0)) ∧ (∃ a c, v1 = .slice a (256 * t.F.length) c) ∧ BytesAt w n₀ v1 t.F.flatten ∧ g2 < n₀ ∧ 4352 ≤ c2 ∧ ∀ i, i < 4352 → w.cell? ⟨g2, i, none⟩ = some (.int .i64 (t.L.getD i 0 : Nat))

theorem RefAt.below {w w' : World} {n₀ B N : Nat} {t : TD} (h : RefAt w n₀ B t) (hb : Below N w w') (hN : n₀ ≤ N) : RefAt w' n₀ B t := by
  obtain ⟨hlt, hl, hp, hf, hbk, hsr, v1, g2, c2, h1, h2, h3, h4, h5, h6⟩ := h
  exact ⟨hlt, hl, hp, hf, hbk, hsr, v1, g2, c2, (hb.block B (by omega)).trans h1, h2, h3.below hb hN, h4, h5, fun i hi => (hb.cell (p := ⟨g2, i, none⟩) (by simp; omega)).trans (h6 i hi)⟩
theorem RefAt.mono {w : World} {n₀ n₁ B : Nat} {t : TD} (h : RefAt w n₀ B t) (hn : n₀ ≤ n₁) : RefAt w n₁ B t := by
  obtain ⟨hlt, hl, hp, hf, hbk, hsr, v1, g2, c2, h1, h2, h3, h4, h5, h6⟩ := h
  exact ⟨by omega, hl, hp, hf, hbk, hsr, v1, g2, c2, h1, h2, h3.mono hn, by omega, h5, h6⟩
theorem RefAt.heap {w w' : World} {n₀ B : Nat} {t : TD} (h : RefAt w n₀ B t) (hw : w'.heap = w.heap) : RefAt w' n₀ B t := by
  obtain ⟨hlt, hl, hp, hf, hbk, hsr, v1, g2, c2, h1, h2, h3, h4, h5, h6⟩ := h
  exact ⟨hlt, hl, hp, hf, hbk, hsr, v1, g2, c2, by rw [hw]; exact h1, h2, h3.heap hw, h4, h5, fun i hi => (World.cell?_of_block (w := w) (by rw [hw])).trans (h6 i hi)⟩

theorem PR.done {w : World} {base B : Nat} {t : TD} (h : PR w base B t) (hl : t.L.length = 4352) (hp : 0 < t.F.length) (hf : t.F.length ≤ 256) : RefAt w w.heap.size B t := by
  obtain ⟨bB, ⟨v1, v2, hB, h1, h2⟩, r1, r2, r3, r4⟩ := h
  have hfl := flatten_len (fun c hc => (r2 c hc).len)
  obtain ⟨ao1, c1, rfl⟩ := ownsRow_slice h1
  rcases h2.2 with ⟨_, h⟩ | ⟨g, cap, cur, rfl, h2', h3, h4, h5, h6, h7⟩
  · omega
  · rw [hl] at hB h4 h7
    refine ⟨(Array.getElem?_eq_some_iff.1 hB).1, hl, hp, hf, r2, r4, _, g, cap, hB, ⟨_, _, rfl⟩, ?_, (Array.getElem?_eq_some_iff.1 h3).1, h4, ?_⟩
    · have := @BytesAt.of_own w base 5 (.slice ao1 (256 * t.F.length) c1) t.F.flatten (by rw [hfl]; exact h1) (by omega)
      exact this
    · intro i hi
      rw [cell_of_row _ _ _ _ _ _ h3]
      have e2 := intc_get t.L i (by omega)
      rw [← h7, List.getElem?_take, if_pos (by omega)] at e2
      rw [← Array.getElem?_toList]; exact e2

theorem PR_start (w : World) : PR (w.alloc (.cells #[.slice none 0 0, .slice none 0 0] 104)) w.heap.size w.heap.size ⟨[], []⟩ :=
  ⟨Nat.le_refl _, ⟨_, _, heap_alloc_new _ _, World.ownsRow_nil _ _ _ _, World.ownsRow_nil _ _ _ _⟩, by simp, by simp, by simp, ⟨[], rfl⟩⟩

theorem zrow : (Array.replicate 256 (Value.int .u8 0)) = (byt (List.replicate 256 0)).toArray := by
  apply Array.ext'
  unfold byt
  rw [List.map_replicate, Array.toList_replicate]

def RBuildPost (w : World) (l : List P3) (T : TD) (e : Ending) (w' : World) : Prop :=
  ((l.any oddB = true ∧ e = .returned (nilErr 1)) ∨ (l.any oddB = false ∧ ∃ B, e = .returned (.tuple #[.pointer (some ⟨B, 0, none⟩), .int .i64 0]) ∧ RefAt w' w'.heap.size B T)) ∧ Below w.heap.size w w'

set_option maxRecDepth 100000 in
set_option maxHeartbeats 4000000 in
theorem rbuild_any (v : Value) (l : List P3) (w : World) (h : PropsAt w w.heap.size v l) (hl : l.length ≤ 4096) (T : TD) (hT : Hid (T = tdOf (pval l))) (hF : Hid (T.F.length ≤ 256)) :
    Calls Tryd.prog 64 #[v] w (RBuildPost w l T) := by
  have h0 := h
  obtain ⟨ao, c, rfl, hsz, hr, _⟩ := h0
  have hl1 : (l.length : Int) ≤ 4096 := by omega
  go_enter Tryd.func64, Tryd.ntmps64
  go_wp2
  go_loopw [4] (fun i wr => ∃ (k : Nat), k ≤ l.length ∧ i = .int .i64 k ∧ Hid (∀ x ∈ l.take k, oddB x = false) ∧ Below w.heap.size w wr) (fun i _ => l.length - (intOf i).toNat)
  case atStart => exact ⟨0, by omega, rfl, by simp [Hid], Below.refl _ _⟩
  case round =>
    obtain ⟨k, hk, rfl, hno, hb⟩ := hrel
    by_cases hlt : k < l.length
    · have hP := h.below hb (Nat.le_refl _)
      obtain ⟨ao', c', hv, _, _, hP⟩ := hP
      obtain ⟨b, off, ha, hbn, hc⟩ := hP (by intro e; rw [e] at hlt; simp at hlt)
      cases hv
      subst ha
      have hx : l[k]? = some l[k] := by simp [hlt]
      obtain ⟨h1, h2, h3⟩ := hc k l[k] hx
      have hk1 : (k : Int) < l.length := by omega
      have hk0 : (0 : Int) ≤ k := by omega
      have hmem : l[k] ∈ l := List.getElem_mem hlt
      have hbad : Hid (oddB l[k] = true → l.any oddB = true) := fun ho => List.any_eq_true.2 ⟨_, hmem, ho⟩
      have hgood : Hid (oddB l[k] = false → ∀ x ∈ l.take (k + 1), oddB x = false) := by
        intro ho x hx
        rw [List.take_succ_eq_append_getElem hlt, List.mem_append, List.mem_singleton] at hx
        rcases hx with hx | rfl
        · exact hno.out x hx
        · exact ho
      clear hc hP hr hx hmem
      generalize l[k] = x at h1 h2 h3 hbad hgood
      by_cases c1 : x.lo < 0
      · have hod : Hid (oddB x = true) := by simp [Hid, oddB, c1]
        go_wp2
        go_quiet (fail)
        go_wp2
        go_ret2
        exact ⟨.inl ⟨hbad.out hod.out, rfl⟩, below_drewN hb _⟩
      · have d1 : decide (x.lo < 0) = false := by simpa using c1
        by_cases c2 : 1114111 < x.hi
        · have hod : Hid (oddB x = true) := by simp [Hid, oddB, c2]
          have c1' : 0 ≤ x.lo := by omega
          clear c1
          go_wp2
          go_quiet (fail)
          go_wp2
          go_ret2
          exact ⟨.inl ⟨hbad.out hod.out, rfl⟩, below_drewN hb _⟩
        · have d2 : decide (1114111 < x.hi) = false := by simpa using c2
          by_cases c3 : x.hi < x.lo
          · have hod : Hid (oddB x = true) := by simp [Hid, oddB, c3]
            have c1' : 0 ≤ x.lo := by omega
            have c2' : x.hi ≤ 1114111 := by omega
            clear c1 c2
            go_wp2
            go_quiet (fail)
            go_wp2
            go_ret2
            exact ⟨.inl ⟨hbad.out hod.out, rfl⟩, below_drewN hb _⟩
          · have d3 : decide (x.hi < x.lo) = false := by simpa using c3
            have hod : Hid (oddB x = false) := by simp [Hid, oddB, d1, d2, d3]
            have c1' : 0 ≤ x.lo := by omega
            have c2' : x.hi ≤ 1114111 := by omega
            have c3' : x.lo ≤ x.hi := by omega
            clear c1 c2 c3
            go_wp2
            go_quiet (fail)
            go_wp2
            go_roundw
            case rel => exact ⟨k + 1, by omega, by go_num, hgood.out hod.out, below_drewN hb _⟩
            case measure => simp [intOf]; omega
    · obtain rfl : k = l.length := by omega
      have hall : Hid (l.any oddB = false) := by
        have := hno.out
        rw [List.take_of_length_le (Nat.le_refl _)] at this
        refine List.any_eq_false.2 fun x hx => ?_
        rw [this x hx]; simp
      clear hno
      have hst := PR_start wr
      have hbs := (Below.refl wr.heap.size wr).alloc (Nat.le_refl _) (.cells #[.slice none 0 0, .slice none 0 0] 104)
      have hP0 : PropsAt wr w.heap.size (.slice ao l.length c) l := h.below hb (Nat.le_refl _)
      have hbsz := hb.size
      have hfit := Lib.hid hr
      clear hr h
      go_wp2
      generalize wr.alloc (.cells #[.slice none 0 0, .slice none 0 0] 104) = W0 at hst hbs ⊢
      obtain ⟨B, hB⟩ : ∃ B, B = wr.heap.size := ⟨_, rfl⟩
      rw [← hB] at hst hbs ⊢
      have hBw : w.heap.size ≤ B := by omega
      have hb0 : Below w.heap.size w W0 := hb.trans (hbs.mono hBw)
      have hP0 : PropsAt W0 w.heap.size (.slice ao l.length c) l := hP0.below hbs hBw
      clear hb hbs hB hbsz
      go_loopw [6] (fun i wr => ∃ (k : Nat) (t : TD), k ≤ 4352 ∧ i = .int .i64 k ∧ Hid (t = tdK (pval l) k) ∧ PR wr B B t ∧ Below B W0 wr) (fun i _ => 4352 - (intOf i).toNat)
      case atStart => exact ⟨0, ⟨[], []⟩, by omega, rfl, rfl, hst, Below.refl _ _⟩
      case round =>
        obtain ⟨k, t, hk, rfl, ht, hpt, hbr⟩ := hrel
        by_cases hlt : k < 4352
        · have hk1 : (k : Int) < 4352 := by omega
          have hk0 : (0 : Int) ≤ k := by omega
          have hlB : B < wr.heap.size := by
            obtain ⟨_, ⟨v1, v2, hB, _⟩, _⟩ := hpt
            exact (Array.getElem?_eq_some_iff.1 hB).1
          have hP : PropsAt wr wr.heap.size (.slice ao l.length c) l := (hP0.below hbr hBw).mono (by omega)
          obtain ⟨bb, hbb⟩ : ∃ bb, bb = blk (pval l) k := ⟨_, rfl⟩
          have hblk : Hid (IsBlk bb) := by rw [hbb]; exact blk_isBlk (pval_rng fun x hx => (hfit.out x hx).2.2.2.2)
          have htL : Hid (t.L.length = k) := by rw [ht.out, tdK_L]; rfl
          have hts : Hid (t.add bb = tdK (pval l) (k + 1)) := by rw [hbb, ht.out, tdK_succ]; rfl
          have hfew : (t.add bb).F.length ≤ 256 := by
            have := (tdK_prefix (pval l) (k + 1) 4352 (by omega)).length_le
            rw [tdK_all, ← hT.out, ← hts.out] at this
            have := hF.out; omega
          have hfew2 : t.F.length ≤ (t.add bb).F.length := (TD.add_F_prefix t bb).length_le
          have hbH : Hid (bb = blk (pval l) k) := hbb
          clear hbb ht
          go_wp2_with (first
            | (go_at_call 92; refine (touched_any _ l k _ hP hlt hl).mono ?_; rintro e w1 ⟨u, rfl, hPu, hb1⟩; obtain ⟨mine, hmine⟩ : ∃ mine, mine = l.filter (touchB (k : Int)) := ⟨_, rfl⟩; rw [← hmine] at hPu; have hmH := Lib.hid hmine; clear hmine; have hPm := hPu; obtain ⟨am, cm, rfl, hszm, _, _⟩ := hPu)
            | (at_make; refine wpList_make_zo rfl 33 5 _ _ rfl _ 256 (.int .u8 0) 1 bytesU infoU8 rfl (by decide) (by decide) rfl rfl ?_; intro w2 hrow2 hb2 hlt2))
          rw [zrow, ← blkTo_zero (pval mine) k] at hrow2
          obtain ⟨n1, hn1⟩ : ∃ n1, n1 = w1.heap.size := ⟨_, rfl⟩
          rw [← hn1] at hrow2 hb2 hlt2 hPm ⊢
          have hn1' : wr.heap.size ≤ n1 := by have := hb1.size; omega
          clear hn1
          go_loopw [9] (fun v wr => ∃ i : Nat, i ≤ 256 ∧ v = .int .i64 i ∧ Hid (mine = [] → i = 0) ∧ wr.heap[n1]? = some (.cells (byt (blkTo (pval mine) k i)).toArray 5 (0, 0)) ∧ Below n1 w1 wr) (fun v _ => 256 - (intOf v).toNat)
          case atStart => exact ⟨0, by omega, rfl, fun _ => rfl, hrow2, hb2⟩
          case round =>
            obtain ⟨i, hi, rfl, hz, hrow, hb4⟩ := hrel
            have hln : n1 < wr.heap.size := (Array.getElem?_eq_some_iff.1 hrow).1
            by_cases hin : i < 256 ∧ mine ≠ []
            · obtain ⟨hi1, hne⟩ := hin
              have hml : 0 < mine.length := List.length_pos_iff.2 hne
              have hml1 : (0 : Int) < mine.length := by omega
              have hi0 : (0 : Int) ≤ i := by omega
              have hi2 : (i : Int) < 256 := by omega
              have hPm4 : PropsAt wr n1 (.slice am mine.length cm) mine := hPm.below hb4 (Nat.le_refl _)
              have hcj : wr.cell? ⟨n1, i, none⟩ = some (.int .u8 ((blkTo (pval mine) k i).getD i 0)) := by
                rw [cell_of_row _ _ _ _ _ _ hrow]; simp [byt, blkTo_length, hi1, List.getD]
              have hzj : wr.frozen? ⟨n1, i, none⟩ = false := frozen_of_row _ _ _ _ _ hrow
              obtain ⟨y, hy⟩ : ∃ y, y = pval mine (256 * (k : Int) + i) := ⟨_, rfl⟩
              have hval := value_any (.slice am mine.length cm) mine ((k : Int) * 256 + i) wr n1 hPm4
              have he : pval mine ((k : Int) * 256 + i) = y := by rw [hy, show (k : Int) * 256 + i = 256 * (k : Int) + i by omega]
              rw [he] at hval
              have hset : Hid ((blkTo (pval mine) k i).set i y = blkTo (pval mine) k (i + 1)) := by rw [hy]; exact blkTo_set _ _ _ hi1
              have hneH := Lib.hid hne
              clear hy hPm4 hne hz he
              go_wp2_with (go_at_call 93; refine hval.mono ?_; clear hval; rintro e w5 ⟨rfl, rfl⟩)
              go_roundw
              case rel =>
                refine ⟨i + 1, by omega, by go_num, fun h => absurd h hneH.out, ?_, hb4.setCell (p := ⟨n1, i, none⟩) (Nat.le_refl _) _⟩
                rw [heap_setCell_same _ _ _ _ _ _ hrow, ← hset.out]
                simp [byt, List.map_set]
              case measure => simp [intOf]; omega
            · have hfull : blkTo (pval mine) k i = bb := by
                by_cases hm : mine = []
                · rw [hz.out hm, blkTo_zero, hbH.out, ← blk_touched, ← hmH.out, hm, blk_nil]
                · have : i = 256 := by
                    rcases Nat.lt_or_ge i 256 with h | h
                    · exact absurd ⟨h, hm⟩ hin
                    · omega
                  rw [this, blkTo_full, hbH.out, hmH.out, blk_touched]
              rw [hfull] at hrow
              have hbw : Below wr.heap.size wr wr := Below.refl _ _
              have hPT := hpt.below (hb1.trans (hb4.mono hn1'))
              have hBy : BytesAt wr wr.heap.size (.slice (some ⟨n1, 0, none⟩) 256 256) bb := by
                refine ⟨_, 256, by rw [hblk.out.len], by rw [hblk.out.len]; exact Nat.le_refl _, by rw [hblk.out.len]; decide, by decide, .inr ⟨n1, 0, rfl, hln, ?_⟩⟩
                intro j x hx
                rw [cell_of_row _ _ _ _ _ _ hrow, Nat.zero_add]
                simp [byt, hx]
              have hcall := radd_any wr B B t hPT _ bb hBy hblk.out (by rw [htL.out]; exact hlt) (by omega)
              have hbel4 := hbr.trans ((hb1.trans (hb4.mono hn1')).mono (by omega))
              have hfew3 : ((t.add bb).F.length : Int) ≤ 256 := by omega
              clear hfull hrow hbw hPT hBy hpt hfew2 hbr hb1 hb4 hP
              generalize t.add bb = t2 at hcall hts hfew hfew3
              rcases (by omega : i = 256 ∨ i < 256) with hi5 | hi5
              · subst hi5
                clear hin hz
                go_wp2_with (go_at_call 94; refine hcall.mono ?_; clear hcall; rintro e w5 ⟨⟨u5, rfl⟩, hpt5, hb5⟩; obtain ⟨ao5, c5, hc5, _⟩ := hpt5.first)
                go_roundw
                case rel => exact ⟨k + 1, t2, by omega, by go_num, hts, hpt5, hbel4.trans hb5⟩
                case measure => simp [intOf]; omega
              · have hm : mine = [] := by
                  by_cases hm : mine = []
                  · exact hm
                  · exact absurd ⟨hi5, hm⟩ hin
                have hi0 := hz.out hm
                subst hi0
                subst hm
                clear hin hz
                go_wp2_with (go_at_call 94; refine hcall.mono ?_; clear hcall; rintro e w5 ⟨⟨u5, rfl⟩, hpt5, hb5⟩; obtain ⟨ao5, c5, hc5, _⟩ := hpt5.first)
                go_roundw
                case rel => exact ⟨k + 1, t2, by omega, by go_num, hts, hpt5, hbel4.trans hb5⟩
                case measure => simp [intOf]; omega
        · obtain rfl : k = 4352 := by omega
          have hT' : Hid (t = T) := by rw [hT.out, ht.out, tdK_all]; rfl
          have htL : Hid (t.L.length = 4352) := by rw [ht.out, tdK_L]; rfl
          have hpos : Hid (0 < t.F.length) := by
            have h5 := (tdK_prefix (pval l) 1 4352 (by omega)).length_le
            have h6 : (tdK (pval l) 1).F.length = 1 := by simp [tdK, TD.ofBlocks, TD.add]
            rw [← ht.out] at h5
            show 0 < t.F.length
            omega
          clear ht
          go_wp2
          go_ret2
          have e := hT'.out
          subst e
          exact ⟨.inr ⟨hall.out, B, rfl, hpt.done htL.out hpos.out hF.out⟩, hb0.trans (hbr.mono hBw)⟩
end Go.Proofs.YtpaijpdmeiagfaaDoor
