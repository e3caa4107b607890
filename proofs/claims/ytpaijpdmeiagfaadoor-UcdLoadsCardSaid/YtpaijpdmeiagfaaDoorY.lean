/- Load. -/
import Derived.Test.YtpaijpdmeiagfaaDoorQ
import Derived.Test.YtpaijpdmeiagfaaDoorI
import Derived.Laws.Cover3
set_option linter.unusedVariables false
set_option linter.unusedSimpArgs false
namespace Go.Proofs.YtpaijpdmeiagfaaDoor
open Go Go.RowKit Go.WideMaps Go.Proofs.Kk Go.Proofs.Tm Go.Proofs.Gg

theorem PT.likeAt {w : World} {base B M : Nat} {t : TD} {V : List Int} (h : PT w base B M (t.add V)) (hk : t.L.length < 4352) : w.cell? ⟨B, t.L.length, none⟩ = some (.int .u8 (t.F.idxOf V : Nat)) := by
  obtain ⟨_, _, ⟨v1, hB, _⟩, _, hlen, _⟩ := h
  rw [cell_of_row _ _ _ _ _ _ hB, trieCells_like _ _ _ hk hlen]
  have hl := likeL_length t (by omega)
  rw [likeL_add t V hk]
  simp [List.getD, hl, hk]

def LoadPost (w : World) (b : List Int) (T : TD) (e : Ending) (w' : World) : Prop :=
  ((LoadOk b T ∧ ∃ B, e = .returned (.tuple #[.pointer (some ⟨B, 0, none⟩), .int .i64 0]) ∧ TrieAt w' w'.heap.size B T) ∨ (¬ LoadOk b T ∧ e = .returned (nilErr 2))) ∧ Below w.heap.size w w'

set_option maxRecDepth 100000 in
set_option maxHeartbeats 1000000 in
theorem load_short (v : Value) (b : List Int) (w : World) (hbv : BytesAt w w.heap.size v b) (T : TD) (hs : b.length ≤ 4352) :
    Calls Tryd.prog 63 #[v] w (LoadPost w b T) := by
  obtain ⟨ao, c, rfl, _⟩ := hbv
  have h1 : (b.length : Int) ≤ 4352 := by omega
  have hno : Hid (¬ LoadOk b T) := fun h => by have := h.len.1; omega
  go_enter Tryd.func63, Tryd.ntmps63
  go_wp2
  go_ret2
  exact ⟨.inr ⟨hno.out, rfl⟩, Below.refl _ _⟩

set_option maxRecDepth 100000 in
set_option maxHeartbeats 1000000 in
theorem load_odd (v : Value) (b : List Int) (w : World) (hbv : BytesAt w w.heap.size v b) (hb : IsB b) (T : TD) (hs : 4353 ≤ b.length) (hl : ¬ lenOk b) :
    Calls Tryd.prog 63 #[v] w (LoadPost w b T) := by
  obtain ⟨ao, c, rfl, hlc, hl2, _, hx⟩ := hbv
  have h1 : (4352 : Int) < b.length := by omega
  have hno : Hid (¬ LoadOk b T) := fun h => hl h.len
  rcases hx with ⟨_, h, _⟩ | ⟨bb, off, rfl, hbb, hcell⟩
  · rw [h] at hs; simp at hs
  · have h0 := hcell 0 (b.getD 0 0) (by rw [getD_lt (by omega)]; exact List.getElem?_eq_getElem (by omega))
    have hr0 : 0 ≤ b.getD 0 0 ∧ b.getD 0 0 ≤ 255 := by rw [getD_lt (by omega)]; exact hb _ (List.getElem_mem _)
    have hne : ¬ (b.length : Int) = 4353 + 256 * (b.getD 0 0 + 1) := by intro h; exact hl ⟨hs, by omega⟩
    rw [Nat.add_zero] at h0
    clear hcell hl hb
    generalize b.getD 0 0 = x at h0 hr0 hne
    generalize b.length = n at h1 hne hlc hl2 hs ⊢
    have hd : ((n : Int) != 4353 + 256 * (x + 1)) = true := by simpa using hne
    have hr1 := hr0.1
    have hr2 := hr0.2
    clear hr0
    go_enter Tryd.func63, Tryd.ntmps63
    go_wp2
    go_ret2
    exact ⟨.inr ⟨hno.out, rfl⟩, Below.refl _ _⟩

set_option maxRecDepth 100000 in
set_option maxHeartbeats 4000000 in
theorem load_full (v : Value) (b : List Int) (w : World) (hbv : BytesAt w w.heap.size v b) (hb : IsB b) (T : TD) (hT : Hid (T = TD.ofBlocks (loadBs b))) (hl : lenOk b) :
    Calls Tryd.prog 63 #[v] w (LoadPost w b T) := by
  obtain ⟨ao, c, rfl, hlc, hl2, hc63, hx⟩ := hbv
  obtain ⟨hs, hl3⟩ := hl
  rcases hx with ⟨_, h, _⟩ | ⟨bb, off, rfl, hbb, hcell⟩
  · rw [h] at hs; simp at hs
  have h0 := hcell 0 (b.getD 0 0) (by rw [getD_lt (by omega)]; exact List.getElem?_eq_getElem (by omega))
  rw [Nat.add_zero] at h0
  have hr0 : 0 ≤ b.getD 0 0 ∧ b.getD 0 0 ≤ 255 := by rw [getD_lt (by omega)]; exact hb _ (List.getElem_mem _)
  obtain ⟨N, hN⟩ : ∃ N : Nat, b.getD 0 0 = N := ⟨(b.getD 0 0).toNat, by omega⟩
  have hlenOk : Hid (lenOk b) := ⟨hs, hl3⟩
  rw [hN] at h0 hr0
  have hN1 : N ≤ 255 := by omega
  have hn : b.length = 4609 + 256 * N := by rw [hl3, hN, Int.toNat_natCast]; omega
  have hNH : Hid (b.getD 0 0 = N) := hN
  have hcellH : Hid (∀ j x, b[j]? = some x → w.cell? ⟨bb, off + j, none⟩ = some (.int .u8 x)) := hcell
  have hbH : Hid (IsB b) := hb
  have hnH : Hid (b.length = 4609 + 256 * N) := hn
  rw [hn] at hlc ⊢
  clear hs hl3 hl2 hN hr0 hn hcell hb
  have hN2 : (N : Int) ≤ 255 := by omega
  have hN0 : (0 : Int) ≤ N := by omega
  have hc1 : (4609 : Int) + 256 * N ≤ c := by omega
  have hd : ((4609 : Int) + 256 * N != 4353 + 256 * ((N : Int) + 1)) = false := by simp; omega
  have hmm := @run_makeMap Tryd.prog
  have hst := PT_start w
  have hbs : Below w.heap.size w ((w.alloc (.cells zTrie 97)).alloc (.map #[] 0)) := ((Below.refl _ _).alloc (Nat.le_refl _) _).alloc (by simp) _
  go_enter Tryd.func63, Tryd.ntmps63
  go_wp2_with (first
    | (with_reducible refine wpList_build_z rfl 97 rfl _ zTrie _ Tryd.underlying97 (zero_of infoTrie) trieFs ?_)
    | (with_reducible refine wpList_box_agg rfl 97 (.tmp 24) rfl _ zTrie rfl ?_))
  generalize (w.alloc (.cells zTrie 97)).alloc (.map #[] 0) = ws at hst hbs ⊢
  clear hmm
  have hlw : w.heap.size < ws.heap.size := by
    obtain ⟨_, _, ⟨v1, hB, _⟩, _⟩ := hst
    exact (Array.getElem?_eq_some_iff.1 hB).1
  go_loopw [32] (fun i wr => ∃ (k : Nat) (t : TD), k ≤ 4352 ∧ i = .int .i64 k ∧ Hid (t = TD.ofBlocks ((loadBs b).take k)) ∧ PT wr w.heap.size w.heap.size (w.heap.size + 1) t ∧ Below w.heap.size w wr ∧
      Hid (∀ j, j < k → b.getD (1 + j) 0 = (t.L.getD j 0 : Nat) ∧ b.getD (1 + j) 0 ≤ b.getD 0 0)) (fun i _ => 4352 - (intOf i).toNat)
  case atStart => exact ⟨0, ⟨[], []⟩, by omega, rfl, rfl, hst, hbs, fun j hj => by omega⟩
  case round =>
    obtain ⟨k, t, hk, rfl, ht, hpt, hb, hgood⟩ := hrel
    have hB0 : wr.cell? ⟨bb, off, none⟩ = some (.int .u8 N) := (hb.cell (p := ⟨bb, off, none⟩) hbb).trans h0
    by_cases hlt : k < 4352
    · have hk0 : (0 : Int) ≤ k := by omega
      have hk1 : (k : Int) < 4352 := by omega
      have hkl : 1 + k < b.length := by rw [hnH.out]; omega
      have hxr : 0 ≤ b.getD (1 + k) 0 ∧ b.getD (1 + k) 0 ≤ 255 := by rw [getD_lt hkl]; exact hbH.out _ (List.getElem_mem _)
      obtain ⟨x, hx⟩ : ∃ x : Nat, b.getD (1 + k) 0 = x := ⟨(b.getD (1 + k) 0).toNat, by omega⟩
      have hBk : wr.cell? ⟨bb, off + 1 + k, none⟩ = some (.int .u8 x) := by
        rw [hb.cell (p := ⟨bb, _, none⟩) hbb, Nat.add_assoc]
        exact hcellH.out (1 + k) x (by rw [← hx, getD_lt hkl]; exact List.getElem?_eq_getElem hkl)
      rw [hx] at hxr
      have hx1 : x ≤ 255 := by omega
      have hx2 : (x : Int) ≤ 255 := by omega
      have hx0 : (0 : Int) ≤ x := by omega
      have hstep : Hid (LoadOk b T → x = t.F.idxOf (valsAt b x)) := fun h => by
        have := h.step hT.out k hlt
        rw [hx, Int.toNat_natCast, ← ht.out] at this
        omega
      have hlow : Hid (LoadOk b T → x ≤ N) := fun h => by
        have := h.low k hlt
        rw [hx, hNH.out] at this
        omega
      have hxH : Hid (b.getD (1 + k) 0 = x) := hx
      have hfew := hpt.few
      have hF0 : ∃ ao' c', wr.cell? ⟨w.heap.size, 4352, none⟩ = some (.slice ao' t.F.length c') := by
        obtain ⟨_, _, ⟨v1, hB, hrow⟩, _, hlen, _⟩ := hpt
        obtain ⟨ao', c', rfl⟩ := ownsRow_slice hrow
        exact ⟨ao', c', by rw [cell_of_row _ _ _ _ _ _ hB]; exact trieCells_at t _ hlen⟩
      obtain ⟨ao', c', hF0⟩ := hF0
      clear hx
      by_cases c1 : x ≤ N
      · have c1' : (x : Int) ≤ N := by omega
        by_cases c2 : x ≤ t.F.length
        · have c2' : (x : Int) ≤ t.F.length := by omega
          have hV : IsBlk (valsAt b x) := valsAt_isBlk hbH.out (by rw [hnH.out]; omega)
          have hm : Hid (valsAt b x ∈ t.F ∨ t.F.length < 256) := by
            rcases Nat.lt_or_ge x t.F.length with hxl | hxl
            · left
              have := first_good ht.out (fun j hj => (hgood.out j hj).1) x _ (List.getElem?_eq_getElem hxl)
              rw [← this]; exact List.getElem_mem _
            · right; omega
          have hcs : Hid (∀ j v, (byt (valsAt b x))[j]? = some v → wr.cell? ((⟨bb, off + 4353 + x * 256, none⟩ : Addr).add j) = some v) := by
            intro j v hv
            rw [byt_get] at hv
            obtain ⟨y, hy, rfl⟩ := Option.map_eq_some_iff.1 hv
            have hj : j < 256 := by have := (List.getElem?_eq_some_iff.1 hy).1; rw [hV.len] at this; exact this
            unfold valsAt at hy
            rw [List.getElem?_take, if_pos hj, List.getElem?_drop] at hy
            rw [Addr.add_lit, hb.cell (p := ⟨bb, _, none⟩) hbb, show off + 4353 + x * 256 + j = off + (4353 + 256 * x + j) by omega]
            exact hcellH.out _ _ hy
          have htL : Hid (t.L.length = k) := by
            rw [ht.out, TD.ofBlocks_L_length, List.length_take, loadBs_length]
            show min k 4352 = k
            omega
          have hts : Hid (t.add (valsAt b x) = TD.ofBlocks ((loadBs b).take (k + 1))) := by
            have hg := loadBs_get b k hlt
            rw [hxH.out, Int.toNat_natCast] at hg
            obtain ⟨q1, q2⟩ := List.getElem?_eq_some_iff.1 hg
            rw [List.take_succ_eq_append_getElem q1, q2, TD.ofBlocks_snoc, ← ht.out]
            rfl
          have hlen56 : (Tryd.prog.info? 93).map (·.size) = some (byt (valsAt b x)).length := by rw [size_of infoBlock, byt_length, hV.len]
          obtain ⟨V, hVd⟩ : ∃ V, V = valsAt b x := ⟨_, rfl⟩
          rw [← hVd] at hV hm hcs hts hlen56 hstep
          clear hVd
          have hq0 : IntKind.i64.wrap ((x : Int) * 256) = (x : Int) * 256 := IntWalk.i64_in _ (by omega)
          have hq1 : ((x : Int) * 256).toNat = x * 256 := by omega
          have hq2 : (x : Int) * 256 ≤ ((4609 + 256 * N - 4353 : Nat) : Int) := by omega
          have hq3 : (256 : Int) ≤ ((c - 4353 - x * 256 : Nat) : Int) := by omega
          have hat : ∀ w, (Instr.arrayAt 93 (.slice (some ⟨bb, off + 4353 + x * 256, none⟩) 256 (c - 4353 - x * 256))).run Tryd.prog w = .ok (.pointer (some ⟨bb, off + 4353 + x * 256, none⟩)) w := fun w => run_arrayAt w 93 _ 256 _ 256 _ blockU (Nat.le_refl _)
          have hkL : t.L.length < 4352 := by rw [htL.out]; exact hlt
          obtain ⟨q, hq⟩ : ∃ q, q = t.F.idxOf V := ⟨_, rfl⟩
          have hqH : Hid (q = t.F.idxOf V) := hq
          have hpos : Hid (0 < (t.add V).F.length) := List.length_pos_of_mem (TD.mem_add t V)
          have hqr : q ≤ 256 := by rw [hq]; have := List.idxOf_le_length (l := t.F) (a := V); omega
          clear hq
          by_cases hqx : q = x
          · have hqx' := hqx.symm
            clear hqx
            subst hqx'
            have hgood2 : Hid (∀ j, j < k + 1 → b.getD (1 + j) 0 = ((t.add V).L.getD j 0 : Nat) ∧ b.getD (1 + j) 0 ≤ b.getD 0 0) := by
              intro j hj
              by_cases e : j = k
              · rw [e, hxH.out, hNH.out]
                refine ⟨?_, c1'⟩
                rw [TD.add_L, ← hqH.out]
                simp [List.getD, htL.out]
              · obtain ⟨g1, g2⟩ := hgood.out j (by omega)
                refine ⟨?_, g2⟩
                have hjl : j < t.L.length := by rw [htL.out]; omega
                rw [g1, TD.add_L]
                simp [List.getD, List.getElem?_append_left hjl]
            go_wp2_with (first
              | (with_reducible refine wpList_load_cells rfl 93 (.tmp 62) rfl _ ⟨bb, off + 4353 + x * 256, none⟩ rfl (byt V) hcs.out _ blockU rfl hlen56 ?_)
              | (go_at_call 91; refine (add_ok wr w.heap.size w.heap.size (w.heap.size + 1) t k htL V hV hpt hlt hm.out).mono ?_; rintro e w2 ⟨rfl, hpt3, hb3⟩; have hlk := PT.likeAt hpt3 hkL; rw [htL.out, ← hqH.out] at hlk))
            go_roundw
            case rel => exact ⟨k + 1, t.add V, by omega, by go_num, hts, hpt3, hb.trans hb3, hgood2⟩
            case measure => simp [intOf]; omega
          · have hno : Hid (¬ LoadOk b T) := fun h => hqx (by rw [hqH.out]; exact (hstep.out h).symm)
            have hqd : ((q : Int) != x) = true := by simp; omega
            clear hqx
            go_wp2_with (first
              | (with_reducible refine wpList_load_cells rfl 93 (.tmp 62) rfl _ ⟨bb, off + 4353 + x * 256, none⟩ rfl (byt V) hcs.out _ blockU rfl hlen56 ?_)
              | (go_at_call 91; refine (add_ok wr w.heap.size w.heap.size (w.heap.size + 1) t k htL V hV hpt hlt hm.out).mono ?_; rintro e w2 ⟨rfl, hpt3, hb3⟩; have hlk := PT.likeAt hpt3 hkL; rw [htL.out, ← hqH.out] at hlk))
            go_ret2
            exact ⟨.inr ⟨hno.out, rfl⟩, hb.trans hb3⟩
        · have hno : Hid (¬ LoadOk b T) := fun h => by
            have := hstep.out h
            have := List.idxOf_le_length (l := t.F) (a := valsAt b x)
            omega
          have c2' : (t.F.length : Int) < x := by omega
          clear c2
          go_wp2
          go_ret2
          exact ⟨.inr ⟨hno.out, rfl⟩, hb⟩
      · have hno : Hid (¬ LoadOk b T) := fun h => c1 (hlow.out h)
        have c1' : (N : Int) < x := by omega
        clear c1
        go_wp2
        go_ret2
        exact ⟨.inr ⟨hno.out, rfl⟩, hb⟩
    · obtain rfl : k = 4352 := by omega
      have hT' : Hid (t = T) := by
        rw [hT.out, ht.out, List.take_of_length_le (by rw [loadBs_length]; exact Nat.le_refl _)]
        rfl
      have htL : Hid (t.L.length = 4352) := by
        rw [ht.out, TD.ofBlocks_L_length, List.length_take, loadBs_length]
        rfl
      have hpos : Hid (0 < t.F.length) := by
        have hO : t.Of ((loadBs b).take 4352) := by rw [ht.out]; exact TD.of_ofBlocks _
        have hl := loadBs_length b
        have : ((loadBs b).take 4352)[0]'(by rw [List.length_take, hl]; decide) ∈ t.F := (hO.mem _).2 (List.getElem_mem _)
        exact List.length_pos_of_mem this
      have hfew := hpt.few
      have hF0 : ∃ ao' c', wr.cell? ⟨w.heap.size, 4352, none⟩ = some (.slice ao' t.F.length c') := by
        obtain ⟨_, _, ⟨v1, hB, hrow⟩, _, hlen, _⟩ := hpt
        obtain ⟨ao', c', rfl⟩ := ownsRow_slice hrow
        exact ⟨ao', c', by rw [cell_of_row _ _ _ _ _ _ hB]; exact trieCells_at t _ hlen⟩
      obtain ⟨ao', c', hF0⟩ := hF0
      have hdone : Hid (LoadOk b t ↔ t.F.length = N + 1) := by
        constructor
        · intro h
          have := h.count
          rw [hNH.out] at this; omega
        · intro h
          refine ⟨hlenOk.out, fun j hj => (hgood.out j hj).2, load_done hbH.out hlenOk.out (by rw [hT'.out]; exact hT.out) (fun j hj => (hgood.out j hj).1) (by rw [hNH.out]; omega)⟩
      clear ht hgood
      by_cases hF : t.F.length = N + 1
      · rw [hF] at hF0
        have hok := Lib.hid (hdone.out.2 hF)
        have hF' := Lib.hid hF
        clear hF
        go_wp2
        go_quiet (fail)
        go_wp2
        go_ret2
        have e := hT'.out
        subst e
        exact ⟨.inl ⟨hok.out, w.heap.size, rfl, (hpt.done htL.out hpos.out).heap rfl⟩, below_drewN hb _⟩
      · have hd2 : ((t.F.length : Int) != (N : Int) + 1) = true := by simp; omega
        have hno : Hid (¬ LoadOk b t) := fun h => hF (hdone.out.1 h)
        clear hF
        go_wp2
        go_quiet (fail)
        go_wp2
        go_ret2
        have e := hT'.out
        subst e
        exact ⟨.inr ⟨hno.out, rfl⟩, below_drewN hb _⟩

/-- Load: the trie that bytes are, or none -/
theorem load_any (v : Value) (b : List Int) (w : World) (hbv : BytesAt w w.heap.size v b) (hb : IsB b) (T : TD) (hT : Hid (T = TD.ofBlocks (loadBs b))) :
    Calls Tryd.prog 63 #[v] w (LoadPost w b T) := by
  by_cases hs : b.length ≤ 4352
  · exact load_short v b w hbv T hs
  · by_cases hl : lenOk b
    · exact load_full v b w hbv hb T hT hl
    · exact load_odd v b w hbv hb T (by omega) hl
end Go.Proofs.YtpaijpdmeiagfaaDoor
