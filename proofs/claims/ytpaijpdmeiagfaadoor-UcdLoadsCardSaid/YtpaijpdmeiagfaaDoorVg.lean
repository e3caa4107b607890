/- The document's trie: Load. -/
import Derived.Test.YtpaijpdmeiagfaaDoorVf
import Derived.Test.YtpaijpdmeiagfaaDoorQ
import Derived.Test.YtpaijpdmeiagfaaDoorZ
set_option linter.unusedVariables false
set_option linter.unusedSimpArgs false
namespace Go.Proofs.YtpaijpdmeiagfaaDoor
open Go Go.RowKit Go.WideMaps Go.Proofs.Kk Go.Proofs.Tm Go.Proofs.Gg

def RLoadPost (w : World) (b : List Int) (T : TD) (e : Ending) (w' : World) : Prop :=
  ((LoadOk b T ∧ ∃ B, e = .returned (.tuple #[.pointer (some ⟨B, 0, none⟩), .int .i64 0]) ∧ RefAt w' w'.heap.size B T) ∨ (¬ LoadOk b T ∧ e = .returned (.tuple #[.pointer none, .int .i64 2]))) ∧ Below w.heap.size w w'

theorem refSave_isB {w : World} {n₀ B : Nat} {T : TD} (h : RefAt w n₀ B T) : IsB (saveL T) := by
  obtain ⟨hlt, hl, hp, hf, hbk, ⟨bs, rfl⟩, _⟩ := h
  intro x hx
  unfold saveL at hx
  rcases List.mem_cons.1 hx with rfl | hx
  · omega
  · rcases List.mem_append.1 hx with hx | hx
    · obtain ⟨i, hi, rfl⟩ := List.mem_map.1 hx
      have := (TD.of_ofBlocks bs).like_lt hi
      simp; omega
    · obtain ⟨c, hc, hx⟩ := List.mem_flatten.1 hx
      exact (hbk c hc).rng x hx

theorem ofBlocks_few (bs : List (List Int)) : (TD.ofBlocks bs).F.length ≤ bs.length :=
  len_le (TD.of_ofBlocks bs).nodup fun c hc => ((TD.of_ofBlocks bs).mem c).1 hc

theorem rload_few {b : List Int} {N : Nat} (h : ∀ j, j < 4352 → b.getD (1 + j) 0 ≤ N) {T : TD} (hT : T = TD.ofBlocks (loadBs b)) : T.F.length ≤ N + 1 := by
  have hO : T.Of (loadBs b) := by rw [hT]; exact TD.of_ofBlocks _
  have := len_le (B := (List.range (N + 1)).map (valsAt b)) hO.nodup (by
    intro c hc
    obtain ⟨i, hi⟩ := List.mem_iff_getElem?.1 ((hO.mem c).1 hc)
    have hi4 : i < 4352 := by have := (List.getElem?_eq_some_iff.1 hi).1; rwa [loadBs_length] at this
    rw [loadBs_get b i hi4] at hi
    have hx := h i hi4
    rw [List.mem_map]
    exact ⟨(b.getD (1 + i) 0).toNat, List.mem_range.2 (by omega), Option.some.inj hi⟩)
  simpa using this

set_option maxRecDepth 100000 in
set_option maxHeartbeats 1000000 in
theorem rload_short (ao : Option Addr) (c n : Nat) (b : List Int) (hn : b.length = n) (w : World) (T : TD) (hs : n ≤ 4352) :
    Calls Tryd.prog 66 #[.slice ao n c] w (RLoadPost w b T) := by
  have h1 : (n : Int) < 4353 := by omega
  have hno : Hid (¬ LoadOk b T) := fun h => by have := h.len.1; omega
  go_enter Tryd.func66, Tryd.ntmps66
  go_wp2
  go_ret2
  exact ⟨.inr ⟨hno.out, rfl⟩, Below.refl _ _⟩

set_option maxRecDepth 100000 in
set_option maxHeartbeats 1000000 in
theorem rload_odd (v : Value) (b : List Int) (w : World) (hbv : BytesAt w w.heap.size v b) (hb : IsB b) (T : TD) (hs : 4353 ≤ b.length) (hl : ¬ lenOk b) :
    Calls Tryd.prog 66 #[v] w (RLoadPost w b T) := by
  obtain ⟨ao, c, rfl, hlc, hl2, _, hx⟩ := hbv
  have h1 : (4353 : Int) ≤ b.length := by omega
  have hno : Hid (¬ LoadOk b T) := fun h => hl h.len
  rcases hx with ⟨_, h, _⟩ | ⟨bb, off, rfl, hbb, hcell⟩
  · rw [h] at hs; simp at hs
  · have h0 := hcell 0 (b.getD 0 0) (by rw [getD_lt (by omega)]; exact List.getElem?_eq_getElem (by omega))
    have hr0 : 0 ≤ b.getD 0 0 ∧ b.getD 0 0 ≤ 255 := by rw [getD_lt (by omega)]; exact hb _ (List.getElem_mem _)
    have hne : ¬ (b.length : Int) = 4353 + 256 * (b.getD 0 0 + 1) := by intro h; exact hl ⟨hs, by omega⟩
    rw [Nat.add_zero] at h0
    clear hcell hl hb
    generalize b.getD 0 0 = x at h0 hr0 hne
    generalize b.length = n at h1 hne hlc hl2 hs ⊢
    have hd : ((n : Int) != 4353 + 256 * (x + 1)) = true := by simpa using hne
    have hr1 := hr0.1
    have hr2 := hr0.2
    clear hr0
    go_enter Tryd.func66, Tryd.ntmps66
    go_wp2
    go_ret2
    exact ⟨.inr ⟨hno.out, rfl⟩, Below.refl _ _⟩

set_option maxRecDepth 100000 in
set_option maxHeartbeats 4000000 in
theorem rload_full (v : Value) (b : List Int) (w : World) (hbv : BytesAt w w.heap.size v b) (hb : IsB b) (T : TD) (hT : Hid (T = TD.ofBlocks (loadBs b))) (hl : lenOk b) :
    Calls Tryd.prog 66 #[v] w (RLoadPost w b T) := by
  have hbv0 := Lib.hid hbv
  obtain ⟨ao, c, rfl, hlc, hl2, hc63, hx⟩ := hbv
  obtain ⟨hs, hl3⟩ := hl
  rcases hx with ⟨_, h, _⟩ | ⟨bb, off, rfl, hbb, hcell⟩
  · rw [h] at hs; simp at hs
  have h0 := hcell 0 (b.getD 0 0) (by rw [getD_lt (by omega)]; exact List.getElem?_eq_getElem (by omega))
  rw [Nat.add_zero] at h0
  have hr0 : 0 ≤ b.getD 0 0 ∧ b.getD 0 0 ≤ 255 := by rw [getD_lt (by omega)]; exact hb _ (List.getElem_mem _)
  obtain ⟨N, hN⟩ : ∃ N : Nat, b.getD 0 0 = N := ⟨(b.getD 0 0).toNat, by omega⟩
  have hlenOk : Hid (lenOk b) := ⟨hs, hl3⟩
  rw [hN] at h0 hr0
  have hN1 : N ≤ 255 := by omega
  have hn : b.length = 4609 + 256 * N := by rw [hl3, hN, Int.toNat_natCast]; omega
  have hNH : Hid (b.getD 0 0 = N) := hN
  have hcellH : Hid (∀ j x, b[j]? = some x → w.cell? ⟨bb, off + j, none⟩ = some (.int .u8 x)) := hcell
  have hbH : Hid (IsB b) := hb
  have hnH : Hid (b.length = 4609 + 256 * N) := hn
  rw [hn] at hlc hbv0 ⊢
  clear hs hl3 hl2 hN hr0 hn hcell hb
  have hN2 : (N : Int) ≤ 255 := by omega
  have hN0 : (0 : Int) ≤ N := by omega
  have hc1 : (4609 : Int) + 256 * N ≤ c := by omega
  have hd : ((4609 : Int) + 256 * N != 4353 + 256 * ((N : Int) + 1)) = false := by simp; omega
  have hst := PR_start w
  have hbs : Below w.heap.size w (w.alloc (.cells #[.slice none 0 0, .slice none 0 0] 104)) := (Below.refl _ _).alloc (Nat.le_refl _) _
  go_enter Tryd.func66, Tryd.ntmps66
  go_wp2
  generalize w.alloc (.cells #[.slice none 0 0, .slice none 0 0] 104) = ws at hst hbs ⊢
  go_loopw [5] (fun i wr => ∃ (k : Nat) (t : TD), k ≤ 4352 ∧ i = .int .i64 k ∧ Hid (t = TD.ofBlocks ((loadBs b).take k)) ∧ PR wr w.heap.size w.heap.size t ∧ Below w.heap.size w wr ∧
      Hid (∀ j, j < k → b.getD (1 + j) 0 ≤ N)) (fun i _ => 4352 - (intOf i).toNat)
  case atStart => exact ⟨0, ⟨[], []⟩, by omega, rfl, rfl, hst, hbs, fun j hj => by omega⟩
  case round =>
    obtain ⟨k, t, hk, rfl, ht, hpt, hb, hgood⟩ := hrel
    have hB0 : wr.cell? ⟨bb, off, none⟩ = some (.int .u8 N) := (hb.cell (p := ⟨bb, off, none⟩) hbb).trans h0
    by_cases hlt : k < 4352
    · have hk0 : (0 : Int) ≤ k := by omega
      have hk1 : (k : Int) < 4352 := by omega
      have hkl : 1 + k < b.length := by rw [hnH.out]; omega
      have hxr : 0 ≤ b.getD (1 + k) 0 ∧ b.getD (1 + k) 0 ≤ 255 := by rw [getD_lt hkl]; exact hbH.out _ (List.getElem_mem _)
      obtain ⟨x, hx⟩ : ∃ x : Nat, b.getD (1 + k) 0 = x := ⟨(b.getD (1 + k) 0).toNat, by omega⟩
      have hBk : wr.cell? ⟨bb, off + (1 + k), none⟩ = some (.int .u8 x) := by
        rw [hb.cell (p := ⟨bb, _, none⟩) hbb]
        exact hcellH.out (1 + k) x (by rw [← hx, getD_lt hkl]; exact List.getElem?_eq_getElem hkl)
      have hk5 : (1 + (k : Int)).toNat = 1 + k := by omega
      rw [hx] at hxr
      have hx1 : x ≤ 255 := by omega
      have hx2 : (x : Int) ≤ 255 := by omega
      have hx0 : (0 : Int) ≤ x := by omega
      have hlow : Hid (LoadOk b T → x ≤ N) := fun h => by
        have := h.low k hlt
        rw [hx, hNH.out] at this
        omega
      have hxH : Hid (b.getD (1 + k) 0 = x) := hx
      clear hx
      by_cases c1 : x ≤ N
      · have c1' : (x : Int) ≤ N := by omega
        have hV : IsBlk (valsAt b x) := valsAt_isBlk hbH.out (by rw [hnH.out]; omega)
        have hBV : BytesAt wr wr.heap.size (.slice (some ⟨bb, off + (4353 + x * 256), none⟩) 256 (c - (4353 + x * 256))) (valsAt b x) := by
          have hsz := hb.size
          refine ⟨_, _, by rw [hV.len], by rw [hV.len]; omega, by rw [hV.len]; decide, by omega, .inr ⟨bb, off + (4353 + x * 256), rfl, by omega, ?_⟩⟩
          intro j y hy
          have hj : j < 256 := by have := (List.getElem?_eq_some_iff.1 hy).1; rw [hV.len] at this; exact this
          unfold valsAt at hy
          rw [List.getElem?_take, if_pos hj, List.getElem?_drop] at hy
          rw [hb.cell (p := ⟨bb, _, none⟩) hbb, show off + (4353 + x * 256) + j = off + (4353 + 256 * x + j) by omega]
          exact hcellH.out _ _ hy
        have htL : Hid (t.L.length = k) := by
          rw [ht.out, TD.ofBlocks_L_length, List.length_take, loadBs_length]
          show min k 4352 = k
          omega
        have htF : t.F.length ≤ 4352 := by
          have := ofBlocks_few ((loadBs b).take k)
          rw [← ht.out, List.length_take, loadBs_length] at this
          omega
        have hts : Hid (t.add (valsAt b x) = TD.ofBlocks ((loadBs b).take (k + 1))) := by
          have hg := loadBs_get b k hlt
          rw [hxH.out, Int.toNat_natCast] at hg
          obtain ⟨q1, q2⟩ := List.getElem?_eq_some_iff.1 hg
          rw [List.take_succ_eq_append_getElem q1, q2, TD.ofBlocks_snoc, ← ht.out]
          rfl
        obtain ⟨V, hVd⟩ : ∃ V, V = valsAt b x := ⟨_, rfl⟩
        rw [← hVd] at hV hBV hts
        clear hVd
        have hcall := radd_any wr w.heap.size w.heap.size t hpt _ V hBV hV (by rw [htL.out]; exact hlt) htF
        have hq0 : IntKind.i64.wrap ((x : Int) * 256) = (x : Int) * 256 := IntWalk.i64_in _ (by omega)
        have hq1 : (4353 + (x : Int) * 256).toNat = 4353 + x * 256 := by omega
        have hq2 : (4353 + (x : Int) * 256 + 256).toNat - (4353 + x * 256) = 256 := by omega
        have hgood2 : Hid (∀ j, j < k + 1 → b.getD (1 + j) 0 ≤ N) := by
          intro j hj
          by_cases e : j = k
          · rw [e, hxH.out]; exact c1'
          · exact hgood.out j (by omega)
        clear hBV
        go_wp2_with (go_at_call 94; refine hcall.mono ?_; clear hcall; rintro e w5 ⟨⟨u5, rfl⟩, hpt5, hb5⟩)
        go_roundw
        case rel => exact ⟨k + 1, t.add V, by omega, by go_num, hts, hpt5, hb.trans hb5, hgood2⟩
        case measure => simp [intOf]; omega
      · have hno : Hid (¬ LoadOk b T) := fun h => c1 (hlow.out h)
        have c1' : (N : Int) < x := by omega
        clear c1
        go_wp2
        go_ret2
        exact ⟨.inr ⟨hno.out, rfl⟩, hb⟩
    · obtain rfl : k = 4352 := by omega
      have hT' : t = T := by
        rw [hT.out, ht.out, List.take_of_length_le (by rw [loadBs_length]; exact Nat.le_refl _)]
      have htL : t.L.length = 4352 := by
        rw [ht.out, TD.ofBlocks_L_length, List.length_take, loadBs_length]
        rfl
      have hpos : 0 < t.F.length := by
        have hO : t.Of ((loadBs b).take 4352) := by rw [ht.out]; exact TD.of_ofBlocks _
        have hl := loadBs_length b
        have : ((loadBs b).take 4352)[0]'(by rw [List.length_take, hl]; decide) ∈ t.F := (hO.mem _).2 (List.getElem_mem _)
        exact List.length_pos_of_mem this
      have hfew : t.F.length ≤ 256 := by
        have := rload_few hgood.out (T := T) hT.out
        rw [hT']; omega
      have hRA := hpt.done htL hpos hfew
      have hsB := refSave_isB hRA
      clear ht htL hpos hfew hpt
      subst hT'
      have hdone : Hid (LoadOk b t ↔ saveL t = b) := by
        constructor
        · intro h; exact h.save
        · intro h
          exact ⟨hlenOk.out, fun j hj => by rw [hNH.out]; exact hgood.out j hj, h⟩
      obtain ⟨s1, hs1⟩ : ∃ s, s = strOfNums (saveL t) := ⟨_, rfl⟩
      obtain ⟨s2, hs2⟩ : ∃ s, s = strOfNums b := ⟨_, rfl⟩
      have hiff : s1 = s2 ↔ saveL t = b := by rw [hs1, hs2]; exact strOfNums_inj hsB hbH.out
      have hbv3 : BytesAt wr w.heap.size (.slice (some ⟨bb, off, none⟩) (4609 + 256 * N) c) b := hbv0.out.below hb (Nat.le_refl _)
      have hsz := hb.size
      go_wp2
      refine wp_region_G [[(true,0),(true,3),(true,4),(false,1),(true,2),(true,5)]] (by kernel_rfl) (by kernel_rfl) (by kernel_rfl) (by decide) (fun c a d v w h => by cases d <;> exact h) ?_
      refine wpGs_seg (fun w' => Below wr.heap.size wr w') ((Below.refl _ _).drew) ?_
      iterate 2 refine wpG_q rfl rfl (fun w' hS => by go_simp; rfl) (by go_simp; rfl) ?_
      refine wpG_q rfl rfl (fun w' hS => exec_conv_bytes (bs := b) (hbv3.below hS hsz) _ _ 5 _ rfl (by go_simp <;> rfl) bytesU u8U (by kernel_rfl)) (by go_simp; rfl) ?_
      rw [← hs2]
      clear hs2
      have hcall : Calls Tryd.prog 65 #[.pointer (some ⟨w.heap.size, 0, none⟩)] wr.drew (fun e w' => ∃ u, e = .returned u ∧ (BytesAt w' w'.heap.size u (saveL t) ∧ Below wr.heap.size wr w')) :=
        (rsave_any wr.drew wr.heap.size w.heap.size t (hRA.heap rfl) (Nat.le_refl _)).mono fun e w' h => by
          obtain ⟨v, he, hv, hbw⟩ := h
          exact ⟨v, he, BytesAt.of_own hv (by have := hRA.len; have := hRA.few; unfold saveL; simp [flatten_len (fun c hc => (hRA.blk c hc).len)]; omega), (Below.refl _ _).drew.trans hbw⟩
      refine wpG_call (f := 65) (args := #[.pointer (some ⟨w.heap.size, 0, none⟩)]) (v := fun w' u => BytesAt w' w'.heap.size u (saveL t) ∧ Below wr.heap.size wr w') rfl rfl (by go_simp <;> rfl) hcall ?_
      intro W9 v9 hv99
      obtain ⟨hv9, hb9⟩ := hv99
      refine ⟨fun w' => Below wr.heap.size wr w' ∧ BytesAt w' W9.heap.size v9 (saveL t), fun w h => h.1, ⟨hb9, hv9⟩, ?_⟩
      refine wpG_q rfl rfl (fun w' hS => exec_conv_bytes (bs := saveL t) hS.2 _ _ 5 _ rfl (by go_simp <;> rfl) bytesU u8U (by kernel_rfl)) (by go_simp; rfl) ?_
      rw [← hs1]
      have hRA9 := (hRA.below hb9 (Nat.le_refl _)).mono hb9.size
      have hbel9 := hb.trans (hb9.mono hsz)
      clear hcall hv9 hb9 hRA hsB hs1 hbv3
      by_cases he : saveL t = b
      · have h12 : s1 = s2 := hiff.2 he
        subst h12
        have hok := Lib.hid (hdone.out.2 he)
        clear he hiff
        refine wpG_q rfl rfl (fun w' hS => by go_simp; rfl) (by go_simp; rfl) ?_
        refine wpG_nil (wpGs_nil ?_)
        go_wp2
        go_ret2
        exact ⟨.inl ⟨hok.out, w.heap.size, rfl, hRA9⟩, hbel9⟩
      · have h12 := strs_ne (fun h => he (hiff.1 h))
        have hno : Hid (¬ LoadOk b t) := fun h => he h.save
        clear he hiff
        refine wpG_q rfl rfl (fun w' hS => by go_simp; rfl) (by go_simp; rfl) ?_
        refine wpG_nil (wpGs_nil ?_)
        go_wp2
        go_ret2
        exact ⟨.inr ⟨hno.out, rfl⟩, hbel9⟩

/-- the document's Load: the trie that bytes are, or none -/
theorem rload_any (v : Value) (b : List Int) (w : World) (hbv : BytesAt w w.heap.size v b) (hb : IsB b) (T : TD) (hT : Hid (T = TD.ofBlocks (loadBs b))) :
    Calls Tryd.prog 66 #[v] w (RLoadPost w b T) := by
  by_cases hs : b.length ≤ 4352
  · obtain ⟨ao, c, rfl, _⟩ := hbv
    exact rload_short ao c _ b rfl w T hs
  · by_cases hl : lenOk b
    · exact rload_full v b w hbv hb T hT hl
    · exact rload_odd v b w hbv hb T (by omega) hl
end Go.Proofs.YtpaijpdmeiagfaaDoor
