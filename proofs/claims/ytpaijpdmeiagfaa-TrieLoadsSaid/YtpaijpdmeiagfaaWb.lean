/- TrieLoads: the walk. -/
import Derived.Test.YtpaijpdmeiagfaaVg
import Derived.Test.YtpaijpdmeiagfaaW
import Derived.Laws.BitsAllLaws
namespace Go.Proofs.Kk
open Go Go.RowKit
theorem and_mask (a : Int) (m : Nat) (hm : m < 4611686018427387904) : ∃ k : Nat, bits .and .i64 a (m : Int) = (k : Int) ∧ k ≤ m := by
  have hm2 : (BitVec.ofInt 64 (m : Int)).toNat = m := by
    rw [BitVec.ofInt_natCast, BitVec.toNat_ofNat]; exact Nat.mod_eq_of_lt (by omega)
  refine ⟨(BitVec.ofInt 64 a).toNat &&& m, ?_, Nat.and_le_right⟩
  show IntKind.i64.wrap ((BitVec.ofInt 64 a &&& BitVec.ofInt 64 (m : Int)).toNat : Int) = _
  have hle : (BitVec.ofInt 64 a).toNat &&& m ≤ m := Nat.and_le_right
  rw [BitVec.toNat_and, hm2]
  exact IntWalk.i64_in _ (by omega)
theorem xor_u8 (a b : Int) (ha : 0 ≤ a ∧ a ≤ 255) (hb : 0 ≤ b ∧ b ≤ 255) : ∃ y : Int, bits .xor .u8 a b = y ∧ 0 ≤ y ∧ y ≤ 255 := by
  refine ⟨_, u8_xor a b ha.1 (by omega) hb.1 (by omega), by omega, ?_⟩
  have : a.toNat ^^^ b.toNat < 2 ^ 8 := Nat.xor_lt_two_pow (by omega) (by omega)
  omega
end Go.Proofs.Kk
namespace Go.Proofs.Ytpaijpdmeiagfaa
open Go Go.RowKit Go.WideMaps Go.Proofs.Kk Go.Proofs.Tm Go.Proofs.Gg

set_option maxRecDepth 100000 in
set_option maxHeartbeats 1000000 in
theorem loads_long (ao : Option Addr) (n c : Nat) (a1 a2 : Value) (w : World) (hn : 20 < n) :
    Calls Try.prog 7 #[.slice ao n c, a1, a2] w fun e w' => e = .returned (.bool true) ∧ Below w.heap.size w w' := by
  have h1 : (20 : Int) < n := by omega
  go_enter Try.func7, Try.ntmps7
  go_wp2_with (go_at_call 11; refine (awake_any _).mono ?_; rintro e w' ⟨rfl, hb⟩)
  go_ret
  exact ⟨rfl, hb⟩

set_option maxRecDepth 100000 in
set_option maxHeartbeats 1000000 in
theorem loads_bad (v : Value) (l : List P3) (w : World) (h : PropsAt w w.heap.size v l) (hn : l.length ≤ 20) (a1 a2 : Value) (ho : l.any oddB = true) :
    Calls Try.prog 7 #[v, a1, a2] w fun e w' => e = .returned (.bool true) ∧ Below w.heap.size w w' := by
  have h0 := h
  obtain ⟨ao, c, rfl, hsz, hr, _⟩ := h0
  have h1 : (l.length : Int) ≤ 20 := by omega
  have hoH := Lib.hid ho
  clear hr ho
  go_enter Try.func7, Try.ntmps7
  go_wp2_with (first
    | (go_at_call 11; refine (awake_any _).mono ?_; rintro e w0 ⟨rfl, hb0⟩; have hs0 := hb0.size)
    | (go_at_call 13; refine (rbuild_bad _ l _ (by exact (h.below hb0 (Nat.le_refl _)).mono hs0) (by omega) hoH.out).mono ?_; rintro e w1 ⟨rfl, hb1⟩))
  go_ret
  exact ⟨rfl, hb0.trans (hb1.mono hs0)⟩

theorem loads_turn {w2 : World} {base g cap k : Nat} {b : List Int} {turn : Int} (hrow2 : w2.ownsRow base 5 1 (.slice (some ⟨g, 0, none⟩) b.length cap) b.length (byt b)) (hsB : IsB b) (hkl : k < b.length) (hlS : b.length ≤ 100000) (htn : 0 ≤ turn ∧ turn ≤ 255) :
    ∃ (x y : Int) (b2 : List Int), w2.cell? ⟨g, k, none⟩ = some (.int .u8 x) ∧ w2.frozen? ⟨g, k, none⟩ = false ∧ bits .xor .u8 x turn = y ∧ IsB b2 ∧
      Hid (BytesAt (w2.setCell ⟨g, k, none⟩ (.int .u8 y)) (w2.setCell ⟨g, k, none⟩ (.int .u8 y)).heap.size (.slice (some ⟨g, 0, none⟩) b.length cap) b2) := by
  have hkx : b[k]? = some b[k] := List.getElem?_eq_getElem hkl
  have hxr := hsB b[k] (List.getElem_mem hkl)
  obtain ⟨y, hy, hyr⟩ := xor_u8 b[k] turn hxr htn
  have hst := hrow2.stored k (.int .u8 y)
  have hset : (byt b).set k (.int .u8 y) = byt (b.set k y) := by simp [byt, List.map_set]
  rw [hset] at hst
  have hlS2 : (b.set k y).length = b.length := by simp
  refine ⟨b[k], y, b.set k y, ?_, hrow2.frozenAt k, hy, ?_, BytesAt.of_own (by rw [hlS2]; exact hst.1) (by omega)⟩
  · rw [hrow2.cellAt k (by omega), byt_get, hkx]; rfl
  · intro z hz
    rcases List.mem_or_eq_of_mem_set hz with hz | rfl
    · exact hsB z hz
    · exact hyr

theorem loads_more {w3 : World} {base g cap m : Nat} {b : List Int} (hrow3 : w3.ownsRow base 5 1 (.slice (some ⟨g, 0, none⟩) (b.length + m) cap) (b.length + m) (byt b ++ List.replicate m (.int .u8 0))) (hsB : IsB b) (hm : m ≤ 511) (hlS : b.length ≤ 100000) :
    ∃ b2 : List Int, IsB b2 ∧ Hid (BytesAt w3 w3.heap.size (.slice (some ⟨g, 0, none⟩) (b.length + m) cap) b2) := by
  have hz : byt b ++ List.replicate m (Value.int .u8 0) = byt (b ++ List.replicate m 0) := by simp [byt]
  rw [hz] at hrow3
  have hlS2 : (b ++ List.replicate m 0).length = b.length + m := by simp
  refine ⟨b ++ List.replicate m 0, ?_, BytesAt.of_own (by rw [hlS2]; exact hrow3) (by omega)⟩
  intro z hz
  rcases List.mem_append.1 hz with hz | hz
  · exact hsB z hz
  · rw [List.eq_of_mem_replicate hz]; omega

set_option maxRecDepth 100000 in
set_option maxHeartbeats 8000000 in
theorem loads_in (v : Value) (l : List P3) (w : World) (h : PropsAt w w.heap.size v l) (hn : l.length ≤ 20) (at_ : Int) (turn : Int) (htn : 0 ≤ turn ∧ turn ≤ 255) (ho : l.any oddB = false) (T : TD) (hT1 : Hid (T = tdOf (pval l))) (b : List Int) (hbS : Hid (b = saveL T))
    (k m : Nat) (hk : bits .and .i64 at_ 8191 = (k : Int)) (hk2 : k ≤ 8191) (hm : bits .and .i64 (k : Int) 511 = (m : Int)) (hm2 : m ≤ 511) (hkl : k < b.length) :
    Calls Try.prog 7 #[v, .int .i64 at_, .int .u8 turn] w fun e w' => e = .returned (.bool true) ∧ Below w.heap.size w w' := by
  have h0 := h
  obtain ⟨ao, c, rfl, hsz, hr, _⟩ := h0
  have h1 : (l.length : Int) ≤ 20 := by omega
  have hF : Hid (T.F.length ≤ 256) := by rw [hT1.out]; have := tdOf_small l; show (tdOf (pval l)).F.length ≤ 256; omega
  have hoH := Lib.hid ho
  have hk0 : (0 : Int) ≤ k := by omega
  have hk1 : (k : Int) ≤ 8191 := by omega
  have hklI : (k : Int) < b.length := by omega
  clear hr ho
  obtain ⟨i0, hi0, hz0, hz1, hz2⟩ := info_parts infoU8
  go_enter Try.func7, Try.ntmps7
  go_wp2_with (first
    | (go_at_call 11; refine (awake_any _).mono ?_; rintro e w0 ⟨rfl, hb0⟩; have hs0 := hb0.size)
    | (go_at_call 13; refine (rbuild_good _ l _ (by exact (h.below hb0 (Nat.le_refl _)).mono hs0) (by omega) (by exact hoH.out) T (by exact hT1) (by exact hF)).mono ?_; rintro e w1 ⟨B1, rfl, ht1, hb1⟩; have hs1 := hb1.size)
    | (go_at_call 19; refine (rsave_any _ _ B1 T (by exact ht1) (Nat.le_refl _)).mono ?_; rintro e w2 ⟨v2, rfl, hrow2, hb2⟩; have hW : Below w.heap.size w w2 := ((hb0.trans (hb1.mono hs0)).trans (hb2.mono (by omega))); have hsB := refSave_isB ht1; have hlS : (saveL T).length ≤ 100000 := (by have := ht1.len; have := ht1.few; unfold saveL; simp [flatten_len (fun c hc => (ht1.blk c hc).len)]; omega); obtain ⟨g, cap, hv2, hgb, hgl⟩ := hrow2.form (by unfold saveL; simp); subst hv2; rw [← hbS.out] at hrow2 hsB hlS ⊢; have hw1 : w.heap.size ≤ w1.heap.size := (by omega); have hw2 : w1.heap.size ≤ w2.heap.size := hb2.size; clear ht1 hb0 hb1 hb2; obtain ⟨x, y, b2, hcell, hfr, hy, hsB2, hByH⟩ := loads_turn hrow2 hsB hkl hlS htn; have hbel : Hid (Below w.heap.size w (w2.setCell ⟨g, k, none⟩ (.int .u8 y))) := (hW.setCell (p := ⟨g, k, none⟩) (by simp; omega) _); clear hrow2 hsB hW)
    | (go_at_call 20; refine (load_any _ b2 _ (by exact hByH.out) hsB2 _ rfl).mono ?_; rintro e w5 ⟨hld5, hb5⟩; have hs5 := hb5.size; obtain ⟨T2, hT2⟩ : ∃ T2, T2 = TD.ofBlocks (loadBs b2) := ⟨_, rfl⟩; rw [← hT2] at hld5; have hT2H : Hid (T2 = TD.ofBlocks (loadBs b2)) := hT2; clear hT2; have hbsz := hbel.out.size; rcases hld5 with ⟨hok, B3, he, ht3⟩ | ⟨hno, he⟩ <;> (try unfold nilErr at he) <;> subst he)
    | (go_at_call 21; refine (rload_any _ b2 _ (by exact (hByH.out.below hb5 (Nat.le_refl _)).mono hs5) hsB2 T2 hT2H).mono ?_; rintro e w6 ⟨hld6, hb6⟩; rcases hld6 with ⟨hok6, B4, he, ht4⟩ | ⟨hno6, he⟩ <;> subst he <;> (first | exact absurd hok6 hno | exact absurd hok hno6 | skip)))
  · have hsave := hok.save
    have hW6 := hbel.out.trans ((hb5.mono hbsz).trans (hb6.mono (Nat.le_trans hbsz hs5)))
    have hby6 := ((hByH.out.below hb5 (Nat.le_refl _)).below hb6 hs5).mono (Nat.le_trans hs5 hb6.size)
    have ht36 := (ht3.below hb6 (Nat.le_refl _)).mono hb6.size
    obtain ⟨s, hs⟩ : ∃ s, s = strOfNums b2 := ⟨_, rfl⟩
    clear hok hok6 hb5 hb6 ht3 ht4 hByH
    refine wp_region_G [[(true,0),(true,1),(true,2),(true,3),(true,6),(true,7),(false,4),(true,5),(true,8),(true,9),(true,10)]] (by kernel_rfl) (by kernel_rfl) (by kernel_rfl) (by decide) (fun c a d v w h => by cases d <;> exact h) ?_
    refine wpGs_seg (fun w' => Below w6.heap.size w6 w') ((Below.refl _ _).drew) ?_
    iterate 5 refine wpG_q rfl rfl (fun w' hS => by go_simp; rfl) (by go_simp; rfl) ?_
    refine wpG_q rfl rfl (fun w' hS => exec_conv_bytes (bs := b2) (hby6.below hS (Nat.le_refl _)) _ _ 5 _ rfl (by go_simp <;> rfl) bytesU u8U (by kernel_rfl)) (by go_simp; rfl) ?_
    rw [← hs]
    have hcall : Calls Try.prog 18 #[.pointer (some ⟨B3, 0, none⟩)] w6.drew (fun e w' => ∃ u, e = .returned u ∧ (BytesAt w' w'.heap.size u b2 ∧ Below w6.heap.size w6 w')) :=
      (save_any w6.drew w6.heap.size B3 T2 (ht36.heap rfl) (Nat.le_refl _)).mono fun e w' h => by
        obtain ⟨v, he, hv, hbw⟩ := h
        rw [hsave] at hv
        exact ⟨v, he, hv, (Below.refl _ _).drew.trans hbw⟩
    refine wpG_call (f := 18) (args := #[.pointer (some ⟨B3, 0, none⟩)]) (v := fun w' u => BytesAt w' w'.heap.size u b2 ∧ Below w6.heap.size w6 w') rfl rfl (by go_simp <;> rfl) hcall ?_
    intro W9 v9 hv99
    obtain ⟨hv9, hb9⟩ := hv99
    refine ⟨fun w' => Below w6.heap.size w6 w' ∧ BytesAt w' W9.heap.size v9 b2, fun w h => h.1, ⟨hb9, hv9⟩, ?_⟩
    refine wpG_q rfl rfl (fun w' hS => exec_conv_bytes (bs := b2) hS.2 _ _ 5 _ rfl (by go_simp <;> rfl) bytesU u8U (by kernel_rfl)) (by go_simp; rfl) ?_
    rw [← hs]
    iterate 3 refine wpG_q rfl rfl (fun w' hS => by go_simp; rfl) (by go_simp; rfl) ?_
    refine wpG_nil (wpGs_nil ?_)
    go_wp2
    go_ret
    exact ⟨by simp, hW6.trans (hb9.mono hW6.size)⟩
  · have hW6 := hbel.out.trans ((hb5.mono hbsz).trans (hb6.mono (Nat.le_trans hbsz hs5)))
    refine wp_region_G [[(true,0),(true,1),(true,2),(true,3),(true,6),(true,7),(false,4),(true,5),(true,8),(true,9),(true,10)]] (by kernel_rfl) (by kernel_rfl) (by kernel_rfl) (by decide) (fun c a d v w h => by cases d <;> exact h) ?_
    refine wpGs_seg (fun w' => Below w6.heap.size w6 w') ((Below.refl _ _).drew) ?_
    iterate 6 first
      | refine wpG_q rfl rfl (fun w' hS => by go_simp; rfl) (by go_simp; rfl) ?_
      | refine wpG_skip rfl rfl (by go_simp; rfl) ?_
    refine wpG_eskip rfl rfl (by go_simp; rfl) ?_
    iterate 4 first
      | refine wpG_q rfl rfl (fun w' hS => by go_simp; rfl) (by go_simp; rfl) ?_
      | refine wpG_skip rfl rfl (by go_simp; rfl) ?_
    refine wpG_nil (wpGs_nil ?_)
    go_wp2
    go_ret
    exact ⟨by simp, hW6.drew⟩

set_option maxRecDepth 100000 in
set_option maxHeartbeats 8000000 in
theorem loads_out (v : Value) (l : List P3) (w : World) (h : PropsAt w w.heap.size v l) (hn : l.length ≤ 20) (at_ : Int) (turn : Int) (htn : 0 ≤ turn ∧ turn ≤ 255) (ho : l.any oddB = false) (T : TD) (hT1 : Hid (T = tdOf (pval l))) (b : List Int) (hbS : Hid (b = saveL T))
    (k m : Nat) (hk : bits .and .i64 at_ 8191 = (k : Int)) (hk2 : k ≤ 8191) (hm : bits .and .i64 (k : Int) 511 = (m : Int)) (hm2 : m ≤ 511) (hkl : b.length ≤ k) :
    Calls Try.prog 7 #[v, .int .i64 at_, .int .u8 turn] w fun e w' => e = .returned (.bool true) ∧ Below w.heap.size w w' := by
  have h0 := h
  obtain ⟨ao, c, rfl, hsz, hr, _⟩ := h0
  have h1 : (l.length : Int) ≤ 20 := by omega
  have hF : Hid (T.F.length ≤ 256) := by rw [hT1.out]; have := tdOf_small l; show (tdOf (pval l)).F.length ≤ 256; omega
  have hoH := Lib.hid ho
  have hk0 : (0 : Int) ≤ k := by omega
  have hk1 : (k : Int) ≤ 8191 := by omega
  have hklI : (b.length : Int) ≤ k := by omega
  clear hr ho
  obtain ⟨i0, hi0, hz0, hz1, hz2⟩ := info_parts infoU8
  go_enter Try.func7, Try.ntmps7
  go_wp2_with (first
    | (go_at_call 11; refine (awake_any _).mono ?_; rintro e w0 ⟨rfl, hb0⟩; have hs0 := hb0.size)
    | (go_at_call 13; refine (rbuild_good _ l _ (by exact (h.below hb0 (Nat.le_refl _)).mono hs0) (by omega) (by exact hoH.out) T (by exact hT1) (by exact hF)).mono ?_; rintro e w1 ⟨B1, rfl, ht1, hb1⟩; have hs1 := hb1.size)
    | (go_at_call 19; refine (rsave_any _ _ B1 T (by exact ht1) (Nat.le_refl _)).mono ?_; rintro e w2 ⟨v2, rfl, hrow2, hb2⟩; have hW : Below w.heap.size w w2 := ((hb0.trans (hb1.mono hs0)).trans (hb2.mono (by omega))); have hsB := refSave_isB ht1; have hlS : (saveL T).length ≤ 100000 := (by have := ht1.len; have := ht1.few; unfold saveL; simp [flatten_len (fun c hc => (ht1.blk c hc).len)]; omega); obtain ⟨g, cap, hv2, hgb, hgl⟩ := hrow2.form (by unfold saveL; simp); subst hv2; rw [← hbS.out] at hrow2 hsB hlS ⊢; have hw1 : w.heap.size ≤ w1.heap.size := (by omega); have hw2 : w1.heap.size ≤ w2.heap.size := hb2.size; clear ht1 hb0 hb1 hb2; clear hs0)
    | (at_builtin; refine wpList_append_zeros_own _ rfl (.tmp 47) (.tmp 49) 39 3 rfl w1.heap.size 5 i0 (.int .u8 0) bytesU Try.underlying3 hi0 hz0 hz1 hz2 rfl rfl g b.length cap (byt b) m rfl rfl hrow2 (by omega) (by omega) hw2 ?_; intro g' cap' w3 hrow3 hg3; obtain ⟨b2, hsB2, hByH⟩ := loads_more hrow3 hsB hm2 hlS; have hbel : Hid (Below w.heap.size w w3) := (hW.grown hg3 (by omega) (fun k e => by cases e; omega)); clear hrow2 hrow3 hg3 hsB hW)
    | (go_at_call 20; refine (load_any _ b2 _ (by exact hByH.out) hsB2 _ rfl).mono ?_; rintro e w5 ⟨hld5, hb5⟩; have hs5 := hb5.size; obtain ⟨T2, hT2⟩ : ∃ T2, T2 = TD.ofBlocks (loadBs b2) := ⟨_, rfl⟩; rw [← hT2] at hld5; have hT2H : Hid (T2 = TD.ofBlocks (loadBs b2)) := hT2; clear hT2; have hbsz := hbel.out.size; rcases hld5 with ⟨hok, B3, he, ht3⟩ | ⟨hno, he⟩ <;> (try unfold nilErr at he) <;> subst he)
    | (go_at_call 21; refine (rload_any _ b2 _ (by exact (hByH.out.below hb5 (Nat.le_refl _)).mono hs5) hsB2 T2 hT2H).mono ?_; rintro e w6 ⟨hld6, hb6⟩; rcases hld6 with ⟨hok6, B4, he, ht4⟩ | ⟨hno6, he⟩ <;> subst he <;> (first | exact absurd hok6 hno | exact absurd hok hno6 | skip)))
  · have hsave := hok.save
    have hW6 := hbel.out.trans ((hb5.mono hbsz).trans (hb6.mono (Nat.le_trans hbsz hs5)))
    have hby6 := ((hByH.out.below hb5 (Nat.le_refl _)).below hb6 hs5).mono (Nat.le_trans hs5 hb6.size)
    have ht36 := (ht3.below hb6 (Nat.le_refl _)).mono hb6.size
    obtain ⟨s, hs⟩ : ∃ s, s = strOfNums b2 := ⟨_, rfl⟩
    clear hok hok6 hb5 hb6 ht3 ht4 hByH
    refine wp_region_G [[(true,0),(true,1),(true,2),(true,3),(true,6),(true,7),(false,4),(true,5),(true,8),(true,9),(true,10)]] (by kernel_rfl) (by kernel_rfl) (by kernel_rfl) (by decide) (fun c a d v w h => by cases d <;> exact h) ?_
    refine wpGs_seg (fun w' => Below w6.heap.size w6 w') ((Below.refl _ _).drew) ?_
    iterate 5 refine wpG_q rfl rfl (fun w' hS => by go_simp; rfl) (by go_simp; rfl) ?_
    refine wpG_q rfl rfl (fun w' hS => exec_conv_bytes (bs := b2) (hby6.below hS (Nat.le_refl _)) _ _ 5 _ rfl (by go_simp <;> rfl) bytesU u8U (by kernel_rfl)) (by go_simp; rfl) ?_
    rw [← hs]
    have hcall : Calls Try.prog 18 #[.pointer (some ⟨B3, 0, none⟩)] w6.drew (fun e w' => ∃ u, e = .returned u ∧ (BytesAt w' w'.heap.size u b2 ∧ Below w6.heap.size w6 w')) :=
      (save_any w6.drew w6.heap.size B3 T2 (ht36.heap rfl) (Nat.le_refl _)).mono fun e w' h => by
        obtain ⟨v, he, hv, hbw⟩ := h
        rw [hsave] at hv
        exact ⟨v, he, hv, (Below.refl _ _).drew.trans hbw⟩
    refine wpG_call (f := 18) (args := #[.pointer (some ⟨B3, 0, none⟩)]) (v := fun w' u => BytesAt w' w'.heap.size u b2 ∧ Below w6.heap.size w6 w') rfl rfl (by go_simp <;> rfl) hcall ?_
    intro W9 v9 hv99
    obtain ⟨hv9, hb9⟩ := hv99
    refine ⟨fun w' => Below w6.heap.size w6 w' ∧ BytesAt w' W9.heap.size v9 b2, fun w h => h.1, ⟨hb9, hv9⟩, ?_⟩
    refine wpG_q rfl rfl (fun w' hS => exec_conv_bytes (bs := b2) hS.2 _ _ 5 _ rfl (by go_simp <;> rfl) bytesU u8U (by kernel_rfl)) (by go_simp; rfl) ?_
    rw [← hs]
    iterate 3 refine wpG_q rfl rfl (fun w' hS => by go_simp; rfl) (by go_simp; rfl) ?_
    refine wpG_nil (wpGs_nil ?_)
    go_wp2
    go_ret
    exact ⟨by simp, hW6.trans (hb9.mono hW6.size)⟩
  · have hW6 := hbel.out.trans ((hb5.mono hbsz).trans (hb6.mono (Nat.le_trans hbsz hs5)))
    refine wp_region_G [[(true,0),(true,1),(true,2),(true,3),(true,6),(true,7),(false,4),(true,5),(true,8),(true,9),(true,10)]] (by kernel_rfl) (by kernel_rfl) (by kernel_rfl) (by decide) (fun c a d v w h => by cases d <;> exact h) ?_
    refine wpGs_seg (fun w' => Below w6.heap.size w6 w') ((Below.refl _ _).drew) ?_
    iterate 6 first
      | refine wpG_q rfl rfl (fun w' hS => by go_simp; rfl) (by go_simp; rfl) ?_
      | refine wpG_skip rfl rfl (by go_simp; rfl) ?_
    refine wpG_eskip rfl rfl (by go_simp; rfl) ?_
    iterate 4 first
      | refine wpG_q rfl rfl (fun w' hS => by go_simp; rfl) (by go_simp; rfl) ?_
      | refine wpG_skip rfl rfl (by go_simp; rfl) ?_
    refine wpG_nil (wpGs_nil ?_)
    go_wp2
    go_ret
    exact ⟨by simp, hW6.drew⟩

theorem loads_good (v : Value) (l : List P3) (w : World) (h : PropsAt w w.heap.size v l) (hn : l.length ≤ 20) (at_ : Int) (turn : Int) (htn : 0 ≤ turn ∧ turn ≤ 255) (ho : l.any oddB = false) :
    Calls Try.prog 7 #[v, .int .i64 at_, .int .u8 turn] w fun e w' => e = .returned (.bool true) ∧ Below w.heap.size w w' := by
  obtain ⟨k, hk, hk2⟩ := and_mask at_ 8191 (by decide)
  obtain ⟨m, hm, hm2⟩ := and_mask (k : Int) 511 (by decide)
  rcases Nat.lt_or_ge k (saveL (tdOf (pval l))).length with hkl | hkl
  · exact loads_in v l w h hn at_ turn htn ho _ rfl _ rfl k m hk hk2 hm hm2 hkl
  · exact loads_out v l w h hn at_ turn htn ho _ rfl _ rfl k m hk hk2 hm hm2 hkl

theorem trieLoads_walk (a : Option Addr) (n c : Nat) {w : World} (h : n ≤ 30 → ∃ l : List P3, l.length = n ∧ PropsAt w w.heap.size (.slice a n c) l) (x : Int) (_hx : -9223372036854775808 ≤ x ∧ x ≤ 9223372036854775807) (t : Int) (ht : 0 ≤ t ∧ t ≤ 255) :
    Calls Try.prog 7 #[.slice a n c, .int .i64 x, .int .u8 t] w fun e w' => e = .returned (.bool true) ∧ Below w.heap.size w w' := by
  by_cases hn : n ≤ 20
  · obtain ⟨l, hl, hP⟩ := h (by omega)
    cases ho : l.any oddB with
    | true => exact loads_bad _ l w hP (by omega) _ _ ho
    | false => exact loads_good _ l w hP (by omega) x t ht ho
  · exact loads_long a n c _ _ w (by omega)
end Go.Proofs.Ytpaijpdmeiagfaa
