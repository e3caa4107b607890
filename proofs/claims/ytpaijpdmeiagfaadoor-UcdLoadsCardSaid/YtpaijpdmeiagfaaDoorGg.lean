/- UcdLoads: the walk. -/
import Derived.Test.YtpaijpdmeiagfaaDoorGe
import Derived.Test.YtpaijpdmeiagfaaDoorGf
import Derived.Test.YtpaijpdmeiagfaaDoorIt
import Derived.Deep.DeepCutAuto
set_option linter.unusedVariables false
set_option linter.unusedSimpArgs false
namespace Go.Proofs.Kk
open Go Go.RowKit
theorem and_mask (a : Int) (m : Nat) (hm : m < 4611686018427387904) : ∃ k : Nat, bits .and .i64 a (m : Int) = (k : Int) ∧ k ≤ m := by
  have hm2 : (BitVec.ofInt 64 (m : Int)).toNat = m := by
    rw [BitVec.ofInt_natCast, BitVec.toNat_ofNat]; exact Nat.mod_eq_of_lt (by omega)
  refine ⟨(BitVec.ofInt 64 a).toNat &&& m, ?_, Nat.and_le_right⟩
  show IntKind.i64.wrap ((BitVec.ofInt 64 a &&& BitVec.ofInt 64 (m : Int)).toNat : Int) = _
  have hle : (BitVec.ofInt 64 a).toNat &&& m ≤ m := Nat.and_le_right
  rw [BitVec.toNat_and, hm2]
  exact IntWalk.i64_in _ (by omega)
theorem BytesAt.capLe {w : World} {n₀ n c : Nat} {ao : Option Addr} {r : List Int} (h : BytesAt w n₀ (.slice ao n c) r) : n ≤ c := by
  obtain ⟨ao', c', hv, h1, _⟩ := h
  simp only [Value.slice.injEq] at hv
  obtain ⟨_, rfl, rfl⟩ := hv
  exact h1
theorem xor_u8 (a b : Int) (ha : 0 ≤ a ∧ a ≤ 255) (hb : 0 ≤ b ∧ b ≤ 255) : ∃ y : Int, bits .xor .u8 a b = y ∧ 0 ≤ y ∧ y ≤ 255 := by
  refine ⟨_, u8_xor a b ha.1 (by omega) hb.1 (by omega), by omega, ?_⟩
  have : a.toNat ^^^ b.toNat < 2 ^ 8 := Nat.xor_lt_two_pow (by omega) (by omega)
  omega
end Go.Proofs.Kk
namespace Go.Proofs.YtpaijpdmeiagfaaDoor
open Go Go.RowKit Go.WideMaps Go.Proofs.Kk Go.Proofs.Tm Go.Proofs.Gg

theorem turn_row {w2 : World} {base g cap k : Nat} {b : List Int} {turn : Int} (hrow2 : w2.ownsRow base 5 1 (.slice (some ⟨g, 0, none⟩) b.length cap) b.length (byt b)) (hsB : IsB b) (hkl : k < b.length) (htn : 0 ≤ turn ∧ turn ≤ 255) :
    ∃ (x y : Int) (b2 : List Int), w2.cell? ⟨g, k, none⟩ = some (.int .u8 x) ∧ w2.frozen? ⟨g, k, none⟩ = false ∧ bits .xor .u8 x turn = y ∧ IsB b2 ∧ b2.length = b.length ∧
      (w2.setCell ⟨g, k, none⟩ (.int .u8 y)).ownsRow base 5 1 (.slice (some ⟨g, 0, none⟩) b.length cap) b.length (byt b2) := by
  have hkx : b[k]? = some b[k] := List.getElem?_eq_getElem hkl
  have hxr := hsB b[k] (List.getElem_mem hkl)
  obtain ⟨y, hy, hyr⟩ := xor_u8 b[k] turn hxr htn
  have hst := hrow2.stored k (.int .u8 y)
  have hset : (byt b).set k (.int .u8 y) = byt (b.set k y) := by simp [byt, List.map_set]
  rw [hset] at hst
  refine ⟨b[k], y, b.set k y, ?_, hrow2.frozenAt k, hy, ?_, by simp, hst.1⟩
  · rw [hrow2.cellAt k (by omega), byt_get, hkx]; rfl
  · intro z hz
    rcases List.mem_or_eq_of_mem_set hz with hz | rfl
    · exact hsB z hz
    · exact hyr

theorem sizeU8 : (Tryd.prog.info? 5).map (·.size) = some 1 := by kernel_rfl
theorem dsave_pos {l : List TD} (h : l ≠ []) : 4 ≤ (dsave l).length := by
  cases l with
  | nil => exact absurd rfl h
  | cons T l =>
    simp only [dsave, List.length_append, put4, List.length_cons, List.length_nil]
    omega
theorem shipR_facts {w : World} {n₀ E : Nat} (h : RDataAt w n₀ E shipR) {S : List Int} (hS : S = dsave shipR) : IsB S ∧ S.length ≤ 280016 ∧ 1 ≤ S.length := by
  have h4 : shipR.length = 4 := h.2.1
  have hat : ∀ T ∈ shipR, ∃ B, RefAt w n₀ B T := fun T hT => by
    obtain ⟨k, hk⟩ := List.mem_iff_getElem?.1 hT
    obtain ⟨B, _, ht⟩ := h.trie k T hk
    exact ⟨B, ht⟩
  have h1 := dsave_len shipR (fun T hT => by obtain ⟨B, ht⟩ := hat T hT; exact ht.saveLen.1)
  have h2 := dsave_pos (l := shipR) (by intro e; rw [e] at h4; cases h4)
  rw [hS]
  refine ⟨dsave_isB _ fun T hT => ?_, by omega, by omega⟩
  obtain ⟨B, ht⟩ := hat T hT
  exact refSave_isB ht

set_option maxRecDepth 100000 in
set_option maxHeartbeats 2000000 in
theorem uloads_early (ao : Option Addr) (n c : Nat) (cut : Int) (r : Value) (h : 20 < n ∨ cut < 0) {w : World} (hL : LaidS w) :
    Calls Tryd.prog 10 #[.slice ao n c, .int .i64 cut, r] w fun e w' => e = .returned (.bool true) ∧ Below w.heap.size w w' := by
  by_cases h1 : 20 < n
  · have h1i : (20 : Int) < n := by omega
    go_enter Tryd.func10, Tryd.ntmps10
    go_wp2_with (go_at_call 29; refine (awake4_any _ hL).mono ?_; rintro e w1 ⟨rfl, hb1⟩)
    go_ret
    exact ⟨rfl, hb1⟩
  · have h1i : (n : Int) ≤ 20 := by omega
    have h2 : cut < 0 := by omega
    clear h h1
    go_enter Tryd.func10, Tryd.ntmps10
    go_wp2_with (go_at_call 29; refine (awake4_any _ hL).mono ?_; rintro e w1 ⟨rfl, hb1⟩)
    go_ret
    exact ⟨rfl, hb1⟩

set_option maxRecDepth 100000 in
set_option maxHeartbeats 16000000 in
theorem uloads_good (v0 : Value) (zs : List Int) (hn0 : zs.length ≤ 20) (cut : Int) (hcut : 0 ≤ cut) (v2 : Value) (rs : List Int) {w : World} (hL : LaidS w) (ht : IntsAt w w.heap.size v0 zs) (hr : IntsAt w w.heap.size v2 rs) :
    Calls Tryd.prog 10 #[v0, .int .i64 cut, v2] w fun e w' => e = .returned (.bool true) ∧ Below w.heap.size w w' := by
  obtain ⟨ao, c, rfl⟩ := ht.form
  obtain ⟨a2, c2, rfl⟩ := hr.form
  have hn1 : (zs.length : Int) ≤ 20 := by omega
  obtain ⟨S, hS⟩ : ∃ S, S = dsave shipR := ⟨_, rfl⟩
  have hSH := Lib.hid hS
  clear hS
  go_enter Tryd.func10, Tryd.ntmps10
  go_wp2_with (first
    | (go_at_call 29; refine (awake4_any _ hL).mono ?_; rintro e w1 ⟨rfl, hb1⟩)
    | (go_at_call 36; refine (rnew_any w1).mono ?_; rintro e w2 ⟨E, rfl, hR, hb2⟩; have hB2 : Below w.heap.size w w2 := hb1.trans (hb2.mono hb1.size); clear hb1 hb2)
    | (go_at_call 37; refine (rdsave_any w2 _ E shipR hR (Nat.le_refl _)).mono ?_; rw [← hSH.out]; rintro e w3 ⟨v3, rfl, hrow3, hb3⟩; have hB3 := hB2.trans (hb3.mono hB2.size); obtain ⟨hIB, hSl⟩ := shipR_facts hR hSH.out; obtain ⟨g, cap, hv3, hg1, hg2⟩ := hrow3.form (by omega); subst hv3; clear hR hb3))
  obtain ⟨L, hL0⟩ : ∃ L, L = S.length := ⟨_, rfl⟩
  have hrow3' : w3.ownsRow w2.heap.size 5 1 (.slice (some ⟨g, 0, none⟩) L cap) L (byt S) := by rw [hL0]; exact hrow3
  obtain ⟨hS1, hS2⟩ := hSl
  rw [← hL0] at hS1 hS2 ⊢
  have hLH := Lib.hid hL0
  clear hL0 hrow3
  have hs2 := hB2.size
  go_loopw [9] (fun vi wr => ∃ (k : Nat) (bs : List Int), k ≤ zs.length ∧ vi = .int .i64 k ∧ Hid (bs.length = L) ∧ Hid (IsB bs) ∧ wr.ownsRow w2.heap.size 5 1 (.slice (some ⟨g, 0, none⟩) L cap) L (byt bs) ∧ Below w.heap.size w wr) (fun vi _ => zs.length - (intOf vi).toNat)
  case atStart => exact ⟨0, S, by omega, rfl, hLH.out.symm, hIB, hrow3', hB3⟩
  case round =>
    obtain ⟨k, bs, hk, rfl, hbl, hbI, hrow, hb⟩ := hrel
    by_cases hlt : k < zs.length
    · have hk1 : (k : Int) < zs.length := by omega
      have hk0 : (0 : Int) ≤ k := by omega
      obtain ⟨b, off, rfl, hbn, p1⟩ := (ht.below hb (Nat.le_refl _)).at_ hk0 hk1
      rw [Int.toNat_natCast] at p1
      generalize zs.getD k 0 = z at p1
      obtain ⟨q, hq, hq2⟩ := and_mask z 65535 (by decide)
      have hq' : bits .and .i64 z 65535 = (q : Int) := hq
      have hL1 : (L : Int) ≤ 280016 := by omega
      have hL2 : (1 : Int) ≤ L := by omega
      have hq3 : (q : Int) ≤ 65535 := by omega
      have hne : L ≠ 0 := by omega
      obtain ⟨j, hj⟩ : ∃ j, j = q % L := ⟨_, rfl⟩
      have hq4 : (q : Int) % (L : Int) = (j : Int) := by rw [hj]; rfl
      have hq5 : (q : Int).tmod L = (j : Int) := by rw [Int.tmod_eq_emod_of_nonneg (by omega)]; exact hq4
      have hql : j < L := by rw [hj]; exact Nat.mod_lt _ (by omega)
      have hj0 : (0 : Int) ≤ j := by omega
      have hj1 : (j : Int) < L := by omega
      clear hj
      obtain ⟨u, hu, hu2⟩ := and_mask (z / 65536) 127 (by decide)
      have hu' : bits .and .i64 (z / 65536) 127 = (u : Int) := hu
      have hu3 : (u : Int) ≤ 127 := by omega
      have hu4 : IntKind.i64.wrap (1 + (u : Int)) = 1 + u := IntWalk.i64_in _ (by omega)
      have hu5 : IntKind.u8.wrap (1 + (u : Int)) = 1 + u := u8_in (by omega)
      have hrowb : wr.ownsRow w2.heap.size 5 1 (.slice (some ⟨g, 0, none⟩) bs.length cap) bs.length (byt bs) := by rw [hbl.out]; exact hrow
      obtain ⟨x, y, b2, hx, hfx, hxor, hI2, hl2, hrow2⟩ := turn_row (turn := 1 + (u : Int)) hrowb hbI.out (by rw [hbl.out]; exact hql) (by omega)
      rw [hbl.out] at hrow2 hl2
      have hrow2H := Lib.hid hrow2
      have hl2H := Lib.hid hl2
      have hI2H := Lib.hid hI2
      have hbT : Below w.heap.size w (wr.setCell ⟨g, j, none⟩ (.int .u8 y)) := hb.setCell (p := ⟨g, j, none⟩) (by simp; omega) _
      have hbTH := Lib.hid hbT
      clear hu hrowb hrow hbl hbI hI2 hl2 hrow2 hbT
      clear hq
      go_wp2
      go_region
      go_wp2
      go_roundw
      case rel => exact ⟨k + 1, b2, by omega, by go_num, hl2H.out, hI2H.out, ownsRow_heap hrow2H.out rfl, hbTH.out.drew⟩
      case measure => simp [intOf]; omega
    · obtain rfl : k = zs.length := by omega
      have hbs := hb.size
      have hL1 : (L : Int) ≤ 280016 := by omega
      have hBn : Hid (∀ n, n ≤ L → BytesAt wr wr.heap.size (.slice (some ⟨g, 0, none⟩) n cap) (bs.take n)) := fun n hn => (BytesAt.of_own (by rw [hbl.out]; exact hrow) (by rw [hbl.out]; omega)).take n hn
      clear hlt hk hrow
      by_cases hc : cut < L
      · obtain ⟨n, hn⟩ : ∃ n : Nat, (L : Int) - cut = n := ⟨((L : Int) - cut).toNat, by omega⟩
        have hnL : n ≤ L := by omega
        have hnc : (n : Int) ≤ cap := by have := (hBn.out n hnL).capLe; omega
        obtain ⟨b', hb'd⟩ : ∃ b', b' = bs.take n := ⟨_, rfl⟩
        have hBy : Hid (BytesAt wr wr.heap.size (.slice (some ⟨g, 0, none⟩) n cap) b') := by rw [hb'd]; exact hBn.out n hnL
        have hlen : b'.length = n := by rw [hb'd, List.length_take, hbl.out]; omega
        have hI : Hid (IsB b') := by rw [hb'd]; exact fun x hx => hbI.out x (List.mem_of_mem_take hx)
        have hlenH := Lib.hid hlen
        clear hb'd hlen hBn
        go_wp2_with (first
          | (go_at_call 35; refine (dload_walk (some ⟨g, 0, none⟩) cap n b' hlenH.out wr (fun _ => hBy.out) hI.out).mono ?_; rintro e w5 ⟨hld, hb5⟩; rcases hld with ⟨T0, T1, T2, T3, D, hok, he, hd5⟩ | ⟨hno, he⟩ <;> subst he)
          | (go_at_call 38; refine (rdload_walk (some ⟨g, 0, none⟩) cap n b' hlenH.out w5 (fun _ => (hBy.out.below hb5 (Nat.le_refl _)).mono hb5.size) hI.out).mono ?_; rintro e w6 ⟨hld6, hb6⟩; rcases hld6 with ⟨Ts, F, hok6, he, hr6⟩ | ⟨hno6, he⟩ <;> subst he <;> (first | (exfalso; rw [hok] at hno6; cases hno6; done) | (exfalso; rw [hno] at hok6; cases hok6; done) | skip)))
        · obtain rfl : Ts = [T0, T1, T2, T3] := Option.some.inj (hok6.symm.trans hok)
          have hsvH := Lib.hid (dload_save hI.out hok).1
          have hW5 := hb.trans (hb5.mono hb.size)
          have hW6 := hW5.trans (hb6.mono hW5.size)
          have hd6 := (hd5.below hb6 (Nat.le_refl _)).mono hb6.size
          have hBy6 : Hid (BytesAt w6 w6.heap.size (.slice (some ⟨g, 0, none⟩) n cap) b') := ((hBy.out.below hb5 (Nat.le_refl _)).below hb6 hb5.size).mono (Nat.le_trans hb5.size hb6.size)
          clear hok hok6 hb5 hb6 hd5 hBy hb ht
          go_loopw [15] (fun vi wr => ∃ k : Nat, k ≤ rs.length ∧ vi = .int .i64 k ∧ Hid (wr.heap = w6.heap) ∧ Below w.heap.size w wr) (fun vi _ => rs.length - (intOf vi).toNat)
          case atStart => exact ⟨0, by omega, rfl, rfl, hW6⟩
          case round =>
            obtain ⟨k, hk, rfl, hh, hbr⟩ := hrel
            have hdW : DataAt wr w6.heap.size D T0 T1 T2 T3 := hd6.heap hh.out
            have hrW : RDataAt wr w6.heap.size F [T0, T1, T2, T3] := hr6.heap hh.out
            by_cases hlt : k < rs.length ∧ k < 100
            · obtain ⟨hlt, h100⟩ := hlt
              have hk1 : (k : Int) < rs.length := by omega
              have hk0 : (0 : Int) ≤ k := by omega
              have hk2 : (k : Int) < 100 := by omega
              obtain ⟨bb, off, rfl, hbn, p1⟩ := (hr.below hbr (Nat.le_refl _)).at_ hk0 hk1
              rw [Int.toNat_natCast] at p1
              generalize rs.getD k 0 = x at p1
              obtain ⟨y0, hy0⟩ : ∃ y, y = dclu T0 x := ⟨_, rfl⟩
              obtain ⟨y1, hy1⟩ : ∃ y, y = T1.val x := ⟨_, rfl⟩
              obtain ⟨y2, hy2⟩ : ∃ y, y = T2.val x := ⟨_, rfl⟩
              obtain ⟨y3, hy3⟩ : ∃ y, y = dpic T3 x := ⟨_, rfl⟩
              have y0H := Lib.hid hy0
              have y1H := Lib.hid hy1
              have y2H := Lib.hid hy2
              have y3H := Lib.hid hy3
              clear hy0 hy1 hy2 hy3
              go_wp2
              refine wp_region_G [[(true,0),(true,1),(true,2),(true,3),(true,4),(true,6),(true,7),(true,8),(true,9),(true,10),(false,5),(false,11),(true,12),(true,13),(true,14),(true,15),(true,16),(true,17),(true,18),(true,20),(true,21),(true,22),(true,23),(true,24),(false,19),(false,25),(true,26),(true,27),(true,28),(true,29),(true,30),(true,31),(true,32),(true,33),(true,35),(true,36),(true,37),(true,38),(true,39),(false,34),(false,40),(true,41),(true,42),(true,43),(true,44),(true,45),(true,46),(true,47),(true,48),(true,50),(true,51),(true,52),(true,53),(true,54),(false,49),(false,55),(true,56),(true,57)]] (by kernel_rfl) (by kernel_rfl) (by kernel_rfl) (by decide) (fun c a d v w h => by cases d <;> exact h) ?_
              refine wpGs_seg (fun w' => w'.cell? ⟨bb, off + k, none⟩ = some (.int .i64 x)) (show wr.drew.cell? _ = _ from p1) ?_
              iterate 10 refine wpG_q rfl rfl (fun w' hS => by have hS1 := hS; go_simp; rfl) (by go_simp; rfl) ?_
              refine wpG_call (f := 31) (args := #[.pointer (some ⟨D, 0, none⟩), .int .i64 x]) (v := fun w' u => u = .int .i64 y0 ∧ ∃ n', w' = (wr.drew).drewN n') rfl rfl (by go_simp <;> rfl) ((cluster_any (wr.drew) _ D T0 T1 T2 T3 x (hdW.heap rfl)).mono fun e w' h => by obtain ⟨he, h⟩ := h; rw [← y0H.out] at he; exact ⟨_, he, rfl, h⟩) ?_
              rintro V1 z1 ⟨rfl, m1, rfl⟩
              refine ⟨fun w' => w'.cell? ⟨bb, off + k, none⟩ = some (.int .i64 x), fun w h => h, (show ((wr.drew).drewN m1).cell? _ = _ from p1), ?_⟩
              refine wpG_call (f := 39) (args := #[.pointer (some ⟨F, 0, none⟩), .int .i64 x]) (v := fun w' u => u = .int .i64 y0 ∧ ∃ n', w' = ((wr.drew).drewN m1).drewN n') rfl rfl (by go_simp <;> rfl) ((rdclus_any ((wr.drew).drewN m1) _ F [T0, T1, T2, T3] T0 x (hrW.heap rfl) rfl).mono fun e w' h => by obtain ⟨he, h⟩ := h; rw [← y0H.out] at he; exact ⟨_, he, rfl, h⟩) ?_
              rintro V2 z2 ⟨rfl, m2, rfl⟩
              refine ⟨fun w' => w'.cell? ⟨bb, off + k, none⟩ = some (.int .i64 x), fun w h => h, (show (((wr.drew).drewN m1).drewN m2).cell? _ = _ from p1), ?_⟩
              iterate 12 refine wpG_q rfl rfl (fun w' hS => by have hS1 := hS; go_simp; rfl) (by go_simp; rfl) ?_
              refine wpG_call (f := 26) (args := #[.pointer (some ⟨D, 0, none⟩), .int .i64 x]) (v := fun w' u => u = .int .i64 y1 ∧ ∃ n', w' = (((wr.drew).drewN m1).drewN m2).drewN n') rfl rfl (by go_simp <;> rfl) ((word_any (((wr.drew).drewN m1).drewN m2) _ D T0 T1 T2 T3 x (hdW.heap rfl)).mono fun e w' h => by obtain ⟨he, h⟩ := h; rw [← y1H.out] at he; exact ⟨_, he, rfl, h⟩) ?_
              rintro V3 z3 ⟨rfl, m3, rfl⟩
              refine ⟨fun w' => w'.cell? ⟨bb, off + k, none⟩ = some (.int .i64 x), fun w h => h, (show ((((wr.drew).drewN m1).drewN m2).drewN m3).cell? _ = _ from p1), ?_⟩
              refine wpG_call (f := 40) (args := #[.pointer (some ⟨F, 0, none⟩), .int .i64 x]) (v := fun w' u => u = .int .i64 y1 ∧ ∃ n', w' = ((((wr.drew).drewN m1).drewN m2).drewN m3).drewN n') rfl rfl (by go_simp <;> rfl) ((rdword_any ((((wr.drew).drewN m1).drewN m2).drewN m3) _ F [T0, T1, T2, T3] T1 x (hrW.heap rfl) rfl).mono fun e w' h => by obtain ⟨he, h⟩ := h; rw [← y1H.out] at he; exact ⟨_, he, rfl, h⟩) ?_
              rintro V4 z4 ⟨rfl, m4, rfl⟩
              refine ⟨fun w' => w'.cell? ⟨bb, off + k, none⟩ = some (.int .i64 x), fun w h => h, (show (((((wr.drew).drewN m1).drewN m2).drewN m3).drewN m4).cell? _ = _ from p1), ?_⟩
              iterate 13 refine wpG_q rfl rfl (fun w' hS => by have hS1 := hS; go_simp; rfl) (by go_simp; rfl) ?_
              refine wpG_call (f := 32) (args := #[.pointer (some ⟨D, 0, none⟩), .int .i64 x]) (v := fun w' u => u = .int .i64 y2 ∧ ∃ n', w' = (((((wr.drew).drewN m1).drewN m2).drewN m3).drewN m4).drewN n') rfl rfl (by go_simp <;> rfl) ((script_any (((((wr.drew).drewN m1).drewN m2).drewN m3).drewN m4) _ D T0 T1 T2 T3 x (hdW.heap rfl)).mono fun e w' h => by obtain ⟨he, h⟩ := h; rw [← y2H.out] at he; exact ⟨_, he, rfl, h⟩) ?_
              rintro V5 z5 ⟨rfl, m5, rfl⟩
              refine ⟨fun w' => w'.cell? ⟨bb, off + k, none⟩ = some (.int .i64 x), fun w h => h, (show ((((((wr.drew).drewN m1).drewN m2).drewN m3).drewN m4).drewN m5).cell? _ = _ from p1), ?_⟩
              refine wpG_call (f := 41) (args := #[.pointer (some ⟨F, 0, none⟩), .int .i64 x]) (v := fun w' u => u = .int .i64 y2 ∧ ∃ n', w' = ((((((wr.drew).drewN m1).drewN m2).drewN m3).drewN m4).drewN m5).drewN n') rfl rfl (by go_simp <;> rfl) ((rdscript_any ((((((wr.drew).drewN m1).drewN m2).drewN m3).drewN m4).drewN m5) _ F [T0, T1, T2, T3] T2 x (hrW.heap rfl) rfl).mono fun e w' h => by obtain ⟨he, h⟩ := h; rw [← y2H.out] at he; exact ⟨_, he, rfl, h⟩) ?_
              rintro V6 z6 ⟨rfl, m6, rfl⟩
              refine ⟨fun w' => w'.cell? ⟨bb, off + k, none⟩ = some (.int .i64 x), fun w h => h, (show (((((((wr.drew).drewN m1).drewN m2).drewN m3).drewN m4).drewN m5).drewN m6).cell? _ = _ from p1), ?_⟩
              iterate 13 refine wpG_q rfl rfl (fun w' hS => by have hS1 := hS; go_simp; rfl) (by go_simp; rfl) ?_
              refine wpG_call (f := 33) (args := #[.pointer (some ⟨D, 0, none⟩), .int .i64 x]) (v := fun w' u => u = .bool y3 ∧ ∃ n', w' = (((((((wr.drew).drewN m1).drewN m2).drewN m3).drewN m4).drewN m5).drewN m6).drewN n') rfl rfl (by go_simp <;> rfl) ((picto_any (((((((wr.drew).drewN m1).drewN m2).drewN m3).drewN m4).drewN m5).drewN m6) _ D T0 T1 T2 T3 x (hdW.heap rfl)).mono fun e w' h => by obtain ⟨he, h⟩ := h; rw [← y3H.out] at he; exact ⟨_, he, rfl, h⟩) ?_
              rintro V7 z7 ⟨rfl, m7, rfl⟩
              refine ⟨fun w' => w'.cell? ⟨bb, off + k, none⟩ = some (.int .i64 x), fun w h => h, (show ((((((((wr.drew).drewN m1).drewN m2).drewN m3).drewN m4).drewN m5).drewN m6).drewN m7).cell? _ = _ from p1), ?_⟩
              refine wpG_call (f := 42) (args := #[.pointer (some ⟨F, 0, none⟩), .int .i64 x]) (v := fun w' u => u = .bool y3 ∧ ∃ n', w' = ((((((((wr.drew).drewN m1).drewN m2).drewN m3).drewN m4).drewN m5).drewN m6).drewN m7).drewN n') rfl rfl (by go_simp <;> rfl) ((rdpicto_any ((((((((wr.drew).drewN m1).drewN m2).drewN m3).drewN m4).drewN m5).drewN m6).drewN m7) _ F [T0, T1, T2, T3] T3 x (hrW.heap rfl) rfl).mono fun e w' h => by obtain ⟨he, h⟩ := h; rw [← y3H.out] at he; exact ⟨_, he, rfl, h⟩) ?_
              rintro V8 z8 ⟨rfl, m8, rfl⟩
              refine ⟨fun w' => w'.cell? ⟨bb, off + k, none⟩ = some (.int .i64 x), fun w h => h, (show (((((((((wr.drew).drewN m1).drewN m2).drewN m3).drewN m4).drewN m5).drewN m6).drewN m7).drewN m8).cell? _ = _ from p1), ?_⟩
              iterate 2 refine wpG_q rfl rfl (fun w' hS => by have hS1 := hS; go_simp; rfl) (by go_simp; rfl) ?_
              refine wpG_nil (wpGs_nil ?_)
              go_wp2
              go_roundw
              case rel => exact ⟨k + 1, by omega, by go_num, hh.out, by (repeat apply below_drewN); first | exact hbr | exact hbr.drew⟩
              case measure => simp [intOf]; omega
            · have hend : k = rs.length ∨ (k < rs.length ∧ 100 ≤ k) := by omega
              have hBw : Hid (BytesAt wr w6.heap.size (.slice (some ⟨g, 0, none⟩) n cap) b') := hBy6.out.heap hh.out
              have hs6 : w6.heap.size ≤ wr.heap.size := by rw [hh.out]; exact Nat.le_refl _
              obtain ⟨sb, hsb⟩ : ∃ s, s = strOfNums b' := ⟨_, rfl⟩
              have hsbH := Lib.hid hsb
              clear hlt hsb hrW
              have hcall : Calls Tryd.prog 34 #[.pointer (some ⟨D, 0, none⟩)] wr.drew (fun e w' => ∃ u, e = .returned u ∧ (BytesAt w' w'.heap.size u b' ∧ Below wr.heap.size wr w')) :=
                (dsave_bytes wr.drew w6.heap.size D T0 T1 T2 T3 (hdW.heap rfl) hs6).mono fun e w' h => by
                  obtain ⟨v, he, hv, hbw⟩ := h
                  rw [hsvH.out] at hv
                  exact ⟨v, he, hv, (Below.refl _ _).drew.trans hbw⟩
              have hcallH := Lib.hid hcall
              clear hcall hdW
              rcases hend with hend | ⟨hend, hend2⟩
              all_goals
                first
                  | (subst hend; skip)
                  | (have hk1 : (k : Int) < rs.length := by omega
                     have hk2 : (100 : Int) ≤ k := by omega
                     clear hend hend2)
                go_wp2
                refine wp_region_G [[(true,0),(true,1),(true,2),(true,3),(true,6),(true,7),(false,4),(true,5),(true,8),(true,9),(true,10)]] (by kernel_rfl) (by kernel_rfl) (by kernel_rfl) (by decide) (fun c a d v w h => by cases d <;> exact h) ?_
                refine wpGs_seg (fun w' => Below wr.heap.size wr w') ((Below.refl _ _).drew) ?_
                iterate 5 refine wpG_q rfl rfl (fun w' hS => by go_simp; rfl) (by go_simp; rfl) ?_
                refine wpG_q rfl rfl (fun w' hS => exec_conv_bytes (bs := b') (hBw.out.below hS hs6) _ _ 5 _ rfl (by go_simp <;> rfl) bytesU u8U (by kernel_rfl)) (by go_simp; rfl) ?_
                rw [← hsbH.out]
                refine wpG_call (f := 34) (args := #[.pointer (some ⟨D, 0, none⟩)]) (v := fun w' u => BytesAt w' w'.heap.size u b' ∧ Below wr.heap.size wr w') rfl rfl (by go_simp <;> rfl) hcallH.out ?_
                intro W9 v9 hv99
                obtain ⟨hv9, hb9⟩ := hv99
                refine ⟨fun w' => Below wr.heap.size wr w' ∧ BytesAt w' W9.heap.size v9 b', fun w h => h.1, ⟨hb9, hv9⟩, ?_⟩
                refine wpG_q rfl rfl (fun w' hS => exec_conv_bytes (bs := b') hS.2 _ _ 5 _ rfl (by go_simp <;> rfl) bytesU u8U (by kernel_rfl)) (by go_simp; rfl) ?_
                rw [← hsbH.out]
                iterate 3 refine wpG_q rfl rfl (fun w' hS => by go_simp; rfl) (by go_simp; rfl) ?_
                refine wpG_nil (wpGs_nil ?_)
                go_wp2
                go_ret
                exact ⟨by simp, hbr.trans (hb9.mono hbr.size)⟩
        · have hW5 := hb.trans (hb5.mono hb.size)
          have hW6 := hW5.trans (hb6.mono hW5.size)
          clear hno hno6 hb5 hb6 hBy hb ht hr
          refine wp_loop_rounds 1 ?_
          rw [rounds_succ]
          by_cases hr0 : rs.length = 0
          · rw [hr0]
            go_wp2
            refine wp_region_G [[(true,0),(true,1),(true,2),(true,3),(true,6),(true,7),(false,4),(true,5),(true,8),(true,9),(true,10)]] (by kernel_rfl) (by kernel_rfl) (by kernel_rfl) (by decide) (fun c a d v w h => by cases d <;> exact h) ?_
            refine wpGs_seg (fun w' => True) trivial ?_
            iterate 6 first
              | refine wpG_q rfl rfl (fun w' hS => by go_simp; rfl) (by go_simp; rfl) ?_
              | refine wpG_skip rfl rfl (by go_simp; rfl) ?_
            refine wpG_eskip rfl rfl (by go_simp; rfl) ?_
            iterate 4 first
              | refine wpG_q rfl rfl (fun w' hS => by go_simp; rfl) (by go_simp; rfl) ?_
              | refine wpG_skip rfl rfl (by go_simp; rfl) ?_
            refine wpG_nil (wpGs_nil ?_)
            go_wp2
            go_ret
            exact ⟨by simp, hW6.drew⟩
          · have hr1 : (0 : Int) < rs.length := by omega
            go_wp2
            refine wp_region_G [[(true,0),(true,1),(true,2),(true,3),(true,6),(true,7),(false,4),(true,5),(true,8),(true,9),(true,10)]] (by kernel_rfl) (by kernel_rfl) (by kernel_rfl) (by decide) (fun c a d v w h => by cases d <;> exact h) ?_
            refine wpGs_seg (fun w' => True) trivial ?_
            iterate 6 first
              | refine wpG_q rfl rfl (fun w' hS => by go_simp; rfl) (by go_simp; rfl) ?_
              | refine wpG_skip rfl rfl (by go_simp; rfl) ?_
            refine wpG_eskip rfl rfl (by go_simp; rfl) ?_
            iterate 4 first
              | refine wpG_q rfl rfl (fun w' hS => by go_simp; rfl) (by go_simp; rfl) ?_
              | refine wpG_skip rfl rfl (by go_simp; rfl) ?_
            refine wpG_nil (wpGs_nil ?_)
            go_wp2
            go_ret
            exact ⟨by simp, hW6.drew⟩
      · have hc' : (L : Int) ≤ cut := by omega
        clear hc
        obtain ⟨n, hn⟩ : ∃ n : Nat, n = L := ⟨_, rfl⟩
        have hnL : n ≤ L := by omega
        rw [← hn] at hc' ⊢
        clear hn
        obtain ⟨b', hb'd⟩ : ∃ b', b' = bs.take n := ⟨_, rfl⟩
        have hBy : Hid (BytesAt wr wr.heap.size (.slice (some ⟨g, 0, none⟩) n cap) b') := by rw [hb'd]; exact hBn.out n hnL
        have hlen : b'.length = n := by rw [hb'd, List.length_take, hbl.out]; omega
        have hI : Hid (IsB b') := by rw [hb'd]; exact fun x hx => hbI.out x (List.mem_of_mem_take hx)
        have hlenH := Lib.hid hlen
        clear hb'd hlen hBn
        go_wp2_with (first
          | (go_at_call 35; refine (dload_walk (some ⟨g, 0, none⟩) cap n b' hlenH.out wr (fun _ => hBy.out) hI.out).mono ?_; rintro e w5 ⟨hld, hb5⟩; rcases hld with ⟨T0, T1, T2, T3, D, hok, he, hd5⟩ | ⟨hno, he⟩ <;> subst he)
          | (go_at_call 38; refine (rdload_walk (some ⟨g, 0, none⟩) cap n b' hlenH.out w5 (fun _ => (hBy.out.below hb5 (Nat.le_refl _)).mono hb5.size) hI.out).mono ?_; rintro e w6 ⟨hld6, hb6⟩; rcases hld6 with ⟨Ts, F, hok6, he, hr6⟩ | ⟨hno6, he⟩ <;> subst he <;> (first | (exfalso; rw [hok] at hno6; cases hno6; done) | (exfalso; rw [hno] at hok6; cases hok6; done) | skip)))
        · obtain rfl : Ts = [T0, T1, T2, T3] := Option.some.inj (hok6.symm.trans hok)
          have hsvH := Lib.hid (dload_save hI.out hok).1
          have hW5 := hb.trans (hb5.mono hb.size)
          have hW6 := hW5.trans (hb6.mono hW5.size)
          have hd6 := (hd5.below hb6 (Nat.le_refl _)).mono hb6.size
          have hBy6 : Hid (BytesAt w6 w6.heap.size (.slice (some ⟨g, 0, none⟩) n cap) b') := ((hBy.out.below hb5 (Nat.le_refl _)).below hb6 hb5.size).mono (Nat.le_trans hb5.size hb6.size)
          clear hok hok6 hb5 hb6 hd5 hBy hb ht
          go_loopw [15] (fun vi wr => ∃ k : Nat, k ≤ rs.length ∧ vi = .int .i64 k ∧ Hid (wr.heap = w6.heap) ∧ Below w.heap.size w wr) (fun vi _ => rs.length - (intOf vi).toNat)
          case atStart => exact ⟨0, by omega, rfl, rfl, hW6⟩
          case round =>
            obtain ⟨k, hk, rfl, hh, hbr⟩ := hrel
            have hdW : DataAt wr w6.heap.size D T0 T1 T2 T3 := hd6.heap hh.out
            have hrW : RDataAt wr w6.heap.size F [T0, T1, T2, T3] := hr6.heap hh.out
            by_cases hlt : k < rs.length ∧ k < 100
            · obtain ⟨hlt, h100⟩ := hlt
              have hk1 : (k : Int) < rs.length := by omega
              have hk0 : (0 : Int) ≤ k := by omega
              have hk2 : (k : Int) < 100 := by omega
              obtain ⟨bb, off, rfl, hbn, p1⟩ := (hr.below hbr (Nat.le_refl _)).at_ hk0 hk1
              rw [Int.toNat_natCast] at p1
              generalize rs.getD k 0 = x at p1
              obtain ⟨y0, hy0⟩ : ∃ y, y = dclu T0 x := ⟨_, rfl⟩
              obtain ⟨y1, hy1⟩ : ∃ y, y = T1.val x := ⟨_, rfl⟩
              obtain ⟨y2, hy2⟩ : ∃ y, y = T2.val x := ⟨_, rfl⟩
              obtain ⟨y3, hy3⟩ : ∃ y, y = dpic T3 x := ⟨_, rfl⟩
              have y0H := Lib.hid hy0
              have y1H := Lib.hid hy1
              have y2H := Lib.hid hy2
              have y3H := Lib.hid hy3
              clear hy0 hy1 hy2 hy3
              go_wp2
              refine wp_region_G [[(true,0),(true,1),(true,2),(true,3),(true,4),(true,6),(true,7),(true,8),(true,9),(true,10),(false,5),(false,11),(true,12),(true,13),(true,14),(true,15),(true,16),(true,17),(true,18),(true,20),(true,21),(true,22),(true,23),(true,24),(false,19),(false,25),(true,26),(true,27),(true,28),(true,29),(true,30),(true,31),(true,32),(true,33),(true,35),(true,36),(true,37),(true,38),(true,39),(false,34),(false,40),(true,41),(true,42),(true,43),(true,44),(true,45),(true,46),(true,47),(true,48),(true,50),(true,51),(true,52),(true,53),(true,54),(false,49),(false,55),(true,56),(true,57)]] (by kernel_rfl) (by kernel_rfl) (by kernel_rfl) (by decide) (fun c a d v w h => by cases d <;> exact h) ?_
              refine wpGs_seg (fun w' => w'.cell? ⟨bb, off + k, none⟩ = some (.int .i64 x)) (show wr.drew.cell? _ = _ from p1) ?_
              iterate 10 refine wpG_q rfl rfl (fun w' hS => by have hS1 := hS; go_simp; rfl) (by go_simp; rfl) ?_
              refine wpG_call (f := 31) (args := #[.pointer (some ⟨D, 0, none⟩), .int .i64 x]) (v := fun w' u => u = .int .i64 y0 ∧ ∃ n', w' = (wr.drew).drewN n') rfl rfl (by go_simp <;> rfl) ((cluster_any (wr.drew) _ D T0 T1 T2 T3 x (hdW.heap rfl)).mono fun e w' h => by obtain ⟨he, h⟩ := h; rw [← y0H.out] at he; exact ⟨_, he, rfl, h⟩) ?_
              rintro V1 z1 ⟨rfl, m1, rfl⟩
              refine ⟨fun w' => w'.cell? ⟨bb, off + k, none⟩ = some (.int .i64 x), fun w h => h, (show ((wr.drew).drewN m1).cell? _ = _ from p1), ?_⟩
              refine wpG_call (f := 39) (args := #[.pointer (some ⟨F, 0, none⟩), .int .i64 x]) (v := fun w' u => u = .int .i64 y0 ∧ ∃ n', w' = ((wr.drew).drewN m1).drewN n') rfl rfl (by go_simp <;> rfl) ((rdclus_any ((wr.drew).drewN m1) _ F [T0, T1, T2, T3] T0 x (hrW.heap rfl) rfl).mono fun e w' h => by obtain ⟨he, h⟩ := h; rw [← y0H.out] at he; exact ⟨_, he, rfl, h⟩) ?_
              rintro V2 z2 ⟨rfl, m2, rfl⟩
              refine ⟨fun w' => w'.cell? ⟨bb, off + k, none⟩ = some (.int .i64 x), fun w h => h, (show (((wr.drew).drewN m1).drewN m2).cell? _ = _ from p1), ?_⟩
              iterate 12 refine wpG_q rfl rfl (fun w' hS => by have hS1 := hS; go_simp; rfl) (by go_simp; rfl) ?_
              refine wpG_call (f := 26) (args := #[.pointer (some ⟨D, 0, none⟩), .int .i64 x]) (v := fun w' u => u = .int .i64 y1 ∧ ∃ n', w' = (((wr.drew).drewN m1).drewN m2).drewN n') rfl rfl (by go_simp <;> rfl) ((word_any (((wr.drew).drewN m1).drewN m2) _ D T0 T1 T2 T3 x (hdW.heap rfl)).mono fun e w' h => by obtain ⟨he, h⟩ := h; rw [← y1H.out] at he; exact ⟨_, he, rfl, h⟩) ?_
              rintro V3 z3 ⟨rfl, m3, rfl⟩
              refine ⟨fun w' => w'.cell? ⟨bb, off + k, none⟩ = some (.int .i64 x), fun w h => h, (show ((((wr.drew).drewN m1).drewN m2).drewN m3).cell? _ = _ from p1), ?_⟩
              refine wpG_call (f := 40) (args := #[.pointer (some ⟨F, 0, none⟩), .int .i64 x]) (v := fun w' u => u = .int .i64 y1 ∧ ∃ n', w' = ((((wr.drew).drewN m1).drewN m2).drewN m3).drewN n') rfl rfl (by go_simp <;> rfl) ((rdword_any ((((wr.drew).drewN m1).drewN m2).drewN m3) _ F [T0, T1, T2, T3] T1 x (hrW.heap rfl) rfl).mono fun e w' h => by obtain ⟨he, h⟩ := h; rw [← y1H.out] at he; exact ⟨_, he, rfl, h⟩) ?_
              rintro V4 z4 ⟨rfl, m4, rfl⟩
              refine ⟨fun w' => w'.cell? ⟨bb, off + k, none⟩ = some (.int .i64 x), fun w h => h, (show (((((wr.drew).drewN m1).drewN m2).drewN m3).drewN m4).cell? _ = _ from p1), ?_⟩
              iterate 13 refine wpG_q rfl rfl (fun w' hS => by have hS1 := hS; go_simp; rfl) (by go_simp; rfl) ?_
              refine wpG_call (f := 32) (args := #[.pointer (some ⟨D, 0, none⟩), .int .i64 x]) (v := fun w' u => u = .int .i64 y2 ∧ ∃ n', w' = (((((wr.drew).drewN m1).drewN m2).drewN m3).drewN m4).drewN n') rfl rfl (by go_simp <;> rfl) ((script_any (((((wr.drew).drewN m1).drewN m2).drewN m3).drewN m4) _ D T0 T1 T2 T3 x (hdW.heap rfl)).mono fun e w' h => by obtain ⟨he, h⟩ := h; rw [← y2H.out] at he; exact ⟨_, he, rfl, h⟩) ?_
              rintro V5 z5 ⟨rfl, m5, rfl⟩
              refine ⟨fun w' => w'.cell? ⟨bb, off + k, none⟩ = some (.int .i64 x), fun w h => h, (show ((((((wr.drew).drewN m1).drewN m2).drewN m3).drewN m4).drewN m5).cell? _ = _ from p1), ?_⟩
              refine wpG_call (f := 41) (args := #[.pointer (some ⟨F, 0, none⟩), .int .i64 x]) (v := fun w' u => u = .int .i64 y2 ∧ ∃ n', w' = ((((((wr.drew).drewN m1).drewN m2).drewN m3).drewN m4).drewN m5).drewN n') rfl rfl (by go_simp <;> rfl) ((rdscript_any ((((((wr.drew).drewN m1).drewN m2).drewN m3).drewN m4).drewN m5) _ F [T0, T1, T2, T3] T2 x (hrW.heap rfl) rfl).mono fun e w' h => by obtain ⟨he, h⟩ := h; rw [← y2H.out] at he; exact ⟨_, he, rfl, h⟩) ?_
              rintro V6 z6 ⟨rfl, m6, rfl⟩
              refine ⟨fun w' => w'.cell? ⟨bb, off + k, none⟩ = some (.int .i64 x), fun w h => h, (show (((((((wr.drew).drewN m1).drewN m2).drewN m3).drewN m4).drewN m5).drewN m6).cell? _ = _ from p1), ?_⟩
              iterate 13 refine wpG_q rfl rfl (fun w' hS => by have hS1 := hS; go_simp; rfl) (by go_simp; rfl) ?_
              refine wpG_call (f := 33) (args := #[.pointer (some ⟨D, 0, none⟩), .int .i64 x]) (v := fun w' u => u = .bool y3 ∧ ∃ n', w' = (((((((wr.drew).drewN m1).drewN m2).drewN m3).drewN m4).drewN m5).drewN m6).drewN n') rfl rfl (by go_simp <;> rfl) ((picto_any (((((((wr.drew).drewN m1).drewN m2).drewN m3).drewN m4).drewN m5).drewN m6) _ D T0 T1 T2 T3 x (hdW.heap rfl)).mono fun e w' h => by obtain ⟨he, h⟩ := h; rw [← y3H.out] at he; exact ⟨_, he, rfl, h⟩) ?_
              rintro V7 z7 ⟨rfl, m7, rfl⟩
              refine ⟨fun w' => w'.cell? ⟨bb, off + k, none⟩ = some (.int .i64 x), fun w h => h, (show ((((((((wr.drew).drewN m1).drewN m2).drewN m3).drewN m4).drewN m5).drewN m6).drewN m7).cell? _ = _ from p1), ?_⟩
              refine wpG_call (f := 42) (args := #[.pointer (some ⟨F, 0, none⟩), .int .i64 x]) (v := fun w' u => u = .bool y3 ∧ ∃ n', w' = ((((((((wr.drew).drewN m1).drewN m2).drewN m3).drewN m4).drewN m5).drewN m6).drewN m7).drewN n') rfl rfl (by go_simp <;> rfl) ((rdpicto_any ((((((((wr.drew).drewN m1).drewN m2).drewN m3).drewN m4).drewN m5).drewN m6).drewN m7) _ F [T0, T1, T2, T3] T3 x (hrW.heap rfl) rfl).mono fun e w' h => by obtain ⟨he, h⟩ := h; rw [← y3H.out] at he; exact ⟨_, he, rfl, h⟩) ?_
              rintro V8 z8 ⟨rfl, m8, rfl⟩
              refine ⟨fun w' => w'.cell? ⟨bb, off + k, none⟩ = some (.int .i64 x), fun w h => h, (show (((((((((wr.drew).drewN m1).drewN m2).drewN m3).drewN m4).drewN m5).drewN m6).drewN m7).drewN m8).cell? _ = _ from p1), ?_⟩
              iterate 2 refine wpG_q rfl rfl (fun w' hS => by have hS1 := hS; go_simp; rfl) (by go_simp; rfl) ?_
              refine wpG_nil (wpGs_nil ?_)
              go_wp2
              go_roundw
              case rel => exact ⟨k + 1, by omega, by go_num, hh.out, by (repeat apply below_drewN); first | exact hbr | exact hbr.drew⟩
              case measure => simp [intOf]; omega
            · have hend : k = rs.length ∨ (k < rs.length ∧ 100 ≤ k) := by omega
              have hBw : Hid (BytesAt wr w6.heap.size (.slice (some ⟨g, 0, none⟩) n cap) b') := hBy6.out.heap hh.out
              have hs6 : w6.heap.size ≤ wr.heap.size := by rw [hh.out]; exact Nat.le_refl _
              obtain ⟨sb, hsb⟩ : ∃ s, s = strOfNums b' := ⟨_, rfl⟩
              have hsbH := Lib.hid hsb
              clear hlt hsb hrW
              have hcall : Calls Tryd.prog 34 #[.pointer (some ⟨D, 0, none⟩)] wr.drew (fun e w' => ∃ u, e = .returned u ∧ (BytesAt w' w'.heap.size u b' ∧ Below wr.heap.size wr w')) :=
                (dsave_bytes wr.drew w6.heap.size D T0 T1 T2 T3 (hdW.heap rfl) hs6).mono fun e w' h => by
                  obtain ⟨v, he, hv, hbw⟩ := h
                  rw [hsvH.out] at hv
                  exact ⟨v, he, hv, (Below.refl _ _).drew.trans hbw⟩
              have hcallH := Lib.hid hcall
              clear hcall hdW
              rcases hend with hend | ⟨hend, hend2⟩
              all_goals
                first
                  | (subst hend; skip)
                  | (have hk1 : (k : Int) < rs.length := by omega
                     have hk2 : (100 : Int) ≤ k := by omega
                     clear hend hend2)
                go_wp2
                refine wp_region_G [[(true,0),(true,1),(true,2),(true,3),(true,6),(true,7),(false,4),(true,5),(true,8),(true,9),(true,10)]] (by kernel_rfl) (by kernel_rfl) (by kernel_rfl) (by decide) (fun c a d v w h => by cases d <;> exact h) ?_
                refine wpGs_seg (fun w' => Below wr.heap.size wr w') ((Below.refl _ _).drew) ?_
                iterate 5 refine wpG_q rfl rfl (fun w' hS => by go_simp; rfl) (by go_simp; rfl) ?_
                refine wpG_q rfl rfl (fun w' hS => exec_conv_bytes (bs := b') (hBw.out.below hS hs6) _ _ 5 _ rfl (by go_simp <;> rfl) bytesU u8U (by kernel_rfl)) (by go_simp; rfl) ?_
                rw [← hsbH.out]
                refine wpG_call (f := 34) (args := #[.pointer (some ⟨D, 0, none⟩)]) (v := fun w' u => BytesAt w' w'.heap.size u b' ∧ Below wr.heap.size wr w') rfl rfl (by go_simp <;> rfl) hcallH.out ?_
                intro W9 v9 hv99
                obtain ⟨hv9, hb9⟩ := hv99
                refine ⟨fun w' => Below wr.heap.size wr w' ∧ BytesAt w' W9.heap.size v9 b', fun w h => h.1, ⟨hb9, hv9⟩, ?_⟩
                refine wpG_q rfl rfl (fun w' hS => exec_conv_bytes (bs := b') hS.2 _ _ 5 _ rfl (by go_simp <;> rfl) bytesU u8U (by kernel_rfl)) (by go_simp; rfl) ?_
                rw [← hsbH.out]
                iterate 3 refine wpG_q rfl rfl (fun w' hS => by go_simp; rfl) (by go_simp; rfl) ?_
                refine wpG_nil (wpGs_nil ?_)
                go_wp2
                go_ret
                exact ⟨by simp, hbr.trans (hb9.mono hbr.size)⟩
        · have hW5 := hb.trans (hb5.mono hb.size)
          have hW6 := hW5.trans (hb6.mono hW5.size)
          clear hno hno6 hb5 hb6 hBy hb ht hr
          refine wp_loop_rounds 1 ?_
          rw [rounds_succ]
          by_cases hr0 : rs.length = 0
          · rw [hr0]
            go_wp2
            refine wp_region_G [[(true,0),(true,1),(true,2),(true,3),(true,6),(true,7),(false,4),(true,5),(true,8),(true,9),(true,10)]] (by kernel_rfl) (by kernel_rfl) (by kernel_rfl) (by decide) (fun c a d v w h => by cases d <;> exact h) ?_
            refine wpGs_seg (fun w' => True) trivial ?_
            iterate 6 first
              | refine wpG_q rfl rfl (fun w' hS => by go_simp; rfl) (by go_simp; rfl) ?_
              | refine wpG_skip rfl rfl (by go_simp; rfl) ?_
            refine wpG_eskip rfl rfl (by go_simp; rfl) ?_
            iterate 4 first
              | refine wpG_q rfl rfl (fun w' hS => by go_simp; rfl) (by go_simp; rfl) ?_
              | refine wpG_skip rfl rfl (by go_simp; rfl) ?_
            refine wpG_nil (wpGs_nil ?_)
            go_wp2
            go_ret
            exact ⟨by simp, hW6.drew⟩
          · have hr1 : (0 : Int) < rs.length := by omega
            go_wp2
            refine wp_region_G [[(true,0),(true,1),(true,2),(true,3),(true,6),(true,7),(false,4),(true,5),(true,8),(true,9),(true,10)]] (by kernel_rfl) (by kernel_rfl) (by kernel_rfl) (by decide) (fun c a d v w h => by cases d <;> exact h) ?_
            refine wpGs_seg (fun w' => True) trivial ?_
            iterate 6 first
              | refine wpG_q rfl rfl (fun w' hS => by go_simp; rfl) (by go_simp; rfl) ?_
              | refine wpG_skip rfl rfl (by go_simp; rfl) ?_
            refine wpG_eskip rfl rfl (by go_simp; rfl) ?_
            iterate 4 first
              | refine wpG_q rfl rfl (fun w' hS => by go_simp; rfl) (by go_simp; rfl) ?_
              | refine wpG_skip rfl rfl (by go_simp; rfl) ?_
            refine wpG_nil (wpGs_nil ?_)
            go_wp2
            go_ret
            exact ⟨by simp, hW6.drew⟩

theorem ucdLoads_walk (a0 : Option Addr) (n0 c0 : Nat) (z0 : List Int) {w : World} (h0 : IsRow .i64 w a0 n0 c0 z0) (x : Int) (_hx : -9223372036854775808 ≤ x ∧ x ≤ 9223372036854775807) (a2 : Option Addr) (n2 c2 : Nat) (z2 : List Int) (h2 : IsRow .i64 w a2 n2 c2 z2) (hL : LaidS w) :
    Calls Tryd.prog 10 #[.slice a0 n0 c0, .int .i64 x, .slice a2 n2 c2] w fun e w' => e = .returned (.bool true) ∧ Below w.heap.size w w' := by
  by_cases h : 20 < n0 ∨ x < 0
  · exact uloads_early a0 n0 c0 x _ h hL
  · have k0 := intsAt_of h0
    exact uloads_good _ _ (by have := k0.len.1; omega) x (by omega) _ _ hL k0 (intsAt_of h2)
end Go.Proofs.YtpaijpdmeiagfaaDoor
