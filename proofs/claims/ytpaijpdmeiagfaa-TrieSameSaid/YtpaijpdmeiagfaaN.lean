import Derived.Test.YtpaijpdmeiagfaaJ
import Derived.Test.YtpaijpdmeiagfaaS
namespace Go.Proofs.Ytpaijpdmeiagfaa
open Go Go.RowKit Go.WideMaps Go.Proofs.Kk Go.Proofs.Tm Go.Proofs.Gg

def meetB (x y : P3) : Bool := decide (x.lo ≤ y.hi) && decide (y.lo ≤ x.hi)

theorem pval_in {l : List P3} (hd : ∀ (i k : Nat) (x y : P3), k < i → l[i]? = some x → l[k]? = some y → meetB y x = false) {r : Int} {x : P3} (hx : x ∈ l) (h1 : x.lo ≤ r) (h2 : r ≤ x.hi) : pval l r = x.v := by
  induction l using snocInd with
  | h0 => simp at hx
  | hs l a ih =>
    have hd' : ∀ (i k : Nat) (x y : P3), k < i → l[i]? = some x → l[k]? = some y → meetB y x = false := by
      intro i k x y hk hi hkk
      have hil := (List.getElem?_eq_some_iff.1 hi).1
      exact hd i k x y hk (by rw [List.getElem?_append_left hil]; exact hi) (by rw [List.getElem?_append_left (by omega)]; exact hkk)
    rw [pval_snoc]
    rw [List.mem_append, List.mem_singleton] at hx
    by_cases ha : a.lo ≤ r ∧ r ≤ a.hi
    · rw [if_pos ha]
      rcases hx with hx | rfl
      · obtain ⟨k, hk⟩ := List.mem_iff_getElem?.1 hx
        have hkl := (List.getElem?_eq_some_iff.1 hk).1
        have := hd l.length k a x hkl (by simp) (by rw [List.getElem?_append_left hkl]; exact hk)
        simp [meetB] at this; omega
      · rfl
    · rw [if_neg ha]
      rcases hx with hx | rfl
      · exact ih hd' hx
      · exact absurd ⟨h1, h2⟩ ha

theorem meetB_comm (x y : P3) : meetB x y = meetB y x := by unfold meetB; rw [Bool.and_comm]

theorem pval_reverse {l : List P3} (hd : ∀ (i k : Nat) (x y : P3), k < i → l[i]? = some x → l[k]? = some y → meetB y x = false) : pval l.reverse = pval l := by
  funext r
  by_cases h : ∃ x ∈ l, x.lo ≤ r ∧ r ≤ x.hi
  · obtain ⟨x, hx, h1, h2⟩ := h
    rw [pval_in hd hx h1 h2]
    refine pval_in ?_ (List.mem_reverse.2 hx) h1 h2
    intro i k x y hk hi hkk
    have hil := (List.getElem?_eq_some_iff.1 hi).1
    have hkl := (List.getElem?_eq_some_iff.1 hkk).1
    rw [List.length_reverse] at hil hkl
    rw [List.getElem?_reverse hil] at hi
    rw [List.getElem?_reverse hkl] at hkk
    rw [meetB_comm]
    exact hd _ _ _ _ (by omega) hkk hi
  · have h' : ∀ x ∈ l, ¬ (x.lo ≤ r ∧ r ≤ x.hi) := fun x hx hh => h ⟨x, hx, hh⟩
    rw [pval_zero l r h', pval_zero _ r (fun x hx => h' x (List.mem_reverse.1 hx))]

set_option maxRecDepth 100000 in
set_option maxHeartbeats 1000000 in
theorem same_long (ao : Option Addr) (n c : Nat) (w : World) (hn : 20 < n) :
    Calls Try.prog 6 #[.slice ao n c] w fun e w' => e = .returned (.bool true) ∧ Below w.heap.size w w' := by
  have h1 : (20 : Int) < n := by omega
  go_enter Try.func6, Try.ntmps6
  go_wp2_with (go_at_call 11; refine (awake_any _).mono ?_; rintro e w' ⟨rfl, hb⟩)
  go_ret
  exact ⟨rfl, hb⟩

theorem propCells_one (x : P3) : propCells [x] = [.int .i64 x.lo, .int .i64 x.hi, .int .u8 x.v] := rfl

set_option maxRecDepth 100000 in
set_option maxHeartbeats 4000000 in
theorem same_short (v : Value) (l : List P3) (w : World) (h : PropsAt w w.heap.size v l) (hn : l.length ≤ 20) :
    Calls Try.prog 6 #[v] w fun e w' => e = .returned (.bool true) ∧ Below w.heap.size w w' := by
  have h0 := h
  obtain ⟨ao, c, rfl, hsz, hr, _⟩ := h0
  have h1 : (l.length : Int) ≤ 20 := by omega
  go_enter Try.func6, Try.ntmps6
  go_wp2_with (go_at_call 11; refine (awake_any _).mono ?_; rintro e w0 ⟨rfl, hb0⟩)
  have hb0s := hb0.size
  go_loopw [4, 5] (fun v i wr => ∃ (j : Nat), j ≤ l.length ∧ i = .int .i64 ((l.length : Int) - 1 - j) ∧ wr.ownsRow w.heap.size 36 3 v j (propCells (l.reverse.take j)) ∧ Below w.heap.size w wr ∧
      Hid (∀ (i k : Nat) (x y : P3), l.length ≤ i + j → k < i → l[i]? = some x → l[k]? = some y → meetB y x = false)) (fun _ i _ => (intOf i + 1).toNat)
  case atStart =>
    refine ⟨0, by omega, by go_num, World.ownsRow_nil _ _ _ _, hb0, ?_⟩
    intro i k x y h1 h2 h3
    have := (List.getElem?_eq_some_iff.1 h3).1
    omega
  case round =>
    obtain ⟨j, hj, rfl, hrow, hb, hmeet⟩ := hrel
    by_cases hlt : j < l.length
    · have hrl : ∃ x, l[l.length - 1 - j]? = some x := ⟨_, List.getElem?_eq_getElem (by omega)⟩
      obtain ⟨x, hx⟩ := hrl
      have htk : l.reverse.take (j + 1) = l.reverse.take j ++ [x] := by
        rw [List.take_succ_eq_append_getElem (by simpa using hlt)]
        refine congrArg (fun z => l.reverse.take j ++ [z]) ?_
        rw [List.getElem_reverse]
        exact Option.some.inj ((List.getElem?_eq_getElem (by omega)).symm.trans hx)
      obtain ⟨i, hi⟩ : ∃ i : Nat, l.length = i + 1 + j := ⟨l.length - 1 - j, by omega⟩
      have hx : l[i]? = some x := by rw [← hx]; refine congrArg (fun z => l[z]?) ?_; omega
      have ei : (l.length : Int) - 1 - j = i := by omega
      rw [ei]
      have htk' := Lib.hid htk
      have hxH := Lib.hid hx
      have hiH := Lib.hid hi
      have hP := h.below hb (Nat.le_refl _)
      obtain ⟨ao', c', hv, _, _, hP⟩ := hP
      obtain ⟨b, off, ha, hbn, hc⟩ := hP (by intro e; rw [e] at hlt; simp at hlt)
      cases hv
      subst ha
      obtain ⟨h1, h2, h3⟩ := hc i x hx
      have hi0 : (0 : Int) ≤ i := by omega
      have hi1 : (i : Int) < l.length := by omega
      have hi2 : i < l.length := by omega
      have hj20 : j < 20 := by omega
      have hsz' := hb.size
      clear hc hP hr htk hi hx ei
      obtain ⟨i0, hi0', hz0, hz1, hz2⟩ := info_parts infoProp
      go_wp2_with (at_builtin; refine wpList_append_lies _ rfl (.tmp 27) (.tmp 32) 22 rfl w.heap.size 36 i0 (.agg #[.int .i64 0, .int .i64 0, .int .u8 0]) 3 24 propsU hi0' hz0 hz1 hz2 rfl (by decide) _ _ _ rfl (hrow.alloc _) ⟨wr.heap.size, 0, none⟩ 1 1 [.int .i64 x.lo, .int .i64 x.hi, .int .u8 x.v] rfl rfl (World.news_of_block (cs := #[.int .i64 x.lo, .int .i64 x.hi, .int .u8 x.v]) (t := 36) (fr := (0, 0)) (heap_alloc_new _ _)) (by simp [Value.oneCell']) (by decide) (by unfold maxLen; omega) (by omega) (by simp; omega) _ rfl ?_; intro g cap w2 hrow2 hg2 _ _)
      have hown1 : ∀ k, u4.ownBlock = some k → w.heap.size ≤ k := fun k e => (hrow.lt k e).1
      have hb2 : Below w.heap.size w w2 := Below.grown (hb.alloc (by omega) _) hg2 (by simp; omega) hown1
      rw [← propCells_one x, ← show propCells (l.reverse.take j ++ [x]) = propCells (l.reverse.take j) ++ propCells [x] by simp [propCells], ← htk'.out] at hrow2
      clear hrow hg2 hb
      go_loopw [6] (fun v wr => ∃ (k : Nat), k ≤ i ∧ v = .int .i64 k ∧ wr.ownsRow w.heap.size 36 3 (.slice (some ⟨g, 0, none⟩) (j + 1) cap) (j + 1) (propCells (l.reverse.take (j + 1))) ∧ Below w.heap.size w wr ∧
          Hid (∀ (k' : Nat) (y : P3), k' < k → l[k']? = some y → meetB y x = false)) (fun v _ => i - (intOf v).toNat)
      case atStart => exact ⟨0, by omega, rfl, hrow2, hb2, fun k' y h => by omega⟩
      case round =>
        obtain ⟨k, hk, rfl, hrow, hb, hno⟩ := hrel
        by_cases hki : k < i
        · have hP := h.below hb (Nat.le_refl _)
          obtain ⟨ao', c', hv, _, _, hP⟩ := hP
          obtain ⟨b, off, ha, hbn, hc⟩ := hP (by intro e; rw [e] at hlt; simp at hlt)
          cases hv
          have hk2 : k < l.length := by omega
          obtain ⟨y, hy⟩ : ∃ y, l[k]? = some y := ⟨_, List.getElem?_eq_getElem hk2⟩
          cases ha
          obtain ⟨h1, h2, h3⟩ := hc i x hxH.out
          obtain ⟨q1, q2, q3⟩ := hc k y hy
          have hyH := Lib.hid hy
          have hk0 : (0 : Int) ≤ k := by omega
          have hk1 : (k : Int) < i := by omega
          have hk3 : (k : Int) < l.length := by omega
          clear hc hP hy
          have hnext : meetB y x = false → Hid (∀ (k' : Nat) (y : P3), k' < k + 1 → l[k']? = some y → meetB y x = false) := by
            intro hm k' y' hk' hy'
            by_cases e : k' = k
            · subst e
              have := hyH.out.symm.trans hy'
              cases this; exact hm
            · exact hno.out k' y' (by omega) hy'
          have hnext' := Lib.hid hnext
          clear hnext
          by_cases c1 : y.lo ≤ x.hi
          · by_cases c2 : x.lo ≤ y.hi
            · go_wp2
              go_quiet (fail)
              go_wp2
              go_ret
              exact ⟨rfl, below_drewN hb _⟩
            · have d2 : decide (x.lo ≤ y.hi) = false := by simpa using c2
              have hlb : Hid (meetB y x = false) := by simp [Hid, meetB, d2]
              have c2' : y.hi < x.lo := by omega
              clear c2
              go_wp2
              go_quiet (fail)
              go_wp2
              go_roundw
              case rel => exact ⟨k + 1, by omega, by go_num, hrow, below_drewN hb _, hnext'.out hlb.out⟩
              case measure => simp [intOf]; omega
          · have d1 : decide (y.lo ≤ x.hi) = false := by simpa using c1
            have hlb : Hid (meetB y x = false) := by simp [Hid, meetB, d1]
            have c1' : x.hi < y.lo := by omega
            clear c1
            go_wp2
            go_quiet (fail)
            go_wp2
            go_roundw
            case rel => exact ⟨k + 1, by omega, by go_num, hrow, below_drewN hb _, hnext'.out hlb.out⟩
            case measure => simp [intOf]; omega
        · obtain rfl : k = i := by omega
          go_wp2
          go_roundw
          case rel =>
            have hiH' := hiH.out
            refine ⟨j + 1, by omega, congrArg (Value.int .i64) (by omega), hrow, hb, ?_⟩
            intro i' k' x' y' m1 m2 m3 m4
            by_cases e : i' = k
            · rw [e] at m2 m3
              have e2 := hxH.out.symm.trans m3
              cases e2
              exact hno.out k' y' m2 m4
            · exact hmeet.out i' k' x' y' (by omega) m2 m3 m4
          case measure => simp [intOf]
    · obtain rfl : j = l.length := by omega
      rw [List.take_of_length_le (by simp)] at hrow
      have hrow : wr.ownsRow w.heap.size 36 3 u4 l.reverse.length (propCells l.reverse) := by rw [List.length_reverse]; exact hrow
      have hfit : Fits l.reverse := fun x hx => hr x (List.mem_reverse.1 hx)
      have hP2 := PropsAt.of_own hrow (by simpa using hsz) hfit
      have hP1 := h.below hb (Nat.le_refl _)
      have hpv : pval l.reverse = pval l := pval_reverse fun i k x y h1 h2 h3 => hmeet.out i k x y (by omega) h1 h2 h3
      have hlen : l.reverse.length = l.length := List.length_reverse
      have hsz' := hb.size
      clear hr hmeet hrow
      by_cases ho : l.any oddB = false
      · have ho2 : l.reverse.any oddB = false := by simpa using ho
        obtain ⟨T, hT⟩ : ∃ T, T = tdOf (pval l) := ⟨_, rfl⟩
        have hF : T.F.length ≤ 256 := by rw [hT]; have := tdOf_small l; omega
        have hF' := Lib.hid hF
        have hT1 : Hid (T = tdOf (pval l)) := hT
        have hT2 : Hid (T = tdOf (pval l.reverse)) := by rw [hpv]; exact hT
        have ho' := Lib.hid ho
        have ho2' := Lib.hid ho2
        have hlen' := Lib.hid hlen
        clear hT ho ho2 hpv hF hlen
        go_wp2_with (first
            | (with_reducible go_at_call 12; refine (build_good _ l _ (by exact hP1.mono hsz') (by omega) (by exact ho'.out) T (by exact hT1) (by exact hF')).mono ?_; rintro e w1 ⟨B1, rfl, ht1, hb1⟩)
            | (go_at_call 12; refine (build_good _ l.reverse _ (by exact (hP2.below hb1 (Nat.le_refl _)).mono hb1.size) (by have := hlen'.out; omega) (by exact ho2'.out) T (by exact hT2) (by exact hF')).mono ?_; rintro e w2 ⟨B2, rfl, ht2, hb2⟩))
        have hW : Below w.heap.size w w2 := (hb.trans (hb1.mono hsz')).trans (hb2.mono (by have := hb1.size; omega))
        have ht1 := ht1.below hb2 (Nat.le_refl _)
        have hs12 := hb2.size
        generalize w1.heap.size = n1 at ht1 hs12
        obtain ⟨s, hs⟩ : ∃ s, s = strOfNums (saveL T) := ⟨_, rfl⟩
        clear hP1 hP2 hT1 hT2 hF' ho' ho2' hlen' hb hb1 hb2
        refine wp_region_G [[(true,0),(true,3),(false,1),(true,2),(false,4),(true,5),(true,6),(true,7)]] (by kernel_rfl) (by kernel_rfl) (by kernel_rfl) (by decide) (fun c a d v w h => by cases d <;> exact h) ?_
        refine wpGs_seg (fun w' => Below w2.heap.size w2 w') ((Below.refl _ _).drew) ?_
        iterate 2 refine wpG_q rfl rfl (fun w' hS => by go_simp; rfl) (by go_simp; rfl) ?_
        have hcall : Calls Try.prog 18 #[.pointer (some ⟨B1, 0, none⟩)] w2.drew (fun e w' => ∃ u, e = .returned u ∧ (BytesAt w' w'.heap.size u (saveL T) ∧ Below w2.heap.size w2 w')) :=
          (save_any w2.drew n1 B1 T (ht1.heap rfl) hs12).mono fun e w' h => by
            obtain ⟨v, he, hv, hbw⟩ := h
            exact ⟨v, he, hv, (Below.refl _ _).drew.trans hbw⟩
        refine wpG_call (f := 18) (args := #[.pointer (some ⟨B1, 0, none⟩)]) (v := fun w' u => BytesAt w' w'.heap.size u (saveL T) ∧ Below w2.heap.size w2 w') rfl rfl (by go_simp <;> rfl) hcall ?_
        intro w3 v1 hv13
        obtain ⟨hv1, hb3⟩ := hv13
        refine ⟨fun w' => Below w2.heap.size w2 w' ∧ BytesAt w' w3.heap.size v1 (saveL T), fun w h => h.1, ⟨hb3, hv1⟩, ?_⟩
        refine wpG_q rfl rfl (fun w' hS => exec_conv_bytes (bs := saveL T) hS.2 _ _ 5 _ rfl (by go_simp <;> rfl) bytesU u8U (by kernel_rfl)) (by go_simp; rfl) ?_
        rw [← hs]
        have hcall2 : Calls Try.prog 18 #[.pointer (some ⟨B2, 0, none⟩)] w3 (fun e w' => ∃ u, e = .returned u ∧ (BytesAt w' w'.heap.size u (saveL T) ∧ Below w3.heap.size w3 w')) :=
          (save_any w3 w2.heap.size B2 T (ht2.below hb3 (Nat.le_refl _)) hb3.size).mono fun e w' h => by
            obtain ⟨v, he, hv, hbw⟩ := h
            exact ⟨v, he, hv, hbw⟩
        refine wpG_call (f := 18) (args := #[.pointer (some ⟨B2, 0, none⟩)]) (v := fun w' u => BytesAt w' w'.heap.size u (saveL T) ∧ Below w3.heap.size w3 w') rfl rfl (by go_simp <;> rfl) hcall2 ?_
        intro w4 v2 hv24
        obtain ⟨hv2, hb4⟩ := hv24
        have hb5 := hb3.trans (hb4.mono hb3.size)
        refine ⟨fun w' => (Below w2.heap.size w2 w' ∧ BytesAt w' w3.heap.size v1 (saveL T)) ∧ BytesAt w' w4.heap.size v2 (saveL T), fun w h => h.1, ⟨⟨hb5, hv1.below hb4 (Nat.le_refl _)⟩, hv2⟩, ?_⟩
        refine wpG_q rfl rfl (fun w' hS => exec_conv_bytes (bs := saveL T) hS.2 _ _ 5 _ rfl (by go_simp <;> rfl) bytesU u8U (by kernel_rfl)) (by go_simp; rfl) ?_
        rw [← hs]
        refine wpG_q rfl rfl (fun w' hS => by go_simp; rfl) (by go_simp; rfl) ?_
        refine wpG_q rfl rfl (fun w' hS => by go_simp; rfl) (by go_simp; rfl) ?_
        refine wpG_nil (wpGs_nil ?_)
        go_wp2
        go_ret
        exact ⟨by simp, hW.trans (hb5.mono (by have := hW.size; omega))⟩
      · have ho : l.any oddB = true := by simpa using ho
        have ho2 : l.reverse.any oddB = true := by simpa using ho
        have hb1l : badN l = 1 := by unfold badN; rw [if_neg (by omega), if_pos ho]
        have hb2l : badN l.reverse = 1 := by unfold badN; rw [if_neg (by omega), if_pos ho2]
        have hn1 : ¬ (l.length ≤ 4096 ∧ l.any oddB = false ∧ (tdOf (pval l)).F.length ≤ 256) := by rw [ho]; simp
        have hn2 : ¬ (l.reverse.length ≤ 4096 ∧ l.reverse.any oddB = false ∧ (tdOf (pval l.reverse)).F.length ≤ 256) := by rw [ho2]; simp
        have hn1' := Lib.hid hn1
        have hn2' := Lib.hid hn2
        clear hn1 hn2 ho ho2 hpv
        go_wp2_with (first
            | (with_reducible go_at_call 12; refine (build_bad _ l _ (by exact hP1.mono hsz') hn1'.out).mono ?_; rintro e w1 ⟨rfl, hb1⟩; rw [hb1l])
            | (go_at_call 12; refine (build_bad _ l.reverse _ (by exact (hP2.below hb1 (Nat.le_refl _)).mono hb1.size) hn2'.out).mono ?_; rintro e w2 ⟨rfl, hb2⟩; rw [hb2l]))
        go_ret
        exact ⟨rfl, (hb.trans (hb1.mono hsz')).trans (hb2.mono (by have := hb1.size; omega))⟩

theorem trieSame_walk (a : Option Addr) (n c : Nat) {w : World} (h : n ≤ 30 → ∃ l : List P3, l.length = n ∧ PropsAt w w.heap.size (.slice a n c) l) :
    Calls Try.prog 6 #[.slice a n c] w fun e w' => e = .returned (.bool true) ∧ Below w.heap.size w w' := by
  by_cases hn : n ≤ 20
  · obtain ⟨l, hl, hP⟩ := h (by omega)
    exact same_short _ l w hP (by omega)
  · exact same_long a n c w (by omega)
end Go.Proofs.Ytpaijpdmeiagfaa
