import Derived.Test.YtpaijpdmeiagfaaI
import Derived.Test.YtpaijpdmeiagfaaH
import Derived.Deep.AppendLies
namespace Go.Proofs.Ytpaijpdmeiagfaa
open Go Go.RowKit Go.WideMaps Go.Proofs.Kk Go.Proofs.Tm Go.Proofs.Gg

/-- the cells of a list of entries -/
def propCells (l : List P3) : List Value := l.flatMap fun x => [.int .i64 x.lo, .int .i64 x.hi, .int .u8 x.v]
theorem propCells_snoc (l : List P3) (x : P3) : propCells (l ++ [x]) = propCells l ++ [.int .i64 x.lo, .int .i64 x.hi, .int .u8 x.v] := by simp [propCells]
theorem propCells_get (l : List P3) (j : Nat) (x : P3) (h : l[j]? = some x) : (propCells l)[j * 3]? = some (.int .i64 x.lo) ∧ (propCells l)[j * 3 + 1]? = some (.int .i64 x.hi) ∧ (propCells l)[j * 3 + 2]? = some (.int .u8 x.v) := by
  induction l generalizing j with
  | nil => simp at h
  | cons y l ih =>
    cases j with
    | zero =>
      simp at h; subst h
      simp [propCells]
    | succ j =>
      have := ih j (by simpa using h)
      have e : propCells (y :: l) = .int .i64 y.lo :: .int .i64 y.hi :: .int .u8 y.v :: propCells l := rfl
      rw [e]
      rw [show (j + 1) * 3 = j * 3 + 1 + 1 + 1 by omega]
      simpa using this

def Fits (l : List P3) : Prop := ∀ x ∈ l, -9223372036854775808 ≤ x.lo ∧ x.lo ≤ 9223372036854775807 ∧ -9223372036854775808 ≤ x.hi ∧ x.hi ≤ 9223372036854775807 ∧ 0 ≤ x.v ∧ x.v ≤ 255

/-- an owned row of entries is a list of entries -/
theorem PropsAt.of_own {w : World} {base : Nat} {v : Value} {l : List P3} (h : w.ownsRow base 36 3 v l.length (propCells l)) (hl : l.length ≤ 1000000000000) (hf : Fits l) : PropsAt w w.heap.size v l := by
  rcases h.2 with ⟨h1, h2⟩ | ⟨g, cap, cur, h1, _, h3, h4, h5, h6, h7⟩
  · have : l = [] := List.eq_nil_of_length_eq_zero h2
    subst this
    exact ⟨none, 0, h1, by simp, by simp, fun h => absurd rfl h⟩
  · refine ⟨some ⟨g, 0, none⟩, cap, h1, hl, hf, fun _ => ⟨g, 0, rfl, (Array.getElem?_eq_some_iff.1 h3).1, ?_⟩⟩
    intro j x hx
    have hj : j < l.length := (List.getElem?_eq_some_iff.1 hx).1
    obtain ⟨c0, c1, c2⟩ := propCells_get l j x hx
    have at_ : ∀ i u, i < l.length * 3 → (propCells l)[i]? = some u → w.cell? ⟨g, 0 + i, none⟩ = some u := by
      intro i u hi hu
      rw [cell_of_row _ _ _ _ _ _ h3, Nat.zero_add]
      rw [← h7, List.getElem?_take, if_pos hi] at hu
      rw [← Array.getElem?_toList]; exact hu
    refine ⟨at_ _ _ (by omega) c0, ?_, ?_⟩
    · have := at_ _ _ (by omega) c1; rwa [← Nat.add_assoc] at this
    · have := at_ _ _ (by omega) c2; rwa [← Nat.add_assoc] at this

def lowB (x : P3) : Bool := decide (0 ≤ x.lo) && decide (x.lo ≤ x.hi) && decide (x.hi < 1024)
def lowL (l : List P3) : List P3 := l.filter lowB

theorem ownsRow_drewN {w : World} {base : Nat} {e : TypeId} {size : Nat} {v : Value} {n : Nat} {xs : List Value} (h : w.ownsRow base e size v n xs) (k : Nat) : (w.drewN k).ownsRow base e size v n xs := h

theorem lowL_mem {l : List P3} {x : P3} (h : x ∈ lowL l) : x ∈ l ∧ 0 ≤ x.lo ∧ x.lo ≤ x.hi ∧ x.hi < 1024 := by
  have := List.mem_filter.1 h
  simp [lowB] at this
  exact ⟨this.1, this.2.1.1, this.2.1.2, this.2.2⟩
theorem low_zero (l : List P3) (r : Int) (h : r < 0 ∨ 1024 ≤ r) : pval (lowL l) r = 0 := by
  apply pval_zero
  rintro x hx ⟨h1, h2⟩
  have := lowL_mem hx
  omega
theorem low_blocks (l : List P3) : (tdOf (pval (lowL l))).F.length ≤ 5 := by
  have ho := tdOf_of (pval (lowL l))
  have h1 := len_le (B := [blk (pval (lowL l)) 0, blk (pval (lowL l)) 1, blk (pval (lowL l)) 2, blk (pval (lowL l)) 3, conB 0]) ho.nodup (by
    intro b hb
    obtain ⟨k, hk, rfl⟩ := mem_blks.1 ((ho.mem b).1 hb)
    by_cases h0 : 4 ≤ k
    · have e : blk (pval (lowL l)) k = conB 0 := blk_con fun r h1 h2 => low_zero l r (by omega)
      simp [e]
    · match k, h0 with
      | 0, _ => simp
      | 1, _ => simp
      | 2, _ => simp
      | 3, _ => simp
      | k + 4, h0 => omega)
  simpa using h1
theorem low_val (l : List P3) (r : Int) (h : r < 0 ∨ 1024 ≤ r) : (tdOf (pval (lowL l))).val r = 0 := by
  by_cases h1 : r < 0 ∨ 1114111 < r
  · exact TD.val_out _ r h1
  · rw [tdOf_val _ _ (by omega) (by omega)]; exact low_zero l r h
theorem low_odd (l : List P3) : (lowL l).any oddB = false := by
  rw [List.any_eq_false]
  intro x hx
  have := lowL_mem hx
  simp [oddB]; omega
theorem low_len (l : List P3) : (lowL l).length ≤ l.length := List.length_filter_le _ _

set_option maxRecDepth 100000 in
set_option maxHeartbeats 1000000 in
theorem low_long (ao : Option Addr) (n c : Nat) (r : Int) (w : World) (hn : 30 < n) :
    Calls Try.prog 5 #[.slice ao n c, .int .i64 r] w fun e w' => e = .returned (.bool true) ∧ Below w.heap.size w w' := by
  have h1 : (30 : Int) < n := by omega
  go_enter Try.func5, Try.ntmps5
  go_wp2_with (go_at_call 11; refine (awake_any _).mono ?_; rintro e w' ⟨rfl, hb⟩)
  go_ret
  exact ⟨rfl, hb⟩

set_option maxRecDepth 100000 in
set_option maxHeartbeats 4000000 in
theorem low_short (v : Value) (l : List P3) (r : Int) (w : World) (h : PropsAt w w.heap.size v l) (hn : l.length ≤ 30) :
    Calls Try.prog 5 #[v, .int .i64 r] w fun e w' => e = .returned (.bool true) ∧ Below w.heap.size w w' := by
  have h0 := h
  obtain ⟨ao, c, rfl, hsz, hr, _⟩ := h0
  have h1 : (l.length : Int) ≤ 30 := by omega
  go_enter Try.func5, Try.ntmps5
  go_wp2_with (go_at_call 11; refine (awake_any _).mono ?_; rintro e w0 ⟨rfl, hb0⟩)
  have hb0s := hb0.size
  go_loopw [6, 7] (fun v i wr => ∃ (k : Nat), k ≤ l.length ∧ i = .int .i64 k ∧ wr.ownsRow w.heap.size 36 3 v (lowL (l.take k)).length (propCells (lowL (l.take k))) ∧ Below w.heap.size w wr) (fun _ i _ => l.length - (intOf i).toNat)
  case atStart => exact ⟨0, by omega, rfl, World.ownsRow_nil _ _ _ _, hb0⟩
  case round =>
    obtain ⟨k, hk, rfl, hrow, hb⟩ := hrel
    by_cases hlt : k < l.length
    · have hP := h.below hb (Nat.le_refl _)
      obtain ⟨ao', c', hv, _, _, hP⟩ := hP
      obtain ⟨b, off, ha, hbn, hc⟩ := hP (by intro e; rw [e] at hlt; simp at hlt)
      cases hv
      subst ha
      have hx : l[k]? = some l[k] := by simp [hlt]
      obtain ⟨h1, h2, h3⟩ := hc k l[k] hx
      have htk : l.take (k + 1) = l.take k ++ [l[k]] := List.take_succ_eq_append_getElem hlt
      have hk1 : (k : Int) < l.length := by omega
      have hk0 : (0 : Int) ≤ k := by omega
      clear hc hP hr
      generalize l[k] = x at hx h1 h2 h3 htk
      have hkeep : lowB x = false → lowL (l.take (k + 1)) = lowL (l.take k) := by intro h; rw [htk]; simp [lowL, h]
      have hkeep' := Lib.hid hkeep
      have htk' := Lib.hid htk
      clear hkeep htk
      by_cases c1 : 0 ≤ x.lo
      · by_cases c2 : x.lo ≤ x.hi
        · by_cases c3 : x.hi < 1024
          · have hlb : Hid (lowB x = true) := by simp [Hid, lowB, c1, c2, c3]
            go_wp2
            go_quiet (fail)
            have hadd : lowL (l.take (k + 1)) = lowL (l.take k) ++ [x] := by rw [htk'.out]; simp [lowL, hlb.out]
            have hadd' := Lib.hid hadd
            have hlw := low_len (l.take k)
            have hlw2 : (l.take k).length ≤ k := List.length_take_le _ _
            have hsz' := hb.size
            clear hadd hkeep'
            generalize lowL (l.take k) = low at hrow hadd' hlw
            obtain ⟨i0, hi0, hz0, hz1, hz2⟩ := info_parts infoProp
            go_wp2_with (at_builtin; refine wpList_append_lies _ rfl (.tmp 52) (.tmp 57) 22 rfl w.heap.size 36 i0 (.agg #[.int .i64 0, .int .i64 0, .int .u8 0]) 3 24 propsU hi0 hz0 hz1 hz2 rfl (by decide) _ _ _ rfl ((ownsRow_drewN hrow _).alloc _) ⟨wr.heap.size, 0, none⟩ 1 1 [.int .i64 x.lo, .int .i64 x.hi, .int .u8 x.v] rfl rfl (World.news_of_block (cs := #[.int .i64 x.lo, .int .i64 x.hi, .int .u8 x.v]) (t := 36) (fr := (0, 0)) (heap_alloc_new _ _)) (by simp [Value.oneCell']) (by decide) (by unfold maxLen; omega) (by omega) (by simp; omega) _ rfl ?_; intro g cap w2 hrow2 hg2 _ _)
            have hown1 : ∀ k, u6.ownBlock = some k → w.heap.size ≤ k := fun k e => (hrow.lt k e).1
            go_roundw
            case rel =>
              refine ⟨k + 1, by omega, by go_num, ?_, Below.grown ((below_drewN hb _).alloc (by simp; omega) _) hg2 (by simp; omega) hown1⟩
              rw [hadd'.out, List.length_append, propCells_snoc]; exact hrow2
            case measure => simp [intOf]; omega
          · have d3 : decide (x.hi < 1024) = false := by simpa using c3
            have hlb : Hid (lowB x = false) := by simp [Hid, lowB, d3]
            have c3' : 1024 ≤ x.hi := by omega
            clear c3
            go_wp2
            go_quiet (fail)
            go_wp2
            go_roundw
            case rel => exact ⟨k + 1, by omega, by go_num, by rw [hkeep'.out hlb.out]; exact hrow, below_drewN hb _⟩
            case measure => simp [intOf]; omega
        · have d2 : decide (x.lo ≤ x.hi) = false := by simpa using c2
          have hlb : Hid (lowB x = false) := by simp [Hid, lowB, d2]
          have c2' : x.hi < x.lo := by omega
          clear c2
          go_wp2
          go_quiet (fail)
          go_wp2
          go_roundw
          case rel => exact ⟨k + 1, by omega, by go_num, by rw [hkeep'.out hlb.out]; exact hrow, below_drewN hb _⟩
          case measure => simp [intOf]; omega
      · have d1 : decide (0 ≤ x.lo) = false := by simpa using c1
        have hlb : Hid (lowB x = false) := by simp [Hid, lowB, d1]
        have c1' : x.lo < 0 := by omega
        clear c1
        go_wp2
        go_quiet (fail)
        go_wp2
        go_roundw
        case rel => exact ⟨k + 1, by omega, by go_num, by rw [hkeep'.out hlb.out]; exact hrow, below_drewN hb _⟩
        case measure => simp [intOf]; omega
    · obtain rfl : k = l.length := by omega
      rw [List.take_of_length_le (Nat.le_refl _)] at hrow
      have hfit : Fits (lowL l) := fun x hx => hr x (lowL_mem hx).1
      have hll := low_len l
      have hP2 := PropsAt.of_own hrow (by omega) hfit
      obtain ⟨T, hT⟩ : ∃ T, T = tdOf (pval (lowL l)) := ⟨_, rfl⟩
      have hF : T.F.length ≤ 5 := by rw [hT]; exact low_blocks l
      have hF' : Hid (T.F.length ≤ 256) := Nat.le_trans hF (by decide)
      have hv0 : Hid (r < 0 ∨ 1024 ≤ r → T.val r = 0) := by rw [hT]; exact low_val l r
      have hTH : Hid (T = tdOf (pval (lowL l))) := hT
      have ho := low_odd l
      have ho' := Lib.hid ho
      have hF5 : (T.F.length : Int) ≤ 5 := by omega
      clear hT ho hr
      by_cases hr0 : 0 ≤ r
      · by_cases hr1 : r < 1024
        · go_wp2_with (first
            | (go_at_call 12; refine (build_good _ _ _ (by exact hP2) (by omega) (by exact ho'.out) T (by exact hTH) (by exact hF')).mono ?_; rintro e w1 ⟨B, rfl, ht, hb1⟩)
            | (go_at_call 14; refine (of_any _ _ B T _ (by exact ht.heap rfl)).mono ?_; rintro e w2 ⟨rfl, n2, rfl⟩)
            | (go_at_call 16; refine (blocks_any _ _ B T (by exact ht.heap rfl)).mono ?_; rintro e w2 ⟨rfl, rfl⟩))
          go_ret
          exact ⟨rfl, hb.trans (hb1.mono hb.size)⟩
        · have hv := hv0.out (by omega)
          have hr1' : 1024 ≤ r := by omega
          clear hr1
          go_wp2_with (first
            | (go_at_call 12; refine (build_good _ _ _ (by exact hP2) (by omega) (by exact ho'.out) T (by exact hTH) (by exact hF')).mono ?_; rintro e w1 ⟨B, rfl, ht, hb1⟩)
            | (go_at_call 14; refine (of_any _ _ B T _ (by exact ht.heap rfl)).mono ?_; rintro e w2 ⟨rfl, n2, rfl⟩)
            | (go_at_call 16; refine (blocks_any _ _ B T (by exact ht.heap rfl)).mono ?_; rintro e w2 ⟨rfl, rfl⟩))
          go_ret
          exact ⟨rfl, below_drewN (hb.trans (hb1.mono hb.size)) _⟩
      · have hv := hv0.out (by omega)
        have hr0' : r < 0 := by omega
        clear hr0
        go_wp2_with (first
          | (go_at_call 12; refine (build_good _ _ _ (by exact hP2) (by omega) (by exact ho'.out) T (by exact hTH) (by exact hF')).mono ?_; rintro e w1 ⟨B, rfl, ht, hb1⟩)
          | (go_at_call 14; refine (of_any _ _ B T _ (by exact ht.heap rfl)).mono ?_; rintro e w2 ⟨rfl, n2, rfl⟩)
          | (go_at_call 16; refine (blocks_any _ _ B T (by exact ht.heap rfl)).mono ?_; rintro e w2 ⟨rfl, rfl⟩))
        go_ret
        exact ⟨rfl, below_drewN (hb.trans (hb1.mono hb.size)) _⟩
theorem trieLow_walk (a : Option Addr) (n c : Nat) {w : World} (h : n ≤ 30 → ∃ l : List P3, l.length = n ∧ PropsAt w w.heap.size (.slice a n c) l) (r : Int) (_hr : -9223372036854775808 ≤ r ∧ r ≤ 9223372036854775807) :
    Calls Try.prog 5 #[.slice a n c, .int .i64 r] w fun e w' => e = .returned (.bool true) ∧ Below w.heap.size w w' := by
  by_cases hn : n ≤ 30
  · obtain ⟨l, hl, hP⟩ := h hn
    exact low_short _ l r w hP (by omega)
  · exact low_long a n c r w (by omega)
end Go.Proofs.Ytpaijpdmeiagfaa
