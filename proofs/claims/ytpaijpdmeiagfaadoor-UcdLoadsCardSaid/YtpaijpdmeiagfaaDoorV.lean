/- The document's trie: value, touched, place, add. -/
import Derived.Test.YtpaijpdmeiagfaaDoorJ
import Derived.Test.YtpaijpdmeiagfaaDoorL
import Derived.Test.YtpaijpdmeiagfaaDoorU
namespace Go.Proofs.YtpaijpdmeiagfaaDoor
open Go Go.RowKit Go.WideMaps Go.Proofs.Kk Go.Proofs.Tm Go.Proofs.Gg

set_option maxRecDepth 100000 in
set_option maxHeartbeats 1000000 in
theorem value_any (v : Value) (l : List P3) (r : Int) (w : World) (n₀ : Nat) (h : PropsAt w n₀ v l) :
    Calls Tryd.prog 93 #[v, .int .i64 r] w fun e w' => e = .returned (.int .u8 (pval l r)) ∧ w' = w := by
  have h0 := h
  obtain ⟨ao, c, rfl, hsz, hr, _⟩ := h0
  go_enter Tryd.func93, Tryd.ntmps93
  go_wp2
  go_loopw [5, 6] (fun v i wr => ∃ (k : Nat), k ≤ l.length ∧ i = .int .i64 k ∧ v = .int .u8 (pval (l.take k) r) ∧ wr = w) (fun _ i _ => l.length - (intOf i).toNat)
  case atStart => exact ⟨0, by omega, rfl, rfl, rfl⟩
  case round =>
    obtain ⟨k, hk, rfl, rfl, rfl⟩ := hrel
    by_cases hlt : k < l.length
    · have hP := h
      obtain ⟨ao', c', hv, _, _, hP⟩ := hP
      obtain ⟨b, off, ha, hbn, hc⟩ := hP (by intro e; rw [e] at hlt; simp at hlt)
      cases hv
      subst ha
      have hx : l[k]? = some l[k] := by simp [hlt]
      obtain ⟨h1, h2, h3⟩ := hc k l[k] hx
      have htk : pval (l.take (k + 1)) r = if l[k].lo ≤ r ∧ r ≤ l[k].hi then l[k].v else pval (l.take k) r := by rw [List.take_succ_eq_append_getElem hlt, pval_snoc]
      have hk1 : (k : Int) < l.length := by omega
      have hk0 : (0 : Int) ≤ k := by omega
      clear hc hP hr h
      generalize l[k] = x at hx h1 h2 h3 htk
      generalize pval (l.take k) r = y at htk ⊢
      have htk' := Lib.hid htk
      clear htk
      by_cases c1 : x.lo ≤ r
      · by_cases c2 : r ≤ x.hi
        · go_wp2
          go_roundw
          case rel => exact ⟨k + 1, by omega, by go_num, by rw [htk'.out, if_pos ⟨c1, c2⟩], trivial⟩
          case measure => simp [intOf]; omega
        · have c2' : x.hi < r := by omega
          have hno : Hid (¬ (x.lo ≤ r ∧ r ≤ x.hi)) := fun h => c2 h.2
          clear c2
          go_wp2
          go_roundw
          case rel => exact ⟨k + 1, by omega, by go_num, by rw [htk'.out, if_neg hno.out], trivial⟩
          case measure => simp [intOf]; omega
      · have c1' : r < x.lo := by omega
        have hno : Hid (¬ (x.lo ≤ r ∧ r ≤ x.hi)) := fun h => c1 h.1
        clear c1
        go_wp2
        go_roundw
        case rel => exact ⟨k + 1, by omega, by go_num, by rw [htk'.out, if_neg hno.out], trivial⟩
        case measure => simp [intOf]; omega
    · obtain rfl : k = l.length := by omega
      rw [List.take_of_length_le (Nat.le_refl _)]
      obtain ⟨y, hy⟩ : ∃ y, y = pval l r := ⟨_, rfl⟩
      rw [← hy]
      have hy' : Hid (y = pval l r) := hy
      clear hr h hy
      go_wp2
      go_ret
      exact ⟨congrArg (fun z => Ending.returned (Value.int .u8 z)) hy'.out, rfl⟩

set_option maxRecDepth 100000 in
set_option maxHeartbeats 2000000 in
theorem touched_any (v : Value) (l : List P3) (m : Nat) (w : World) (h : PropsAt w w.heap.size v l) (hm : m < 4352) (hl : l.length ≤ 4096) :
    Calls Tryd.prog 92 #[v, .int .i64 m] w fun e w' => ∃ u, e = .returned u ∧ PropsAt w' w'.heap.size u (l.filter (touchB m)) ∧ Below w.heap.size w w' := by
  have h0 := h
  obtain ⟨ao, c, rfl, hsz, hr, _⟩ := h0
  have hm0 : (0 : Int) ≤ m := by omega
  have hm1 : (m : Int) < 4352 := by omega
  go_enter Tryd.func92, Tryd.ntmps92
  go_wp2
  go_loopw [5, 6] (fun v i wr => ∃ (k : Nat), k ≤ l.length ∧ i = .int .i64 k ∧ wr.ownsRow w.heap.size 68 3 v ((l.take k).filter (touchB m)).length (propCells ((l.take k).filter (touchB m))) ∧ Below w.heap.size w wr) (fun _ i _ => l.length - (intOf i).toNat)
  case atStart => exact ⟨0, by omega, rfl, World.ownsRow_nil _ _ _ _, Below.refl _ _⟩
  case round =>
    obtain ⟨k, hk, rfl, hrow, hb⟩ := hrel
    by_cases hlt : k < l.length
    · have hP := h.below hb (Nat.le_refl _)
      obtain ⟨ao', c', hv, _, _, hP⟩ := hP
      obtain ⟨b, off, ha, hbn, hc⟩ := hP (by intro e; rw [e] at hlt; simp at hlt)
      cases hv
      subst ha
      have hx : l[k]? = some l[k] := by simp [hlt]
      obtain ⟨h1, h2, h3⟩ := hc k l[k] hx
      have htk : l.take (k + 1) = l.take k ++ [l[k]] := List.take_succ_eq_append_getElem hlt
      have hk1 : (k : Int) < l.length := by omega
      have hk0 : (0 : Int) ≤ k := by omega
      clear hc hP hr
      generalize l[k] = x at hx h1 h2 h3 htk
      have hkeep : touchB m x = false → (l.take (k + 1)).filter (touchB m) = (l.take k).filter (touchB m) := by intro h; rw [htk]; simp [h]
      have hkeep' := Lib.hid hkeep
      have htk' := Lib.hid htk
      clear hkeep htk
      by_cases c1 : (m : Int) * 256 ≤ x.hi
      · by_cases c2 : x.lo < ((m : Int) + 1) * 256
        · have hlb : Hid (touchB m x = true) := by simp [Hid, touchB, c1, c2]
          have hadd : (l.take (k + 1)).filter (touchB m) = (l.take k).filter (touchB m) ++ [x] := by rw [htk'.out]; simp [hlb.out]
          have hadd' := Lib.hid hadd
          have hlw : ((l.take k).filter (touchB m)).length ≤ (l.take k).length := List.length_filter_le _ _
          have hlw2 : (l.take k).length ≤ k := List.length_take_le _ _
          have hsz' := hb.size
          clear hadd hkeep'
          generalize (l.take k).filter (touchB m) = low at hrow hadd' hlw
          obtain ⟨i0, hi0, hz0, hz1, hz2⟩ := info_parts infoProp
          go_wp2_with (at_builtin; refine wpList_append_lies _ rfl (.tmp 32) (.tmp 37) 65 rfl w.heap.size 68 i0 (.agg #[.int .i64 0, .int .i64 0, .int .u8 0]) 3 24 propsU hi0 hz0 hz1 hz2 rfl (by decide) _ _ _ rfl (hrow.alloc _) ⟨wr.heap.size, 0, none⟩ 1 1 [.int .i64 x.lo, .int .i64 x.hi, .int .u8 x.v] rfl rfl (World.news_of_block (cs := #[.int .i64 x.lo, .int .i64 x.hi, .int .u8 x.v]) (t := 68) (fr := (0, 0)) (heap_alloc_new _ _)) (by simp [Value.oneCell']) (by decide) (by unfold maxLen; omega) (by omega) (by simp; omega) _ rfl ?_; intro g cap w2 hrow2 hg2 _ _)
          have hown1 : ∀ k, u5.ownBlock = some k → w.heap.size ≤ k := fun k e => (hrow.lt k e).1
          go_roundw
          case rel =>
            refine ⟨k + 1, by omega, by go_num, ?_, Below.grown (hb.alloc (by omega) _) hg2 (by simp; omega) hown1⟩
            rw [hadd'.out, List.length_append, propCells_snoc]; exact hrow2
          case measure => simp [intOf]; omega
        · have d2 : decide (x.lo < ((m : Int) + 1) * 256) = false := by simpa using c2
          have hlb : Hid (touchB m x = false) := by simp [Hid, touchB, d2]
          have c2' : ((m : Int) + 1) * 256 ≤ x.lo := by omega
          clear c2
          go_wp2
          go_roundw
          case rel => exact ⟨k + 1, by omega, by go_num, by rw [hkeep'.out hlb.out]; exact hrow, hb⟩
          case measure => simp [intOf]; omega
      · have d1 : decide ((m : Int) * 256 ≤ x.hi) = false := by simpa using c1
        have hlb : Hid (touchB m x = false) := by simp [Hid, touchB, d1]
        have c1' : x.hi < (m : Int) * 256 := by omega
        clear c1
        go_wp2
        go_roundw
        case rel => exact ⟨k + 1, by omega, by go_num, by rw [hkeep'.out hlb.out]; exact hrow, hb⟩
        case measure => simp [intOf]; omega
    · obtain rfl : k = l.length := by omega
      rw [List.take_of_length_le (Nat.le_refl _)] at hrow
      have hfit : Fits (l.filter (touchB m)) := fun x hx => hr x (List.mem_filter.1 hx).1
      have hll : (l.filter (touchB m)).length ≤ l.length := List.length_filter_le _ _
      have hP2 := PropsAt.of_own hrow (by omega) hfit
      have hP2' := Lib.hid hP2
      clear hP2 hrow hfit hll h hr
      go_wp2
      go_ret
      exact ⟨_, rfl, hP2'.out, hb⟩
end Go.Proofs.YtpaijpdmeiagfaaDoor
