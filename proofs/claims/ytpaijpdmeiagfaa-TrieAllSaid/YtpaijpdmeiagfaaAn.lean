/- The document's All; Same. -/
import Derived.Test.YtpaijpdmeiagfaaVd
import Derived.Laws.StructEq
namespace Go.Proofs.Ytpaijpdmeiagfaa
open Go Go.RowKit Go.WideMaps Go.Proofs.Kk Go.Proofs.Tm Go.Proofs.Gg

theorem runs_len (f : Int → Int) (k : Nat) : (runsTo f k).1.length ≤ k := by
  induction k with
  | zero => simp [runsTo]
  | succ k ih =>
    by_cases h : f (k + 1) = (runsTo f k).2.v
    · rw [runs_same h]; exact Nat.le_succ_of_le ih
    · rw [runs_turn h]; simp; omega
theorem allInv_len {f : Int → Int} {r : Nat} {out : List P3} (h : AllInv f r out) : out.length ≤ r := by
  rcases h with ⟨rfl, rfl⟩ | ⟨n, rfl, _, rfl, _⟩
  · simp
  · have h1 : (keepV ((runsTo f n).1 ++ [(runsTo f n).2])).length ≤ ((runsTo f n).1 ++ [(runsTo f n).2]).length := List.length_filter_le _ _
    have h2 := runs_len f n
    simp at h1; omega

theorem eqProp (w : World) (x : P3) : (Op.equalIn 10000 36 (propV x) (propV x)).run Try.prog w = .ok true w := by
  unfold propV
  rw [run_equalIn_agg w 9999 36 _ _ (by simp [Program.fieldsOf, Try.underlying36]) (by kernel_rfl)]
  go_simp

theorem exec_neq_prop {o : Oper} {ρ : Operand → Value} {w : World} (x y : Operand) (r : TypeId) (ho : o.op = .binOp .neq 36 x y r) (p : P3) (hx : ρ x = propV p) (hy : ρ y = propV p) :
    (execOp ρ o).run Try.prog w = .ok (.value (.bool false)) w := by
  have he := eqProp w p
  unfold propV at he hx hy
  have hg : (eqGuard .neq 36 x y (.agg #[.int .i64 p.lo, .int .i64 p.hi, .int .u8 p.v]) (.agg #[.int .i64 p.lo, .int .i64 p.hi, .int .u8 p.v])).run Try.prog w = .ok () w := run_eqGuard_agg w _ _ _ _ _ _ (by kernel_rfl)
  unfold execOp
  simp only [ho, hx, hy, Sem.run_bind, hg, run_neq_struct, he, Result.andThen_ok, Sem.run_pure, Bool.not_true]

theorem RefAt.val_rng {w : World} {n₀ B : Nat} {t : TD} (h : RefAt w n₀ B t) (r : Int) : 0 ≤ t.val r ∧ t.val r ≤ 255 := by
  unfold TD.val
  split
  · omega
  · obtain ⟨_, _, _, _, hbk, _⟩ := h
    generalize t.L.getD (r / 256).toNat 0 = i
    rcases Nat.lt_or_ge i t.F.length with hi | hi
    · have hm : t.F.getD i [] ∈ t.F := by simp [List.getD, hi]
      have hb := hbk _ hm
      generalize t.F.getD i [] = c at hb
      rcases Nat.lt_or_ge (r % 256).toNat c.length with hj | hj
      · exact hb.rng _ (by simp [List.getD, hj])
      · simp [List.getD, hj]
    · simp [List.getD, hi]

set_option maxRecDepth 100000 in
set_option maxHeartbeats 4000000 in
theorem rall_any (w : World) (n₀ B : Nat) (T : TD) (ht : RefAt w n₀ B T) (hn : n₀ ≤ w.heap.size) :
    Calls Try.prog 24 #[.pointer (some ⟨B, 0, none⟩)] w fun e w' => ∃ v, e = .returned v ∧ w'.ownsRow w.heap.size 36 3 v (allOf T.val).length (propCells (allOf T.val)) ∧ Below w.heap.size w w' := by
  obtain ⟨f, hf⟩ : ∃ f, f = T.val := ⟨_, rfl⟩
  have hfr : Hid (∀ r, 0 ≤ f r ∧ f r ≤ 255) := fun r => by rw [hf]; exact ht.val_rng r
  have hOf : Hid (∀ W r, Below w.heap.size w W → Calls Try.prog 15 #[.pointer (some ⟨B, 0, none⟩), .int .i64 r] W fun e w' => e = .returned (.int .u8 (f r)) ∧ ∃ n', w' = W.drewN n') := fun W r hW => by
    rw [hf]; exact rof_any W n₀ B T r (ht.below hW hn)
  obtain ⟨lF, hlF⟩ : ∃ l, l = allOf T.val := ⟨_, rfl⟩
  have hlH : Hid (lF = allOf f) := by rw [hlF, hf]; rfl
  rw [← hlF]
  clear hlF hf ht
  obtain ⟨i0, hi0, hz0, hz1, hz2⟩ := info_parts infoProp
  go_enter Try.func24, Try.ntmps24
  go_wp2
  go_loopw [3, 4] (fun v i wr => ∃ (r : Nat) (out : List P3), i = .int .i64 r ∧ Hid (AllInv f r out) ∧ Hid (r ≤ 1114112) ∧ wr.ownsRow w.heap.size 36 3 v out.length (propCells out) ∧ Below w.heap.size w wr) (fun _ i _ => 1114112 - (intOf i).toNat)
  case atStart => exact ⟨0, [], rfl, AllInv.start f, by show (0 : Nat) ≤ 1114112; omega, World.ownsRow_nil _ _ _ _, Below.refl _ _⟩
  case round =>
    obtain ⟨r, out, rfl, hinv, hr, hrow, hb⟩ := hrel
    obtain ⟨ri, hri⟩ : ∃ ri : Int, ri = (r : Int) := ⟨_, rfl⟩
    rw [← hri]
    have hriH := Lib.hid hri
    have hlenH : Hid (out.length ≤ 1114112) := Nat.le_trans (allInv_len hinv.out) hr.out
    by_cases hlt : ri ≤ 1114111
    · have hr0 : 0 ≤ ri := by omega
      obtain ⟨y, hy⟩ : ∃ y, y = f ri := ⟨_, rfl⟩
      have hyH := Lib.hid hy
      have hyr := hfr.out ri
      rw [← hy] at hyr
      have hc := hOf.out
      clear hri hy
      go_wp2_with (go_at_call 15; refine (hc _ _ hb).mono ?_; clear hc; rw [← hyH.out]; rintro e w1 ⟨rfl, k1, rfl⟩)
      have hb1 := below_drewN hb k1
      have hrow1 := ownsRow_drewN hrow k1
      generalize wr.drewN k1 = W1 at hb1 hrow1 ⊢
      clear hb hrow
      go_loopw [6] (fun v wr => ∃ (h : Nat), v = .int .i64 h ∧ Hid (HighInv f r h out) ∧ Hid (h ≤ 1114111) ∧ wr.heap = W1.heap ∧ Below w.heap.size w wr) (fun v _ => 1114112 - (intOf v).toNat)
      case atStart => exact ⟨r, by rw [hriH.out], hinv.out.high (by have := hriH.out; omega), (by have := hriH.out; show r ≤ 1114111; omega), rfl, hb1⟩
      case round =>
        obtain ⟨h, rfl, hhi, hh, hheap, hb2⟩ := hrel
        obtain ⟨hI, hhI⟩ : ∃ hI : Int, hI = (h : Int) := ⟨_, rfl⟩
        rw [← hhI]
        have hhIH := Lib.hid hhI
        have hh0 : 0 ≤ hI := by omega
        have hI2 : hI ≤ 1114111 := by have := hh.out; omega
        have hrh := hhi.out.first
        have hheapH := Lib.hid hheap
        have fin : Hid (∀ (hne : h < 1114111 → f (h + 1) ≠ f r), AllInv f (h + 1) (if f r ≠ 0 then out ++ [⟨r, h, f r⟩] else out)) := fun hne => hhi.out.done hh.out hne
        have hrr : Hid (r ≤ h) := hrh
        clear hheap hrh hhI
        have hexit : Hid (f (hI + 1) ≠ y ∨ 1114111 ≤ hI → AllInv f (h + 1) (if y ≠ 0 then out ++ [⟨ri, hI, y⟩] else out)) := fun hx => by
          have := fin.out (fun hl => by
            rw [← hhIH.out, ← hriH.out, ← hyH.out]
            rcases hx with hx | hx
            · exact hx
            · have := hhIH.out; omega)
          rw [← hhIH.out, ← hriH.out, ← hyH.out] at this
          exact this
        have hmore : Hid (f (hI + 1) = y → HighInv f r (h + 1) out) := fun hx => hhi.out.step (by rw [← hhIH.out, ← hriH.out, ← hyH.out]; exact hx)
        have hrow2 := ownsRow_heap hrow1 hheapH.out
        have hbsz := hb2.size
        have hlen2 := hlenH.out
        obtain ⟨y2, hy2⟩ : ∃ y2, y2 = f (hI + 1) := ⟨_, rfl⟩
        have hy2H := Lib.hid hy2
        rw [← hy2] at hexit hmore
        clear hy2 hrow1 fin
        have hlen3 : out.length ≤ 1114112 := hlenH.out
        obtain ⟨no, hno⟩ : ∃ no, no = out.length := ⟨_, rfl⟩
        have hc := hOf.out
        by_cases hge : hI < 1114111
        · by_cases he : y2 = y
          · have hm := Lib.hid (hmore.out he)
            subst he
            clear hc hno hlen3 hlen2
            have hc := hOf.out
            go_wp2_with (go_at_call 15; refine (hc _ _ hb2).mono ?_; clear hc; rw [← hy2H.out]; rintro e w2 ⟨rfl, k2, rfl⟩)
            go_roundw
            case rel => exact ⟨h + 1, congrArg (Value.int .i64) (by have := hhIH.out; omega), hm, (by have := hhIH.out; show h + 1 ≤ 1114111; omega), hheapH.out, below_drewN hb2 k2⟩
            case measure => simp [intOf]; omega
          · have hed : (y2 == y) = false := by simpa using he
            have heH := Lib.hid he
            clear he
            by_cases hy0 : y = 0
            · have hyd : (y != 0) = false := by simpa using hy0
              have hy0 := Lib.hid hy0
              go_wp2_with (go_at_call 15; refine (hc _ _ hb2).mono ?_; clear hc; rw [← hy2H.out]; rintro e w2 ⟨rfl, k2, rfl⟩)
              go_roundw
              case rel =>
                refine ⟨h + 1, out, congrArg (Value.int .i64) (by have := hhIH.out; omega), ?_, Nat.succ_le_succ hh.out, ownsRow_drewN hrow2 k2, (below_drewN hb2 k2)⟩
                have := hexit.out (.inl heH.out)
                rwa [if_neg (by simpa using hy0.out)] at this
              case measure => have := hhIH.out; have := hriH.out; have := hrr.out; simp [intOf]; omega
            · have hyd : (y != 0) = true := by simpa using hy0
              have hy0 := Lib.hid hy0
              go_wp2_with (first
                | (go_at_call 15; refine (hc _ _ hb2).mono ?_; clear hc; rw [← hy2H.out]; rintro e w2 ⟨rfl, k2, rfl⟩)
                | (at_builtin; refine wpList_append_lies _ rfl (.tmp 27) (.tmp 32) 22 rfl w.heap.size 36 i0 (.agg #[.int .i64 0, .int .i64 0, .int .u8 0]) 3 24 propsU hi0 hz0 hz1 hz2 rfl (by decide) _ _ _ rfl ((ownsRow_drewN hrow2 k2).alloc _) ⟨(wr.drewN k2).heap.size, 0, none⟩ 1 1 [.int .i64 ri, .int .i64 hI, .int .u8 y] rfl rfl (World.news_of_block (cs := #[.int .i64 ri, .int .i64 hI, .int .u8 y]) (t := 36) (fr := (0, 0)) (heap_alloc_new _ _)) (by simp [Value.oneCell']) (by decide) (by unfold maxLen; omega) (by omega) (by simp; omega) _ rfl ?_; intro g cap w5 hrow5 hg5 _ _))
              have hown5 : ∀ k, u3.ownBlock = some k → w.heap.size ≤ k := fun k e => (hrow2.lt k e).1
              go_roundw
              case rel =>
                refine ⟨h + 1, out ++ [⟨ri, hI, y⟩], congrArg (Value.int .i64) (by have := hhIH.out; omega), ?_, Nat.succ_le_succ hh.out, ?_, Below.grown ((below_drewN hb2 k2).alloc (by first | omega | (simp; omega)) _) hg5 (by first | omega | (simp; omega)) hown5⟩
                · have := hexit.out (.inl heH.out)
                  rwa [if_pos (by simpa using hy0.out)] at this
                · rw [List.length_append, propCells_snoc]; exact hrow5
              case measure => have := hhIH.out; have := hriH.out; have := hrr.out; simp [intOf]; omega
        · have hge2 : 1114111 ≤ hI := by omega
          clear hge hc
          by_cases hy0 : y = 0
          · have hyd : (y != 0) = false := by simpa using hy0
            have hy0 := Lib.hid hy0
            go_wp2
            go_roundw
            case rel =>
              refine ⟨h + 1, out, congrArg (Value.int .i64) (by have := hhIH.out; omega), ?_, Nat.succ_le_succ hh.out, hrow2, hb2⟩
              have := hexit.out (.inr hge2)
              rwa [if_neg (by simpa using hy0.out)] at this
            case measure => have := hhIH.out; have := hriH.out; have := hrr.out; simp [intOf]; omega
          · have hyd : (y != 0) = true := by simpa using hy0
            have hy0 := Lib.hid hy0
            go_wp2_with (at_builtin; refine wpList_append_lies _ rfl (.tmp 27) (.tmp 32) 22 rfl w.heap.size 36 i0 (.agg #[.int .i64 0, .int .i64 0, .int .u8 0]) 3 24 propsU hi0 hz0 hz1 hz2 rfl (by decide) _ _ _ rfl (hrow2.alloc _) ⟨wr.heap.size, 0, none⟩ 1 1 [.int .i64 ri, .int .i64 hI, .int .u8 y] rfl rfl (World.news_of_block (cs := #[.int .i64 ri, .int .i64 hI, .int .u8 y]) (t := 36) (fr := (0, 0)) (heap_alloc_new _ _)) (by simp [Value.oneCell']) (by decide) (by unfold maxLen; omega) (by omega) (by simp; omega) _ rfl ?_; intro g cap w5 hrow5 hg5 _ _)
            have hown5 : ∀ k, u3.ownBlock = some k → w.heap.size ≤ k := fun k e => (hrow2.lt k e).1
            go_roundw
            case rel =>
              refine ⟨h + 1, out ++ [⟨ri, hI, y⟩], congrArg (Value.int .i64) (by have := hhIH.out; omega), ?_, Nat.succ_le_succ hh.out, ?_, Below.grown (hb2.alloc (by first | omega | (simp; omega)) _) hg5 (by first | omega | (simp; omega)) hown5⟩
              · have := hexit.out (.inr hge2)
                rwa [if_pos (by simpa using hy0.out)] at this
              · rw [List.length_append, propCells_snoc]; exact hrow5
            case measure => have := hhIH.out; have := hriH.out; have := hrr.out; simp [intOf]; omega
    · have hr2 : Hid (out = lF) := by
        rw [hlH.out]
        have e : r = 1114112 := by have := hr.out; have := hriH.out; omega
        have := hinv.out
        rw [e] at this
        exact this.done
      have hlt2 : 1114111 < ri := by omega
      have e := hr2.out
      subst e
      clear hri hlt
      go_wp2
      go_ret
      exact ⟨_, rfl, hrow, hb⟩

set_option maxRecDepth 100000 in
set_option maxHeartbeats 2000000 in
/-- Same, of two like lists -/
theorem same_any (v u : Value) (l : List P3) (w : World) (n₀ : Nat) (h : PropsAt w n₀ v l) (g : PropsAt w n₀ u l) :
    Calls Try.prog 22 #[v, u] w fun e w' => e = .returned (.bool true) ∧ ∃ n', w' = w.drewN n' := by
  have h0 := h
  have g0 := g
  obtain ⟨ao, c, rfl, hsz, hr, _⟩ := h0
  obtain ⟨ao2, c2, rfl, _, _, _⟩ := g0
  go_enter Try.func22, Try.ntmps22
  go_wp2
  go_loopw [5] (fun i wr => ∃ (k : Nat), k ≤ l.length ∧ i = .int .i64 k ∧ ∃ n', wr = w.drewN n') (fun i _ => l.length - (intOf i).toNat)
  case atStart => exact ⟨0, by omega, rfl, 0, rfl⟩
  case round =>
    obtain ⟨k, hk, rfl, n', rfl⟩ := hrel
    by_cases hlt : k < l.length
    · obtain ⟨ao', c', hv, _, _, hP⟩ := h
      obtain ⟨b, off, ha, hbn, hc⟩ := hP (by intro e; rw [e] at hlt; simp at hlt)
      cases hv
      subst ha
      obtain ⟨ao', c', hv, _, _, hP⟩ := g
      obtain ⟨b2, off2, ha, hbn2, hc2⟩ := hP (by intro e; rw [e] at hlt; simp at hlt)
      cases hv
      subst ha
      have hx : l[k]? = some l[k] := by simp [hlt]
      obtain ⟨h1, h2, h3⟩ := hc k l[k] hx
      obtain ⟨g1, g2, g3⟩ := hc2 k l[k] hx
      have hk1 : (k : Int) < l.length := by omega
      have hk0 : (0 : Int) ≤ k := by omega
      clear hc hc2 hr
      generalize l[k] = x at hx h1 h2 h3 g1 g2 g3
      have p1 : (w.drewN n').cell? ⟨b, off + k * 3, none⟩ = some (.int .i64 x.lo) := h1
      have p2 : (w.drewN n').cell? ⟨b, off + k * 3 + 1, none⟩ = some (.int .i64 x.hi) := h2
      have p3 : (w.drewN n').cell? ⟨b, off + k * 3 + 2, none⟩ = some (.int .u8 x.v) := h3
      have q1 : (w.drewN n').cell? ⟨b2, off2 + k * 3, none⟩ = some (.int .i64 x.lo) := g1
      have q2 : (w.drewN n').cell? ⟨b2, off2 + k * 3 + 1, none⟩ = some (.int .i64 x.hi) := g2
      have q3 : (w.drewN n').cell? ⟨b2, off2 + k * 3 + 2, none⟩ = some (.int .u8 x.v) := g3
      clear h1 h2 h3 g1 g2 g3 hx
      go_wp2
      refine wp_region_G [[(true,0),(true,1),(true,2),(true,3),(true,4),(true,5),(true,6),(true,7),(true,8)]] (by kernel_rfl) (by kernel_rfl) (by kernel_rfl) (by decide) (fun c a d v w h => by cases d <;> exact h) ?_
      refine wpGs_seg (fun w' => w'.heap = w.heap) rfl ?_
      iterate 3 refine wpG_q rfl rfl (fun w' hS => by go_simp; rfl) (by go_simp; rfl) ?_
      refine wpG_q rfl rfl (fun w' hS => by
        have e1 : w'.cell? ⟨b, off + k * 3, none⟩ = some (.int .i64 x.lo) := (World.cell?_of_block (w := w) (by rw [hS])).trans p1
        have e2 : w'.cell? ⟨b, off + k * 3 + 1, none⟩ = some (.int .i64 x.hi) := (World.cell?_of_block (w := w) (by rw [hS])).trans p2
        have e3 : w'.cell? ⟨b, off + k * 3 + 2, none⟩ = some (.int .u8 x.v) := (World.cell?_of_block (w := w) (by rw [hS])).trans p3
        clear hS
        go_simp; rfl) (by go_simp; rfl) ?_
      iterate 3 refine wpG_q rfl rfl (fun w' hS => by go_simp; rfl) (by go_simp; rfl) ?_
      refine wpG_q rfl rfl (fun w' hS => by
        have e1 : w'.cell? ⟨b2, off2 + k * 3, none⟩ = some (.int .i64 x.lo) := (World.cell?_of_block (w := w) (by rw [hS])).trans q1
        have e2 : w'.cell? ⟨b2, off2 + k * 3 + 1, none⟩ = some (.int .i64 x.hi) := (World.cell?_of_block (w := w) (by rw [hS])).trans q2
        have e3 : w'.cell? ⟨b2, off2 + k * 3 + 2, none⟩ = some (.int .u8 x.v) := (World.cell?_of_block (w := w) (by rw [hS])).trans q3
        clear hS
        go_simp; rfl) (by go_simp; rfl) ?_
      refine wpG_q rfl rfl (fun w' hS => exec_neq_prop (.tmp 20) (.tmp 24) _ rfl x (by rfl) (by rfl)) (by go_simp; rfl) ?_
      refine wpG_nil (wpGs_nil ?_)
      go_wp2
      go_roundw
      case rel => exact ⟨k + 1, by omega, by go_num, n' + 1, rfl⟩
      case measure => simp [intOf]; omega
    · obtain rfl : k = l.length := by omega
      clear hr h g
      go_wp2
      go_ret
      exact ⟨rfl, _, rfl⟩
end Go.Proofs.Ytpaijpdmeiagfaa
