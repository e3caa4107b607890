import Derived.Test.YtpaijpdmeiagfaaJ
import Derived.Test.YtpaijpdmeiagfaaP
namespace Go.Proofs.Kk
open Go Go.RowKit
section
variable {P : Program}
theorem run_append_no {w : World} (t ty e : TypeId) (i : TypeInfo) (ht : P.underlying t = some (.slice e)) (hi : P.info? e = some i) (b : Option Addr) (n cap : Nat) (hn : n ≤ cap) (ao : Option Addr) (c : Nat) :
    (Builtin.append_ #[t, t] ty #[.slice b n cap, .slice ao 0 c]).run P w = .ok (.slice b n cap) w := by
  cases b <;> cases ao <;> simp [Builtin.append_, run_underlying ht, sizeOf, typeInfo, hi, Builtin.lenOf, hn, Builtin.firstCells, loadCells, loadCellsFrom, storeCells]

theorem exec_buildSlice_none {o : Oper} {ρ : Operand → Value} {w : World} (t e : TypeId) (ho : o.op = .buildSlice t 0 #[]) (n : Nat) (hu : P.underlying t = some (.slice e)) (hi : (P.info? e).map (·.size) = some n) :
    (execOp ρ o).run P w = .ok (.value (.slice (some ⟨w.heap.size, 0, none⟩) 0 0)) (w.alloc (.cells #[] e)) := by
  obtain ⟨i, hi, h2⟩ := Option.map_eq_some_iff.1 hi
  unfold execOp
  simp only [ho, List.map_toArray, List.map_nil, Instr.buildSlice, Sem.run_bind, run_underlying hu, Result.andThen_ok, sizeOf, typeInfo, program, Sem.run, hi, h2, Nat.zero_mul]
  simp [Instr.fill, newRow, newObj, Sem.run_bind, Sem.run]
  refine congrArg (fun z => w.alloc (.cells z e)) (Array.eq_empty_of_size_eq_zero (by simp))
end
theorem ownsRow_none (w : World) (e : TypeId) (size base : Nat) (hb : base ≤ w.heap.size) : (w.alloc (.cells #[] e)).ownsRow base e size (.slice (some ⟨w.heap.size, 0, none⟩) 0 0) 0 [] :=
  ⟨by simp, .inr ⟨w.heap.size, 0, #[], rfl, hb, heap_alloc_new w _, Nat.le_refl _, by simp [maxLen], by simp, by simp⟩⟩
end Go.Proofs.Kk
namespace Go.Proofs.Ytpaijpdmeiagfaa
open Go Go.RowKit Go.WideMaps Go.Proofs.Kk Go.Proofs.Tm Go.Proofs.Gg

theorem propCells_length (l : List P3) : (propCells l).length = l.length * 3 := by
  induction l with
  | nil => rfl
  | cons x l ih =>
    have e : propCells (x :: l) = .int .i64 x.lo :: .int .i64 x.hi :: .int .u8 x.v :: propCells l := rfl
    rw [e]; simp only [List.length_cons, ih]; omega

/-- the append of a slice of entries to an owned row -/
theorem run_append_props {w : World} (ty : TypeId) (base : Nat) (v : Value) (xs : List P3) (hown : w.ownsRow base 36 3 v xs.length (propCells xs)) (hv : ∃ a c, v = .slice (some a) xs.length c) (u : Value) (l : List P3) (n₀ : Nat) (hl : PropsAt w n₀ u l) (hs : xs.length + l.length ≤ 1000000) (hbase : base ≤ w.heap.size) :
    ∃ g cap w', (Builtin.append_ #[22, 22] ty #[v, u]).run Try.prog w = .ok (.slice (some ⟨g, 0, none⟩) (xs.length + l.length) cap) w' ∧
      w'.ownsRow base 36 3 (.slice (some ⟨g, 0, none⟩) (xs.length + l.length) cap) (xs ++ l).length (propCells (xs ++ l)) ∧ w.grownBy w' v.ownBlock := by
  obtain ⟨ao, c, rfl, _, _, hc⟩ := hl
  obtain ⟨i0, hi0, hz0, hz1, hz2⟩ := info_parts infoProp
  by_cases e : l = []
  · subst e
    obtain ⟨a, c1, rfl⟩ := hv
    rcases hown.2 with ⟨h1, _⟩ | ⟨g, cap, cur, h1, _, _, h4, _⟩
    · cases h1
    · cases h1
      refine ⟨g, _, w, run_append_no _ _ _ _ propsU hi0 _ _ _ h4 _ _, ?_, ⟨rfl, rfl, rfl, Nat.le_refl _, fun _ _ _ => rfl⟩⟩
      simpa using hown
  · obtain ⟨b, off, rfl, _, hcell⟩ := hc e
    have hp : 0 < l.length := List.length_pos_iff.2 e
    have hnews : ∀ (j : Nat) (u : Value), (propCells l)[j]? = some u → w.cell? ((⟨b, off, none⟩ : Addr).add j) = some u := by
      intro j u hu
      have hjl : j < (propCells l).length := (List.getElem?_eq_some_iff.1 hu).1
      have hlen : (propCells l).length = l.length * 3 := propCells_length l
      obtain ⟨k, d, hd, rfl⟩ : ∃ k d, d < 3 ∧ j = k * 3 + d := ⟨j / 3, j % 3, by omega, by omega⟩
      have hk : k < l.length := by omega
      have hx : l[k]? = some l[k] := List.getElem?_eq_getElem hk
      obtain ⟨p0, p1, p2⟩ := propCells_get l k _ hx
      obtain ⟨q0, q1, q2⟩ := hcell k _ hx
      rw [Addr.add_lit]
      match d, hd with
      | 0, _ => rw [Nat.add_zero] at hu ⊢; rw [p0] at hu; cases hu; exact q0
      | 1, _ => rw [← Nat.add_assoc]; rw [p1] at hu; cases hu; exact q1
      | 2, _ => rw [← Nat.add_assoc]; rw [p2] at hu; cases hu; exact q2
    have hlen : (propCells l).length = l.length * 3 := propCells_length l
    have hone : ∀ u ∈ propCells l, u.oneCell' = true := by
      intro u hu
      simp [propCells] at hu
      obtain ⟨x, _, rfl | rfl | rfl⟩ := hu <;> rfl
    obtain ⟨g, cap, w', hr, h2, h3, _, _⟩ := run_append_lies (P := Try.prog) (w := w) 22 ty base 36 i0 (.agg #[.int .i64 0, .int .i64 0, .int .u8 0]) 3 24 propsU hi0 hz0 hz1 hz2 rfl (by decide) v xs.length (propCells xs) hown
      ⟨b, off, none⟩ l.length c (propCells l) hlen hnews hone hp (by unfold maxLen; omega) (by omega) hbase _ rfl
    refine ⟨g, cap, w', hr, ?_, h3⟩
    rw [List.length_append, show propCells (xs ++ l) = propCells xs ++ propCells l by simp [propCells]]
    exact h2

theorem PropsAt.one {w : World} {g n₀ : Nat} {x : P3} (h : w.heap[g]? = some (.cells #[.int .i64 x.lo, .int .i64 x.hi, .int .u8 x.v] 36 (0, 0))) (hg : g < n₀) (hf : Fits [x]) : PropsAt w n₀ (.slice (some ⟨g, 0, none⟩) 1 1) [x] := by
  refine ⟨_, 1, rfl, by simp, hf, fun _ => ⟨g, 0, rfl, hg, ?_⟩⟩
  intro j y hy
  match j, hy with
  | 0, hy =>
    simp at hy
    subst hy
    simp [cell_of_row _ _ _ _ _ _ h]
  | j + 1, hy => simp at hy

/-- Build, whatever comes: the tuple, as letters -/
theorem build_any (v : Value) (l : List P3) (w : World) (h : PropsAt w w.heap.size v l) (hl : l.length ≤ 31) (T : TD) (hT : Hid (T = tdOf (pval l))) (m : Int) (hm : Hid (m = if l.any oddB then 1 else 0)) :
    Calls Try.prog 12 #[v] w fun e w' => ∃ p, e = .returned (.tuple #[p, .int .i64 m]) ∧ Below w.heap.size w w' ∧ Hid (m = 0 → ∃ B, p = .pointer (some ⟨B, 0, none⟩) ∧ TrieAt w' w'.heap.size B T) := by
  have hF : T.F.length ≤ 256 := by rw [hT.out]; have := tdOf_small l; omega
  cases ho : l.any oddB with
  | true =>
    have hm1 : m = 1 := by rw [hm.out, ho]; rfl
    have hb : badN l = 1 := by unfold badN; rw [if_neg (by omega), if_pos ho]
    refine (build_bad v l w h (by rw [ho]; simp)).mono ?_
    rintro e w' ⟨rfl, hbel⟩
    exact ⟨_, by rw [hb, hm1], hbel, fun e => by omega⟩
  | false =>
    have hm0 : m = 0 := by rw [hm.out, ho]; rfl
    refine (build_good v l w h (by omega) ho T hT hF).mono ?_
    rintro e w' ⟨B, rfl, ht, hbel⟩
    exact ⟨_, by rw [hm0], hbel, fun _ => ⟨B, rfl, ht⟩⟩

set_option maxRecDepth 100000 in
set_option maxHeartbeats 1000000 in
theorem later_long (ao : Option Addr) (n c : Nat) (x : P3) (r : Int) (w : World) (hn : 30 < n) :
    Calls Try.prog 4 #[.slice ao n c, propV x, .int .i64 r] w fun e w' => e = .returned (.bool true) ∧ Below w.heap.size w w' := by
  have h1 : (30 : Int) < n := by omega
  go_enter Try.func4, Try.ntmps4
  unfold propV
  go_wp2_with (go_at_call 11; refine (awake_any _).mono ?_; rintro e w' ⟨rfl, hb⟩)
  go_ret
  exact ⟨rfl, ((Below.refl _ _).alloc (Nat.le_refl _) _).trans (hb.mono (by simp))⟩

set_option maxRecDepth 100000 in
set_option maxHeartbeats 8000000 in
theorem later_short (v : Value) (l : List P3) (x : P3) (r : Int) (w : World) (h : PropsAt w w.heap.size v l) (hn : l.length ≤ 30) (hfx : Fits [x]) :
    Calls Try.prog 4 #[v, propV x, .int .i64 r] w fun e w' => e = .returned (.bool true) ∧ Below w.heap.size w w' := by
  have h0 := h
  obtain ⟨ao, c, rfl, hsz, hr, _⟩ := h0
  have h1 : (l.length : Int) ≤ 30 := by omega
  obtain ⟨T, hT⟩ : ∃ T, T = tdOf (pval l) := ⟨_, rfl⟩
  have hTH : Hid (T = tdOf (pval l)) := hT
  obtain ⟨T2, hT2⟩ : ∃ T, T = tdOf (pval (l ++ [x])) := ⟨_, rfl⟩
  have hTH2 : Hid (T2 = tdOf (pval (l ++ [x]))) := hT2
  obtain ⟨m, hm⟩ : ∃ m : Int, m = if l.any oddB then 1 else 0 := ⟨_, rfl⟩
  have hmH : Hid (m = if l.any oddB then 1 else 0) := hm
  obtain ⟨m2, hm2⟩ : ∃ m : Int, m = if (l ++ [x]).any oddB then 1 else 0 := ⟨_, rfl⟩
  have hmH2 : Hid (m2 = if (l ++ [x]).any oddB then 1 else 0) := hm2
  have hmm : m = 0 ∨ (m = 1 ∧ m2 = 1) := by
    rw [hm, hm2, List.any_append]
    cases l.any oddB <;> simp
  have hmm2 : m2 = 0 ∨ m2 = 1 := by rw [hm2]; split <;> simp
  have hodd : m2 = 0 → oddB x = false := by
    intro h0
    have : (l ++ [x]).any oddB = false := by
      cases hh : (l ++ [x]).any oddB with
      | false => rfl
      | true => rw [hm2, hh] at h0; simp at h0
    have := List.any_eq_false.1 this x (by simp)
    simpa using this
  have hoddH := Lib.hid hodd
  have hlen2 : T2.F.length ≤ T.F.length + 3 := by rw [hT, hT2]; exact tdOf_later l x
  have hl2 : (l ++ [x]).length ≤ 31 := by simp; omega
  have hl2H := Lib.hid hl2
  have hfl : Fits (l ++ [x]) := by
    intro y hy
    rcases List.mem_append.1 hy with hy | hy
    · exact hr y hy
    · exact hfx y hy
  have hflH := Lib.hid hfl
  have hin : m2 = 0 → x.lo ≤ r → r ≤ x.hi → T2.val r = x.v := by
    intro h0 h2 h3
    have := hodd h0
    simp [oddB] at this
    rw [hT2, tdOf_val _ _ (by omega) (by omega), pval_snoc, if_pos ⟨h2, h3⟩]
  have hout : ¬ (x.lo ≤ r ∧ r ≤ x.hi) → T2.val r = T.val r := by
    intro h0
    by_cases h2 : r < 0 ∨ 1114111 < r
    · rw [TD.val_out _ _ h2, TD.val_out _ _ h2]
    · rw [hT, hT2, tdOf_val _ _ (by omega) (by omega), tdOf_val _ _ (by omega) (by omega), pval_snoc, if_neg h0]
  have hinH := Lib.hid hin
  have houtH := Lib.hid hout
  have hlen2' : (T2.F.length : Int) ≤ T.F.length + 3 := by omega
  clear hT hT2 hm hm2 hr hodd hfl hl2 hin hout hlen2
  go_enter Try.func4, Try.ntmps4
  unfold propV
  go_wp2_with (first
    | (go_at_call 11; refine (awake_any _).mono ?_; rintro e w0 ⟨rfl, hb0⟩)
    | (go_at_call 12; refine (build_any _ l _ ((h.below (((Below.refl w.heap.size w).alloc (Nat.le_refl _) _).trans (hb0.mono (by simp))) (Nat.le_refl _)).mono (by have := hb0.size; rw [World.size_alloc] at this; omega)) (by omega) T hTH m hmH).mono ?_; rintro e w1 ⟨p1, rfl, hb1, hq1⟩))
  have hs0 := hb0.size
  rw [World.size_alloc] at hs0
  have hX : w1.heap[w.heap.size]? = some (.cells #[.int .i64 x.lo, .int .i64 x.hi, .int .u8 x.v] 36 (0, 0)) := by
    rw [hb1.block _ (by omega), hb0.block _ (by simp)]
    exact heap_alloc_new _ _
  have hW1 : Below w.heap.size w w1 := (((Below.refl w.heap.size w).alloc (Nat.le_refl _) _).trans (hb0.mono (by simp))).trans (hb1.mono (by omega))
  have hs1 := hb1.size
  have hPl := (h.below hW1 (Nat.le_refl _))
  clear hb0 hb1 h

  have hlw : w.heap.size ≤ w1.heap.size := by omega
  have hlw2 : w.heap.size < w1.heap.size := by omega
  clear hs0 hs1
  refine wp_region_T (.q 1 (.q 3 (.two 0 4 (.two 2 4 (.e 4 (.e 5 (.e 6 (.q 7 (.q 8 (.q 9 (.q 10 (.q 11 .nil)))))))) (.e 2 (.e 5 (.e 6 (.q 7 (.q 8 (.q 9 (.q 10 (.q 11 .nil))))))))) (.e 0 (.e 2 (.e 5 (.e 6 (.q 7 (.q 8 (.q 9 (.q 10 (.q 11 .nil))))))))))))
    (by kernel_rfl) (by kernel_rfl) (by kernel_rfl) (by decide) (fun c a d v w h => by cases d <;> exact h) (fun w' => Below w1.heap.size w1 w') (Below.refl _ _).drew ?_
  have hB : Below w1.heap.size w1 w1.drew := (Below.refl _ _).drew
  generalize w1.drew = W at hB ⊢
  have hBs := hB.size
  have hXb : ∀ w', Below w1.heap.size w1 w' → w'.heap[w.heap.size]? = some (.cells #[.int .i64 x.lo, .int .i64 x.hi, .int .u8 x.v] 36 (0, 0)) := fun w' hb => (hb.block _ hlw2).trans hX
  refine wpT_q rfl rfl (fun w' hS => by go_simp; rfl) (by go_simp; rfl) ?_
  refine wpT_q rfl rfl (fun w' hS => exec_load_row 36 (.tmp 4) rfl w.heap.size rfl 36 _ (0, 0) _ (hXb w' hS) Try.underlying36 rfl (by rw [size_of infoProp]; rfl)) (by go_simp; rfl) ?_
  refine wpT_two ?_ ?_
  · obtain ⟨g27, hg27⟩ : ∃ g, g = W.heap.size := ⟨_, rfl⟩
    refine wpE_r (fun w' => Below w1.heap.size w1 w') rfl rfl (exec_buildSlice_none 22 36 rfl _ propsU (size_of infoProp)) (by go_simp; rfl) (fun w h => h) (hB.alloc hBs _) ?_
    have hrow := ownsRow_none W 36 3 w1.heap.size hBs
    have hB := hB.alloc hBs (.cells #[] 36)
    have hBs : w1.heap.size ≤ (W.alloc (.cells #[] 36)).heap.size := hB.size
    have hlt27 : g27 < (W.alloc (.cells #[] 36)).heap.size := by rw [World.size_alloc, hg27]; omega
    rw [← hg27] at hrow ⊢
    clear hg27
    generalize W.alloc (.cells #[] 36) = W at hrow hB hBs hlt27 ⊢
    refine wpT_two ?_ ?_
    · obtain ⟨g29, c29, W, hr29, hrow29, hg29⟩ := run_append_props (w := W) 22 w1.heap.size _ [] hrow ⟨_, _, rfl⟩ _ l w.heap.size (hPl.below hB hlw) (by simp; omega) hBs
      simp only [List.length_nil, Nat.zero_add, List.nil_append] at hr29 hrow29
      have hB2 := hB.grown hg29 hBs (fun k e => (hrow.lt k e).1)
      refine wpE_r (fun w' => Below w1.heap.size w1 w') rfl rfl (exec_append (.tmp 27) (.tmp 28) 22 rfl (v := .slice (some ⟨g27, 0, none⟩) 0 0) (u := .slice ao l.length c) (by rfl) (by rfl) hr29) (by go_simp; rfl) (fun w h => h) hB2 ?_
      have hrow := hrow29
      have hB := hB2
      have hBs := hB.size
      clear hr29 hrow29 hB2 hg29
      obtain ⟨g31, hg31⟩ : ∃ g, g = W.heap.size := ⟨_, rfl⟩
      refine wpT_e (wpE_r (fun w' => Below w1.heap.size w1 w') rfl rfl (exec_buildSlice_one 22 36 (.tmp 30) rfl #[.int .i64 x.lo, .int .i64 x.hi, .int .u8 x.v] (by rfl) _ _ _ propsU infoProp (by rfl) (by decide) (by decide)) (by go_simp; rfl) (fun w h => h) (hB.alloc hBs _) ?_)
      have hG := heap_alloc_new W (.cells #[.int .i64 x.lo, .int .i64 x.hi, .int .u8 x.v] 36)
      have hB := hB.alloc hBs (.cells #[.int .i64 x.lo, .int .i64 x.hi, .int .u8 x.v] 36)
      have hBs : w1.heap.size ≤ (W.alloc (.cells #[.int .i64 x.lo, .int .i64 x.hi, .int .u8 x.v] 36)).heap.size := hB.size
      have hlt31 : g31 < (W.alloc (.cells #[.int .i64 x.lo, .int .i64 x.hi, .int .u8 x.v] 36)).heap.size := by rw [World.size_alloc, hg31]; omega
      rw [← hg31] at hG ⊢
      have hrow := hrow.alloc (.cells #[.int .i64 x.lo, .int .i64 x.hi, .int .u8 x.v] 36)
      clear hg31
      generalize W.alloc (.cells #[.int .i64 x.lo, .int .i64 x.hi, .int .u8 x.v] 36) = W at hG hB hBs hlt31 hrow ⊢
      obtain ⟨g32, c32, W5, hr32, hrow32, hg32⟩ := run_append_props 22 w1.heap.size _ l hrow ⟨_, _, rfl⟩ _ [x] _ (PropsAt.one hG hlt31 hfx) (by simp; omega) hBs
      simp only [List.length_singleton] at hr32 hrow32
      have hB5 := hB.grown hg32 hBs (fun k e => (hrow.lt k e).1)
      refine wpT_e (wpE_r (fun w' => Below w1.heap.size w1 w') rfl rfl (exec_append (.tmp 29) (.tmp 31) 22 rfl (v := .slice (some ⟨g29, 0, none⟩) l.length c29) (u := .slice (some ⟨g31, 0, none⟩) 1 1) (by rfl) (by rfl) hr32) (by go_simp; rfl) (fun w h => h) hB5 ?_)
      have hP5 := PropsAt.of_own hrow32 (by have := hl2H.out; omega) hflH.out
      clear hr32 hg32 hrow32 hrow hG
      refine wpT_e (wpE_call (f := 12) (args := #[.slice (some ⟨g32, 0, none⟩) (l.length + 1) c32]) (v := fun w' u => ∃ p, u = .tuple #[p, .int .i64 m2] ∧ Below W5.heap.size W5 w' ∧ Hid (m2 = 0 → ∃ B, p = .pointer (some ⟨B, 0, none⟩) ∧ TrieAt w' w'.heap.size B T2)) rfl rfl (by go_simp <;> rfl) ((build_any _ _ W5 hP5 hl2H.out T2 hTH2 m2 hmH2).mono fun e w' h => by obtain ⟨p, he, h⟩ := h; exact ⟨_, he, p, rfl, h⟩) ?_)
      rintro W6 u6 ⟨p2, rfl, hb6, hq2⟩
      have hB6 := hB5.trans (hb6.mono hB5.size)
      refine ⟨fun w' => Below w1.heap.size w1 w', fun w h => h, hB6, ?_⟩
      iterate 5 refine wpT_q rfl rfl (fun w' hS => by go_simp; rfl) (by go_simp; rfl) ?_
      refine wpT_nil ?_
      have hs6 := hB6.size
      have hX6 := hXb _ hB6
      have hWe := hW1.trans (hB6.mono hlw)
      clear hP5 hb6 hB5 hB hX hXb
      rcases hmm with hm0 | ⟨hm1, hm21⟩
      · obtain ⟨B1, hp1, ht1⟩ := hq1.out hm0
        have ht1 := ht1.below hB6 (Nat.le_refl _)
        subst hp1
        subst hm0
        rcases hmm2 with hm20 | hm21
        · obtain ⟨B2, hp2, ht2⟩ := hq2.out hm20
          subst hp2
          subst hm20
          have c0 : W6.cell? ⟨w.heap.size, 0, none⟩ = some (.int .i64 x.lo) := by rw [cell_of_row _ _ _ _ _ _ hX6]; rfl
          have c1 : W6.cell? ⟨w.heap.size, 1, none⟩ = some (.int .i64 x.hi) := by rw [cell_of_row _ _ _ _ _ _ hX6]; rfl
          have c2 : W6.cell? ⟨w.heap.size, 2, none⟩ = some (.int .u8 x.v) := by rw [cell_of_row _ _ _ _ _ _ hX6]; rfl
          have ht1a := ht1
          have hfw : (T.F.length : Int) ≤ 256 := by have := ht1.few; omega
          have ht2a := ht2
          by_cases hc1 : x.lo ≤ r
          · by_cases hc2 : r ≤ x.hi
            · have hv := hinH.out rfl hc1 hc2
              go_wp2_with fail
              refine wp_region_G [[(true,0),(true,1),(true,3),(true,4),(false,2),(true,5),(true,6)]] (by kernel_rfl) (by kernel_rfl) (by kernel_rfl) (by decide) (fun c a d v w h => by cases d <;> exact h) ?_
              refine wpGs_seg (fun w' => w'.heap = W6.heap ∧ w'.cell? ⟨w.heap.size, 2, none⟩ = some (.int .u8 x.v)) ⟨rfl, c2⟩ ?_
              iterate 4 refine wpG_q rfl rfl (fun w' hS => by have hS2 := hS.2; go_simp; rfl) (by go_simp; rfl) ?_
              refine wpG_call (f := 14) (args := #[.pointer (some ⟨B2, 0, none⟩), .int .i64 r]) (v := fun w' u => u = .int .u8 x.v ∧ ∃ n', w' = W6.drew.drewN n') rfl rfl (by go_simp <;> rfl) ((of_any W6.drew _ B2 T2 r (ht2.heap rfl)).mono fun e w' h => by obtain ⟨he, h⟩ := h; exact ⟨_, he, by rw [hv], h⟩) ?_
              rintro w7 u7 ⟨rfl, n7, rfl⟩
              refine ⟨fun w' => w'.heap = W6.heap ∧ w'.cell? ⟨w.heap.size, 2, none⟩ = some (.int .u8 x.v), fun w h => h, ⟨rfl, c2⟩, ?_⟩
              iterate 2 refine wpG_q rfl rfl (fun w' hS => by go_simp; rfl) (by go_simp; rfl) ?_
              refine wpG_nil (wpGs_nil ?_)
              go_wp2
              go_ret
              exact ⟨by simp, below_drewN hWe.drew _⟩
            · have hv := houtH.out (fun h => hc2 h.2)
              have hc2' : x.hi < r := by omega
              clear hc2
              go_wp2_with (first
                | (go_at_call 14; have k1 := ht2a; clear ht2a; refine (of_any _ _ B2 T2 _ (by exact k1.heap rfl)).mono ?_; clear k1; rintro e w2 ⟨rfl, n2, rfl⟩)
                | (go_at_call 14; have k1 := ht1a; clear ht1a; refine (of_any _ _ B1 T _ (by exact k1.heap rfl)).mono ?_; clear k1; rintro e w3 ⟨rfl, n3, rfl⟩; rw [← hv])
                | (go_at_call 16; have k1 := ht2; clear ht2; refine (blocks_any _ _ B2 T2 (by exact k1.heap rfl)).mono ?_; clear k1; rintro e w4 ⟨rfl, rfl⟩)
                | (go_at_call 16; have k1 := ht1; clear ht1; refine (blocks_any _ _ B1 T (by exact k1.heap rfl)).mono ?_; clear k1; rintro e w5 ⟨rfl, rfl⟩))
              go_ret
              exact ⟨by simp, below_drewN hWe _⟩
          · have hv := houtH.out (fun h => hc1 h.1)
            have hc1' : r < x.lo := by omega
            clear hc1
            go_wp2_with (first
                | (go_at_call 14; have k1 := ht2a; clear ht2a; refine (of_any _ _ B2 T2 _ (by exact k1.heap rfl)).mono ?_; clear k1; rintro e w2 ⟨rfl, n2, rfl⟩)
                | (go_at_call 14; have k1 := ht1a; clear ht1a; refine (of_any _ _ B1 T _ (by exact k1.heap rfl)).mono ?_; clear k1; rintro e w3 ⟨rfl, n3, rfl⟩; rw [← hv])
                | (go_at_call 16; have k1 := ht2; clear ht2; refine (blocks_any _ _ B2 T2 (by exact k1.heap rfl)).mono ?_; clear k1; rintro e w4 ⟨rfl, rfl⟩)
                | (go_at_call 16; have k1 := ht1; clear ht1; refine (blocks_any _ _ B1 T (by exact k1.heap rfl)).mono ?_; clear k1; rintro e w5 ⟨rfl, rfl⟩))
            go_ret
            exact ⟨by simp, below_drewN hWe _⟩
        · subst hm21
          go_wp2
          go_ret
          exact ⟨rfl, hWe⟩
      · subst hm1
        subst hm21
        go_wp2
        go_ret
        exact ⟨rfl, hWe⟩
    · obtain ⟨g31, hg31⟩ : ∃ g, g = W.heap.size := ⟨_, rfl⟩
      refine wpE_r (fun w' => Below w1.heap.size w1 w') rfl rfl (exec_buildSlice_one 22 36 (.tmp 30) rfl #[.int .i64 x.lo, .int .i64 x.hi, .int .u8 x.v] (by rfl) _ _ _ propsU infoProp (by rfl) (by decide) (by decide)) (by go_simp; rfl) (fun w h => h) (hB.alloc hBs _) ?_
      have hG := heap_alloc_new W (.cells #[.int .i64 x.lo, .int .i64 x.hi, .int .u8 x.v] 36)
      have hB := hB.alloc hBs (.cells #[.int .i64 x.lo, .int .i64 x.hi, .int .u8 x.v] 36)
      have hBs : w1.heap.size ≤ (W.alloc (.cells #[.int .i64 x.lo, .int .i64 x.hi, .int .u8 x.v] 36)).heap.size := hB.size
      have hlt31 : g31 < (W.alloc (.cells #[.int .i64 x.lo, .int .i64 x.hi, .int .u8 x.v] 36)).heap.size := by rw [World.size_alloc, hg31]; omega
      rw [← hg31] at hG ⊢
      have hrow := hrow.alloc (.cells #[.int .i64 x.lo, .int .i64 x.hi, .int .u8 x.v] 36)
      have hne : g31 ≠ g27 := by omega
      clear hg31
      generalize W.alloc (.cells #[.int .i64 x.lo, .int .i64 x.hi, .int .u8 x.v] 36) = W at hG hB hBs hlt31 hrow ⊢
      obtain ⟨g29, c29, W, hr29, hrow29, hg29⟩ := run_append_props (w := W) 22 w1.heap.size _ [] hrow ⟨_, _, rfl⟩ _ l w.heap.size (hPl.below hB hlw) (by simp; omega) hBs
      simp only [List.length_nil, Nat.zero_add, List.nil_append] at hr29 hrow29
      have hB2 := hB.grown hg29 hBs (fun k e => (hrow.lt k e).1)
      refine wpT_e (wpE_r (fun w' => Below w1.heap.size w1 w') rfl rfl (exec_append (.tmp 27) (.tmp 28) 22 rfl (v := .slice (some ⟨g27, 0, none⟩) 0 0) (u := .slice ao l.length c) (by rfl) (by rfl) hr29) (by go_simp; rfl) (fun w h => h) hB2 ?_)
      have hG := (hg29.block g31 hlt31 (fun e => by simp [Value.ownBlock] at e; exact hne e)).trans hG
      have hlt31 : g31 < W.heap.size := Nat.lt_of_lt_of_le hlt31 hg29.size
      have hrow := hrow29
      have hB := hB2
      have hBs := hB.size
      clear hr29 hrow29 hB2 hg29
      obtain ⟨g32, c32, W5, hr32, hrow32, hg32⟩ := run_append_props 22 w1.heap.size _ l hrow ⟨_, _, rfl⟩ _ [x] _ (PropsAt.one hG hlt31 hfx) (by simp; omega) hBs
      simp only [List.length_singleton] at hr32 hrow32
      have hB5 := hB.grown hg32 hBs (fun k e => (hrow.lt k e).1)
      refine wpT_e (wpE_r (fun w' => Below w1.heap.size w1 w') rfl rfl (exec_append (.tmp 29) (.tmp 31) 22 rfl (v := .slice (some ⟨g29, 0, none⟩) l.length c29) (u := .slice (some ⟨g31, 0, none⟩) 1 1) (by rfl) (by rfl) hr32) (by go_simp; rfl) (fun w h => h) hB5 ?_)
      have hP5 := PropsAt.of_own hrow32 (by have := hl2H.out; omega) hflH.out
      clear hr32 hg32 hrow32 hrow hG
      refine wpT_e (wpE_call (f := 12) (args := #[.slice (some ⟨g32, 0, none⟩) (l.length + 1) c32]) (v := fun w' u => ∃ p, u = .tuple #[p, .int .i64 m2] ∧ Below W5.heap.size W5 w' ∧ Hid (m2 = 0 → ∃ B, p = .pointer (some ⟨B, 0, none⟩) ∧ TrieAt w' w'.heap.size B T2)) rfl rfl (by go_simp <;> rfl) ((build_any _ _ W5 hP5 hl2H.out T2 hTH2 m2 hmH2).mono fun e w' h => by obtain ⟨p, he, h⟩ := h; exact ⟨_, he, p, rfl, h⟩) ?_)
      rintro W6 u6 ⟨p2, rfl, hb6, hq2⟩
      have hB6 := hB5.trans (hb6.mono hB5.size)
      refine ⟨fun w' => Below w1.heap.size w1 w', fun w h => h, hB6, ?_⟩
      iterate 5 refine wpT_q rfl rfl (fun w' hS => by go_simp; rfl) (by go_simp; rfl) ?_
      refine wpT_nil ?_
      have hs6 := hB6.size
      have hX6 := hXb _ hB6
      have hWe := hW1.trans (hB6.mono hlw)
      clear hP5 hb6 hB5 hB hX hXb
      rcases hmm with hm0 | ⟨hm1, hm21⟩
      · obtain ⟨B1, hp1, ht1⟩ := hq1.out hm0
        have ht1 := ht1.below hB6 (Nat.le_refl _)
        subst hp1
        subst hm0
        rcases hmm2 with hm20 | hm21
        · obtain ⟨B2, hp2, ht2⟩ := hq2.out hm20
          subst hp2
          subst hm20
          have c0 : W6.cell? ⟨w.heap.size, 0, none⟩ = some (.int .i64 x.lo) := by rw [cell_of_row _ _ _ _ _ _ hX6]; rfl
          have c1 : W6.cell? ⟨w.heap.size, 1, none⟩ = some (.int .i64 x.hi) := by rw [cell_of_row _ _ _ _ _ _ hX6]; rfl
          have c2 : W6.cell? ⟨w.heap.size, 2, none⟩ = some (.int .u8 x.v) := by rw [cell_of_row _ _ _ _ _ _ hX6]; rfl
          have ht1a := ht1
          have hfw : (T.F.length : Int) ≤ 256 := by have := ht1.few; omega
          have ht2a := ht2
          by_cases hc1 : x.lo ≤ r
          · by_cases hc2 : r ≤ x.hi
            · have hv := hinH.out rfl hc1 hc2
              go_wp2_with fail
              refine wp_region_G [[(true,0),(true,1),(true,3),(true,4),(false,2),(true,5),(true,6)]] (by kernel_rfl) (by kernel_rfl) (by kernel_rfl) (by decide) (fun c a d v w h => by cases d <;> exact h) ?_
              refine wpGs_seg (fun w' => w'.heap = W6.heap ∧ w'.cell? ⟨w.heap.size, 2, none⟩ = some (.int .u8 x.v)) ⟨rfl, c2⟩ ?_
              iterate 4 refine wpG_q rfl rfl (fun w' hS => by have hS2 := hS.2; go_simp; rfl) (by go_simp; rfl) ?_
              refine wpG_call (f := 14) (args := #[.pointer (some ⟨B2, 0, none⟩), .int .i64 r]) (v := fun w' u => u = .int .u8 x.v ∧ ∃ n', w' = W6.drew.drewN n') rfl rfl (by go_simp <;> rfl) ((of_any W6.drew _ B2 T2 r (ht2.heap rfl)).mono fun e w' h => by obtain ⟨he, h⟩ := h; exact ⟨_, he, by rw [hv], h⟩) ?_
              rintro w7 u7 ⟨rfl, n7, rfl⟩
              refine ⟨fun w' => w'.heap = W6.heap ∧ w'.cell? ⟨w.heap.size, 2, none⟩ = some (.int .u8 x.v), fun w h => h, ⟨rfl, c2⟩, ?_⟩
              iterate 2 refine wpG_q rfl rfl (fun w' hS => by go_simp; rfl) (by go_simp; rfl) ?_
              refine wpG_nil (wpGs_nil ?_)
              go_wp2
              go_ret
              exact ⟨by simp, below_drewN hWe.drew _⟩
            · have hv := houtH.out (fun h => hc2 h.2)
              have hc2' : x.hi < r := by omega
              clear hc2
              go_wp2_with (first
                | (go_at_call 14; have k1 := ht2a; clear ht2a; refine (of_any _ _ B2 T2 _ (by exact k1.heap rfl)).mono ?_; clear k1; rintro e w2 ⟨rfl, n2, rfl⟩)
                | (go_at_call 14; have k1 := ht1a; clear ht1a; refine (of_any _ _ B1 T _ (by exact k1.heap rfl)).mono ?_; clear k1; rintro e w3 ⟨rfl, n3, rfl⟩; rw [← hv])
                | (go_at_call 16; have k1 := ht2; clear ht2; refine (blocks_any _ _ B2 T2 (by exact k1.heap rfl)).mono ?_; clear k1; rintro e w4 ⟨rfl, rfl⟩)
                | (go_at_call 16; have k1 := ht1; clear ht1; refine (blocks_any _ _ B1 T (by exact k1.heap rfl)).mono ?_; clear k1; rintro e w5 ⟨rfl, rfl⟩))
              go_ret
              exact ⟨by simp, below_drewN hWe _⟩
          · have hv := houtH.out (fun h => hc1 h.1)
            have hc1' : r < x.lo := by omega
            clear hc1
            go_wp2_with (first
                | (go_at_call 14; have k1 := ht2a; clear ht2a; refine (of_any _ _ B2 T2 _ (by exact k1.heap rfl)).mono ?_; clear k1; rintro e w2 ⟨rfl, n2, rfl⟩)
                | (go_at_call 14; have k1 := ht1a; clear ht1a; refine (of_any _ _ B1 T _ (by exact k1.heap rfl)).mono ?_; clear k1; rintro e w3 ⟨rfl, n3, rfl⟩; rw [← hv])
                | (go_at_call 16; have k1 := ht2; clear ht2; refine (blocks_any _ _ B2 T2 (by exact k1.heap rfl)).mono ?_; clear k1; rintro e w4 ⟨rfl, rfl⟩)
                | (go_at_call 16; have k1 := ht1; clear ht1; refine (blocks_any _ _ B1 T (by exact k1.heap rfl)).mono ?_; clear k1; rintro e w5 ⟨rfl, rfl⟩))
            go_ret
            exact ⟨by simp, below_drewN hWe _⟩
        · subst hm21
          go_wp2
          go_ret
          exact ⟨rfl, hWe⟩
      · subst hm1
        subst hm21
        go_wp2
        go_ret
        exact ⟨rfl, hWe⟩
  · obtain ⟨g31, hg31⟩ : ∃ g, g = W.heap.size := ⟨_, rfl⟩
    refine wpE_r (fun w' => Below w1.heap.size w1 w') rfl rfl (exec_buildSlice_one 22 36 (.tmp 30) rfl #[.int .i64 x.lo, .int .i64 x.hi, .int .u8 x.v] (by rfl) _ _ _ propsU infoProp (by rfl) (by decide) (by decide)) (by go_simp; rfl) (fun w h => h) (hB.alloc hBs _) ?_
    have hG := heap_alloc_new W (.cells #[.int .i64 x.lo, .int .i64 x.hi, .int .u8 x.v] 36)
    have hB := hB.alloc hBs (.cells #[.int .i64 x.lo, .int .i64 x.hi, .int .u8 x.v] 36)
    have hBs : w1.heap.size ≤ (W.alloc (.cells #[.int .i64 x.lo, .int .i64 x.hi, .int .u8 x.v] 36)).heap.size := hB.size
    have hlt31 : g31 < (W.alloc (.cells #[.int .i64 x.lo, .int .i64 x.hi, .int .u8 x.v] 36)).heap.size := by rw [World.size_alloc, hg31]; omega
    rw [← hg31] at hG ⊢
    clear hg31
    generalize W.alloc (.cells #[.int .i64 x.lo, .int .i64 x.hi, .int .u8 x.v] 36) = W at hG hB hBs hlt31 ⊢
    obtain ⟨g27, hg27⟩ : ∃ g, g = W.heap.size := ⟨_, rfl⟩
    refine wpT_e (wpE_r (fun w' => Below w1.heap.size w1 w') rfl rfl (exec_buildSlice_none 22 36 rfl _ propsU (size_of infoProp)) (by go_simp; rfl) (fun w h => h) (hB.alloc hBs _) ?_)
    have hrow := ownsRow_none W 36 3 w1.heap.size hBs
    have hB := hB.alloc hBs (.cells #[] 36)
    have hBs : w1.heap.size ≤ (W.alloc (.cells #[] 36)).heap.size := hB.size
    have hlt27 : g27 < (W.alloc (.cells #[] 36)).heap.size := by rw [World.size_alloc, hg27]; omega
    rw [← hg27] at hrow ⊢
    have hG := (Below.heap_alloc W (.cells #[] 36) g31 hlt31).trans hG
    have hlt31 : g31 < (W.alloc (.cells #[] 36)).heap.size := by rw [World.size_alloc]; omega
    have hne : g31 ≠ g27 := by omega
    clear hg27
    generalize W.alloc (.cells #[] 36) = W at hrow hB hBs hlt27 hG hlt31 ⊢
    obtain ⟨g29, c29, W, hr29, hrow29, hg29⟩ := run_append_props (w := W) 22 w1.heap.size _ [] hrow ⟨_, _, rfl⟩ _ l w.heap.size (hPl.below hB hlw) (by simp; omega) hBs
    simp only [List.length_nil, Nat.zero_add, List.nil_append] at hr29 hrow29
    have hB2 := hB.grown hg29 hBs (fun k e => (hrow.lt k e).1)
    refine wpT_e (wpE_r (fun w' => Below w1.heap.size w1 w') rfl rfl (exec_append (.tmp 27) (.tmp 28) 22 rfl (v := .slice (some ⟨g27, 0, none⟩) 0 0) (u := .slice ao l.length c) (by rfl) (by rfl) hr29) (by go_simp; rfl) (fun w h => h) hB2 ?_)
    have hG := (hg29.block g31 hlt31 (fun e => by simp [Value.ownBlock] at e; exact hne e)).trans hG
    have hlt31 : g31 < W.heap.size := Nat.lt_of_lt_of_le hlt31 hg29.size
    have hrow := hrow29
    have hB := hB2
    have hBs := hB.size
    clear hr29 hrow29 hB2 hg29
    obtain ⟨g32, c32, W5, hr32, hrow32, hg32⟩ := run_append_props 22 w1.heap.size _ l hrow ⟨_, _, rfl⟩ _ [x] _ (PropsAt.one hG hlt31 hfx) (by simp; omega) hBs
    simp only [List.length_singleton] at hr32 hrow32
    have hB5 := hB.grown hg32 hBs (fun k e => (hrow.lt k e).1)
    refine wpT_e (wpE_r (fun w' => Below w1.heap.size w1 w') rfl rfl (exec_append (.tmp 29) (.tmp 31) 22 rfl (v := .slice (some ⟨g29, 0, none⟩) l.length c29) (u := .slice (some ⟨g31, 0, none⟩) 1 1) (by rfl) (by rfl) hr32) (by go_simp; rfl) (fun w h => h) hB5 ?_)
    have hP5 := PropsAt.of_own hrow32 (by have := hl2H.out; omega) hflH.out
    clear hr32 hg32 hrow32 hrow hG
    refine wpT_e (wpE_call (f := 12) (args := #[.slice (some ⟨g32, 0, none⟩) (l.length + 1) c32]) (v := fun w' u => ∃ p, u = .tuple #[p, .int .i64 m2] ∧ Below W5.heap.size W5 w' ∧ Hid (m2 = 0 → ∃ B, p = .pointer (some ⟨B, 0, none⟩) ∧ TrieAt w' w'.heap.size B T2)) rfl rfl (by go_simp <;> rfl) ((build_any _ _ W5 hP5 hl2H.out T2 hTH2 m2 hmH2).mono fun e w' h => by obtain ⟨p, he, h⟩ := h; exact ⟨_, he, p, rfl, h⟩) ?_)
    rintro W6 u6 ⟨p2, rfl, hb6, hq2⟩
    have hB6 := hB5.trans (hb6.mono hB5.size)
    refine ⟨fun w' => Below w1.heap.size w1 w', fun w h => h, hB6, ?_⟩
    iterate 5 refine wpT_q rfl rfl (fun w' hS => by go_simp; rfl) (by go_simp; rfl) ?_
    refine wpT_nil ?_
    have hs6 := hB6.size
    have hX6 := hXb _ hB6
    have hWe := hW1.trans (hB6.mono hlw)
    clear hP5 hb6 hB5 hB hX hXb
    rcases hmm with hm0 | ⟨hm1, hm21⟩
    · obtain ⟨B1, hp1, ht1⟩ := hq1.out hm0
      have ht1 := ht1.below hB6 (Nat.le_refl _)
      subst hp1
      subst hm0
      rcases hmm2 with hm20 | hm21
      · obtain ⟨B2, hp2, ht2⟩ := hq2.out hm20
        subst hp2
        subst hm20
        have c0 : W6.cell? ⟨w.heap.size, 0, none⟩ = some (.int .i64 x.lo) := by rw [cell_of_row _ _ _ _ _ _ hX6]; rfl
        have c1 : W6.cell? ⟨w.heap.size, 1, none⟩ = some (.int .i64 x.hi) := by rw [cell_of_row _ _ _ _ _ _ hX6]; rfl
        have c2 : W6.cell? ⟨w.heap.size, 2, none⟩ = some (.int .u8 x.v) := by rw [cell_of_row _ _ _ _ _ _ hX6]; rfl
        have ht1a := ht1
        have hfw : (T.F.length : Int) ≤ 256 := by have := ht1.few; omega
        have ht2a := ht2
        by_cases hc1 : x.lo ≤ r
        · by_cases hc2 : r ≤ x.hi
          · have hv := hinH.out rfl hc1 hc2
            go_wp2_with fail
            refine wp_region_G [[(true,0),(true,1),(true,3),(true,4),(false,2),(true,5),(true,6)]] (by kernel_rfl) (by kernel_rfl) (by kernel_rfl) (by decide) (fun c a d v w h => by cases d <;> exact h) ?_
            refine wpGs_seg (fun w' => w'.heap = W6.heap ∧ w'.cell? ⟨w.heap.size, 2, none⟩ = some (.int .u8 x.v)) ⟨rfl, c2⟩ ?_
            iterate 4 refine wpG_q rfl rfl (fun w' hS => by have hS2 := hS.2; go_simp; rfl) (by go_simp; rfl) ?_
            refine wpG_call (f := 14) (args := #[.pointer (some ⟨B2, 0, none⟩), .int .i64 r]) (v := fun w' u => u = .int .u8 x.v ∧ ∃ n', w' = W6.drew.drewN n') rfl rfl (by go_simp <;> rfl) ((of_any W6.drew _ B2 T2 r (ht2.heap rfl)).mono fun e w' h => by obtain ⟨he, h⟩ := h; exact ⟨_, he, by rw [hv], h⟩) ?_
            rintro w7 u7 ⟨rfl, n7, rfl⟩
            refine ⟨fun w' => w'.heap = W6.heap ∧ w'.cell? ⟨w.heap.size, 2, none⟩ = some (.int .u8 x.v), fun w h => h, ⟨rfl, c2⟩, ?_⟩
            iterate 2 refine wpG_q rfl rfl (fun w' hS => by go_simp; rfl) (by go_simp; rfl) ?_
            refine wpG_nil (wpGs_nil ?_)
            go_wp2
            go_ret
            exact ⟨by simp, below_drewN hWe.drew _⟩
          · have hv := houtH.out (fun h => hc2 h.2)
            have hc2' : x.hi < r := by omega
            clear hc2
            go_wp2_with (first
              | (go_at_call 14; have k1 := ht2a; clear ht2a; refine (of_any _ _ B2 T2 _ (by exact k1.heap rfl)).mono ?_; clear k1; rintro e w2 ⟨rfl, n2, rfl⟩)
              | (go_at_call 14; have k1 := ht1a; clear ht1a; refine (of_any _ _ B1 T _ (by exact k1.heap rfl)).mono ?_; clear k1; rintro e w3 ⟨rfl, n3, rfl⟩; rw [← hv])
              | (go_at_call 16; have k1 := ht2; clear ht2; refine (blocks_any _ _ B2 T2 (by exact k1.heap rfl)).mono ?_; clear k1; rintro e w4 ⟨rfl, rfl⟩)
              | (go_at_call 16; have k1 := ht1; clear ht1; refine (blocks_any _ _ B1 T (by exact k1.heap rfl)).mono ?_; clear k1; rintro e w5 ⟨rfl, rfl⟩))
            go_ret
            exact ⟨by simp, below_drewN hWe _⟩
        · have hv := houtH.out (fun h => hc1 h.1)
          have hc1' : r < x.lo := by omega
          clear hc1
          go_wp2_with (first
              | (go_at_call 14; have k1 := ht2a; clear ht2a; refine (of_any _ _ B2 T2 _ (by exact k1.heap rfl)).mono ?_; clear k1; rintro e w2 ⟨rfl, n2, rfl⟩)
              | (go_at_call 14; have k1 := ht1a; clear ht1a; refine (of_any _ _ B1 T _ (by exact k1.heap rfl)).mono ?_; clear k1; rintro e w3 ⟨rfl, n3, rfl⟩; rw [← hv])
              | (go_at_call 16; have k1 := ht2; clear ht2; refine (blocks_any _ _ B2 T2 (by exact k1.heap rfl)).mono ?_; clear k1; rintro e w4 ⟨rfl, rfl⟩)
              | (go_at_call 16; have k1 := ht1; clear ht1; refine (blocks_any _ _ B1 T (by exact k1.heap rfl)).mono ?_; clear k1; rintro e w5 ⟨rfl, rfl⟩))
          go_ret
          exact ⟨by simp, below_drewN hWe _⟩
      · subst hm21
        go_wp2
        go_ret
        exact ⟨rfl, hWe⟩
    · subst hm1
      subst hm21
      go_wp2
      go_ret
      exact ⟨rfl, hWe⟩

theorem trieLater_walk (a : Option Addr) (n c : Nat) {w : World} (h : n ≤ 30 → ∃ l : List P3, l.length = n ∧ PropsAt w w.heap.size (.slice a n c) l) (x : P3) (hx : Fits [x]) (r : Int) (_hr : -9223372036854775808 ≤ r ∧ r ≤ 9223372036854775807) :
    Calls Try.prog 4 #[.slice a n c, propV x, .int .i64 r] w fun e w' => e = .returned (.bool true) ∧ Below w.heap.size w w' := by
  by_cases hn : n ≤ 30
  · obtain ⟨l, hl, hP⟩ := h hn
    exact later_short _ l x r w hP (by omega) hx
  · exact later_long a n c x r w (by omega)
end Go.Proofs.Ytpaijpdmeiagfaa
