/- Clusters: At. -/
import Derived.Test.YtpaijpdmeiagfaaDoorCc
import Derived.Test.YtpaijpdmeiagfaaDoorCd
import Derived.BigRegionIn
import Derived.Sort.BigQuietIn
set_option linter.unusedVariables false
set_option linter.unusedSimpArgs false
namespace Go.Proofs.Tx
/-- what At hands back -/
def AtOk (f : List Sg → Sg → List Sg → Bool) (t : List Sg) (i a b : Int) : Prop :=
  if i < 0 ∨ (t.length : Int) < i then a = 0 ∧ b = 0
  else if i = t.length then a = i ∧ b = i
  else ∃ x y : Nat, a = x ∧ b = y ∧ IsFrom f t i.toNat x ∧ IsTo f t i.toNat y ∧ y ≤ t.length
theorem AtOk.uniq {f : List Sg → Sg → List Sg → Bool} {t : List Sg} {i a b c d : Int} (h : AtOk f t i a b) (g : AtOk f t i c d) : a = c ∧ b = d := by
  unfold AtOk at h g
  split at h
  · rename_i hh
    rw [if_pos hh] at g
    omega
  · rename_i hh
    rw [if_neg hh] at g
    split at h
    · rename_i h2
      rw [if_pos h2] at g
      omega
    · rename_i h2
      rw [if_neg h2] at g
      obtain ⟨x, y, rfl, rfl, h3, h4, _⟩ := h
      obtain ⟨x', y', rfl, rfl, g3, g4, _⟩ := g
      rw [h3.uniq g3, h4.uniq g4]
      exact ⟨rfl, rfl⟩
theorem isFrom_of {f : List Sg → Sg → List Sg → Bool} {t : List Sg} {i m : Int} (h0 : 0 ≤ m) (h1 : m ≤ i) (h2 : i ≤ t.length) (h : brkI f t m = true) (hno : ∀ k : Int, m < k → k ≤ i → brkI f t k = false) : IsFrom f t i.toNat m.toNat := by
  refine ⟨by omega, ?_, fun k hk hk2 => ?_⟩
  · have := brkI_nat (f := f) (t := t) (i := m.toNat) (by omega)
    rw [Int.toNat_of_nonneg h0] at this
    rw [← this]; exact h
  · have := hno k (by omega) (by omega)
    rwa [brkI_nat (by omega)] at this
/-- the first place beyond a number, of the places that come in order -/
theorem isTo_of {f : List Sg → Sg → List Sg → Bool} {t : List Sg} {i p : Int} {q : List Int} (h0 : 0 ≤ i) (hp : q ++ [p] <+: plI f t) (hq : ∀ y ∈ q, y ≤ i) (h : i < p) : ∃ y : Nat, p = y ∧ IsTo f t i.toNat y ∧ y ≤ t.length := by
  have hm : p ∈ plI f t := hp.subset (by simp)
  have hr := plI_rng p hm
  obtain ⟨y, hy, rfl⟩ := List.mem_map.1 hm
  obtain ⟨hy1, hy2⟩ := placesOf_mem.1 hy
  refine ⟨y, rfl, ⟨?_, hy2, fun k hk hk2 => ?_⟩, hy1⟩
  · have : i < (y : Int) := h
    omega
  · cases hb : brkAt f t k with
    | false => rfl
    | true =>
      exfalso
      have hk' : i < (k : Int) := by omega
      -- the places ahead of y are those of q
      have e : plTo f t y = q := by
        have h1 : plTo f t (y + 1) <+: plI f t := by rw [← plTo_all]; exact plTo_pre (by omega)
        rw [plTo_yes hy2] at h1
        have hnd : (plI f t).Nodup := by
          unfold plI placesOf
          exact List.Pairwise.map _ (fun a b h e => h (by have e2 : ((a : Nat) : Int) = ((b : Nat) : Int) := e; omega)) (List.nodup_range.filter _)
        have hpos : ∀ (l m : List Int) (x : Int), l ++ [x] <+: plI f t → m ++ [x] <+: plI f t → l = m := by
          intro l m x hl hm
          obtain ⟨r, hr⟩ := hl
          obtain ⟨s, hs⟩ := hm
          have g1 : (plI f t)[l.length]? = some x := by rw [← hr]; simp
          have g2 : (plI f t)[m.length]? = some x := by rw [← hs]; simp
          have g3 : l.length = m.length := by
            obtain ⟨a1, a2⟩ := List.getElem?_eq_some_iff.1 g1
            obtain ⟨b1, b2⟩ := List.getElem?_eq_some_iff.1 g2
            have hp := List.pairwise_iff_getElem.1 (List.nodup_iff_pairwise_ne.1 hnd)
            rcases Nat.lt_trichotomy l.length m.length with c | c | c
            · exact absurd (a2.trans b2.symm) (hp _ _ a1 b1 c)
            · exact c
            · exact absurd (b2.trans a2.symm) (hp _ _ b1 a1 c)
          have e1 : (plI f t).take l.length = l := by rw [← hr]; simp
          have e2 : (plI f t).take m.length = m := by rw [← hs]; simp
          rw [← e1, ← e2, g3]
        exact hpos _ _ _ h1 hp
      have hmem : (k : Int) ∈ q := by
        rw [← e]
        unfold plTo
        exact List.mem_map.2 ⟨k, List.mem_filter.2 ⟨List.mem_range.2 hk2, hb⟩, rfl⟩
      have := hq _ hmem
      omega
theorem places_past {f : List Sg → Sg → List Sg → Bool} {t : List Sg} {i : Int} (h : i < t.length) (hq : ∀ y ∈ plI f t, y ≤ i) : False := by
  have hm : (t.length : Int) ∈ plI f t := List.mem_map.2 ⟨t.length, placesOf_mem.2 ⟨Nat.le_refl _, brkAt_end t⟩, rfl⟩
  have := hq _ hm
  omega
end Go.Proofs.Tx
namespace Go.Proofs.YtpaijpdmeiagfaaDoor
open Go Go.RowKit Go.WideMaps Go.Shelf Go.Proofs.Kk Go.Proofs.Tm Go.Proofs.Gg Go.Proofs.Tx Go.Proofs.Gr
attribute [local go_sem] Oper.semAt_some

set_option maxRecDepth 100000 in
set_option maxHeartbeats 2000000 in
theorem cat_out (w : World) (D : Nat) (ao : Option Addr) (c : Nat) (zs : List Int) (i : Int) (h : i < 0 ∨ (zs.length : Int) < i) :
    Calls Tryd.prog 47 #[.pointer (some ⟨D, 0, none⟩), .slice ao zs.length c, .int .i64 i] w fun e w' => e = .returned (.tuple #[.int .i64 0, .int .i64 0]) ∧ Below w.heap.size w w' := by
  refine (callsIn_wide (n := 6)).1 ?_
  refine callsIn_of_wp_marks Tryd.func47 rfl trivial ?_ rfl
  simp only [Tryd.ntmps47, List.size_toArray, List.length_cons, List.length_nil, Nat.reduceAdd, Nat.reduceSub, Array.replicate_succ, Array.replicate_zero, List.push_toArray, List.append_toArray, List.nil_append, List.cons_append]
  by_cases h0 : i < 0
  · clear h
    gi_wp2
    exact ⟨_, results_tmp2 rfl _ _ _, rfl, (Below.refl _ _).alloc (Nat.le_refl _) _⟩
  · have h1 : (zs.length : Int) < i := by omega
    have h2 : 0 ≤ i := by omega
    clear h h0
    gi_wp2
    exact ⟨_, results_tmp2 rfl _ _ _, rfl, (Below.refl _ _).alloc (Nat.le_refl _) _⟩

theorem Kp2.trans {n₀ B1 B2 : Nat} {A B C : World} (h : Kp2 n₀ B1 B2 A B) (k : Kp2 n₀ B1 B2 B C) : Kp2 n₀ B1 B2 A C := ⟨h.1.trans k.1, k.2.1.trans h.2.1, k.2.2.trans h.2.2⟩
theorem Kp2.put {n₀ B1 B2 N : Nat} (hn : n₀ ≤ N) (h1 : B1 < N) (h2 : B2 < N) (W : World) (l : Nat) (o o' : Obj) (hl : N ≤ l) (h : W.heap[l]? = some o) : Kp2 n₀ B1 B2 W (W.putObj l o') :=
  ⟨(Below.refl n₀ W).grown (grownBy_putObj' W l o') (by have := (Array.getElem?_eq_some_iff.1 h).1; omega) (fun k e => by cases e; omega), World.putObj_heap_other (by omega), World.putObj_heap_other (by omega)⟩
theorem Kp2.refl {n₀ B1 B2 : Nat} (W : World) : Kp2 n₀ B1 B2 W W := ⟨Below.refl _ _, rfl, rfl⟩
theorem Kp2.set {n₀ B1 B2 : Nat} (W : World) (b : Nat) (v : Value) (hb : n₀ ≤ b) (h1 : B1 ≠ b) (h2 : B2 ≠ b) : Kp2 n₀ B1 B2 W (W.setCell ⟨b, 0, none⟩ v) :=
  ⟨(Below.refl _ _).setCell (p := ⟨b, 0, none⟩) hb _, Below.heap_setCell _ _ _ _ h1, Below.heap_setCell _ _ _ _ h2⟩

/-- between two rounds of At -/
structure AtI (w : World) (Bi Bt : Nat) (i : Int) (pre : List Int) (W : World) : Prop where
  to : ∃ u, Boxed W Bt 3 (.int .i64 u)
  le : ∀ y ∈ pre, y ≤ i
  at_ : Boxed W Bi 3 (.int .i64 i)
  bel : Below w.heap.size w W
/-- .. where the loop is left -/
def AtX (w : World) (Bi Bt : Nat) (i : Int) (c : Code) (pre : List Int) (W : World) : Prop :=
  c = .exit 2 ∧ ∃ q p, pre = q ++ [p] ∧ (∀ y ∈ q, y ≤ i) ∧ i < p ∧ Boxed W Bt 3 (.int .i64 p) ∧ Below w.heap.size w W
theorem AtI.own (w : World) (Bi Bt N : Nat) (i : Int) (h1 : Bi < N) (h2 : Bt < N) (hw : w.heap.size ≤ N) : OwnFrom N (AtI w Bi Bt i) := by
  rintro s W W' row ⟨⟨u, hu⟩, h3, h4, hb⟩ hg hr
  have ne : ∀ k, k < N → some k ≠ row := fun k hk e => by have := (hr k e.symm).1; omega
  exact ⟨⟨u, hu.kept hg (ne _ h2)⟩, h3, h4.kept hg (ne _ h1), hb.grown hg hb.size (fun k e => by have := (hr k e).1; omega)⟩
theorem AtX.own (w : World) (Bi Bt N : Nat) (i : Int) (c : Code) (h2 : Bt < N) (hw : w.heap.size ≤ N) : OwnFrom N (AtX w Bi Bt i c) := by
  rintro s W W' row ⟨h1, q, p, h3, h4, h5, h6, hb⟩ hg hr
  have ne : ∀ k, k < N → some k ≠ row := fun k hk e => by have := (hr k e.symm).1; omega
  exact ⟨h1, q, p, h3, h4, h5, h6.kept hg (ne _ h2), hb.grown hg hb.size (fun k e => by have := (hr k e).1; omega)⟩

set_option maxRecDepth 100000 in
set_option maxHeartbeats 8000000 in
theorem cat_in (w : World) (D : Nat) (ao : Option Addr) (c : Nat) (zs : List Int) (hsm : zs.length ≤ 1000000) (i : Int) (hs : ShipAt w w.heap.size D) (ht : IntsAt w w.heap.size (.slice ao zs.length c) zs) (h0 : 0 ≤ i) (h1 : i ≤ zs.length) :
    Calls Tryd.prog 47 #[.pointer (some ⟨D, 0, none⟩), .slice ao zs.length c, .int .i64 i] w fun e w' => ∃ a b, e = .returned (.tuple #[.int .i64 a, .int .i64 b]) ∧ AtOk cf (sgC zs) i a b ∧ Below w.heap.size w w' := by
  refine (callsIn_wide (n := 6)).1 ?_
  refine callsIn_of_wp_marks Tryd.func47 rfl trivial ?_ rfl
  simp only [Tryd.ntmps47, List.size_toArray, List.length_cons, List.length_nil, Nat.reduceAdd, Nat.reduceSub, Array.replicate_succ, Array.replicate_zero, List.push_toArray, List.append_toArray, List.nil_append, List.cons_append]
  have hi2 : i ≤ 1000000 := by omega
  gi_wp2
  gi_region
  gi_wp2
  have hB : Below w.heap.size w ((w.alloc (.cells #[.int .i64 i] 3)).alloc (.cells #[.int .i64 i] 3)).drew := (((Below.refl _ w).alloc (Nat.le_refl _) _).alloc (by simp) _).drew
  have bT : Boxed ((w.alloc (.cells #[.int .i64 i] 3)).alloc (.cells #[.int .i64 i] 3)).drew (w.heap.size + 1) 3 (.int .i64 i) := by
    have := heap_alloc_new (w.alloc (.cells #[.int .i64 i] 3)) (.cells #[.int .i64 i] 3)
    rw [World.size_alloc] at this
    exact this
  have bI : Boxed ((w.alloc (.cells #[.int .i64 i] 3)).alloc (.cells #[.int .i64 i] 3)).drew w.heap.size 3 (.int .i64 i) :=
    (Below.heap_alloc _ _ _ (by simp)).trans (heap_alloc_new w _)
  have hsz : ((w.alloc (.cells #[.int .i64 i] 3)).alloc (.cells #[.int .i64 i] 3)).drew.heap.size = w.heap.size + 2 := by simp
  generalize ((w.alloc (.cells #[.int .i64 i] 3)).alloc (.cells #[.int .i64 i] 3)).drew = W0 at hB bT bI hsz ⊢
  have hs0 := (hs.below hB (Nat.le_refl _))
  have ht0 := (ht.below hB (Nat.le_refl _))
  have hbrk0 : Hid (brkI cf (sgC zs) 0 = true) := brkI_ends (.inl rfl)
  gi_loopw [8] (fun f wr => ∃ m : Int, 0 ≤ m ∧ m ≤ i ∧ f = .int .i64 m ∧ Hid (∀ k : Int, m < k → k ≤ i → brkI cf (sgC zs) k = false) ∧ wr.heap = W0.heap ∧ Below w.heap.size w wr) (fun f _ => (intOf f).toNat)
  case atStart => exact ⟨i, h0, Int.le_refl _, rfl, (fun k g1 g2 => by omega), rfl, hB⟩
  case round =>
    obtain ⟨m, hm0, hm1, rfl, hno, hh, hbw⟩ := hrel
    have hBr : CallsIn Fence.wide (6 - 1) Tryd.prog 46 #[.pointer (some ⟨D, 0, none⟩), .slice ao zs.length c, .int .i64 m] wr fun e W' => e = .returned (.bool (brkI cf (sgC zs) m)) ∧ ∃ n', W' = wr.drewN n' :=
      callsIn_wide.2 (cbreak_any wr _ D _ zs m (hs0.heap hh) (ht0.heap hh))
    have hBrH := Lib.hid hBr
    have hhH := Lib.hid hh
    clear hBr hh
    cases hbv : brkI cf (sgC zs) m with
    | false =>
      rw [hbv] at hBrH
      have hm2 : 1 ≤ m := by
        rcases Int.lt_or_le 0 m with g | g
        · omega
        · have : m = 0 := by omega
          subst this
          have := hbrk0.out
          rw [hbv] at this; cases this
      have hno' : Hid (∀ k : Int, m - 1 < k → k ≤ i → brkI cf (sgC zs) k = false) := fun k g1 g2 => by
        by_cases e : k = m
        · rw [e]; exact hbv
        · exact hno.out k (by omega) g2
      clear hbv hno hbrk0
      gi_wp2_with (refine ⟨trivial, ?_⟩; gi_at_call 46; refine hBrH.out.mono ?_; rintro e w1 ⟨rfl, k1, rfl⟩)
      go_roundw
      case rel => exact ⟨m - 1, by omega, by omega, rfl, hno', hhH.out, below_drewN hbw _⟩
      case measure => simp [intOf]; omega
    | true =>
      rw [hbv] at hBrH
      have hfrom : Hid (IsFrom cf (sgC zs) i.toNat m.toNat) := isFrom_of hm0 hm1 (by rw [sgC_length]; exact h1) hbv hno.out
      have cI : wr.cell? ⟨w.heap.size, 0, none⟩ = some (.int .i64 i) := by rw [cell_of_row _ _ _ _ _ _ (show wr.heap[w.heap.size]? = _ from (by rw [hhH.out]; exact bI))]; rfl
      clear hbv hno hbrk0
      by_cases he : i = zs.length
      · have hok : Hid (AtOk cf (sgC zs) i i i) := by
          show AtOk cf (sgC zs) i i i
          unfold AtOk
          rw [if_neg (by rw [sgC_length]; omega), if_pos (by rw [sgC_length]; exact he)]
          exact ⟨rfl, rfl⟩
        have e1 : (i == (zs.length : Int)) = true := by simpa using he
        clear he
        gi_wp2_with (refine ⟨trivial, ?_⟩; gi_at_call 46; refine hBrH.out.mono ?_; rintro e w1 ⟨rfl, k1, rfl⟩)
        gi_region
        gi_wp2
        exact ⟨_, results_tmp2 rfl _ _ _, i, i, rfl, hok.out, (below_drewN hbw _).drew⟩
      · have hlt : i < zs.length := by omega
        have e1 : (i == (zs.length : Int)) = false := by simpa using he
        clear he
        have hz : wr.heap.size = w.heap.size + 2 := by rw [hhH.out]; exact hsz
        have bTw : Boxed wr (w.heap.size + 1) 3 (.int .i64 i) := (show wr.heap[w.heap.size + 1]? = _ from (by rw [hhH.out]; exact bT))
        have bIw : Boxed wr w.heap.size 3 (.int .i64 i) := (show wr.heap[w.heap.size]? = _ from (by rw [hhH.out]; exact bI))
        have hzH := Lib.hid hz
        clear hz bT bI hsz hB
        gi_wp2_with (first
          | (refine ⟨trivial, ?_⟩; gi_at_call 46; refine hBrH.out.mono ?_; rintro e w1 ⟨rfl, k1, rfl⟩)
          | (refine ⟨trivial, ?_⟩; gi_at_call 69; refine (places_in D ao zs.length c _ (wr.drewN k1)).mono ?_; rintro e w2 ⟨rfl, rfl⟩))
        have hz := hzH.out
        have hB3 : Below w.heap.size w (((wr.drewN k1).alloc (.cells #[.pointer (some ⟨D, 0, none⟩)] 24)).alloc (.cells #[.slice ao zs.length c] 22)) := ((below_drewN hbw k1).alloc (by simp; omega) _).alloc (by simp; omega) _
        have b1 : (((wr.drewN k1).alloc (.cells #[.pointer (some ⟨D, 0, none⟩)] 24)).alloc (.cells #[.slice ao zs.length c] 22)).heap[wr.heap.size + 1]? = some (.cells #[.slice ao zs.length c] 22 (0, 0)) := by
          have := heap_alloc_new ((wr.drewN k1).alloc (.cells #[.pointer (some ⟨D, 0, none⟩)] 24)) (.cells #[.slice ao zs.length c] 22)
          rwa [World.size_alloc] at this
        have b2 : (((wr.drewN k1).alloc (.cells #[.pointer (some ⟨D, 0, none⟩)] 24)).alloc (.cells #[.slice ao zs.length c] 22)).heap[wr.heap.size]? = some (.cells #[.pointer (some ⟨D, 0, none⟩)] 24 (0, 0)) :=
          (Below.heap_alloc _ _ _ (by simp)).trans (heap_alloc_new (wr.drewN k1) _)
        have bT3 : Boxed (((wr.drewN k1).alloc (.cells #[.pointer (some ⟨D, 0, none⟩)] 24)).alloc (.cells #[.slice ao zs.length c] 22)) (w.heap.size + 1) 3 (.int .i64 i) := Boxed.alloc (Boxed.alloc (show Boxed (wr.drewN k1) _ _ _ from bTw) _) _
        have bI3 : Boxed (((wr.drewN k1).alloc (.cells #[.pointer (some ⟨D, 0, none⟩)] 24)).alloc (.cells #[.slice ao zs.length c] 22)) w.heap.size 3 (.int .i64 i) := Boxed.alloc (Boxed.alloc (show Boxed (wr.drewN k1) _ _ _ from bIw) _) _
        have hz3 : (((wr.drewN k1).alloc (.cells #[.pointer (some ⟨D, 0, none⟩)] 24)).alloc (.cells #[.slice ao zs.length c] 22)).heap.size = wr.heap.size + 2 := by simp
        generalize ((wr.drewN k1).alloc (.cells #[.pointer (some ⟨D, 0, none⟩)] 24)).alloc (.cells #[.slice ao zs.length c] 22) = W3 at hB3 b1 b2 bT3 bI3 hz3 ⊢
        have hs3 := hs.below hB3 (Nat.le_refl _)
        have ht3 := ht.below hB3 (Nat.le_refl _)
        have hseq := places_stops (6 - 1) (by omega) (wr.heap.size + 1) wr.heap.size w.heap.size D (.slice ao zs.length c) zs (by omega) (Kp2 w.heap.size (wr.heap.size + 1) wr.heap.size) (fun A B h => h) W3 (by omega) b1 b2 hs3 ht3
        apply wpIn_rangeFunc_ownG rfl (by omega) (gf := 97) (lb := #[.pointer (some ⟨wr.heap.size + 1, 0, none⟩), .pointer (some ⟨wr.heap.size, 0, none⟩)]) rfl trivial (enters_of Tryd.func97 (by kernel_rfl) rfl) hseq Kp2.trans
          (fun W l o o' hl h _ _ => Kp2.put (by omega) (by omega) (by omega) W l o o' hl h) (Below.refl _ _) (fun _ => rfl) (AtI w w.heap.size (w.heap.size + 1) i) (AtX w w.heap.size (w.heap.size + 1) i)
          (AtI.own w _ _ _ i (by omega) (by omega) (by omega)) (fun c => AtX.own w _ _ _ i c (by omega) (by omega)) ⟨⟨_, bT3⟩, by simp, bI3, hB3⟩
        case hassign =>
          intro l x W K hK
          gi_wp2
          exact hK
        case hbody =>
          rintro l pre x W ⟨⟨u, hu⟩, hle, hat, hb⟩ hlen
          have ct := hu.cell
          have cz := hu.frozen
          have ci := hat.cell
          have hne : w.heap.size ≠ w.heap.size + 1 := by omega
          by_cases hx : i < x
          · gi_wp2
            exact ⟨(KeepsOthers.setCell _ _ _).from _, rfl, pre, x, rfl, hle, hx, hu.set _, hb.setCell (p := ⟨w.heap.size + 1, 0, none⟩) (by simp) _⟩
          · have hx' : x ≤ i := by omega
            clear hx
            gi_wp2
            refine ⟨(KeepsOthers.setCell _ _ _).from _, Kp2.set _ _ _ (by omega) (by omega) (by omega), ⟨x, hu.set _⟩, ?_, (Below.heap_setCell _ ⟨w.heap.size + 1, 0, none⟩ _ _ hne).trans hat, hb.setCell (p := ⟨w.heap.size + 1, 0, none⟩) (by simp) _⟩
            intro y hy
            rcases List.mem_append.1 hy with g | g
            · exact hle y g
            · simp at g; omega
        case hdone =>
          rintro Dd ys W hD rfl hI hK
          exact (places_past (by rw [sgC_length]; exact hlt) hI.le).elim
        case hstop =>
          rintro Dd c' pre W hD hpre ⟨rfl, q, p, rfl, hq, hp, hbox, hb⟩ hK
          obtain ⟨y, hy, hto, hyl⟩ := isTo_of h0 hpre hq hp
          have hok : Hid (AtOk cf (sgC zs) i m p) := by
            show AtOk cf (sgC zs) i m p
            unfold AtOk
            rw [if_neg (by rw [sgC_length]; omega), if_neg (by rw [sgC_length]; omega)]
            exact ⟨m.toNat, y, by omega, hy, hfrom.out, hto, hyl⟩
          have ct := hbox.cell
          clear hy hto hyl hq hpre
          gi_wp2
          gi_region
          gi_wp2
          refine ⟨by simp, .inl ⟨_, _, rfl, run_takeDeferred (show (W.drew).heap[Dd]? = _ from hK), ?_⟩⟩
          exact ⟨_, results_tmp2 rfl _ _ _, m, p, rfl, hok.out, hb.drew.trans (belowK_b (w := w) (Nat.le_refl _) W.drew Dd _ _ (by omega) (show (W.drew).heap[Dd]? = _ from hK) rfl rfl)⟩

theorem cat_any (w : World) (D : Nat) (v : Value) (zs : List Int) (hsm : zs.length ≤ 1000000) (i : Int) (hs : ShipAt w w.heap.size D) (ht : IntsAt w w.heap.size v zs) :
    Calls Tryd.prog 47 #[.pointer (some ⟨D, 0, none⟩), v, .int .i64 i] w fun e w' => ∃ a b, e = .returned (.tuple #[.int .i64 a, .int .i64 b]) ∧ AtOk cf (sgC zs) i a b ∧ Below w.heap.size w w' := by
  obtain ⟨ao, c, rfl⟩ := ht.form
  by_cases h : i < 0 ∨ (zs.length : Int) < i
  · refine (cat_out w D ao c zs i h).mono fun e w' ⟨he, hb⟩ => ⟨0, 0, he, ?_, hb⟩
    unfold AtOk
    rw [if_pos (by rw [sgC_length]; exact h)]
    exact ⟨rfl, rfl⟩
  · exact cat_in w D ao c zs hsm i hs ht (by omega) (by omega)
end Go.Proofs.YtpaijpdmeiagfaaDoor
