/- The document's clusters: All, At. -/
import Derived.Test.YtpaijpdmeiagfaaDoorDz
import Derived.Test.YtpaijpdmeiagfaaDoorCg
set_option linter.unusedVariables false
set_option linter.unusedSimpArgs false
namespace Go.Proofs.Tx
theorem isTo_up {f : List Sg → Sg → List Sg → Bool} {t : List Sg} {i m : Int} (h0 : 0 ≤ i) (h1 : i < m) (h2 : m ≤ t.length) (h : brkI f t m = true) (hno : ∀ k : Int, i < k → k < m → brkI f t k = false) : IsTo f t i.toNat m.toNat := by
  refine ⟨by omega, ?_, fun k hk hk2 => ?_⟩
  · have := brkI_nat (f := f) (t := t) (i := m.toNat) (by omega)
    rw [Int.toNat_of_nonneg (by omega)] at this
    rw [← this]; exact h
  · have := hno k (by omega) (by omega)
    rwa [brkI_nat (by omega)] at this
end Go.Proofs.Tx
namespace Go.Proofs.YtpaijpdmeiagfaaDoor
open Go Go.RowKit Go.WideMaps Go.Proofs.Kk Go.Proofs.Tm Go.Proofs.Gg Go.Proofs.Tx

set_option maxRecDepth 100000 in
set_option maxHeartbeats 4000000 in
/-- the document's All -/
theorem rall5_any (w : World) (D : Nat) (v : Value) (zs : List Int) (hsm : zs.length ≤ 1000000) (hs : RShipAt w w.heap.size D) (ht : IntsAt w w.heap.size v zs) :
    Calls Tryd.prog 45 #[.pointer (some ⟨D, 0, none⟩), v] w fun e w' => ∃ u, e = .returned u ∧ w'.ownsRow w.heap.size 3 1 u (plI cf (sgC zs)).length (ints (plI cf (sgC zs))) ∧ Below w.heap.size w w' := by
  obtain ⟨ysF, hys⟩ : ∃ ys, ys = plI cf (sgC zs) := ⟨_, rfl⟩
  rw [← hys]
  have hysH := Lib.hid hys
  clear hys
  obtain ⟨ao, c, rfl⟩ := ht.form
  obtain ⟨i0, hi, hz0, hz1, hz2⟩ := info_parts infoInt2
  have hiH := Lib.hid hi
  have hz0H := Lib.hid hz0
  have hz1H := Lib.hid hz1
  have hz2H := Lib.hid hz2
  clear hi hz0 hz1 hz2
  go_enter Tryd.func45, Tryd.ntmps45
  go_wp2
  go_loopw [5, 6] (fun vo vi wr => ∃ (k : Nat), k ≤ zs.length + 1 ∧ vi = .int .i64 k ∧ wr.ownsRow w.heap.size 3 1 vo (plTo cf (sgC zs) k).length (ints (plTo cf (sgC zs) k)) ∧ Below w.heap.size w wr) (fun _ vi _ => zs.length + 1 - (intOf vi).toNat)
  case atStart => exact ⟨0, by omega, rfl, World.ownsRow_nil _ _ _ _, Below.refl _ _⟩
  case round =>
    obtain ⟨k, hk, rfl, hrow, hb⟩ := hrel
    by_cases hlt : k ≤ zs.length
    · have hk1 : (k : Int) ≤ zs.length := by omega
      have hB := rbreak_any wr w.heap.size D _ zs k (hs.below hb (Nat.le_refl _)) (ht.below hb (Nat.le_refl _))
      rw [brkI_nat (by rw [sgC_length]; exact hlt)] at hB
      have hyes := plTo_yes (f := cf) (t := sgC zs) (k := k)
      have hno := plTo_no (f := cf) (t := sgC zs) (k := k)
      have hlen : (plTo cf (sgC zs) k).length ≤ 1000000 := Nat.le_trans (plTo_len _ _ _) (by omega)
      obtain ⟨b, hb'⟩ : ∃ b, b = brkAt cf (sgC zs) k := ⟨_, rfl⟩
      rw [← hb'] at hB hyes hno
      clear hb'
      have hBH := Lib.hid hB
      have hyesH := Lib.hid hyes
      have hnoH := Lib.hid hno
      generalize plTo cf (sgC zs) k = ys at hrow hyesH hnoH hlen
      clear hB hyes hno hk
      cases b with
      | false =>
        go_wp2_with (go_at_call 49; refine hBH.out.mono ?_; rintro e w1 ⟨rfl, n1, rfl⟩)
        go_roundw
        case rel => exact ⟨k + 1, by omega, by go_num, by rw [hnoH.out trivial]; exact ownsRow_heap hrow rfl, below_drewN hb _⟩
        case measure => simp [intOf]; omega
      | true =>
        go_wp2_with (first
          | (go_at_call 49; refine hBH.out.mono ?_; rintro e w1 ⟨rfl, n1, rfl⟩; have hrow1 : (wr.drewN n1).ownsRow w.heap.size 3 1 _ _ _ := ownsRow_heap hrow rfl; have hb1 := below_drewN hb n1; have hsz1 : (wr.drewN n1).heap.size = wr.heap.size := rfl)
          | (at_builtin; refine wpList_append_own _ rfl _ _ 22 rfl w.heap.size 3 i0 (.int .i64 0) 1 8 intsU2 hiH.out hz0H.out hz1H.out hz2H.out rfl (by decide) _ _ _ rfl (hrow1.alloc _) ⟨wr.heap.size, 0, none⟩ 1 1 [.int .i64 k] rfl rfl (cell_one_new _ _ _) (by simp [Value.oneCell']) (by unfold maxLen; omega) (by omega) (by have := hb1.size; simp; omega) ?_; intro v' w2 hown' hgrow _))
        go_roundw
        case rel =>
          refine ⟨k + 1, by omega, by go_num, ?_, ?_⟩
          · rw [hyesH.out trivial, ints_append, List.length_append]; exact hown'
          · exact below_grown (hb1.alloc hb1.size _) (hrow1.alloc _) hgrow (Nat.le_refl _) (by have := hb1.size; simp; omega)
        case measure => simp [intOf]; omega
    · obtain rfl : k = zs.length + 1 := by omega
      rw [← sgC_length zs, plTo_all, ← hysH.out] at hrow
      clear hlt hk
      go_wp2
      go_ret
      exact ⟨_, rfl, hrow, hb⟩

theorem rall5_at (w : World) (D : Nat) (v : Value) (zs : List Int) (hsm : zs.length ≤ 1000000) (hs : RShipAt w w.heap.size D) (ht : IntsAt w w.heap.size v zs) :
    Calls Tryd.prog 45 #[.pointer (some ⟨D, 0, none⟩), v] w fun e w' => ∃ u, e = .returned u ∧ IntsAt w' w'.heap.size u (plI cf (sgC zs)) ∧ Below w.heap.size w w' :=
  (rall5_any w D v zs hsm hs ht).mono fun e w' ⟨u, he, hrow, hb⟩ => ⟨u, he, IntsAt.of_own hrow (fun z hz => by have := plI_rng z hz; rw [sgC_length] at this; omega), hb⟩

set_option maxRecDepth 100000 in
set_option maxHeartbeats 2000000 in
theorem rat_out (w : World) (D : Nat) (ao : Option Addr) (c : Nat) (zs : List Int) (i : Int) (h : i < 0 ∨ (zs.length : Int) < i) :
    Calls Tryd.prog 48 #[.pointer (some ⟨D, 0, none⟩), .slice ao zs.length c, .int .i64 i] w fun e w' => e = .returned (.tuple #[.int .i64 0, .int .i64 0]) ∧ ∃ n', w' = w.drewN n' := by
  by_cases h0 : i < 0
  · clear h
    go_enter Tryd.func48, Tryd.ntmps48
    go_wp2
    go_ret2
    exact ⟨rfl, 0, rfl⟩
  · have h1 : (zs.length : Int) < i := by omega
    have h2 : 0 ≤ i := by omega
    clear h h0
    go_enter Tryd.func48, Tryd.ntmps48
    go_wp2
    go_ret2
    exact ⟨rfl, 0, rfl⟩

set_option maxRecDepth 100000 in
set_option maxHeartbeats 8000000 in
theorem rat_in (w : World) (n₀ D : Nat) (ao : Option Addr) (c : Nat) (zs : List Int) (hsm : zs.length ≤ 1000000) (i : Int) (hs : RShipAt w n₀ D) (ht : IntsAt w n₀ (.slice ao zs.length c) zs) (h0 : 0 ≤ i) (h1 : i ≤ zs.length) :
    Calls Tryd.prog 48 #[.pointer (some ⟨D, 0, none⟩), .slice ao zs.length c, .int .i64 i] w fun e w' => ∃ a b, e = .returned (.tuple #[.int .i64 a, .int .i64 b]) ∧ AtOk cf (sgC zs) i a b ∧ ∃ n', w' = w.drewN n' := by
  have hi2 : i ≤ 1000000 := by omega
  have hBk : Hid (∀ (m : Int) (W : World), W.heap = w.heap → Calls Tryd.prog 49 #[.pointer (some ⟨D, 0, none⟩), .slice ao zs.length c, .int .i64 m] W fun e w' => e = .returned (.bool (brkI cf (sgC zs) m)) ∧ ∃ n', w' = W.drewN n') := fun m W hW => rbreak_any W n₀ D _ zs m (hs.heap hW) (ht.heap hW)
  have hbrk0 : Hid (brkI cf (sgC zs) 0 = true) := brkI_ends (.inl rfl)
  have hbrkE : Hid (brkI cf (sgC zs) zs.length = true) := brkI_ends (.inr (by rw [sgC_length]))
  clear hs ht
  go_enter Tryd.func48, Tryd.ntmps48
  go_wp2_with (go_at_call 49; refine (hBk.out i w rfl).mono ?_; rintro e w1 ⟨rfl, n1, rfl⟩)
  go_loopw [8, 9] (fun f s wr => ∃ (m : Int) (b : Bool), 0 ≤ m ∧ m ≤ i ∧ f = .int .i64 m ∧ s = .bool b ∧ Hid (b = brkI cf (sgC zs) m) ∧ Hid (∀ k : Int, m < k → k ≤ i → brkI cf (sgC zs) k = false) ∧ ∃ n', wr = w.drewN n') (fun f _ _ => (intOf f).toNat)
  case atStart => exact ⟨i, _, h0, Int.le_refl _, rfl, rfl, rfl, (fun k g1 g2 => by omega), _, rfl⟩
  case round =>
    obtain ⟨m, b, hm0, hm1, rfl, rfl, hbv, hno, n', rfl⟩ := hrel
    cases b with
    | false =>
      have hm2 : 1 ≤ m := by
        rcases Int.lt_or_le 0 m with g | g
        · omega
        · have : m = 0 := by omega
          subst this
          have := hbrk0.out
          rw [← hbv.out] at this; cases this
      have hno' : Hid (∀ k : Int, m - 1 < k → k ≤ i → brkI cf (sgC zs) k = false) := fun k g1 g2 => by
        by_cases e : k = m
        · rw [e]; exact hbv.out.symm
        · exact hno.out k (by omega) g2
      clear hbv hno hbrk0
      go_wp2_with (go_at_call 49; refine (hBk.out (m - 1) (w.drewN n') rfl).mono ?_; rintro e w1 ⟨rfl, n1, rfl⟩)
      go_roundw
      case rel => exact ⟨m - 1, _, by omega, by omega, rfl, rfl, rfl, hno', _, rfl⟩
      case measure => simp [intOf]; omega
    | true =>
      have hfrom : Hid (IsFrom cf (sgC zs) i.toNat m.toNat) := isFrom_of hm0 hm1 (by rw [sgC_length]; exact h1) hbv.out.symm hno.out
      clear hbv hno hbrk0
      by_cases he : i = zs.length
      · have hok : Hid (AtOk cf (sgC zs) i i i) := by
          show AtOk cf (sgC zs) i i i
          unfold AtOk
          rw [if_neg (by rw [sgC_length]; omega), if_pos (by rw [sgC_length]; exact he)]
          exact ⟨rfl, rfl⟩
        have e1 : (i == (zs.length : Int)) = true := by simpa using he
        clear he
        go_wp2
        go_ret2
        exact ⟨i, i, rfl, hok.out, _, rfl⟩
      · have hlt : i < zs.length := by omega
        have e1 : (i == (zs.length : Int)) = false := by simpa using he
        clear he
        go_wp2_with (go_at_call 49; refine (hBk.out (i + 1) (w.drewN n') rfl).mono ?_; rintro e w1 ⟨rfl, n1, rfl⟩)
        go_loopw [10, 9] (fun f s wr => ∃ (q : Int) (b : Bool), i + 1 ≤ q ∧ q ≤ zs.length ∧ f = .int .i64 q ∧ s = .bool b ∧ Hid (b = brkI cf (sgC zs) q) ∧ Hid (∀ k : Int, i < k → k < q → brkI cf (sgC zs) k = false) ∧ ∃ n', wr = w.drewN n') (fun f _ _ => (zs.length - intOf f).toNat)
        case atStart => exact ⟨i + 1, _, Int.le_refl _, by omega, rfl, rfl, rfl, (fun k g1 g2 => by omega), _, rfl⟩
        case round =>
          obtain ⟨q, b, hq0, hq1, rfl, rfl, hqv, hqn, n', rfl⟩ := hrel
          cases b with
          | false =>
            have hq2 : q < zs.length := by
              rcases Int.lt_or_le q zs.length with g | g
              · exact g
              · have e : q = zs.length := by omega
                have := hbrkE.out
                rw [← e, ← hqv.out] at this; cases this
            have hqn' : Hid (∀ k : Int, i < k → k < q + 1 → brkI cf (sgC zs) k = false) := fun k g1 g2 => by
              by_cases e : k = q
              · rw [e]; exact hqv.out.symm
              · exact hqn.out k g1 (by omega)
            clear hqv hqn hbrkE
            go_wp2_with (go_at_call 49; refine (hBk.out (q + 1) (w.drewN n') rfl).mono ?_; rintro e w1 ⟨rfl, n1, rfl⟩)
            go_roundw
            case rel => exact ⟨q + 1, _, by omega, by omega, rfl, rfl, rfl, hqn', _, rfl⟩
            case measure => simp [intOf]; omega
          | true =>
            have hto : IsTo cf (sgC zs) i.toNat q.toNat := isTo_up h0 (by omega) (by rw [sgC_length]; exact hq1) hqv.out.symm hqn.out
            have hok : Hid (AtOk cf (sgC zs) i m q) := by
              show AtOk cf (sgC zs) i m q
              unfold AtOk
              rw [if_neg (by rw [sgC_length]; omega), if_neg (by rw [sgC_length]; omega)]
              exact ⟨m.toNat, q.toNat, by omega, by omega, hfrom.out, hto, by rw [sgC_length]; omega⟩
            clear hqv hqn hbrkE hto
            go_wp2
            go_ret2
            exact ⟨m, q, rfl, hok.out, _, rfl⟩

/-- the document's At -/
theorem rat_any (w : World) (n₀ D : Nat) (v : Value) (zs : List Int) (hsm : zs.length ≤ 1000000) (i : Int) (hs : RShipAt w n₀ D) (ht : IntsAt w n₀ v zs) :
    Calls Tryd.prog 48 #[.pointer (some ⟨D, 0, none⟩), v, .int .i64 i] w fun e w' => ∃ a b, e = .returned (.tuple #[.int .i64 a, .int .i64 b]) ∧ AtOk cf (sgC zs) i a b ∧ ∃ n', w' = w.drewN n' := by
  obtain ⟨ao, c, rfl⟩ := ht.form
  by_cases h : i < 0 ∨ (zs.length : Int) < i
  · refine (rat_out w D ao c zs i h).mono fun e w' ⟨he, hb⟩ => ⟨0, 0, he, ?_, hb⟩
    unfold AtOk
    rw [if_pos (by rw [sgC_length]; exact h)]
    exact ⟨rfl, rfl⟩
  · exact rat_in w n₀ D ao c zs hsm i hs ht (by omega) (by omega)
end Go.Proofs.YtpaijpdmeiagfaaDoor
