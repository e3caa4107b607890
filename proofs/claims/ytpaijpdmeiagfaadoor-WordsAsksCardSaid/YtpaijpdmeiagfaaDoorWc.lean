/- Words: Head. -/
import Derived.Test.YtpaijpdmeiagfaaDoorWa
set_option linter.unusedVariables false
set_option linter.unusedSimpArgs false
namespace Go.Proofs.YtpaijpdmeiagfaaDoor
open Go Go.RowKit Go.WideMaps Go.Proofs.Kk Go.Proofs.Tm Go.Proofs.Gg Go.Proofs.Tx

set_option maxRecDepth 100000 in
set_option maxHeartbeats 2000000 in
theorem whead_out (w : World) (D : Nat) (ao : Option Addr) (c : Nat) (zs : List Int) (i : Int) (h : i < 0 ∨ (zs.length : Int) ≤ i) :
    Calls Tryd.prog 53 #[.pointer (some ⟨D, 0, none⟩), .slice ao zs.length c, .int .i64 i] w fun e w' => e = .returned (.bool false) ∧ Below w.heap.size w w' := by
  by_cases h0 : i < 0
  · clear h
    go_enter Tryd.func53, Tryd.ntmps53
    go_wp2
    go_ret
    exact ⟨rfl, Below.refl _ _⟩
  · have h1 : (zs.length : Int) ≤ i := by omega
    have h2 : 0 ≤ i := by omega
    clear h h0
    go_enter Tryd.func53, Tryd.ntmps53
    go_wp2
    go_ret
    exact ⟨rfl, Below.refl _ _⟩

set_option maxRecDepth 100000 in
set_option maxHeartbeats 2000000 in
theorem whead_zero (w : World) (D : Nat) (ao : Option Addr) (c : Nat) (zs : List Int) (h : 0 < zs.length) :
    Calls Tryd.prog 53 #[.pointer (some ⟨D, 0, none⟩), .slice ao zs.length c, .int .i64 0] w fun e w' => e = .returned (.bool true) ∧ Below w.heap.size w w' := by
  have h1 : (0 : Int) < zs.length := by omega
  have hne : zs ≠ [] := by rintro rfl; simp at h
  go_enter Tryd.func53, Tryd.ntmps53
  go_wp2
  go_ret
  exact ⟨by simp, Below.refl _ _⟩

set_option maxRecDepth 100000 in
set_option maxHeartbeats 4000000 in
theorem whead_in (w : World) (D : Nat) (ao : Option Addr) (c : Nat) (zs : List Int) (i : Int) (hs : ShipAt w w.heap.size D) (ht : IntsAt w w.heap.size (.slice ao zs.length c) zs) (h0 : 0 < i) (h1 : i < zs.length) :
    Calls Tryd.prog 53 #[.pointer (some ⟨D, 0, none⟩), .slice ao zs.length c, .int .i64 i] w fun e w' => e = .returned (.bool (headI (sgW zs) i)) ∧ Below w.heap.size w w' := by
  have hh := headI_in h0 h1
  obtain ⟨_, hc1, hc2, _⟩ := ht.len
  obtain ⟨b, off, rfl, hb, p1⟩ := ht.at_ (i := i) (by omega) (by omega)
  obtain ⟨b', off', ha, _, p2⟩ := ht.at_ (i := i - 1) (by omega) (by omega)
  cases ha
  have en : (i - 1).toNat = i.toNat - 1 := by omega
  rw [en] at p2 hh
  clear en
  generalize zs.getD i.toNat 0 = z at p1 hh
  generalize zs.getD (i.toNat - 1) 0 = y at p2 hh
  obtain ⟨kz, hkz⟩ : ∃ k, k = wdK z := ⟨_, rfl⟩
  obtain ⟨ky, hky⟩ : ∃ k, k = wdK y := ⟨_, rfl⟩
  rw [← hkz, ← hky] at hh
  obtain ⟨m, hm⟩ : ∃ m, m = markK kz := ⟨_, rfl⟩
  obtain ⟨en, hen⟩ : ∃ m, m = endsK ky := ⟨_, rfl⟩
  rw [← hm, ← hen] at hh
  rw [hh]
  have kzH := Lib.hid hkz
  have kyH := Lib.hid hky
  have mH := Lib.hid hm
  have eH := Lib.hid hen
  have e1 : (i == (0 : Int)) = false := by simp; omega
  clear hh hkz hky hm hen
  cases m with
  | false =>
    go_enter Tryd.func53, Tryd.ntmps53
    go_wp2_with (first
      | (go_at_call 26; refine (sword_any _ _ D _ (by exact hs.heap rfl)).mono ?_; rintro e w1 ⟨he, n1, rfl⟩; rw [← kzH.out] at he; subst he)
      | (go_at_call 78; refine (mark_any _ _).mono ?_; rw [← mH.out]; rintro e w1 ⟨rfl, hb1⟩))
    go_ret
    exact ⟨by simp, (below_drewN (Below.refl _ w) _).trans hb1⟩
  | true =>
    go_enter Tryd.func53, Tryd.ntmps53
    go_wp2_with (first
      | (go_at_call 26; have k2 := kzH; clear kzH; refine (sword_any _ _ D _ (by exact hs.heap rfl)).mono ?_; rintro e w1 ⟨he, n1, rfl⟩; rw [← k2.out] at he; subst he)
      | (go_at_call 78; refine (mark_any _ _).mono ?_; rw [← mH.out]; rintro e w1 ⟨rfl, hb1⟩; have hB1 : Below w.heap.size w w1 := (below_drewN (Below.refl _ w) n1).trans hb1; have p2' : w1.cell? ⟨b, off + (i.toNat - 1), none⟩ = some (.int .i64 y) := (hB1.cell (p := ⟨b, _, none⟩) hb).trans p2; have hs1 := (hs.below hB1 (Nat.le_refl _)); clear hb1)
      | (go_at_call 26; refine (sword_any _ _ D _ (by exact hs1.heap rfl)).mono ?_; rintro e w3 ⟨he, n3, rfl⟩; rw [← kyH.out] at he; subst he)
      | (go_at_call 77; refine (ends_any _ _).mono ?_; rw [← eH.out]; rintro e w4 ⟨rfl, hb4⟩))
    go_ret
    exact ⟨by simp, (below_drewN hB1 n3).trans (hb4.mono hB1.size)⟩

theorem whead_any (w : World) (D : Nat) (v : Value) (zs : List Int) (i : Int) (hs : ShipAt w w.heap.size D) (ht : IntsAt w w.heap.size v zs) :
    Calls Tryd.prog 53 #[.pointer (some ⟨D, 0, none⟩), v, .int .i64 i] w fun e w' => e = .returned (.bool (headI (sgW zs) i)) ∧ Below w.heap.size w w' := by
  obtain ⟨ao, c, rfl⟩ := ht.form
  by_cases h : i < 0 ∨ (zs.length : Int) ≤ i
  · rw [headI_out (by rw [sgW_length]; exact h)]
    exact whead_out w D ao c zs i h
  · by_cases h0 : i = 0
    · subst h0
      rw [headI_zero (by intro e; have := congrArg List.length e; rw [sgW_length] at this; simp at this; rw [this] at h; simp at h)]
      exact whead_zero w D ao c zs (by omega)
    · exact whead_in w D ao c zs i hs ht (by omega) (by omega)
end Go.Proofs.YtpaijpdmeiagfaaDoor
