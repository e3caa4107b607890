/- UcdBytes: the walk. -/
import Derived.Test.YtpaijpdmeiagfaaDoorGa
import Derived.Test.YtpaijpdmeiagfaaDoorGc
set_option linter.unusedVariables false
set_option linter.unusedSimpArgs false
namespace Go.Proofs.YtpaijpdmeiagfaaDoor
open Go Go.RowKit Go.WideMaps Go.Proofs.Kk Go.Proofs.Tm Go.Proofs.Gg

theorem dsave_bytes (w : World) (n₀ D : Nat) (T0 T1 T2 T3 : TD) (h : DataAt w n₀ D T0 T1 T2 T3) (hn : n₀ ≤ w.heap.size) :
    Calls Tryd.prog 34 #[.pointer (some ⟨D, 0, none⟩)] w fun e w' => ∃ v, e = .returned v ∧ BytesAt w' w'.heap.size v (dsave [T0, T1, T2, T3]) ∧ Below w.heap.size w w' :=
  (dsave_any w n₀ D T0 T1 T2 T3 h hn).mono fun e w' ⟨v, he, hrow, hb⟩ => by
    refine ⟨v, he, BytesAt.of_own hrow ?_, hb⟩
    have := dsave_len [T0, T1, T2, T3] (fun T hT => by
      obtain ⟨k, hk⟩ := List.mem_iff_getElem?.1 hT
      obtain ⟨B, _, ht⟩ := h.trie k T hk
      exact ht.saveLen.1)
    simp only [List.length_cons, List.length_nil] at this
    omega

set_option maxRecDepth 100000 in
set_option maxHeartbeats 2000000 in
theorem bytes_early (ab : Option Addr) (nb cb : Nat) (h : 400000 < nb) {w : World} (hL : LaidS w) :
    Calls Tryd.prog 11 #[.slice ab nb cb] w fun e w' => e = .returned (.bool true) ∧ Below w.heap.size w w' := by
  have h1 : (400000 : Int) < nb := by omega
  go_enter Tryd.func11, Tryd.ntmps11
  go_wp2_with (go_at_call 29; refine (awake4_any _ hL).mono ?_; rintro e w1 ⟨rfl, hb1⟩)
  go_ret
  exact ⟨rfl, hb1⟩

set_option maxRecDepth 100000 in
set_option maxHeartbeats 8000000 in
theorem bytes_good (ab : Option Addr) (nb cb : Nat) (bs : List Int) (hnb : nb ≤ 400000) {w : World} (hA : ArgB w ab nb cb bs) (hL : LaidS w) :
    Calls Tryd.prog 11 #[.slice ab nb cb] w fun e w' => e = .returned (.bool true) ∧ Below w.heap.size w w' := by
  have h2 : (nb : Int) ≤ 400000 := by omega
  have hAH := Lib.hid hA
  clear hA
  go_enter Tryd.func11, Tryd.ntmps11
  go_wp2_with (first
    | (go_at_call 29; refine (awake4_any _ hL).mono ?_; rintro e w7 ⟨rfl, hW7⟩; have hsz7 := hW7.size)
    | (go_at_call 35; refine (dload_walk ab cb nb bs hAH.out.len w7 (fun h => ((hAH.out.at_ (by omega)).below hW7 (Nat.le_refl _)).mono hsz7) hAH.out.rng).mono ?_; rintro e w8 ⟨hld8, hb8⟩; rcases hld8 with ⟨T0, T1, T2, T3, D, hok, he, ht3⟩ | ⟨hno, he⟩ <;> subst he))
  · have hsvb := (dload_save hAH.out.rng hok).1
    have hnb1 : 0 < nb := by
      rcases Nat.eq_zero_or_pos nb with h | h
      · exfalso
        have e : bs = [] := List.eq_nil_of_length_eq_zero (by rw [hAH.out.len, h])
        rw [e, dload_short (by simp)] at hok
        cases hok
      · exact h
    have hW8 := hW7.trans (hb8.mono hsz7)
    have hvb : BytesAt w8 w8.heap.size (.slice ab nb cb) bs := ((hAH.out.at_ hnb1).below hW8 (Nat.le_refl _)).mono hW8.size
    obtain ⟨sb, hsb⟩ : ∃ s, s = strOfNums bs := ⟨_, rfl⟩
    clear hok
    refine wp_region_G [[(true,0),(true,1),(true,2),(true,3),(true,4),(true,5),(true,6),(true,7),(true,8),(true,9),(true,10),(true,11),(true,12),(true,13),(true,14),(true,17),(true,18),(false,15),(true,16),(true,19),(true,20),(true,21),(true,22)]] (by kernel_rfl) (by kernel_rfl) (by kernel_rfl) (by decide) (fun c a d v w h => by cases d <;> exact h) ?_
    refine wpGs_seg (fun w' => Below w8.heap.size w8 w') ((Below.refl _ _).drew) ?_
    iterate 16 first
      | refine wpG_q rfl rfl (fun w' hS => by go_simp; rfl) (by go_simp; rfl) ?_
      | refine wpG_skip rfl rfl (by go_simp; rfl) ?_
    refine wpG_q rfl rfl (fun w' hS => exec_conv_bytes (bs := bs) (hvb.below hS (Nat.le_refl _)) _ _ 5 _ rfl (by go_simp <;> rfl) bytesU u8U (by kernel_rfl)) (by go_simp; rfl) ?_
    rw [← hsb]
    have hcall3 : Calls Tryd.prog 34 #[.pointer (some ⟨D, 0, none⟩)] w8.drew (fun e w' => ∃ u, e = .returned u ∧ (BytesAt w' w'.heap.size u bs ∧ Below w8.heap.size w8 w')) :=
      (dsave_bytes w8.drew w8.heap.size D T0 T1 T2 T3 (ht3.heap rfl) (Nat.le_refl _)).mono fun e w' h => by
        obtain ⟨v, he, hv, hbw⟩ := h
        rw [hsvb] at hv
        exact ⟨v, he, hv, (Below.refl _ _).drew.trans hbw⟩
    refine wpG_call (f := 34) (args := #[.pointer (some ⟨D, 0, none⟩)]) (v := fun w' u => BytesAt w' w'.heap.size u bs ∧ Below w8.heap.size w8 w') rfl rfl (by go_simp <;> rfl) hcall3 ?_
    intro W9 v9 hv99
    obtain ⟨hv9, hb9⟩ := hv99
    refine ⟨fun w' => Below w8.heap.size w8 w' ∧ BytesAt w' W9.heap.size v9 bs, fun w h => h.1, ⟨hb9, hv9⟩, ?_⟩
    refine wpG_q rfl rfl (fun w' hS => exec_conv_bytes (bs := bs) hS.2 _ _ 5 _ rfl (by go_simp <;> rfl) bytesU u8U (by kernel_rfl)) (by go_simp; rfl) ?_
    rw [← hsb]
    iterate 4 refine wpG_q rfl rfl (fun w' hS => by go_simp; rfl) (by go_simp; rfl) ?_
    refine wpG_nil (wpGs_nil ?_)
    go_wp2
    go_ret
    exact ⟨by simp, hW8.trans (hb9.mono hW8.size)⟩
  · refine wp_region_G [[(true,0),(true,1),(true,2),(true,3),(true,4),(true,5),(true,6),(true,7),(true,8),(true,9),(true,10),(true,11),(true,12),(true,13),(true,14),(true,17),(true,18),(false,15),(true,16),(true,19),(true,20),(true,21),(true,22)]] (by kernel_rfl) (by kernel_rfl) (by kernel_rfl) (by decide) (fun c a d v w h => by cases d <;> exact h) ?_
    refine wpGs_seg (fun w' => Below w8.heap.size w8 w') ((Below.refl _ _).drew) ?_
    iterate 17 first
      | refine wpG_q rfl rfl (fun w' hS => by go_simp; rfl) (by go_simp; rfl) ?_
      | refine wpG_skip rfl rfl (by go_simp; rfl) ?_
    refine wpG_eskip rfl rfl (by go_simp; rfl) ?_
    iterate 5 first
      | refine wpG_q rfl rfl (fun w' hS => by go_simp; rfl) (by go_simp; rfl) ?_
      | refine wpG_skip rfl rfl (by go_simp; rfl) ?_
    refine wpG_nil (wpGs_nil ?_)
    go_wp2
    go_ret
    exact ⟨by simp, (hW7.trans (hb8.mono hsz7)).drew⟩

theorem ucdBytes_walk (a0 : Option Addr) (n0 c0 : Nat) (z0 : List Int) {w : World} (h0 : IsRow .u8 w a0 n0 c0 z0) (hL : LaidS w) :
    Calls Tryd.prog 11 #[.slice a0 n0 c0] w fun e w' => e = .returned (.bool true) ∧ Below w.heap.size w w' := by
  by_cases h : 400000 < n0
  · exact bytes_early a0 n0 c0 h hL
  · exact bytes_good a0 n0 c0 _ (by omega) (argB_of h0 (by omega)) hL
end Go.Proofs.YtpaijpdmeiagfaaDoor
