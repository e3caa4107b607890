/- UcdSaves: the walk. -/
import Derived.Test.YtpaijpdmeiagfaaDoorGd
import Derived.Test.YtpaijpdmeiagfaaDoorGb
set_option linter.unusedVariables false
set_option linter.unusedSimpArgs false
namespace Go.Proofs.YtpaijpdmeiagfaaDoor
open Go Go.RowKit Go.WideMaps Go.Proofs.Kk Go.Proofs.Tm Go.Proofs.Gg

theorem dsave_isB (l : List TD) (h : ∀ T ∈ l, IsB (saveL T)) : IsB (dsave l) := by
  induction l with
  | nil => intro x hx; simp [dsave] at hx
  | cons T l ih =>
    intro x hx
    simp only [dsave, List.mem_append] at hx
    rcases hx with (hx | hx) | hx
    · exact put4_rng _ x hx
    · exact h T (by simp) x hx
    · exact ih (fun t ht => h t (by simp [ht])) x hx
theorem rdsave_bytes (w : World) (n₀ D : Nat) (Ts : List TD) (h : RDataAt w n₀ D Ts) (hn : n₀ ≤ w.heap.size) :
    Calls Tryd.prog 37 #[.pointer (some ⟨D, 0, none⟩)] w fun e w' => ∃ v, e = .returned v ∧ BytesAt w' w'.heap.size v (dsave Ts) ∧ Below w.heap.size w w' :=
  (rdsave_any w n₀ D Ts h hn).mono fun e w' ⟨v, he, hrow, hb⟩ => by
    refine ⟨v, he, BytesAt.of_own hrow ?_, hb⟩
    have := dsave_len Ts (fun T hT => by
      obtain ⟨k, hk⟩ := List.mem_iff_getElem?.1 hT
      obtain ⟨B, _, ht⟩ := h.trie k T hk
      exact ht.saveLen.1)
    have h4 : Ts.length = 4 := h.2.1
    omega

set_option maxRecDepth 100000 in
set_option maxHeartbeats 8000000 in
theorem ucdSaves_walk (r : Int) (_hr : -9223372036854775808 ≤ r ∧ r ≤ 9223372036854775807) {w : World} (hL : LaidS w) :
    Calls Tryd.prog 9 #[.int .i64 r] w fun e w' => e = .returned (.bool true) ∧ Below w.heap.size w w' := by
  obtain ⟨T0, T1, T2, T3, hT, hTr⟩ : ∃ T0 T1 T2 T3, Hid (Shipped T0 T1 T2 T3) ∧ Hid (shipR = [T0, T1, T2, T3] ∧ dload 4 (dsave [T0, T1, T2, T3]) = some [T0, T1, T2, T3]) := ⟨_, _, _, _, ⟨rfl, rfl, rfl, rfl⟩, rfl, shipL_load⟩
  obtain ⟨Sb, hSb⟩ : ∃ Sb, Sb = dsave [T0, T1, T2, T3] := ⟨_, rfl⟩
  have hSbH := Lib.hid hSb
  clear hSb
  obtain ⟨y, hy⟩ : ∃ y, y = T1.val r := ⟨_, rfl⟩
  obtain ⟨z, hz⟩ : ∃ z, z = dclu T0 r := ⟨_, rfl⟩
  obtain ⟨sb, hsb⟩ : ∃ s, s = strOfNums Sb := ⟨_, rfl⟩
  have hyH := Lib.hid hy
  have hzH := Lib.hid hz
  have hsH := Lib.hid hsb
  clear hy hz hsb
  go_enter Tryd.func9, Tryd.ntmps9
  go_wp2_with (first
    | (go_at_call 29; refine (awake4_any _ hL).mono ?_; rintro e w1 ⟨rfl, hb1⟩)
    | (go_at_call 25; refine (new_any _ (hL.below hb1 hL.1) T0 T1 T2 T3 hT).mono ?_; rintro e w2 ⟨D, rfl, hd, hb⟩; have hB2 : Below w.heap.size w w2 := hb1.trans (hb.mono hb1.size); clear hb1 hb)
    | (go_at_call 34; refine (dsave_bytes w2 _ D T0 T1 T2 T3 hd (Nat.le_refl _)).mono ?_; rw [← hSbH.out]; rintro e w3 ⟨v3, rfl, hv3, hb3⟩; have hB3 := hB2.trans (hb3.mono hB2.size); have hd3 := (hd.below hb3 (Nat.le_refl _)).mono hb3.size; have hIB : IsB Sb := (by rw [hSbH.out]; refine dsave_isB _ fun T hT => ?_; obtain ⟨k, hk⟩ := List.mem_iff_getElem?.1 hT; obtain ⟨B, _, ht⟩ := hd.trie k T hk; exact saveL_isB ht); have hv33 := Lib.hid hv3; obtain ⟨ao, c, rfl, _⟩ := hv3; clear hb3 hd)
    | (go_at_call 35; refine (dload_walk ao c _ Sb rfl w3 (fun _ => hv33.out) hIB).mono ?_; rintro e w4 ⟨hld, hb4⟩; rcases hld with ⟨A0, A1, A2, A3, E, hok, he, hd4⟩ | ⟨hno, he⟩; rotate_left; (exfalso; rw [hSbH.out, hTr.out.2] at hno; cases hno); subst he))
  have hok2 := hok
  rw [hSbH.out, hTr.out.2] at hok2
  simp only [Option.some.injEq, List.cons.injEq, and_true] at hok2
  obtain ⟨rfl, rfl, rfl, rfl⟩ := hok2
  have hB4 := hB3.trans (hb4.mono hB3.size)
  have hdd := (hd3.below hb4 (Nat.le_refl _)).mono hb4.size
  have hvv := (hv33.out.below hb4 (Nat.le_refl _)).mono hb4.size
  have hs4 := hB4.size
  clear hok hb4 hd3 hv33 hB3 hB2 hIB
  refine wp_region_G [[(true,0),(true,1),(false,2),(false,3),(true,4),(true,5),(true,6),(true,7),(true,8),(true,9),(true,10),(true,11),(true,12),(true,13),(true,14),(true,15),(true,16),(true,18),(true,19),(false,17),(false,20),(true,21),(true,22),(true,23),(true,24),(true,25),(true,27),(true,28),(false,26),(false,29),(true,30),(true,31),(true,32)]] (by kernel_rfl) (by kernel_rfl) (by kernel_rfl) (by decide) (fun c a d v w h => by cases d <;> exact h) ?_
  refine wpGs_seg (fun w' => Below w4.heap.size w4 w') ((Below.refl _ _).drew) ?_
  refine wpG_q rfl rfl (fun w' hS => by go_simp; rfl) (by go_simp; rfl) ?_
  refine wpG_q rfl rfl (fun w' hS => exec_conv_bytes (bs := Sb) (hvv.below hS (Nat.le_refl _)) _ _ 5 _ rfl (by go_simp <;> rfl) bytesU u8U (by kernel_rfl)) (by go_simp; rfl) ?_
  rw [← hsH.out]
  refine wpG_call (f := 36) (args := #[]) (v := fun w' u => ∃ F, u = .pointer (some ⟨F, 0, none⟩) ∧ RDataAt w' w'.heap.size F shipR ∧ Below w4.heap.size w4 w') rfl rfl (by go_simp <;> rfl) ((rnew_any w4.drew).mono fun e w' h => by obtain ⟨F, he, hR, hb⟩ := h; exact ⟨_, he, F, rfl, hR, (Below.refl _ _).drew.trans hb⟩) ?_
  rintro W5 u5 ⟨F, rfl, hR5, hb5⟩
  refine ⟨fun w' => Below w4.heap.size w4 w', fun w h => h, hb5, ?_⟩
  have hs5 := hb5.size
  refine wpG_call (f := 37) (args := #[.pointer (some ⟨F, 0, none⟩)]) (v := fun w' u => BytesAt w' w'.heap.size u Sb ∧ Below W5.heap.size W5 w') rfl rfl (by go_simp <;> rfl) ((rdsave_bytes W5 _ F shipR hR5 (Nat.le_refl _)).mono fun e w' h => by obtain ⟨v, he, hv, hb⟩ := h; exact ⟨v, he, by rw [hSbH.out, ← hTr.out.1]; exact hv, hb⟩) ?_
  rintro W6 v6 ⟨hv6, hb6⟩
  have hB6 := hb5.trans (hb6.mono hs5)
  refine ⟨fun w' => Below w4.heap.size w4 w' ∧ BytesAt w' W6.heap.size v6 Sb, fun w h => h.1, ⟨hB6, hv6⟩, ?_⟩
  refine wpG_q rfl rfl (fun w' hS => exec_conv_bytes (bs := Sb) hS.2 _ _ 5 _ rfl (by go_simp <;> rfl) bytesU u8U (by kernel_rfl)) (by go_simp; rfl) ?_
  rw [← hsH.out]
  have hd6 := hdd.below hB6 (Nat.le_refl _)
  have he6 := hd4.below hB6 (Nat.le_refl _)
  iterate 14 refine wpG_q rfl rfl (fun w' hS => by go_simp; rfl) (by go_simp; rfl) ?_
  refine wpG_call (f := 26) (args := #[.pointer (some ⟨E, 0, none⟩), .int .i64 r]) (v := fun w' u => u = .int .i64 y ∧ ∃ n', w' = W6.drewN n') rfl rfl (by go_simp <;> rfl) ((word_any W6 _ E _ _ _ _ r he6).mono fun e w' h => by obtain ⟨he, h⟩ := h; rw [← hyH.out] at he; exact ⟨_, he, rfl, h⟩) ?_
  rintro W7 u7 ⟨rfl, n7, rfl⟩
  refine ⟨fun w' => Below w4.heap.size w4 w' ∧ BytesAt w' W6.heap.size v6 Sb, fun w h => h, ⟨below_drewN hB6 _, hv6.heap rfl⟩, ?_⟩
  refine wpG_call (f := 26) (args := #[.pointer (some ⟨D, 0, none⟩), .int .i64 r]) (v := fun w' u => u = .int .i64 y ∧ ∃ n', w' = (W6.drewN n7).drewN n') rfl rfl (by go_simp <;> rfl) ((word_any (W6.drewN n7) _ D _ _ _ _ r (hd6.heap rfl)).mono fun e w' h => by obtain ⟨he, h⟩ := h; rw [← hyH.out] at he; exact ⟨_, he, rfl, h⟩) ?_
  rintro W8 u8 ⟨rfl, n8, rfl⟩
  refine ⟨fun w' => Below w4.heap.size w4 w' ∧ BytesAt w' W6.heap.size v6 Sb, fun w h => h, ⟨below_drewN (below_drewN hB6 _) _, hv6.heap rfl⟩, ?_⟩
  iterate 7 refine wpG_q rfl rfl (fun w' hS => by go_simp; rfl) (by go_simp; rfl) ?_
  refine wpG_call (f := 31) (args := #[.pointer (some ⟨E, 0, none⟩), .int .i64 r]) (v := fun w' u => u = .int .i64 z ∧ ∃ n', w' = ((W6.drewN n7).drewN n8).drewN n') rfl rfl (by go_simp <;> rfl) ((cluster_any ((W6.drewN n7).drewN n8) _ E _ _ _ _ r (he6.heap rfl)).mono fun e w' h => by obtain ⟨he, h⟩ := h; rw [← hzH.out] at he; exact ⟨_, he, rfl, h⟩) ?_
  rintro W9 u9 ⟨rfl, n9, rfl⟩
  refine ⟨fun w' => Below w4.heap.size w4 w' ∧ BytesAt w' W6.heap.size v6 Sb, fun w h => h, ⟨below_drewN (below_drewN (below_drewN hB6 _) _) _, hv6.heap rfl⟩, ?_⟩
  refine wpG_call (f := 31) (args := #[.pointer (some ⟨D, 0, none⟩), .int .i64 r]) (v := fun w' u => u = .int .i64 z ∧ ∃ n', w' = (((W6.drewN n7).drewN n8).drewN n9).drewN n') rfl rfl (by go_simp <;> rfl) ((cluster_any (((W6.drewN n7).drewN n8).drewN n9) _ D _ _ _ _ r (hd6.heap rfl)).mono fun e w' h => by obtain ⟨he, h⟩ := h; rw [← hzH.out] at he; exact ⟨_, he, rfl, h⟩) ?_
  rintro W10 u10 ⟨rfl, n10, rfl⟩
  refine ⟨fun w' => Below w4.heap.size w4 w' ∧ BytesAt w' W6.heap.size v6 Sb, fun w h => h, ⟨below_drewN (below_drewN (below_drewN (below_drewN hB6 _) _) _) _, hv6.heap rfl⟩, ?_⟩
  iterate 3 refine wpG_q rfl rfl (fun w' hS => by go_simp; rfl) (by go_simp; rfl) ?_
  refine wpG_nil (wpGs_nil ?_)
  have hBe := hB4.trans ((below_drewN (below_drewN (below_drewN (below_drewN hB6 n7) n8) n9) n10).mono hs4)
  go_wp2
  go_ret
  exact ⟨by simp, by first | exact hBe | exact below_drewN (hB4.trans (hB6.mono hs4)) _⟩
end Go.Proofs.YtpaijpdmeiagfaaDoor
