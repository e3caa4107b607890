/- TrieSaves: the walk. -/
import Derived.Test.YtpaijpdmeiagfaaAm
import Derived.Test.YtpaijpdmeiagfaaAn
import Derived.Test.YtpaijpdmeiagfaaW
import Derived.Test.YtpaijpdmeiagfaaVg
namespace Go.Proofs.Ytpaijpdmeiagfaa
open Go Go.RowKit Go.WideMaps Go.Proofs.Kk Go.Proofs.Tm Go.Proofs.Gg

theorem allOf_fits {f : Int → Int} (hf : ∀ r, 0 ≤ f r ∧ f r ≤ 255) : Fits (allOf f) := by
  intro y hy
  obtain ⟨h1, h2, h3, h4⟩ := allOf_valid f y hy
  have hy' : y ∈ (runsTo f 1114111).1 ++ [(runsTo f 1114111).2] := (List.mem_filter.1 hy).1
  have h5 := (runsOk f 1114111).inside y hy' y.lo (by omega) h2
  have h6 := hf y.lo
  exact ⟨by omega, by omega, by omega, by omega, by omega, by omega⟩
theorem allOf_len (f : Int → Int) : (allOf f).length ≤ 1114112 := by
  have h1 : (allOf f).length ≤ ((runsTo f 1114111).1 ++ [(runsTo f 1114111).2]).length := List.length_filter_le _ _
  have h2 := runs_len f 1114111
  simp only [List.length_append, List.length_singleton] at h1
  omega

set_option maxRecDepth 100000 in
set_option maxHeartbeats 1000000 in
theorem saves_long (ao : Option Addr) (n c : Nat) (w : World) (hn : 30 < n) :
    Calls Try.prog 9 #[.slice ao n c] w fun e w' => e = .returned (.bool true) ∧ Below w.heap.size w w' := by
  have h1 : (30 : Int) < n := by omega
  go_enter Try.func9, Try.ntmps9
  go_wp2_with (go_at_call 11; refine (awake_any _).mono ?_; rintro e w' ⟨rfl, hb⟩)
  go_ret
  exact ⟨rfl, hb⟩

set_option maxRecDepth 100000 in
set_option maxHeartbeats 2000000 in
theorem saves_bad (v : Value) (l : List P3) (w : World) (h : PropsAt w w.heap.size v l) (hn : l.length ≤ 30) (ho : l.any oddB = true) :
    Calls Try.prog 9 #[v] w fun e w' => e = .returned (.bool true) ∧ Below w.heap.size w w' := by
  have h0 := h
  obtain ⟨ao, c, rfl, hsz, hr, _⟩ := h0
  have h1 : (l.length : Int) ≤ 30 := by omega
  have hb1l : badN l = 1 := by unfold badN; rw [if_neg (by omega), if_pos ho]
  have hn1 : Hid (¬ (l.length ≤ 4096 ∧ l.any oddB = false ∧ (tdOf (pval l)).F.length ≤ 256)) := by rw [ho]; simp [Hid]
  have hoH := Lib.hid ho
  clear hr ho
  go_enter Try.func9, Try.ntmps9
  go_wp2_with (first
    | (go_at_call 11; refine (awake_any _).mono ?_; rintro e w0 ⟨rfl, hb0⟩; have hs0 := hb0.size)
    | (go_at_call 12; refine (build_bad _ l _ (by exact (h.below hb0 (Nat.le_refl _)).mono hs0) hn1.out).mono ?_; rintro e w1 ⟨rfl, hb1⟩; have hs1 := hb1.size; rw [hb1l])
    | (go_at_call 13; refine (rbuild_bad _ l _ (by exact ((h.below hb0 (Nat.le_refl _)).below hb1 hs0).mono (by omega)) hn hoH.out).mono ?_; rintro e w2 ⟨rfl, hb2⟩))
  go_ret
  exact ⟨rfl, (hb0.trans (hb1.mono hs0)).trans (hb2.mono (by omega))⟩

set_option maxRecDepth 100000 in
set_option maxHeartbeats 4000000 in
theorem saves_good (v : Value) (l : List P3) (w : World) (h : PropsAt w w.heap.size v l) (hn : l.length ≤ 30) (ho : l.any oddB = false) :
    Calls Try.prog 9 #[v] w fun e w' => e = .returned (.bool true) ∧ Below w.heap.size w w' := by
  have h0 := h
  obtain ⟨ao, c, rfl, hsz, hr, _⟩ := h0
  have h1 : (l.length : Int) ≤ 30 := by omega
  obtain ⟨T, hT⟩ : ∃ T, T = tdOf (pval l) := ⟨_, rfl⟩
  have hF : Hid (T.F.length ≤ 256) := by rw [hT]; have := tdOf_small l; show (tdOf (pval l)).F.length ≤ 256; omega
  have hT1 : Hid (T = tdOf (pval l)) := hT
  have hoH := Lib.hid ho
  obtain ⟨lF, hlF⟩ : ∃ lF, lF = allOf T.val := ⟨_, rfl⟩
  have hlH := Lib.hid hlF
  have hlen : Hid (lF.length ≤ 1000000000000) := by rw [hlF]; have := allOf_len T.val; show (allOf T.val).length ≤ 1000000000000; omega
  clear hr ho hT hlF
  go_enter Try.func9, Try.ntmps9
  go_wp2_with (first
    | (go_at_call 11; refine (awake_any _).mono ?_; rintro e w0 ⟨rfl, hb0⟩; have hs0 := hb0.size)
    | (go_at_call 12; refine (build_good _ l _ (by exact (h.below hb0 (Nat.le_refl _)).mono hs0) (by omega) (by exact hoH.out) T (by exact hT1) (by exact hF)).mono ?_; rintro e w1 ⟨B1, rfl, ht1, hb1⟩; have hs1 := hb1.size)
    | (go_at_call 13; refine (rbuild_good _ l _ (by exact ((h.below hb0 (Nat.le_refl _)).below hb1 hs0).mono (by omega)) (by omega) (by exact hoH.out) T (by exact hT1) (by exact hF)).mono ?_; rintro e w2 ⟨B2, rfl, ht2, hb2⟩; have hs2 := hb2.size; have hfit : Hid (Fits lF) := (by rw [hlH.out]; exact allOf_fits (fun r => ht1.val_rng r)); have ht1 := (ht1.below hb2 (Nat.le_refl _)).mono hs2; have hW : Below w.heap.size w w2 := (hb0.trans (hb1.mono hs0)).trans (hb2.mono (by omega)); have hws : w.heap.size ≤ w2.heap.size := (by omega); clear hb0 hb1 hb2 h hs0 hs1 hs2 hoH hT1 hF)
    | (go_at_call 23; refine (all_any _ _ B1 T (by exact ht1) (Nat.le_refl _)).mono ?_; rw [← hlH.out]; rintro e w3 ⟨v3, rfl, hrow3, hb3⟩; have hP3 := PropsAt.of_own hrow3 hlen.out hfit.out; have hs3 := hb3.size; have ht2 := (ht2.below hb3 (Nat.le_refl _)).mono hs3; clear hrow3)
    | (go_at_call 24; refine (rall_any _ _ B2 T (by exact ht2) (Nat.le_refl _)).mono ?_; rw [← hlH.out]; rintro e w4 ⟨v4, rfl, hrow4, hb4⟩; have hP4 := PropsAt.of_own hrow4 hlen.out hfit.out; have hs4 := hb4.size; have hP3 := (hP3.below hb4 (Nat.le_refl _)).mono hs4; clear hrow4)
    | (go_at_call 22; refine (same_any _ _ lF _ _ hP3 hP4).mono ?_; rintro e w5 ⟨rfl, n5, rfl⟩))
  have hb34 := (hb3.mono (Nat.le_refl _)).trans (hb4.mono hs3)
  have hW5 : Below w.heap.size w (w4.drewN n5) := below_drewN (hW.trans (hb34.mono hws)) n5
  have ht15 : TrieAt (w4.drewN n5) (w4.drewN n5).heap.size B1 T := ((ht1.below hb34 (Nat.le_refl _)).mono (Nat.le_trans hs3 hs4)).heap rfl
  have ht25 : RefAt (w4.drewN n5) (w4.drewN n5).heap.size B2 T := ((ht2.below hb4 (Nat.le_refl _)).mono hs4).heap rfl
  generalize w4.drewN n5 = W5 at hW5 ht15 ht25 ⊢
  clear hb34 hb3 hb4 hW hws hs3 hs4 hP3 hP4 ht1 ht2 hfit hlen hlH
  have hlS : Hid ((saveL T).length ≤ 140737488355328) := by
    have := ht25.len
    have := ht25.few
    show (saveL T).length ≤ 140737488355328
    unfold saveL; simp [flatten_len (fun c hc => (ht25.blk c hc).len)]; omega
  obtain ⟨s, hs⟩ : ∃ s, s = strOfNums (saveL T) := ⟨_, rfl⟩
  refine wp_region_G [[(true,0),(true,1),(true,2),(true,5),(false,3),(true,4),(false,6),(true,7),(true,8),(true,9),(true,10)]] (by kernel_rfl) (by kernel_rfl) (by kernel_rfl) (by decide) (fun c a d v w h => by cases d <;> exact h) ?_
  refine wpGs_seg (fun w' => Below W5.heap.size W5 w') ((Below.refl _ _).drew) ?_
  iterate 4 refine wpG_q rfl rfl (fun w' hS => by go_simp; rfl) (by go_simp; rfl) ?_
  have hcall : Calls Try.prog 18 #[.pointer (some ⟨B1, 0, none⟩)] W5.drew (fun e w' => ∃ u, e = .returned u ∧ (BytesAt w' w'.heap.size u (saveL T) ∧ Below W5.heap.size W5 w')) :=
    (save_any W5.drew W5.heap.size B1 T (ht15.heap rfl) (Nat.le_refl _)).mono fun e w' h => by
      obtain ⟨v, he, hv, hbw⟩ := h
      exact ⟨v, he, hv, (Below.refl _ _).drew.trans hbw⟩
  refine wpG_call (f := 18) (args := #[.pointer (some ⟨B1, 0, none⟩)]) (v := fun w' u => BytesAt w' w'.heap.size u (saveL T) ∧ Below W5.heap.size W5 w') rfl rfl (by go_simp <;> rfl) hcall ?_
  intro W6 v6 hv66
  obtain ⟨hv6, hb6⟩ := hv66
  have hs6 := hb6.size
  refine ⟨fun w' => Below W5.heap.size W5 w' ∧ BytesAt w' W6.heap.size v6 (saveL T), fun w h => h.1, ⟨hb6, hv6⟩, ?_⟩
  refine wpG_q rfl rfl (fun w' hS => exec_conv_bytes (bs := saveL T) hS.2 _ _ 5 _ rfl (by go_simp <;> rfl) bytesU u8U (by kernel_rfl)) (by go_simp; rfl) ?_
  rw [← hs]
  have hcall2 : Calls Try.prog 19 #[.pointer (some ⟨B2, 0, none⟩)] W6 (fun e w' => ∃ u, e = .returned u ∧ (BytesAt w' w'.heap.size u (saveL T) ∧ Below W6.heap.size W6 w')) :=
    (rsave_any W6 W5.heap.size B2 T (ht25.below hb6 (Nat.le_refl _)) hs6).mono fun e w' h => by
      obtain ⟨v, he, hv, hbw⟩ := h
      exact ⟨v, he, BytesAt.of_own hv hlS.out, hbw⟩
  refine wpG_call (f := 19) (args := #[.pointer (some ⟨B2, 0, none⟩)]) (v := fun w' u => BytesAt w' w'.heap.size u (saveL T) ∧ Below W6.heap.size W6 w') rfl rfl (by go_simp <;> rfl) hcall2 ?_
  intro W7 v7 hv77
  obtain ⟨hv7, hb77⟩ := hv77
  have hb7 := hb6.trans (hb77.mono hs6)
  refine ⟨fun w' => (Below W5.heap.size W5 w' ∧ BytesAt w' W6.heap.size v6 (saveL T)) ∧ BytesAt w' W7.heap.size v7 (saveL T), fun w h => h.1, ⟨⟨hb7, hv6.below hb77 (Nat.le_refl _)⟩, hv7⟩, ?_⟩
  refine wpG_q rfl rfl (fun w' hS => exec_conv_bytes (bs := saveL T) hS.2 _ _ 5 _ rfl (by go_simp <;> rfl) bytesU u8U (by kernel_rfl)) (by go_simp; rfl) ?_
  rw [← hs]
  iterate 3 refine wpG_q rfl rfl (fun w' hS => by go_simp; rfl) (by go_simp; rfl) ?_
  refine wpG_nil (wpGs_nil ?_)
  go_wp2
  go_ret
  exact ⟨by simp, hW5.trans (hb7.mono hW5.size)⟩

theorem trieSaves_walk (a : Option Addr) (n c : Nat) {w : World} (h : n ≤ 30 → ∃ l : List P3, l.length = n ∧ PropsAt w w.heap.size (.slice a n c) l) :
    Calls Try.prog 9 #[.slice a n c] w fun e w' => e = .returned (.bool true) ∧ Below w.heap.size w w' := by
  by_cases hn : n ≤ 30
  · obtain ⟨l, hl, hP⟩ := h hn
    cases ho : l.any oddB with
    | true => exact saves_bad _ l w hP (by omega) ho
    | false => exact saves_good _ l w hP (by omega) ho
  · exact saves_long a n c w (by omega)
end Go.Proofs.Ytpaijpdmeiagfaa
