/- TrieBack: the walk. -/
import Derived.Test.YtpaijpdmeiagfaaY
import Derived.Test.YtpaijpdmeiagfaaJ
namespace Go.Proofs.Ytpaijpdmeiagfaa
open Go Go.RowKit Go.WideMaps Go.Proofs.Kk Go.Proofs.Tm Go.Proofs.Gg

/-- bytes that came in -/
structure ArgB (w : World) (a : Option Addr) (n c : Nat) (bs : List Int) : Prop where
  len : bs.length = n
  rng : IsB bs
  at_ : 0 < n → BytesAt w w.heap.size (.slice a n c) bs

theorem argB_of {w : World} {a : Option Addr} {len cap : Nat} {zs : List Int} (h : IsRow .u8 w a len cap zs) (hl : len ≤ 140737488355328) : ArgB w a len cap (zs.take len) := by
  rcases h with ⟨rfl, rfl, rfl, rfl⟩ | ⟨x, rfl, h1, h2, h3, h4, h5⟩
  · exact ⟨rfl, by intro x hx; simp at hx, fun h => by omega⟩
  · have hlen : (zs.take len).length = len := by rw [List.length_take]; omega
    refine ⟨hlen, fun y hy => u8_wf (h5 y (List.mem_of_mem_take hy)), fun hpos => ?_⟩
    have q0 := h4 0 (by omega)
    have e0 : x.add 0 = x := by simp [Addr.add]
    rw [e0] at q0
    have hlt := World.block_lt_of_cell? w x q0
    obtain ⟨b, off, sp⟩ := x
    have hsp : sp = none := by
      unfold World.cell? at q0
      split at q0
      · cases sp with
        | none => rfl
        | some s => simp at q0
      · cases q0
    subst hsp
    refine ⟨some ⟨b, off, none⟩, cap, by rw [hlen], by omega, by omega, by unfold maxLen at h2; omega, .inr ⟨b, off, rfl, hlt, ?_⟩⟩
    intro j y hy
    have hj : j < len := by have := (List.getElem?_eq_some_iff.1 hy).1; rw [hlen] at this; exact this
    have hy2 : zs[j]? = some y := by rw [List.getElem?_take, if_pos hj] at hy; exact hy
    have := h4 j (by omega)
    rw [Addr.add_lit] at this
    rw [this, List.getD_eq_getElem?_getD, hy2, Option.getD_some]

set_option maxRecDepth 100000 in
set_option maxHeartbeats 1000000 in
theorem load_short0 (ao : Option Addr) (c n : Nat) (b : List Int) (hn : b.length = n) (w : World) (T : TD) (hs : n ≤ 4352) :
    Calls Try.prog 20 #[.slice ao n c] w (LoadPost w b T) := by
  have h1 : (n : Int) ≤ 4352 := by omega
  have hno : Hid (¬ LoadOk b T) := fun h => by have := h.len.1; omega
  go_enter Try.func20, Try.ntmps20
  go_wp2
  go_ret2
  exact ⟨.inr ⟨hno.out, rfl⟩, Below.refl _ _⟩

theorem load_arg {w w0 : World} {a : Option Addr} {n c : Nat} {bs : List Int} (h : ArgB w0 a n c bs) (hb : Below w0.heap.size w0 w) (T : TD) (hT : Hid (T = TD.ofBlocks (loadBs bs))) :
    Calls Try.prog 20 #[.slice a n c] w (LoadPost w bs T) := by
  by_cases hn : n ≤ 4352
  · exact load_short0 a c n bs h.len w T hn
  · exact load_any _ bs w (((h.at_ (by omega)).below hb (Nat.le_refl _)).mono hb.size) h.rng T hT

set_option maxRecDepth 100000 in
set_option maxHeartbeats 1000000 in
theorem back_long (ao : Option Addr) (n c : Nat) (ab : Option Addr) (nb cb : Nat) (rv : Value) (w : World) (hn : 30 < n ∨ 80000 < nb) :
    Calls Try.prog 8 #[.slice ao n c, .slice ab nb cb, rv] w fun e w' => e = .returned (.bool true) ∧ Below w.heap.size w w' := by
  by_cases h30 : 30 < n
  · have h1 : (30 : Int) < n := by omega
    go_enter Try.func8, Try.ntmps8
    go_wp2_with (go_at_call 11; refine (awake_any _).mono ?_; rintro e w' ⟨rfl, hb⟩)
    go_ret
    exact ⟨rfl, hb⟩
  · have h1 : (n : Int) ≤ 30 := by omega
    have h2 : (80000 : Int) < nb := by omega
    clear h30 hn
    go_enter Try.func8, Try.ntmps8
    go_wp2_with (go_at_call 11; refine (awake_any _).mono ?_; rintro e w' ⟨rfl, hb⟩)
    go_ret
    exact ⟨rfl, hb⟩

set_option maxRecDepth 100000 in
set_option maxHeartbeats 1000000 in
theorem back_bad (v : Value) (l : List P3) (w : World) (h : PropsAt w w.heap.size v l) (hn : l.length ≤ 30) (ab : Option Addr) (nb cb : Nat) (hnb : nb ≤ 80000) (rv : Value) (ho : l.any oddB = true) :
    Calls Try.prog 8 #[v, .slice ab nb cb, rv] w fun e w' => e = .returned (.bool true) ∧ Below w.heap.size w w' := by
  have h0 := h
  obtain ⟨ao, c, rfl, hsz, hr, _⟩ := h0
  have h1 : (l.length : Int) ≤ 30 := by omega
  have h2 : (nb : Int) ≤ 80000 := by omega
  have hb1l : badN l = 1 := by unfold badN; rw [if_neg (by omega), if_pos ho]
  have hn1 : Hid (¬ (l.length ≤ 4096 ∧ l.any oddB = false ∧ (tdOf (pval l)).F.length ≤ 256)) := by rw [ho]; simp [Hid]
  clear hr ho
  go_enter Try.func8, Try.ntmps8
  go_wp2_with (first
    | (go_at_call 11; refine (awake_any _).mono ?_; rintro e w0 ⟨rfl, hb0⟩; have hs0 := hb0.size)
    | (go_at_call 12; refine (build_bad _ l _ (by exact (h.below hb0 (Nat.le_refl _)).mono hs0) hn1.out).mono ?_; rintro e w1 ⟨rfl, hb1⟩; rw [hb1l]))
  go_ret
  exact ⟨rfl, hb0.trans (hb1.mono hs0)⟩

set_option maxRecDepth 100000 in
set_option maxHeartbeats 8000000 in
theorem back_good (v : Value) (l : List P3) (w : World) (h : PropsAt w w.heap.size v l) (hn : l.length ≤ 30) (ab : Option Addr) (nb cb : Nat) (bs : List Int) (hnb : nb ≤ 80000) (hA : ArgB w ab nb cb bs) (r : Int) (ho : l.any oddB = false) :
    Calls Try.prog 8 #[v, .slice ab nb cb, .int .i64 r] w fun e w' => e = .returned (.bool true) ∧ Below w.heap.size w w' := by
  have h0 := h
  obtain ⟨ao, c, rfl, hsz, hr, _⟩ := h0
  have h1 : (l.length : Int) ≤ 30 := by omega
  have h2 : (nb : Int) ≤ 80000 := by omega
  obtain ⟨T, hT⟩ : ∃ T, T = tdOf (pval l) := ⟨_, rfl⟩
  have hF : Hid (T.F.length ≤ 256) := by rw [hT]; have := tdOf_small l; show (tdOf (pval l)).F.length ≤ 256; omega
  have hT1 : Hid (T = tdOf (pval l)) := hT
  have hoH := Lib.hid ho
  have hsv : Hid (loadBs (saveL T) = blks (pval l) ∧ LoadOk (saveL T) T) := load_saved (by simp [blks]) (fun c hc => by obtain ⟨k, _, rfl⟩ := mem_blks.1 hc; exact blk_length _ _) (by rw [hT]; rfl) hF.out
  have hT2 : Hid (T = TD.ofBlocks (loadBs (saveL T))) := by rw [hsv.out.1, hT]; rfl
  obtain ⟨Tb, hTb⟩ : ∃ Tb, Tb = TD.ofBlocks (loadBs bs) := ⟨_, rfl⟩
  have hTbH : Hid (Tb = TD.ofBlocks (loadBs bs)) := hTb
  have hAH := Lib.hid hA
  clear hr ho hT hTb hA
  go_enter Try.func8, Try.ntmps8
  go_wp2_with (first
    | (go_at_call 11; refine (awake_any _).mono ?_; rintro e w0 ⟨rfl, hb0⟩; have hs0 := hb0.size)
    | (go_at_call 12; refine (build_good _ l _ (by exact (h.below hb0 (Nat.le_refl _)).mono hs0) (by omega) (by exact hoH.out) T (by exact hT1) (by exact hF)).mono ?_; rintro e w1 ⟨B1, rfl, ht1, hb1⟩; have hs1 := hb1.size)
    | (go_at_call 18; refine (save_any _ _ B1 T (by exact ht1) (Nat.le_refl _)).mono ?_; rintro e w2 ⟨v2, rfl, hv2, hb2⟩; have hs2 := hb2.size; have hld := load_any v2 (saveL T) w2 hv2 (saveL_isB ht1) T hT2)
    | (go_at_call 20; refine hld.mono ?_; clear hld; rintro e w3 ⟨hld3, hb3⟩; rcases hld3 with ⟨_, B2, rfl, ht2⟩ | ⟨hno, _⟩; rotate_left; exact absurd hsv.out.2 hno))
  have hW : Below w.heap.size w w3 := ((hb0.trans (hb1.mono hs0)).trans (hb2.mono (by omega))).trans (hb3.mono (by omega))
  have hs3 := hb3.size
  have ht1 := ((ht1.below hb2 (Nat.le_refl _)).below hb3 hs2).mono (n₁ := w3.heap.size) (by omega)
  have hws : w.heap.size ≤ w3.heap.size := by omega
  clear hb0 hb1 hb2 hb3 h hs0 hs1 hs2 hs3 hv2 hoH hT1 hT2 hF
  obtain ⟨y, hy⟩ : ∃ y, y = T.val r := ⟨_, rfl⟩
  obtain ⟨s, hs⟩ : ∃ s, s = strOfNums (saveL T) := ⟨_, rfl⟩
  refine wp_region_G [[(true,0),(true,1),(true,2),(true,3),(true,4),(true,5),(true,6),(true,7),(true,8),(true,10),(true,11),(false,9),(false,12),(true,13),(true,14),(true,15),(true,16),(true,19),(false,17),(true,18),(false,20),(true,21),(true,22),(true,23)]] (by kernel_rfl) (by kernel_rfl) (by kernel_rfl) (by decide) (fun c a d v w h => by cases d <;> exact h) ?_
  refine wpGs_seg (fun w' => Below w3.heap.size w3 w') ((Below.refl _ _).drew) ?_
  iterate 11 refine wpG_q rfl rfl (fun w' hS => by go_simp; rfl) (by go_simp; rfl) ?_
  refine wpG_call (f := 14) (args := #[.pointer (some ⟨B2, 0, none⟩), .int .i64 r]) (v := fun w' u => u = .int .u8 y ∧ ∃ n', w' = w3.drew.drewN n') rfl rfl (by go_simp <;> rfl) ((of_any w3.drew _ B2 T r (ht2.heap rfl)).mono fun e w' h => by obtain ⟨he, h⟩ := h; exact ⟨_, he, by rw [hy], h⟩) ?_
  rintro w4 u4 ⟨rfl, n4, rfl⟩
  refine ⟨fun w' => Below w3.heap.size w3 w', fun w h => h, below_drewN (Below.refl _ _).drew _, ?_⟩
  refine wpG_call (f := 14) (args := #[.pointer (some ⟨B1, 0, none⟩), .int .i64 r]) (v := fun w' u => u = .int .u8 y ∧ ∃ n', w' = (w3.drew.drewN n4).drewN n') rfl rfl (by go_simp <;> rfl) ((of_any (w3.drew.drewN n4) _ B1 T r (ht1.heap rfl)).mono fun e w' h => by obtain ⟨he, h⟩ := h; exact ⟨_, he, by rw [hy], h⟩) ?_
  rintro w5 u5 ⟨rfl, n5, rfl⟩
  have hb5 : Below w3.heap.size w3 ((w3.drew.drewN n4).drewN n5) := below_drewN (below_drewN (Below.refl _ _).drew _) _
  have ht15 : TrieAt ((w3.drew.drewN n4).drewN n5) w3.heap.size B1 T := ht1.heap rfl
  have ht25 : TrieAt ((w3.drew.drewN n4).drewN n5) w3.heap.size B2 T := ht2.heap rfl
  refine ⟨fun w' => Below w3.heap.size w3 w', fun w h => h, hb5, ?_⟩
  generalize (w3.drew.drewN n4).drewN n5 = W5 at hb5 ht15 ht25 ⊢
  have hs5 := hb5.size
  clear ht1 ht2 hy
  iterate 5 refine wpG_q rfl rfl (fun w' hS => by go_simp; rfl) (by go_simp; rfl) ?_
  have hcall : Calls Try.prog 18 #[.pointer (some ⟨B2, 0, none⟩)] W5 (fun e w' => ∃ u, e = .returned u ∧ (BytesAt w' w'.heap.size u (saveL T) ∧ Below W5.heap.size W5 w')) :=
    (save_any W5 w3.heap.size B2 T ht25 hs5).mono fun e w' h => by
      obtain ⟨v, he, hv, hbw⟩ := h
      exact ⟨v, he, hv, hbw⟩
  refine wpG_call (f := 18) (args := #[.pointer (some ⟨B2, 0, none⟩)]) (v := fun w' u => BytesAt w' w'.heap.size u (saveL T) ∧ Below W5.heap.size W5 w') rfl rfl (by go_simp <;> rfl) hcall ?_
  intro W6 v6 hv66
  obtain ⟨hv6, hb66⟩ := hv66
  have hb6 := hb5.trans (hb66.mono hs5)
  refine ⟨fun w' => Below w3.heap.size w3 w' ∧ BytesAt w' W6.heap.size v6 (saveL T), fun w h => h.1, ⟨hb6, hv6⟩, ?_⟩
  refine wpG_q rfl rfl (fun w' hS => exec_conv_bytes (bs := saveL T) hS.2 _ _ 5 _ rfl (by go_simp <;> rfl) bytesU u8U (by kernel_rfl)) (by go_simp; rfl) ?_
  rw [← hs]
  have ht16 := ht15.below hb66 hs5
  have hs6 := hb6.size
  have hcall2 : Calls Try.prog 18 #[.pointer (some ⟨B1, 0, none⟩)] W6 (fun e w' => ∃ u, e = .returned u ∧ (BytesAt w' w'.heap.size u (saveL T) ∧ Below W6.heap.size W6 w')) :=
    (save_any W6 w3.heap.size B1 T ht16 hs6).mono fun e w' h => by
      obtain ⟨v, he, hv, hbw⟩ := h
      exact ⟨v, he, hv, hbw⟩
  refine wpG_call (f := 18) (args := #[.pointer (some ⟨B1, 0, none⟩)]) (v := fun w' u => BytesAt w' w'.heap.size u (saveL T) ∧ Below W6.heap.size W6 w') rfl rfl (by go_simp <;> rfl) hcall2 ?_
  intro W7 v7 hv77
  obtain ⟨hv7, hb77⟩ := hv77
  have hb7 := hb6.trans (hb77.mono hs6)
  refine ⟨fun w' => (Below w3.heap.size w3 w' ∧ BytesAt w' W6.heap.size v6 (saveL T)) ∧ BytesAt w' W7.heap.size v7 (saveL T), fun w h => h.1, ⟨⟨hb7, hv6.below hb77 (Nat.le_refl _)⟩, hv7⟩, ?_⟩
  refine wpG_q rfl rfl (fun w' hS => exec_conv_bytes (bs := saveL T) hS.2 _ _ 5 _ rfl (by go_simp <;> rfl) bytesU u8U (by kernel_rfl)) (by go_simp; rfl) ?_
  rw [← hs]
  iterate 2 refine wpG_q rfl rfl (fun w' hS => by go_simp; rfl) (by go_simp; rfl) ?_
  refine wpG_nil (wpGs_nil ?_)
  have hW7 := hW.trans (hb7.mono hws)
  have hsz7 := hW7.size
  clear hcall hcall2 hv6 hv7 hb66 hb77 hb6 hb7 hb5 ht15 ht25 ht16 hs hs5 hs6 hws hW hsv
  have hld : Calls Try.prog 20 #[.slice ab nb cb] W7 (LoadPost W7 bs Tb) := load_arg hAH.out hW7 Tb hTbH
  go_wp2_with (go_at_call 20; refine hld.mono ?_; clear hld; rintro e w8 ⟨hld8, hb8⟩; rcases hld8 with ⟨hok, B3, he, ht3⟩ | ⟨hno, he⟩ <;> (try unfold nilErr at he) <;> subst he)
  · have hnb1 : 0 < nb := by have := hok.len.1; rw [hAH.out.len] at this; omega
    have hW8 := hW7.trans (hb8.mono hsz7)
    have hvb : BytesAt w8 w8.heap.size (.slice ab nb cb) bs := ((hAH.out.at_ hnb1).below hW8 (Nat.le_refl _)).mono hW8.size
    have hsvb := hok.save
    obtain ⟨sb, hsb⟩ : ∃ s, s = strOfNums bs := ⟨_, rfl⟩
    clear hok
    refine wp_region_G [[(true,0),(true,1),(true,2),(true,3),(true,4),(true,5),(true,6),(true,7),(true,8),(true,9),(true,10),(true,11),(true,12),(true,13),(true,14),(true,17),(true,18),(false,15),(true,16),(true,19),(true,20),(true,21),(true,22)]] (by kernel_rfl) (by kernel_rfl) (by kernel_rfl) (by decide) (fun c a d v w h => by cases d <;> exact h) ?_
    refine wpGs_seg (fun w' => Below w8.heap.size w8 w') ((Below.refl _ _).drew) ?_
    iterate 16 first
      | refine wpG_q rfl rfl (fun w' hS => by go_simp; rfl) (by go_simp; rfl) ?_
      | refine wpG_skip rfl rfl (by go_simp; rfl) ?_
    refine wpG_q rfl rfl (fun w' hS => exec_conv_bytes (bs := bs) (hvb.below hS (Nat.le_refl _)) _ _ 5 _ rfl (by go_simp <;> rfl) bytesU u8U (by kernel_rfl)) (by go_simp; rfl) ?_
    rw [← hsb]
    have hcall3 : Calls Try.prog 18 #[.pointer (some ⟨B3, 0, none⟩)] w8.drew (fun e w' => ∃ u, e = .returned u ∧ (BytesAt w' w'.heap.size u bs ∧ Below w8.heap.size w8 w')) :=
      (save_any w8.drew w8.heap.size B3 Tb (ht3.heap rfl) (Nat.le_refl _)).mono fun e w' h => by
        obtain ⟨v, he, hv, hbw⟩ := h
        rw [hsvb] at hv
        exact ⟨v, he, hv, (Below.refl _ _).drew.trans hbw⟩
    refine wpG_call (f := 18) (args := #[.pointer (some ⟨B3, 0, none⟩)]) (v := fun w' u => BytesAt w' w'.heap.size u bs ∧ Below w8.heap.size w8 w') rfl rfl (by go_simp <;> rfl) hcall3 ?_
    intro W9 v9 hv99
    obtain ⟨hv9, hb9⟩ := hv99
    refine ⟨fun w' => Below w8.heap.size w8 w' ∧ BytesAt w' W9.heap.size v9 bs, fun w h => h.1, ⟨hb9, hv9⟩, ?_⟩
    refine wpG_q rfl rfl (fun w' hS => exec_conv_bytes (bs := bs) hS.2 _ _ 5 _ rfl (by go_simp <;> rfl) bytesU u8U (by kernel_rfl)) (by go_simp; rfl) ?_
    rw [← hsb]
    iterate 4 refine wpG_q rfl rfl (fun w' hS => by go_simp; rfl) (by go_simp; rfl) ?_
    refine wpG_nil (wpGs_nil ?_)
    go_wp2
    go_ret
    exact ⟨by simp, hW8.trans (hb9.mono hW8.size)⟩
  · refine wp_region_G [[(true,0),(true,1),(true,2),(true,3),(true,4),(true,5),(true,6),(true,7),(true,8),(true,9),(true,10),(true,11),(true,12),(true,13),(true,14),(true,17),(true,18),(false,15),(true,16),(true,19),(true,20),(true,21),(true,22)]] (by kernel_rfl) (by kernel_rfl) (by kernel_rfl) (by decide) (fun c a d v w h => by cases d <;> exact h) ?_
    refine wpGs_seg (fun w' => Below w8.heap.size w8 w') ((Below.refl _ _).drew) ?_
    iterate 17 first
      | refine wpG_q rfl rfl (fun w' hS => by go_simp; rfl) (by go_simp; rfl) ?_
      | refine wpG_skip rfl rfl (by go_simp; rfl) ?_
    refine wpG_eskip rfl rfl (by go_simp; rfl) ?_
    iterate 5 first
      | refine wpG_q rfl rfl (fun w' hS => by go_simp; rfl) (by go_simp; rfl) ?_
      | refine wpG_skip rfl rfl (by go_simp; rfl) ?_
    refine wpG_nil (wpGs_nil ?_)
    go_wp2
    go_ret
    exact ⟨by simp, (hW7.trans (hb8.mono hsz7)).drew⟩

theorem trieBack_walk (a : Option Addr) (n c : Nat) {w : World} (h : n ≤ 30 → ∃ l : List P3, l.length = n ∧ PropsAt w w.heap.size (.slice a n c) l) (ab : Option Addr) (nb cb : Nat) (zs : List Int) (hrow : IsRow .u8 w ab nb cb zs) (r : Int) (_hr : -9223372036854775808 ≤ r ∧ r ≤ 9223372036854775807) :
    Calls Try.prog 8 #[.slice a n c, .slice ab nb cb, .int .i64 r] w fun e w' => e = .returned (.bool true) ∧ Below w.heap.size w w' := by
  by_cases hn : n ≤ 30 ∧ nb ≤ 80000
  · obtain ⟨l, hl, hP⟩ := h hn.1
    cases ho : l.any oddB with
    | true => exact back_bad _ l w hP (by omega) ab nb cb hn.2 _ ho
    | false => exact back_good _ l w hP (by omega) ab nb cb _ hn.2 (argB_of hrow (by omega)) r ho
  · exact back_long a n c ab nb cb _ w (by omega)
end Go.Proofs.Ytpaijpdmeiagfaa
