/- The document's data: Save. -/
import Derived.Test.YtpaijpdmeiagfaaDoorGa
import Derived.Test.YtpaijpdmeiagfaaDoorVe
set_option linter.unusedVariables false
set_option linter.unusedSimpArgs false
namespace Go.Proofs.YtpaijpdmeiagfaaDoor
open Go Go.RowKit Go.WideMaps Go.Proofs.Kk Go.Proofs.Tm Go.Proofs.Gg

theorem put4_cells2 (n : Nat) (h : n ≤ 70000) : [Value.int .u8 ((n : Int) % 256), .int .u8 ((n : Int) / 256 % 256), .int .u8 ((n : Int) / 65536 % 256), .int .u8 ((n : Int) / 16777216)] = byt (put4 n) := by
  have e3 : ((n / 16777216 % 256 : Nat) : Int) = (n : Int) / 16777216 := by omega
  simp only [byt, put4, List.map_cons, List.map_nil, e3]
  simp

set_option maxRecDepth 100000 in
set_option maxHeartbeats 4000000 in
theorem rdsave_any (w : World) (n₀ D : Nat) (Ts : List TD) (h : RDataAt w n₀ D Ts) (hn : n₀ ≤ w.heap.size) :
    Calls Tryd.prog 37 #[.pointer (some ⟨D, 0, none⟩)] w fun e w' => ∃ v, e = .returned v ∧ w'.ownsRow w.heap.size 5 1 v (dsave Ts).length (byt (dsave Ts)) ∧ Below w.heap.size w w' := by
  have hlen : Ts.length = 4 := h.2.1
  have htr : ∀ (k : Nat) (T : TD), Ts[k]? = some T → ∃ B, w.cell? ⟨D, k, none⟩ = some (.pointer (some ⟨B, 0, none⟩)) ∧ RefAt w n₀ B T := fun k T hT => h.trie k T hT
  have hD := h.1
  have hall : ∀ T ∈ Ts, (saveL T).length ≤ 70000 := by
    intro T hT
    obtain ⟨k, hk⟩ := List.mem_iff_getElem?.1 hT
    obtain ⟨B, _, ht⟩ := htr k T hk
    exact ht.saveLen.1
  have htrH := Lib.hid htr
  have hallH := Lib.hid hall
  have hlenH := Lib.hid hlen
  clear h htr hall hlen
  obtain ⟨i0, hi0, hz0, hz1, hz2⟩ := info_parts infoU8
  have hiH := Lib.hid hi0
  have hz0H := Lib.hid hz0
  have hz1H := Lib.hid hz1
  have hz2H := Lib.hid hz2
  clear hi0 hz0 hz1 hz2
  go_enter Tryd.func37, Tryd.ntmps37
  go_wp2
  go_loopw [3, 4] (fun vo vi wr => ∃ k : Nat, k ≤ 4 ∧ vi = .int .i64 k ∧ wr.ownsRow w.heap.size 5 1 vo (dsave (Ts.take k)).length (byt (dsave (Ts.take k))) ∧ Below w.heap.size w wr) (fun _ vi _ => 4 - (intOf vi).toNat)
  case atStart => exact ⟨0, by omega, rfl, World.ownsRow_nil _ _ _ _, Below.refl _ _⟩
  case round =>
    obtain ⟨k, hk, rfl, hrow, hb⟩ := hrel
    by_cases hlt : k < 4
    · have hk1 : (k : Int) < 4 := by omega
      have hk0 : (0 : Int) ≤ k := by omega
      obtain ⟨T, hT⟩ : ∃ T, Ts[k]? = some T := ⟨_, List.getElem?_eq_getElem (by rw [hlenH.out]; exact hlt)⟩
      obtain ⟨B, hc, ht⟩ := htrH.out k T hT
      have hst : Hid (dsave (Ts.take (k + 1)) = dsave (Ts.take k) ++ (put4 (saveL T).length ++ saveL T)) := by
        rw [List.take_add_one, hT]
        exact dsave_snoc _ _
      have hL1 := dsave_len (Ts.take k) fun t ht => hallH.out t (List.mem_of_mem_take ht)
      have hL2 : (Ts.take k).length ≤ 4 := by rw [List.length_take]; omega
      have hL : (dsave (Ts.take k)).length ≤ 300000 := by omega
      have hc1 : wr.cell? ⟨D, k, none⟩ = some (.pointer (some ⟨B, 0, none⟩)) := (hb.cell (p := ⟨D, k, none⟩) (by simp; omega)).trans hc
      have ht1 := ht.below hb hn
      obtain ⟨hs1, hs2⟩ := ht.saveLen
      have hbs := hb.size
      clear hL1 hL2 hc ht hT
      generalize dsave (Ts.take k) = X at hrow hst hL
      obtain ⟨S, hS⟩ : ∃ S, S = saveL T := ⟨_, rfl⟩
      have hsv := rsave_any wr n₀ B T ht1 (by omega)
      rw [← hS] at hst hs1 hs2 hsv
      obtain ⟨n, hn'⟩ : ∃ n, n = S.length := ⟨_, rfl⟩
      rw [← hn'] at hst hs1 hs2
      have hnH : Hid (n = S.length) := hn'
      have hsvH := Lib.hid hsv
      clear ht1 hsv hS hn'
      have hn1 : (n : Int) ≤ 70000 := by omega
      have hn0 : (0 : Int) ≤ n := by omega
      have hlit := Lib.hid (put4_cells2 n hs1)
      have hSne : S ≠ [] := by intro e; rw [e] at hnH; have := hnH.out; simp at this; omega
      have hrow0 := Lib.hid hrow
      go_wp2_with (first
        | (go_at_call 65; refine hsvH.out.mono ?_; rintro e w2 ⟨v2, rfl, hv2, hb2⟩; obtain ⟨g2, cap2, hvv, hg2a, hg2b⟩ := hv2.form (by rw [← hnH.out]; omega); rw [← hnH.out] at hvv; subst hvv; have hrow2 := ownsRow_below hrow hb2 (Nat.le_refl _); have hap := own_apart2 hrow0.out hv2 (Nat.le_refl _); have hb2s := hb2.size)
        | (at_builtin; refine wpList_append_own _ rfl (.tmp 20) (.tmp 35) 33 rfl w.heap.size 5 i0 (.int .u8 0) 1 1 bytesU hiH.out hz0H.out hz1H.out hz2H.out rfl (by decide) _ _ _ rfl (hrow2.alloc _) ⟨w2.heap.size, 0, none⟩ 4 4 [Value.int .u8 ((n : Int) % 256), .int .u8 ((n : Int) / 256 % 256), .int .u8 ((n : Int) / 65536 % 256), .int .u8 ((n : Int) / 16777216)] rfl rfl (World.news_of_block (cs := #[Value.int .u8 ((n : Int) % 256), .int .u8 ((n : Int) / 256 % 256), .int .u8 ((n : Int) / 65536 % 256), .int .u8 ((n : Int) / 16777216)]) (t := 5) (fr := (0, 0)) (heap_alloc_new _ _)) (by simp [Value.oneCell']) (by unfold maxLen; omega) (by omega) (by simp; omega) ?_; intro v3 w3 hown3 hg3 _; rw [hlit.out] at hown3; have hv3 := (hv2.alloc (.cells #[Value.int .u8 ((n : Int) % 256), .int .u8 ((n : Int) / 256 % 256), .int .u8 ((n : Int) / 65536 % 256), .int .u8 ((n : Int) / 16777216)] 5)).kept hg3 hap; obtain ⟨ad, cb, hvv, _, hnews⟩ := (BytesAt.of_own hv3 (by rw [← hnH.out]; omega)).news hSne; simp only [Value.slice.injEq, Option.some.injEq] at hvv; obtain ⟨rfl, hxx, rfl⟩ := hvv; clear hxx; have hnewsH := Lib.hid hnews; have hg3s := hg3.size; obtain ⟨g3, cap3, hvv3, _, _⟩ := hown3.form (by omega); subst hvv3; clear hv3 hnews hv2)
        | (at_builtin; refine wpList_append_lies _ rfl (.tmp 37) (.tmp 38) 33 rfl w.heap.size 5 i0 (.int .u8 0) 1 1 bytesU hiH.out hz0H.out hz1H.out hz2H.out rfl (by decide) _ _ _ rfl hown3 ⟨g2, 0, none⟩ n cap2 (byt S) rfl (by rw [byt_length, ← hnH.out]; omega) hnewsH.out (byt_one S) (by omega) (by unfold maxLen; omega) (by omega) (by simp at hg3s; omega) _ rfl ?_; intro g4 cap4 w4 hown4 hg4 _ _))
      go_roundw
      case rel =>
        refine ⟨k + 1, by omega, by go_num, ?_, ?_⟩
        · rw [hst.out, byt_append, byt_append, List.length_append, List.length_append, ← hnH.out, ← List.append_assoc]
          rw [show X.length + ((put4 n).length + n) = X.length + 4 + n from by simp [put4]; omega]
          exact hown4
        · refine below_grown (below_grown ((hb.trans (hb2.mono hbs)).alloc (by omega) _) (hrow2.alloc _) hg3 (Nat.le_refl _) (by simp; omega)) hown3 hg4 (Nat.le_refl _) (by simp at hg3s; omega)
      case measure => simp [intOf]; omega
    · obtain rfl : k = 4 := by omega
      rw [List.take_of_length_le (by rw [hlenH.out]; exact Nat.le_refl _)] at hrow
      have hrowH := Lib.hid hrow
      clear hlt hk hrow
      go_wp2
      go_ret
      exact ⟨_, rfl, hrowH.out, hb⟩
end Go.Proofs.YtpaijpdmeiagfaaDoor
