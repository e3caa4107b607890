/- Save of a trie, as a row of its own. -/
import Derived.Test.YtpaijpdmeiagfaaDoorS
set_option linter.unusedVariables false
set_option linter.unusedSimpArgs false
namespace Go.Proofs.YtpaijpdmeiagfaaDoor
open Go Go.RowKit Go.WideMaps Go.Proofs.Kk Go.Proofs.Tm Go.Proofs.Gg

set_option maxRecDepth 100000 in
set_option maxHeartbeats 2000000 in
/-- Save: the bytes -/
theorem save_row (w : World) (n₀ B : Nat) (t : TD) (ht : TrieAt w n₀ B t) (hn : n₀ ≤ w.heap.size) :
   Calls Tryd.prog 62 #[.pointer (some ⟨B, 0, none⟩)] w fun e w' => ∃ v, e = .returned v ∧ w'.ownsRow w.heap.size 5 1 v (saveL t).length (byt (saveL t)) ∧ Below w.heap.size w w' := by
  obtain ⟨g, c, hg, hF, hcells⟩ := ht.first
  have hlikeB := ht.likeB
  have hB := ht.lt
  have hll := likeL_length t (by rw [ht.len]; exact Nat.le_refl _)
  have hn0 := ht.pos
  have hn1 := ht.few
  have hFb : ∀ c ∈ t.F, c.length = 256 := fun c hc => (ht.blk c hc).len
  have hsave : saveL t = ((t.F.length : Int) - 1) :: (likeL t ++ t.F.flatten) := by rw [likeL_full t ht.len]; rfl
  have hrng : ∀ i j, i < t.F.length → j < 256 → ∃ x, (t.F.getD i [])[j]? = some x := by
    intro i j hi hj
    have hm : t.F.getD i [] ∈ t.F := by simp [List.getD, hi]
    have := hFb _ hm
    exact ⟨(t.F.getD i [])[j]'(by omega), List.getElem?_eq_getElem (by omega)⟩
  have hrow : ∀ i, i < t.F.length → ∀ j v, (byt (t.F.getD i []))[j]? = some v → w.cell? ⟨g, i * 256 + j, none⟩ = some v := by
    intro i hi j v hv
    have hm : t.F.getD i [] ∈ t.F := by simp [List.getD, hi]
    have hl := hFb _ hm
    rw [byt_get] at hv
    obtain ⟨x, hx, rfl⟩ := Option.map_eq_some_iff.1 hv
    have hj : j < 256 := by
      have := (List.getElem?_eq_some_iff.1 hx).1
      omega
    rw [hcells i j hi hj]
    simp only [List.getD] at hx ⊢
    rw [hx]; rfl
  have hBf : ∀ i, i < t.F.length → (t.F.getD i []).length = 256 := fun i hi => hFb _ (by simp [List.getD, hi])
  have hsucc : ∀ i, i < t.F.length → (t.F.take (i + 1)).flatten = (t.F.take i).flatten ++ t.F.getD i [] := by
    intro i hi
    rw [List.take_succ_eq_append_getElem hi, List.flatten_append]
    simp [List.getD, hi]
  have hlen : ∀ i, i ≤ t.F.length → (t.F.take i).flatten.length = 256 * i := by
    intro i hi
    rw [flatten_len (fun c hc => hFb c (List.mem_of_mem_take hc)), List.length_take, Nat.min_eq_left hi]
  have hsaveH := Lib.hid hsave
  clear hcells ht hFb hrng hsave
  obtain ⟨n, hnn⟩ : ∃ n, n = t.F.length := ⟨_, rfl⟩
  rw [← hnn] at hF hn0 hn1 hrow hBf hsucc hlen hsaveH
  have hnH : Hid (n = t.F.length) := hnn
  have hlen' := Lib.hid hlen
  have hsucc' := Lib.hid hsucc
  have hBf' := Lib.hid hBf
  have hrow' := Lib.hid hrow
  have hlikeB' := Lib.hid hlikeB
  clear hnn hlen hsucc hBf hrow hlikeB
  obtain ⟨lk, hlk⟩ : ∃ lk, lk = likeL t := ⟨_, rfl⟩
  rw [← hlk] at hlikeB' hll hsaveH
  clear hlk
  have hn0' : (1 : Int) ≤ n := by omega
  have hn1' : (n : Int) ≤ 256 := by omega
  go_enter Tryd.func62, Tryd.ntmps62
  go_wp2_with fail
  refine wp_region_G [[(true,0),(true,1),(true,2),(true,3),(true,4),(true,5),(true,6),(true,8),(true,9),(true,10),(true,11),(false,7),(false,12),(true,13)]]
    (by kernel_rfl) (by kernel_rfl) (by kernel_rfl) (by decide) (fun c a d v w h => by cases d <;> exact h) ?_
  have hFD : w.drew.cell? ⟨B, 4352, none⟩ = some (.slice (some ⟨g, 0, none⟩) n c) := hF
  have hsD : w.drew.heap.size = w.heap.size := rfl
  refine wpGs_seg (fun w' => w'.cell? ⟨B, 4352, none⟩ = some (.slice (some ⟨g, 0, none⟩) n c)) hFD ?_
  have hw1 : IntKind.i64.wrap ((n : Int) - 1) = (n : Int) - 1 := IntWalk.i64_in _ (by omega)
  have hw2 : IntKind.u8.wrap ((n : Int) - 1) = (n : Int) - 1 := u8_in (by omega)
  iterate 3 refine wpG_q rfl rfl (fun w' hS => by go_simp; rfl) (by go_simp; rfl) ?_
  refine wpG_q rfl rfl (fun w' hS => by go_simp; rfl) (by go_simp; rfl) ?_
  iterate 7 refine wpG_q rfl rfl (fun w' hS => by go_simp; rfl) (by go_simp; rfl) ?_
  obtain ⟨i0, hi0, hz0, hz1, hz2⟩ := info_parts infoU8
  have hrow1 := ownsRow_lit w.drew 5 [.int .u8 ((n : Int) - 1)] w.heap.size (Nat.le_refl _) (by simp [maxLen])
  have hlw : B < w.drew.heap.size := by rw [hsD]; omega
  have hF1 : (w.drew.alloc (.cells #[.int .u8 ((n : Int) - 1)] 5)).cell? ⟨B, 4352, none⟩ = some (.slice (some ⟨g, 0, none⟩) n c) := (World.cell?_of_block (Below.heap_alloc w.drew _ B hlw)).trans hFD
  have hsz1 : (w.drew.alloc (.cells #[.int .u8 ((n : Int) - 1)] 5)).heap.size = w.heap.size + 1 := by rw [World.size_alloc, hsD]
  have hbel1 : Below w.heap.size w (w.drew.alloc (.cells #[.int .u8 ((n : Int) - 1)] 5)) := (Below.refl _ _).drew.alloc (Nat.le_refl _) _
  have hnews : ∀ j u, (byt lk)[j]? = some u → (w.drew.alloc (.cells #[.int .u8 ((n : Int) - 1)] 5)).cell? ((⟨B, 0, none⟩ : Addr).add j) = some u := by
    intro j u hu
    rw [byt_get] at hu
    obtain ⟨x, hx, rfl⟩ := Option.map_eq_some_iff.1 hu
    rw [Addr.add_lit, Nat.zero_add, World.cell?_of_block (Below.heap_alloc w.drew _ B hlw)]
    exact hlikeB'.out j x hx
  refine wpG_er _ rfl rfl (exec_buildSlice_one 33 5 (.tmp 12) rfl #[.int .u8 ((n : Int) - 1)] (by rfl) _ _ _ bytesU infoU8 (by rfl) (by decide) (by decide)) (by go_simp; rfl) (fun w h => h) hF1 ?_
  generalize w.drew.alloc (.cells #[.int .u8 ((n : Int) - 1)] 5) = W1 at hrow1 hF1 hsz1 hbel1 hnews ⊢
  obtain ⟨g1, cap1, w2, hr, hrow2, hg2, _, _⟩ := run_append_lies (P := Tryd.prog) (w := W1) 33 33 w.heap.size 5 i0 (.int .u8 0) 1 1 bytesU hi0 hz0 hz1 hz2 rfl (by decide)
    _ _ _ hrow1 ⟨B, 0, none⟩ 4352 4352 (byt lk) (by rw [byt_length, hll]) hnews (byt_one lk) (by decide) (by unfold maxLen; simp) (by simp) (by omega) _ rfl
  have hF2 : w2.cell? ⟨B, 4352, none⟩ = some (.slice (some ⟨g, 0, none⟩) n c) := by
    rw [World.cell?_of_block (w := W1) (hg2.block B (by omega) (fun e => by simp [Value.ownBlock] at e; omega))]; exact hF1
  have hbel2 : Below w.heap.size w w2 := hbel1.grown hg2 (by omega) (fun k e => by simp [Value.ownBlock] at e; omega)
  refine wpG_er _ rfl rfl (exec_append (.tmp 13) (.tmp 17) 33 rfl (v := .slice (some ⟨w.heap.size, 0, none⟩) 1 1) (u := .slice (some ⟨B, 0, none⟩) 4352 4352) (by rfl) (by rfl) hr) (by go_simp; rfl) (fun w h => h) hF2 ?_
  refine wpG_q rfl rfl (fun w' hS => by go_simp; rfl) (by go_simp; rfl) ?_
  refine wpG_nil (wpGs_nil ?_)
  clear hw1 hw2
  clear hr hnews hF1 hsz1 hbel1 hrow1 hFD hsD
  go_wp2
  have hrow3 : w2.ownsRow w.heap.size 5 1 (.slice (some ⟨g1, 0, none⟩) 4353 cap1) (4353 + 256 * 0) (byt ((((n : Int) - 1) :: lk) ++ (t.F.take 0).flatten)) := by
    simpa [byt] using hrow2
  clear hrow2 hg2
  go_loopw [3, 24] (fun v i wr => ∃ k : Nat, k ≤ n ∧ i = .int .i64 k ∧ wr.ownsRow w.heap.size 5 1 v (4353 + 256 * k) (byt ((((n : Int) - 1) :: lk) ++ (t.F.take k).flatten)) ∧ Below w.heap.size w wr) (fun _ i _ => n - (intOf i).toNat)
  case atStart => exact ⟨0, by omega, rfl, hrow3, hbel2⟩
  case round =>
    obtain ⟨k, hk, rfl, hrow, hb⟩ := hrel
    by_cases hlt : k < n
    · have hk1 : (k : Int) < n := by omega
      have hk0 : (0 : Int) ≤ k := by omega
      have hlenk := hBf'.out k hlt
      have hcs : ∀ j v, (byt (t.F.getD k []))[j]? = some v → wr.cell? ((⟨g, k * 256, none⟩ : Addr).add j) = some v := by
        intro j v hv
        rw [Addr.add_lit, hb.cell (p := ⟨g, _, none⟩) (by simp; omega)]
        exact hrow'.out k hlt j v hv
      have hst := hsucc'.out k hlt
      have hst' := Lib.hid hst
      have hcs' := Lib.hid hcs
      clear hst hcs
      have hbs := hb.size
      obtain ⟨Fk, hFk⟩ : ∃ Fk, Fk = t.F.getD k [] := ⟨_, rfl⟩
      rw [← hFk] at hcs' hst' hlenk
      clear hFk
      have hsz : (Tryd.prog.info? 93).map (·.size) = some (byt Fk).length := by rw [size_of infoBlock, byt_length, hlenk]
      have hzb := zero_of infoBlock
      have hown4 : ∀ W3 W4 : World, Below wr.heap.size wr W3 → W3.grownBy W4 (some wr.heap.size) → W4.ownsRow w.heap.size 5 1 u3 (4353 + 256 * k) (byt ((((n : Int) - 1) :: lk) ++ (t.F.take k).flatten)) := by
        intro W3 W4 hb3 hg4
        have h3 : W3.ownsRow w.heap.size 5 1 u3 (4353 + 256 * k) (byt ((((n : Int) - 1) :: lk) ++ (t.F.take k).flatten)) := hrow.kept (row := none) ⟨hb3.os, hb3.tape, hb3.output, hb3.size, fun k hk _ => hb3.block k hk⟩ (by cases hu : u3.ownBlock <;> simp)
        exact h3.kept hg4 (.inr (fun e => by have := (hrow.lt _ e).2; omega))
      have hsz2 : (Tryd.prog.info? 93).map (·.size) = some (byt Fk).toArray.size := by rw [hsz]; rfl
      have hsz3 : (bagg z256).cells.size = (byt Fk).toArray.size := by rw [zsize, List.size_toArray, byt_length, hlenk]
      have hsz4 := byt_all Fk
      go_wp2_with (first
        | (with_reducible refine wpList_load_cells rfl 93 (.tmp 26) rfl _ ⟨g, k * 256, none⟩ rfl (byt Fk) hcs'.out _ blockU rfl hsz ?_)
        | (with_reducible refine wpList_alloc_zo rfl 93 rfl _ (bagg z256) hzb ?_; intro W3 hz3 hb3 hs3)
        | (with_reducible refine wpList_store_row_o rfl 93 (.tmp 5) (.tmp 27) rfl _ wr.heap.size (byt Fk).toArray rfl rfl 93 (bagg z256).cells hz3 hsz2 hsz3 hsz4 ?_; intro W4 hr4 hg4 hs4)
        | (at_builtin; refine wpList_append_lies _ rfl (.tmp 28) (.tmp 29) 33 rfl w.heap.size 5 i0 (.int .u8 0) 1 1 bytesU hi0 hz0 hz1 hz2 rfl (by decide) _ _ _ rfl (by exact hown4 W3 W4 hb3 hg4) ⟨wr.heap.size, 0, none⟩ 256 256 (byt Fk) rfl (by rw [byt_length, hlenk]) (by exact World.news_of_block (cs := (byt Fk).toArray) (t := 93) (fr := (0, 0)) hr4) (byt_one Fk) (by decide) (by unfold maxLen; omega) (by omega) (by omega) _ rfl ?_; intro g5 cap5 w5 hrow5 hg5 _ _))
      have hown5 : ∀ k, u3.ownBlock = some k → w.heap.size ≤ k := fun k e => (hrow.lt k e).1
      go_roundw
      case rel =>
        refine ⟨k + 1, by omega, by go_num, ?_, (Below.grown (hb.trans (hb3.mono hb.size)) hg4 (by omega) (fun k e => by cases e; exact hbs)).grown hg5 (by omega) hown5⟩
        rw [hst'.out, ← List.append_assoc, byt_append, show 4353 + 256 * (k + 1) = 4353 + 256 * k + 256 by omega]
        exact hrow5
      case measure => simp [intOf]; omega
    · obtain rfl : k = n := by omega
      have hl5 := hlen'.out k (Nat.le_refl _)
      have e1 : t.F.take k = t.F := List.take_of_length_le (by have := hnH.out; omega)
      rw [e1] at hrow hl5
      have hs5 := hsaveH.out
      rw [← List.cons_append] at hs5
      rw [← hs5] at hrow
      have hl6 : (saveL t).length = 4353 + 256 * k := by rw [hs5]; simp [hll, hl5]; omega
      rw [← hl6] at hrow
      have hP' := Lib.hid hrow
      clear hs5 hl5 e1 hrow hl6
      go_wp2
      go_ret
      exact ⟨_, rfl, hP'.out, hb⟩
end Go.Proofs.YtpaijpdmeiagfaaDoor
