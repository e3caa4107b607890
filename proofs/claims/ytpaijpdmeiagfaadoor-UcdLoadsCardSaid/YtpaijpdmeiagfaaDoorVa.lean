/- The document's trie in memory; place. -/
import Derived.Test.YtpaijpdmeiagfaaDoorV
import Derived.Test.YtpaijpdmeiagfaaDoorS
namespace Go.Proofs.Kk
open Go
/-- numbers as values -/
def intc (l : List Nat) : List Value := l.map fun (n : Nat) => Value.int .i64 n
theorem intc_length (l : List Nat) : (intc l).length = l.length := by simp [intc]
theorem intc_snoc (l : List Nat) (n : Nat) : intc (l ++ [n]) = intc l ++ [.int .i64 n] := by simp [intc]
theorem intc_get (l : List Nat) (i : Nat) (h : i < l.length) : (intc l)[i]? = some (.int .i64 (l.getD i 0 : Nat)) := by simp [intc, List.getD, h]
theorem strs_ne {a b : ByteArray} (h : ¬ a = b) : (a.toList == b.toList) = false := by
  rw [beq_eq_false_iff_ne]
  intro e
  apply h
  obtain ⟨⟨l⟩⟩ := a
  obtain ⟨⟨m⟩⟩ := b
  have e1 : (ByteArray.mk l.toArray).toList = l := ByteArray.toList_mk l
  have e2 : (ByteArray.mk m.toArray).toList = m := ByteArray.toList_mk m
  have : l = m := e1.symm.trans (e.trans e2)
  rw [this]
end Go.Proofs.Kk
namespace Go.Proofs.YtpaijpdmeiagfaaDoor
open Go Go.RowKit Go.WideMaps Go.Proofs.Kk Go.Proofs.Tm Go.Proofs.Gg

/-- the document's trie, being built or whole -/
structure PR (w : World) (base B : Nat) (t : TD) : Prop where
  bB : base ≤ B
  row : ∃ v1 v2, w.heap[B]? = some (.cells #[v1, v2] 104 (0, 0)) ∧ w.ownsRow base 5 1 v1 (256 * t.F.length) (byt t.F.flatten) ∧ w.ownsRow base 3 1 v2 t.L.length (intc t.L)
  len : t.L.length ≤ 4352
  blk : ∀ c ∈ t.F, IsBlk c
  few : t.F.length ≤ 4353
  src : ∃ bs, t = TD.ofBlocks bs

theorem PR.below {w w' : World} {base B : Nat} {t : TD} (h : PR w base B t) (hb : Below w.heap.size w w') : PR w' base B t := by
  obtain ⟨bB, ⟨v1, v2, hB, h1, h2⟩, r1, r2, r3, r4⟩ := h
  have hk : ∀ {e size v n xs}, w.ownsRow base e size v n xs → w'.ownsRow base e size v n xs := fun {e size v n xs} hrow => by
    refine ⟨hrow.1, ?_⟩
    rcases hrow.2 with h | ⟨g, cap, cur, h1, h2, h3, h4⟩
    · exact .inl h
    · exact .inr ⟨g, cap, cur, h1, h2, (hb.block g (Array.getElem?_eq_some_iff.1 h3).1).trans h3, h4⟩
  exact ⟨bB, ⟨v1, v2, (hb.block B (Array.getElem?_eq_some_iff.1 hB).1).trans hB, hk h1, hk h2⟩, r1, r2, r3, r4⟩

/-- the first blocks, as bytes -/
theorem PR.first {w : World} {base B : Nat} {t : TD} (h : PR w base B t) : ∃ ao c, w.cell? ⟨B, 0, none⟩ = some (.slice ao (256 * t.F.length) c) ∧
    ∀ i, i < t.F.length → ∃ g, ao = some ⟨g, 0, none⟩ ∧ 256 * t.F.length ≤ c ∧ BytesAt w w.heap.size (.slice (some ⟨g, i * 256, none⟩) 256 (c - i * 256)) (t.F.getD i []) := by
  obtain ⟨bB, ⟨v1, v2, hB, h1, h2⟩, r1, r2, r3, r4⟩ := h
  rcases h1.2 with ⟨rfl, h⟩ | ⟨g, cap, cur, rfl, _, h3, h4, h5, h6, h7⟩
  · refine ⟨none, 0, by rw [cell_of_row _ _ _ _ _ _ hB, h]; rfl, fun i hi => by omega⟩
  · refine ⟨some ⟨g, 0, none⟩, cap, by rw [cell_of_row _ _ _ _ _ _ hB]; rfl, fun i hi => ⟨g, rfl, h4, ?_⟩⟩
    have hm : t.F.getD i [] ∈ t.F := by simp [List.getD, hi]
    have hl := (r2 _ hm).len
    unfold maxLen at h5
    refine ⟨some ⟨g, i * 256, none⟩, cap - i * 256, by rw [hl], by omega, by omega, by omega, .inr ⟨g, i * 256, rfl, (Array.getElem?_eq_some_iff.1 h3).1, ?_⟩⟩
    intro j x hx
    have hj : j < 256 := by have := (List.getElem?_eq_some_iff.1 hx).1; omega
    have e := flatten_get (fun c hc => (r2 c hc).len) i j hj hi
    have e2 : (byt t.F.flatten)[i * 256 + j]? = some (.int .u8 x) := by
      rw [byt_get, e]
      simp only [List.getD] at hx ⊢
      rw [hx]; rfl
    rw [cell_of_row _ _ _ _ _ _ h3]
    rw [← h7, List.getElem?_take] at e2
    split at e2
    · rw [← Array.getElem?_toList]; exact e2
    · cases e2

theorem idxOf_ge {F : List (List Int)} {b : List Int} {k : Nat} (h : ∀ j, j < k → F.getD j [] ≠ b) (hk : k ≤ F.length) : k ≤ F.idxOf b := by
  rcases Nat.lt_or_ge (F.idxOf b) k with hlt | hge
  · exfalso
    have hl : F.idxOf b < F.length := by omega
    refine h _ hlt ?_
    rw [List.getD_eq_getElem?_getD, List.getElem?_eq_getElem hl, Option.getD_some]
    exact List.getElem_idxOf hl
  · exact hge

set_option maxRecDepth 100000 in
set_option maxHeartbeats 1000000 in
/-- place: the first block that is like some values -/
theorem place_any (w : World) (base B : Nat) (t : TD) (h : PR w base B t) (v : Value) (b : List Int) (n₀ : Nat) (hbv : BytesAt w n₀ v b) (hb : IsBlk b) :
    Calls Tryd.prog 113 #[.pointer (some ⟨B, 0, none⟩), v] w fun e w' => e = .returned (.int .i64 (if b ∈ t.F then (t.F.idxOf b : Int) else -1)) ∧ w'.heap = w.heap ∧ Below w.heap.size w w' := by
  obtain ⟨ao, c, hcell, hF⟩ := h.first
  have hFb : ∀ i, i < t.F.length → IsB (t.F.getD i []) := fun i hi => (h.blk _ (by simp [List.getD, hi])).rng
  have hmem : ∀ k, k < t.F.length → t.F.getD k [] = b → b ∈ t.F := fun k hk e => by rw [← e]; simp [List.getD, hk]
  have hidx : ∀ k, (∀ j, j < k → t.F.getD j [] ≠ b) → k < t.F.length → t.F.getD k [] = b → t.F.idxOf b = k := by
    intro k h1 h2 h3
    have h4 := idxOf_ge h1 (by omega)
    have h5 : ¬ k < t.F.idxOf b := fun hlt => by
      have := List.not_of_lt_findIdx (p := (· == b)) (xs := t.F) (i := k) hlt
      simp only [List.getD, List.getElem?_eq_getElem h2, Option.getD_some] at h3
      simp [h3] at this
    omega
  have hno : (∀ j, j < t.F.length → t.F.getD j [] ≠ b) → b ∉ t.F := by
    intro h1 hm
    obtain ⟨j, hj⟩ := List.mem_iff_getElem?.1 hm
    have hl := (List.getElem?_eq_some_iff.1 hj).1
    exact h1 j hl (by simp only [List.getD, hj, Option.getD_some])
  have hfew := h.few
  have hmemH := Lib.hid hmem
  have hidxH := Lib.hid hidx
  have hnoH := Lib.hid hno
  have hFH := Lib.hid hF
  have hFbH := Lib.hid hFb
  have hbr := hb.rng
  clear hmem hidx hno hF hFb h hb
  obtain ⟨res, hres⟩ : ∃ res : Int, res = if b ∈ t.F then (t.F.idxOf b : Int) else -1 := ⟨_, rfl⟩
  rw [← hres]
  have hresH : Hid (res = if b ∈ t.F then (t.F.idxOf b : Int) else -1) := hres
  clear hres
  obtain ⟨n, hn⟩ : ∃ n, n = t.F.length := ⟨_, rfl⟩
  rw [← hn] at hcell hfew hmemH hidxH hnoH hFH hFbH
  clear hn
  obtain ⟨aov, cv, rfl, hbrest⟩ := hbv
  have hbv : BytesAt w n₀ (.slice aov b.length cv) b := ⟨aov, cv, rfl, hbrest⟩
  have hbv' := Lib.hid hbv
  have hbr' : Hid (IsB b) := hbr
  clear hbrest hbv hbr
  go_enter Tryd.func113, Tryd.ntmps113
  go_wp2
  go_loopw [5] (fun i wr => ∃ (k : Nat), k ≤ n ∧ i = .int .i64 k ∧ Hid (∀ j, j < k → t.F.getD j [] ≠ b) ∧ wr.heap = w.heap ∧ Below w.heap.size w wr) (fun i _ => n - (intOf i).toNat)
  case atStart => exact ⟨0, by omega, rfl, fun j hj => by omega, rfl, Below.refl _ _⟩
  case round =>
    obtain ⟨k, hk, rfl, hpre, hh, hbl⟩ := hrel
    have hc0 : wr.cell? ⟨B, 0, none⟩ = some (.slice ao (256 * n) c) := by rw [World.cell?_of_block (w := w) (by rw [hh])]; exact hcell
    by_cases hlt : k < n
    · obtain ⟨g, rfl, hcap, hblk⟩ := hFH.out k hlt
      have hk0 : (0 : Int) ≤ k := by omega
      have hk1 : (k : Int) < n := by omega
      have hk2 : (n : Int) ≤ 4353 := by omega
      have hFk := hFbH.out k hlt
      obtain ⟨Fk, hFd⟩ : ∃ Fk, Fk = t.F.getD k [] := ⟨_, rfl⟩
      rw [← hFd] at hblk hFk
      have hblk' := Lib.hid hblk
      have hFk' := Lib.hid hFk
      have hFdH : Hid (t.F.getD k [] = Fk) := hFd.symm
      clear hblk hFk hFd
      go_wp2
      obtain ⟨s1, hs1⟩ : ∃ s, s = strOfNums Fk := ⟨_, rfl⟩
      obtain ⟨s2, hs2⟩ : ∃ s, s = strOfNums b := ⟨_, rfl⟩
      have hcd : wr.drew.cell? ⟨B, 0, none⟩ = some (.slice (some ⟨g, 0, none⟩) (256 * n) c) := hc0
      refine wp_region_G [[(true,0),(true,1),(true,2),(true,3),(true,4),(true,5),(true,6),(true,7),(true,8),(true,9),(true,10),(true,11),(true,12),(true,13)]] (by kernel_rfl) (by kernel_rfl) (by kernel_rfl) (by decide) (fun c a d v w h => by cases d <;> exact h) ?_
      refine wpGs_seg (fun w' => w'.heap = w.heap ∧ w'.cell? ⟨B, 0, none⟩ = some (.slice (some ⟨g, 0, none⟩) (256 * n) c)) ⟨hh, hcd⟩ ?_
      iterate 3 refine wpG_q rfl rfl (fun w' hS => by go_simp; rfl) (by go_simp; rfl) ?_
      refine wpG_q rfl rfl (fun w' hS => by have hS2 := hS.2; go_simp; rfl) (by go_simp; rfl) ?_
      have q1 : IntKind.i64.wrap ((k : Int) * 256) = (k : Int) * 256 := IntWalk.i64_in _ (by omega)
      have q2 : IntKind.i64.wrap ((k : Int) + 1) = (k : Int) + 1 := IntWalk.i64_in _ (by omega)
      have q3 : IntKind.i64.wrap (((k : Int) + 1) * 256) = ((k : Int) + 1) * 256 := IntWalk.i64_in _ (by omega)
      have q4 : (0 : Int) ≤ ((k : Int) + 1) * 256 ∧ ((k : Int) + 1) * 256 ≤ (c : Int) := by omega
      have q5 : (0 : Int) ≤ (k : Int) * 256 ∧ (k : Int) * 256 ≤ max (((k : Int) + 1) * 256) 0 := by omega
      have q6 : ¬ c = ((k : Int) * 256).toNat := by omega
      have q7 : (((k : Int) + 1) * 256).toNat - ((k : Int) * 256).toNat = 256 := by omega
      have q8 : ((k : Int) * 256).toNat = k * 256 := by omega
      iterate 5 refine wpG_q rfl rfl (fun w' hS => by go_simp; rfl) (by go_simp; rfl) ?_
      refine wpG_q (v := .slice (some ⟨g, k * 256, none⟩) 256 (c - k * 256)) rfl rfl (fun w' hS => by go_simp; exact ⟨fun h => by omega, by omega⟩) (by go_simp; rfl) ?_
      refine wpG_q rfl rfl (fun w' hS => exec_conv_bytes (bs := Fk) (hblk'.out.heap hS.1) _ _ 5 _ rfl (by go_simp <;> rfl) bytesU u8U (by kernel_rfl)) (by go_simp; rfl) ?_
      refine wpG_q rfl rfl (fun w' hS => by go_simp; rfl) (by go_simp; rfl) ?_
      refine wpG_q rfl rfl (fun w' hS => exec_conv_bytes (bs := b) (hbv'.out.heap hS.1) _ _ 5 _ rfl (by go_simp <;> rfl) bytesU u8U (by kernel_rfl)) (by go_simp; rfl) ?_
      rw [← hs1, ← hs2]
      have hiff : s1 = s2 ↔ Fk = b := by rw [hs1, hs2]; exact strOfNums_inj hFk'.out hbr'.out
      clear q1 q2 q3 q4 q5 q6 q7 q8 hs1 hs2
      by_cases he : Fk = b
      · have h12 : s1 = s2 := hiff.2 he
        subst h12
        have heH := Lib.hid he
        clear he hiff
        refine wpG_q rfl rfl (fun w' hS => by go_simp; rfl) (by go_simp; rfl) ?_
        refine wpG_nil (wpGs_nil ?_)
        go_wp2
        go_ret
        refine ⟨?_, hh, hbl.drew⟩
        rw [hresH.out, if_pos (hmemH.out k hlt (hFdH.out.trans heH.out)), hidxH.out k hpre.out hlt (hFdH.out.trans heH.out)]
        rfl
      · have h12 := strs_ne (fun h => he (hiff.1 h))
        have heH := Lib.hid he
        clear he hiff
        refine wpG_q rfl rfl (fun w' hS => by go_simp; rfl) (by go_simp; rfl) ?_
        refine wpG_nil (wpGs_nil ?_)
        go_wp2
        go_roundw
        case rel =>
          refine ⟨k + 1, by omega, by go_num, fun j hj => ?_, hh, hbl.drew⟩
          by_cases e : j = k
          · subst e; rw [hFdH.out]; exact heH.out
          · exact hpre.out j (by omega)
        case measure => simp [intOf]; omega
    · obtain rfl : k = n := by omega
      have hk2 : (k : Int) ≤ 4353 := by omega
      go_wp2
      go_ret
      refine ⟨?_, hh, hbl⟩
      rw [hresH.out, if_neg (hnoH.out hpre.out)]
      rfl
end Go.Proofs.YtpaijpdmeiagfaaDoor
