import Derived.Test.YtpaijpdmeiagfaaDoorB
import Derived.Test.YtpaijpdmeiagfaaDoorC
namespace Go.Proofs.YtpaijpdmeiagfaaDoor
open Go Go.RowKit Go.WideMaps Go.Proofs.Kk Go.Proofs.Tm Go.Proofs.Gg

theorem PT.below {w w' : World} {base B M : Nat} {t : TD} (h : PT w base B M t) (hb : Below w.heap.size w w') : PT w' base B M t := by
  obtain ⟨bB, bM, ⟨v, hB, hrow⟩, hM, r1, r2, r3, r4, r5⟩ := h
  refine ⟨bB, bM, ⟨v, (hb.block B (Array.getElem?_eq_some_iff.1 hB).1).trans hB, hrow.1, ?_⟩, (hb.block M (Array.getElem?_eq_some_iff.1 hM).1).trans hM, r1, r2, r3, r4, r5⟩
  rcases hrow.2 with h | ⟨g, cap, cur, h1, h2, h3, h4⟩
  · exact .inl h
  · exact .inr ⟨g, cap, cur, h1, h2, (hb.block g (Array.getElem?_eq_some_iff.1 h3).1).trans h3, h4⟩

theorem add_ok (w : World) (base B M : Nat) (t : TD) (k : Nat) (hkk : Hid (t.L.length = k)) (b : List Int) (hb : IsBlk b) (h : PT w base B M t) (hk : k < 4352) (hm : b ∈ t.F ∨ t.F.length < 256) :
    Calls Tryd.prog 91 #[.pointer (some ⟨B, 0, none⟩), .int .i64 k, bagg b, .map (some M)] w fun e w' => e = .returned (.bool true) ∧ PT w' base B M (t.add b) ∧ Below base w w' := by
  have hkk := hkk.out
  subst hkk
  by_cases h1 : b ∈ t.F
  · exact add_old w base B M t b hb h hk h1
  · exact add_new w base B M t b hb h hk h1 (hm.resolve_left h1)

theorem add_no (w : World) (base B M : Nat) (t : TD) (k : Nat) (hkk : Hid (t.L.length = k)) (b : List Int) (hb : IsBlk b) (h : PT w base B M t) (hm : b ∉ t.F) (hf : t.F.length = 256) :
    Calls Tryd.prog 91 #[.pointer (some ⟨B, 0, none⟩), .int .i64 k, bagg b, .map (some M)] w fun e w' => e = .returned (.bool false) ∧ Below base w w' := by
  have hkk := hkk.out
  subst hkk
  exact add_full w base B M t b hb h hm hf

/-- a trie that is built, below block n₀ -/
structure TrieAt (w : World) (n₀ B : Nat) (t : TD) : Prop where
  lt : B < n₀
  len : t.L.length = 4352
  pos : 0 < t.F.length
  few : t.F.length ≤ 256
  blk : ∀ c ∈ t.F, IsBlk c
  src : ∃ bs, t = TD.ofBlocks bs
  row : ∃ g cap cur, w.heap[B]? = some (.cells (trieCells t (.slice (some ⟨g, 0, none⟩) t.F.length cap)) 97 (0, 0)) ∧ g < n₀ ∧ w.heap[g]? = some (.cells cur 93 (0, 0)) ∧
    cur.toList.take (t.F.length * 256) = byt t.F.flatten ∧ t.F.length ≤ cap

theorem TrieAt.below {w w' : World} {n₀ B N : Nat} {t : TD} (h : TrieAt w n₀ B t) (hb : Below N w w') (hN : n₀ ≤ N) : TrieAt w' n₀ B t := by
  obtain ⟨hlt, hl, hp, hf, hbk, hsr, g, cap, cur, h1, h2, h3, h4⟩ := h
  exact ⟨hlt, hl, hp, hf, hbk, hsr, g, cap, cur, (hb.block B (by omega)).trans h1, h2, (hb.block g (by omega)).trans h3, h4⟩
theorem TrieAt.mono {w : World} {n₀ n₁ B : Nat} {t : TD} (h : TrieAt w n₀ B t) (hn : n₀ ≤ n₁) : TrieAt w n₁ B t := by
  obtain ⟨hlt, hl, hp, hf, hbk, hsr, g, cap, cur, h1, h2, h3, h4⟩ := h
  exact ⟨by omega, hl, hp, hf, hbk, hsr, g, cap, cur, h1, by omega, h3, h4⟩

theorem TrieAt.heap {w w' : World} {n₀ B : Nat} {t : TD} (h : TrieAt w n₀ B t) (hw : w'.heap = w.heap) : TrieAt w' n₀ B t := by
  obtain ⟨hlt, hl, hp, hf, hbk, hsr, g, cap, cur, h1, h2, h3, h4, h5⟩ := h
  exact ⟨hlt, hl, hp, hf, hbk, hsr, g, cap, cur, by rw [hw]; exact h1, h2, by rw [hw]; exact h3, h4, h5⟩

theorem PT.done {w : World} {base B M : Nat} {t : TD} (h : PT w base B M t) (hl : t.L.length = 4352) (hp : 0 < t.F.length) : TrieAt w w.heap.size B t := by
  obtain ⟨bB, bM, ⟨v, hB, hrow⟩, hM, r1, r2, r3, r4, r5⟩ := h
  refine ⟨(Array.getElem?_eq_some_iff.1 hB).1, hl, hp, r4, r2, r5, ?_⟩
  rcases hrow.2 with ⟨_, h⟩ | ⟨g, cap, cur, rfl, h2, h3, h4, h5, h6, h7⟩
  · omega
  · exact ⟨g, cap, cur, hB, (Array.getElem?_eq_some_iff.1 h3).1, h3, h7, h4⟩

/-- the trie of the first k blocks -/
def tdK (f : Int → Int) (k : Nat) : TD := TD.ofBlocks ((List.range k).map (blk f))
theorem tdK_succ (f : Int → Int) (k : Nat) : tdK f (k + 1) = (tdK f k).add (blk f k) := by
  unfold tdK; rw [List.range_succ, List.map_append, List.map_singleton, TD.ofBlocks_snoc]
theorem tdK_L (f : Int → Int) (k : Nat) : (tdK f k).L.length = k := by unfold tdK; rw [TD.ofBlocks_L_length]; simp
theorem tdK_all (f : Int → Int) : tdK f 4352 = tdOf f := rfl
theorem tdK_prefix (f : Int → Int) (k n : Nat) (h : k ≤ n) : (tdK f k).F <+: (tdK f n).F := by
  obtain ⟨d, rfl⟩ := Nat.exists_eq_add_of_le h
  unfold tdK
  rw [List.range_add, List.map_append]
  exact TD.ofBlocks_F_prefix _ _
theorem tdK_few {f : Int → Int} {k : Nat} (hk : k < 4352) (h : (tdOf f).F.length ≤ 256) : blk f k ∈ (tdK f k).F ∨ (tdK f k).F.length < 256 := by
  by_cases hm : blk f k ∈ (tdK f k).F
  · exact .inl hm
  · right
    have h1 := (tdK_prefix f (k + 1) 4352 (by omega)).length_le
    rw [tdK_all, tdK_succ, TD.add_new_F _ _ hm] at h1
    simp at h1; omega

theorem blk_isBlk {f : Int → Int} {k : Nat} (h : ∀ r, 0 ≤ f r ∧ f r ≤ 255) : IsBlk (blk f k) :=
  ⟨blk_length f k, fun x hx => by
    unfold blk at hx
    obtain ⟨i, _, rfl⟩ := List.mem_map.1 hx
    exact h _⟩
theorem pval_rng {l : List P3} (h : ∀ x ∈ l, 0 ≤ x.v ∧ x.v ≤ 255) (r : Int) : 0 ≤ pval l r ∧ pval l r ≤ 255 := by
  induction l using snocInd with
  | h0 => simp [pval]
  | hs l a ih =>
    rw [pval_snoc]
    split
    · exact h a (by simp)
    · exact ih fun x hx => h x (by simp [hx])

/-- the block while an entry is laid over it: up to number r -/
def over (f : Int → Int) (x : P3) (r : Int) (q : Int) : Int := if x.lo ≤ q ∧ q < r then x.v else f q
theorem over_set (f : Int → Int) (x : P3) (k j : Nat) (hj : j < 256) (h : x.lo ≤ k * 256 + j) :
    blk (over f x (k * 256 + j + 1)) k = (blk (over f x (k * 256 + j)) k).set j x.v := by
  apply List.ext_getElem?
  intro i
  rw [List.getElem?_set]
  by_cases hi : i < 256
  · rw [blk_get _ _ _ hi, blk_get _ _ _ hi, blk_length]
    by_cases e : j = i
    · subst e
      rw [if_pos rfl, if_pos hj]
      refine congrArg some ?_
      unfold over; rw [if_pos ⟨by omega, by omega⟩]
    · rw [if_neg e]
      refine congrArg some ?_
      unfold over
      by_cases h1 : x.lo ≤ 256 * ↑k + ↑i ∧ (256 * ↑k + ↑i : Int) < k * 256 + j
      · rw [if_pos h1, if_pos ⟨h1.1, by omega⟩]
      · rw [if_neg h1, if_neg (fun h2 => h1 ⟨h2.1, by omega⟩)]
  · rw [List.getElem?_eq_none (by rw [blk_length]; omega), List.getElem?_eq_none (by rw [blk_length]; omega)]
    split
    · rw [if_neg (by rw [blk_length]; omega)]
    · rfl
theorem trieFs0 : (#[{ name := "like", type := 94, offset := 0, embedded := false, tag := "", pkgPath := "scansion/trie", byteOffset := 0 }, { name := "first", type := 95, offset := 4352, embedded := false, tag := "", pkgPath := "scansion/trie", byteOffset := 4352 }] : Array Field).all (fun f => (Tryd.prog.info? f.type).isSome) = true := by kernel_rfl
theorem trieFs : ∀ f ∈ (#[{ name := "like", type := 94, offset := 0, embedded := false, tag := "", pkgPath := "scansion/trie", byteOffset := 0 }, { name := "first", type := 95, offset := 4352, embedded := false, tag := "", pkgPath := "scansion/trie", byteOffset := 4352 }] : Array Field), (Tryd.prog.info? f.type).isSome = true := Array.all_eq_true_iff_forall_mem.1 trieFs0

theorem PT_start (w : World) : PT ((w.alloc (.cells zTrie 97)).alloc (.map #[] 0)) w.heap.size w.heap.size (w.heap.size + 1) ⟨[], []⟩ := by
  refine ⟨Nat.le_refl _, by omega, ⟨.slice none 0 0, ?_, World.ownsRow_nil _ _ _ _⟩, ?_, by simp, by simp, by simp, by simp, ⟨[], rfl⟩⟩
  · rw [Below.heap_alloc _ _ _ (by simp), heap_alloc_new]
    rfl
  · have := heap_alloc_new (w.alloc (.cells zTrie 97)) (.map #[] 0)
    rw [World.size_alloc] at this
    rw [this]; rfl
end Go.Proofs.YtpaijpdmeiagfaaDoor
