import Derived.Test.YtpaijpdmeiagfaaDoorT
import Derived.Test.YtpaijpdmeiagfaaDoorG
import Derived.WalkLawsBesides
import Derived.WalkSpells
import Derived.Maps.AppendAt
namespace Go.Proofs.YtpaijpdmeiagfaaDoor
open Go Go.RowKit Go.WideMaps Go.Proofs.Kk Go.Proofs.Tm Go.Proofs.Gg

/-- the trie's like cells while it is built -/
def likeL (t : TD) : List Int := t.L.map Int.ofNat ++ List.replicate (4352 - t.L.length) 0
def trieCells (t : TD) (v : Value) : Array Value := (byt (likeL t) ++ [v]).toArray

/-- a trie that is being built, and its map of known blocks -/
structure PT (w : World) (base B M : Nat) (t : TD) : Prop where
  bB : base ≤ B
  bM : base ≤ M
  first : ∃ v, w.heap[B]? = some (.cells (trieCells t v) 97 (0, 0)) ∧ w.ownsRow base 93 256 v t.F.length (byt t.F.flatten)
  known : w.heap[M]? = some (.map (mapEs t.F) t.F.length)
  len : t.L.length ≤ 4352
  blk : ∀ c ∈ t.F, IsBlk c
  nodup : t.F.Nodup
  few : t.F.length ≤ 256
  src : ∃ bs, t = TD.ofBlocks bs

theorem likeL_length (t : TD) (h : t.L.length ≤ 4352) : (likeL t).length = 4352 := by simp [likeL]; omega
theorem trieCells_at (t : TD) (v : Value) (h : t.L.length ≤ 4352) : (trieCells t v)[4352]? = some v := by
  have := likeL_length t h
  simp [trieCells, byt_length, this]
theorem trieCells_like (t : TD) (v : Value) (k : Nat) (hk : k < 4352) (h : t.L.length ≤ 4352) : (trieCells t v)[k]? = some (.int .u8 ((likeL t).getD k 0)) := by
  have := likeL_length t h
  have hk' : k < (likeL t).length := by omega
  simp [trieCells, byt, hk', List.getElem?_append_left, List.getD]

theorem ownsRow_slice {w : World} {base : Nat} {e : TypeId} {size : Nat} {v : Value} {n : Nat} {xs : List Value} (h : w.ownsRow base e size v n xs) : ∃ ao c, v = .slice ao n c := by
  rcases h.2 with ⟨h1, h2⟩ | ⟨g, cap, cur, h1, _⟩
  · exact ⟨none, 0, by rw [h1, h2]⟩
  · exact ⟨_, _, h1⟩

theorem TD.add_len (t : TD) (b : List Int) : (t.add b).L.length = t.L.length + 1 := by simp [TD.add]

theorem likeL_add (t : TD) (b : List Int) (h : t.L.length < 4352) : likeL (t.add b) = (likeL t).set t.L.length (t.F.idxOf b : Int) := by
  obtain ⟨d, hd⟩ : ∃ d, 4352 - t.L.length = d + 1 := ⟨4352 - t.L.length - 1, by omega⟩
  have h2 : 4352 - (t.L.length + 1) = d := by omega
  unfold likeL
  rw [TD.add_L, List.map_append, List.length_append, List.length_singleton, h2, hd, List.set_append_right _ _ (by simp)]
  simp [List.replicate_succ]

theorem trieCells_add (t : TD) (b : List Int) (v : Value) (h : t.L.length < 4352) :
    trieCells (t.add b) v = (trieCells t v).setIfInBounds t.L.length (.int .u8 (t.F.idxOf b : Int)) := by
  unfold trieCells
  apply Array.ext'
  simp only [Array.toList_setIfInBounds]
  rw [List.set_append_left _ _ (by rw [byt_length, likeL_length t (by omega)]; exact h), likeL_add t b h]
  simp [byt, List.map_set]

theorem grownBy_setCell (w : World) (a : Addr) (v : Value) : w.grownBy (w.setCell a v) (some a.block) :=
  ⟨rfl, rfl, rfl, by simp, fun k _ hk => heap_setCell_other _ _ _ _ (fun e => hk (by rw [e]))⟩

theorem own_ne {w : World} {base : Nat} {e e' : TypeId} {size : Nat} {v : Value} {n : Nat} {xs : List Value} {B : Nat} {cs : Array Value} {fr : Nat × Nat} (h : w.ownsRow base e size v n xs)
    (hB : w.heap[B]? = some (.cells cs e' fr)) (he : e ≠ e') : v.ownBlock ≠ some B := by
  intro hb
  rcases h.2 with ⟨h1, _⟩ | ⟨g, cap, cur, rfl, _, hg, _⟩
  · rw [h1] at hb; simp [Value.ownBlock] at hb
  · simp [Value.ownBlock] at hb
    subst hb
    rw [hg] at hB
    simp at hB
    exact he hB.2.1
theorem own_ne_map {w : World} {base : Nat} {e : TypeId} {size : Nat} {v : Value} {n : Nat} {xs : List Value} {B : Nat} {es : Array MapEntry} {k : Nat} (h : w.ownsRow base e size v n xs)
    (hB : w.heap[B]? = some (.map es k)) : v.ownBlock ≠ some B := by
  intro hb
  rcases h.2 with ⟨h1, _⟩ | ⟨g, cap, cur, rfl, _, hg, _⟩
  · rw [h1] at hb; simp [Value.ownBlock] at hb
  · simp [Value.ownBlock] at hb
    subst hb
    rw [hg] at hB
    simp at hB

/-- the last store of add: the like cell -/
theorem PT.like {w : World} {base B M : Nat} {t : TD} {b : List Int} (hb : IsBlk b) (bB : base ≤ B) (bM : base ≤ M) {v : Value}
    (hB : w.heap[B]? = some (.cells (trieCells t v) 97 (0, 0))) (hrow : w.ownsRow base 93 256 v (t.add b).F.length (byt (t.add b).F.flatten))
    (hM : w.heap[M]? = some (.map (mapEs (t.add b).F) (t.add b).F.length)) (hk : t.L.length < 4352) (hblk : ∀ c ∈ t.F, IsBlk c) (hnd : t.F.Nodup) (hfew : (t.add b).F.length ≤ 256) (hsrc : ∃ bs, t = TD.ofBlocks bs) :
    PT (w.setCell ⟨B, t.L.length, none⟩ (.int .u8 (t.F.idxOf b : Int))) base B M (t.add b) := by
  have hg := grownBy_setCell w ⟨B, t.L.length, none⟩ (.int .u8 (t.F.idxOf b : Int))
  refine ⟨bB, bM, ⟨v, ?_, hrow.kept hg (.inr (own_ne hrow hB (by decide)))⟩, ?_, ?_, ?_, ?_, hfew, ?_⟩
  rotate_right
  · obtain ⟨bs, rfl⟩ := hsrc
    exact ⟨bs ++ [b], (TD.ofBlocks_snoc bs b).symm⟩
  · rw [trieCells_add t b v hk]; exact heap_setCell_same _ _ _ _ _ _ hB
  · rw [heap_setCell_other _ _ _ _ (fun e => by simp only at e; rw [e, hB] at hM; simp at hM)]; exact hM
  · rw [TD.add_len]; omega
  · intro c hc
    unfold TD.add at hc; dsimp only at hc
    split at hc
    · exact hblk c hc
    · simp only [List.mem_append, List.mem_singleton] at hc
      rcases hc with hc | rfl
      · exact hblk c hc
      · exact hb
  · unfold TD.add; dsimp only; split
    · exact hnd
    · rename_i h
      rw [List.nodup_append]
      refine ⟨hnd, by simp, ?_⟩
      intro x hx y hy e
      simp only [List.mem_singleton] at hy
      subst hy; subst e; exact h hx

theorem PT.alloc {w : World} {base B M : Nat} {t : TD} (h : PT w base B M t) (o : Obj) : PT (w.alloc o) base B M t := by
  obtain ⟨bB, bM, ⟨v, hB, hrow⟩, hM, r1, r2, r3, r4, r5⟩ := h
  exact ⟨bB, bM, ⟨v, (Below.heap_alloc w o B (Array.getElem?_eq_some_iff.1 hB).1).trans hB, hrow.alloc o⟩, (Below.heap_alloc w o M (Array.getElem?_eq_some_iff.1 hM).1).trans hM, r1, r2, r3, r4, r5⟩

theorem TD.add_mem_F (t : TD) (b : List Int) (h : b ∈ t.F) : (t.add b).F = t.F := by unfold TD.add; simp [h]
theorem TD.add_new_F (t : TD) (b : List Int) (h : b ∉ t.F) : (t.add b).F = t.F ++ [b] := by unfold TD.add; simp [h]

set_option maxRecDepth 100000 in
set_option maxHeartbeats 1000000 in
/-- a block that is known -/
theorem add_old (w : World) (base B M : Nat) (t : TD) (b : List Int) (hb : IsBlk b) (h : PT w base B M t) (hk : t.L.length < 4352) (hm : b ∈ t.F) :
    Calls Tryd.prog 91 #[.pointer (some ⟨B, 0, none⟩), .int .i64 t.L.length, bagg b, .map (some M)] w fun e w' => e = .returned (.bool true) ∧ PT w' base B M (t.add b) ∧ Below base w w' := by
  obtain ⟨bB, bM, ⟨v, hB, hrow⟩, hM, hlen, hblk, hnd, hfew, hsrc⟩ := h
  obtain ⟨ao, c, rfl⟩ := ownsRow_slice hrow
  have hlB : B < w.heap.size := (Array.getElem?_eq_some_iff.1 hB).1
  have hlM : M < w.heap.size := (Array.getElem?_eq_some_iff.1 hM).1
  have hi : t.F.idxOf b < 256 := Nat.lt_of_lt_of_le (List.idxOf_lt_length_of_mem hm) hfew
  have hM1 : (w.alloc (.cells (byt b).toArray 93)).heap[M]? = some (.map (mapEs t.F) t.F.length) := (Below.heap_alloc w (.cells (byt b).toArray 93) M hlM).trans hM
  have hc1 : w.cell? ⟨B, t.L.length, none⟩ = some (.int .u8 ((likeL t).getD t.L.length 0)) := by
    rw [cell_of_row _ _ _ _ _ _ hB]; exact trieCells_like t _ _ hk hlen
  have hz1 : w.frozen? ⟨B, t.L.length, none⟩ = false := frozen_of_row _ _ _ _ _ hB
  have hd : decide (b ∈ t.F) = true := by simpa using hm
  have hx0 : (0 : Int) ≤ (t.F.idxOf b : Int) := by omega
  have hx1 : (t.F.idxOf b : Int) < 256 := by omega
  have hk0 : (0 : Int) ≤ (t.L.length : Int) := by omega
  have hk1 : (t.L.length : Int) < 4352 := by omega
  go_enter Tryd.func91, Tryd.ntmps91
  go_wp2_with (first
    | (with_reducible refine wpList_box_agg rfl 93 (.tmp 2) rfl _ (byt b).toArray rfl ?_)
    | (with_reducible refine wpList_load_row rfl 93 (.tmp 6) rfl w.heap.size rfl 93 (byt b).toArray (0, 0) _ (heap_alloc_new w _) blockU rfl (by rw [size_of infoBlock]; simp [byt_length, hb.1]) ?_)
    | (at_lookup; refine wpList_lookup_known rfl (.tmp 12) (.tmp 13) rfl blkKey u8U typesSize mapU _ (intZ _) M t.F hM1 hblk hnd b hb rfl rfl ?_; rw [if_pos hm, hd]))
  go_ret
  have e := TD.add_mem_F t b hm
  refine ⟨rfl, (PT.like hb bB bM hB (by rw [e]; exact hrow) (by rw [e]; exact hM) hk hblk hnd (by rw [e]; exact hfew) hsrc).alloc _, ?_⟩
  exact ((Below.refl _ _).setCell (p := ⟨B, _, none⟩) bB _).alloc (by simp; omega) _
set_option maxRecDepth 100000 in
set_option maxHeartbeats 1000000 in
/-- no room -/
theorem add_full (w : World) (base B M : Nat) (t : TD) (b : List Int) (hb : IsBlk b) (h : PT w base B M t) (hm : b ∉ t.F) (hf : t.F.length = 256) :
    Calls Tryd.prog 91 #[.pointer (some ⟨B, 0, none⟩), .int .i64 t.L.length, bagg b, .map (some M)] w fun e w' => e = .returned (.bool false) ∧ Below base w w' := by
  obtain ⟨bB, bM, ⟨v, hB, hrow⟩, hM, hlen, hblk, hnd, hfew, hsrc⟩ := h
  obtain ⟨ao, c, rfl⟩ := ownsRow_slice hrow
  have hlB : B < w.heap.size := (Array.getElem?_eq_some_iff.1 hB).1
  have hlM : M < w.heap.size := (Array.getElem?_eq_some_iff.1 hM).1
  have hM1 : (w.alloc (.cells (byt b).toArray 93)).heap[M]? = some (.map (mapEs t.F) t.F.length) := (Below.heap_alloc w (.cells (byt b).toArray 93) M hlM).trans hM
  have hc0 : w.cell? ⟨B, 4352, none⟩ = some (.slice ao t.F.length c) := by
    rw [cell_of_row _ _ _ _ _ _ hB]; exact trieCells_at t _ hlen
  have hd : decide (b ∈ t.F) = false := by simpa using hm
  have hf0 : (256 : Int) ≤ (t.F.length : Int) := by omega
  clear hf
  go_enter Tryd.func91, Tryd.ntmps91
  go_wp2_with (first
    | (with_reducible refine wpList_box_agg rfl 93 (.tmp 2) rfl _ (byt b).toArray rfl ?_)
    | (with_reducible refine wpList_load_row rfl 93 (.tmp 6) rfl w.heap.size rfl 93 (byt b).toArray (0, 0) _ (heap_alloc_new w _) blockU rfl (by rw [size_of infoBlock]; simp [byt_length, hb.1]) ?_)
    | (at_lookup; refine wpList_lookup_known rfl (.tmp 12) (.tmp 13) rfl blkKey u8U typesSize mapU _ (intZ _) M t.F hM1 hblk hnd b hb rfl rfl ?_; rw [if_neg hm, hd]))
  go_ret
  exact ⟨rfl, (Below.refl _ _).alloc (by omega) _⟩

end Go.Proofs.YtpaijpdmeiagfaaDoor
