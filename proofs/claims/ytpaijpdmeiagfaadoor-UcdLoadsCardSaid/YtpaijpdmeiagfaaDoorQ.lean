/- Load, as a plain law: which bytes are a trie's. -/
import Derived.Test.YtpaijpdmeiagfaaDoorS
set_option linter.unusedVariables false
set_option linter.unusedSimpArgs false
namespace Go.Proofs.YtpaijpdmeiagfaaDoor
open Go Go.Proofs.Kk Go.Proofs.Tm

theorem getD_lt {α : Type} {l : List α} {i : Nat} (h : i < l.length) (d : α) : l.getD i d = l[i] := by simp [List.getD, h]
theorem getD_ge {α : Type} {l : List α} {i : Nat} (h : l.length ≤ i) (d : α) : l.getD i d = d := by simp [List.getD, h]

/-- the values that bytes name as number i -/
def valsAt (b : List Int) (i : Nat) : List Int := (b.drop (4353 + 256 * i)).take 256
/-- the blocks that bytes name -/
def loadBs (b : List Int) : List (List Int) := (List.range 4352).map fun k => valsAt b (b.getD (1 + k) 0).toNat
def lenOk (b : List Int) : Prop := 4353 ≤ b.length ∧ b.length = 4353 + 256 * ((b.getD 0 0).toNat + 1)
/-- bytes that are a trie's -/
structure LoadOk (b : List Int) (T : TD) : Prop where
  len : lenOk b
  low : ∀ k, k < 4352 → b.getD (1 + k) 0 ≤ b.getD 0 0
  save : saveL T = b

theorem loadBs_length (b : List Int) : (loadBs b).length = 4352 := by simp [loadBs]
theorem loadBs_get (b : List Int) (k : Nat) (h : k < 4352) : (loadBs b)[k]? = some (valsAt b (b.getD (1 + k) 0).toNat) := by simp [loadBs, h]

theorem saveL_like {T : TD} {k : Nat} (h : T.L.length = 4352) (hk : k < 4352) : (saveL T).getD (1 + k) 0 = ((T.L.getD k 0 : Nat) : Int) := by
  unfold saveL
  have hk' : k < T.L.length := by omega
  rw [Nat.add_comm]
  simp [List.getD, List.getElem?_append_left, hk']

theorem saveL_first (T : TD) : (saveL T).getD 0 0 = (T.F.length : Int) - 1 := rfl

/-- the first block that is like each block, seen while the trie is built -/
theorem like_step (bs : List (List Int)) (k : Nat) (c : List Int) (hk : bs[k]? = some c) : (TD.ofBlocks bs).L.getD k 0 = (TD.ofBlocks (bs.take k)).F.idxOf c := by
  have hlt : k < bs.length := (List.getElem?_eq_some_iff.1 hk).1
  have e : bs[k] = c := (List.getElem?_eq_some_iff.1 hk).2
  have h1 : (TD.ofBlocks bs).L.getD k 0 = (TD.ofBlocks bs).F.idxOf c := by
    rw [(TD.of_ofBlocks bs).like]; simp [List.getD, hlt, e]
  have h2 : (TD.ofBlocks (bs.take (k + 1))).F <+: (TD.ofBlocks bs).F := by
    have := TD.ofBlocks_F_prefix (bs.take (k + 1)) (bs.drop (k + 1))
    rwa [List.take_append_drop] at this
  rw [List.take_succ_eq_append_getElem hlt, e, TD.ofBlocks_snoc] at h2
  rw [h1, idxOf_prefix h2 (TD.mem_add _ _), TD.idxOf_add]

theorem LoadOk.step {b : List Int} {T : TD} (h : LoadOk b T) (hT : T = TD.ofBlocks (loadBs b)) (k : Nat) (hk : k < 4352) :
    b.getD (1 + k) 0 = ((TD.ofBlocks ((loadBs b).take k)).F.idxOf (valsAt b (b.getD (1 + k) 0).toNat) : Int) := by
  have hl : T.L.length = 4352 := by rw [hT, TD.ofBlocks_L_length, loadBs_length]
  have h1 := saveL_like hl hk
  rw [h.save, hT] at h1
  rw [like_step _ k _ (loadBs_get b k hk)] at h1
  exact h1

theorem LoadOk.count {b : List Int} {T : TD} (h : LoadOk b T) : b.getD 0 0 = (T.F.length : Int) - 1 := by rw [← saveL_first, h.save]

theorem flatten_chunks {F : List (List Int)} {r : List Int} (hr : r.length = 256 * F.length) (h : ∀ j c, F[j]? = some c → c = (r.drop (256 * j)).take 256) : F.flatten = r := by
  induction F generalizing r with
  | nil => simp at hr; simp [hr]
  | cons c F ih =>
    have h0 := h 0 c rfl
    simp only [Nat.mul_zero, List.drop_zero] at h0
    simp only [List.length_cons] at hr
    have := ih (r := r.drop 256) (by simp; omega) (fun j d hd => by
      rw [List.drop_drop, show 256 + 256 * j = 256 * (j + 1) by omega]
      exact h (j + 1) d (by simpa using hd))
    rw [List.flatten_cons, this, h0, List.take_append_drop]

theorem flatten_chunk {F : List (List Int)} (hF : ∀ c ∈ F, c.length = 256) (j : Nat) (c : List Int) (h : F[j]? = some c) : (F.flatten.drop (256 * j)).take 256 = c := by
  induction F generalizing j with
  | nil => simp at h
  | cons d F ih =>
    have hd : d.length = 256 := hF d (by simp)
    rw [List.flatten_cons]
    cases j with
    | zero =>
      simp at h; subst h
      rw [Nat.mul_zero, List.drop_zero, List.take_append_of_le_length (by omega), List.take_of_length_le (by omega)]
    | succ j =>
      rw [show 256 * (j + 1) = d.length + 256 * j by omega, List.drop_append]
      rw [List.drop_eq_nil_of_le (by omega), List.nil_append, Nat.add_sub_cancel_left]
      exact ih (fun c hc => hF c (by simp [hc])) j (by simpa using h)

/-- the first blocks so far, where all went well -/
theorem first_good {b : List Int} {k : Nat} {t : TD} (ht : t = TD.ofBlocks ((loadBs b).take k)) (hg : ∀ j, j < k → b.getD (1 + j) 0 = (t.L.getD j 0 : Nat)) :
    ∀ j c, t.F[j]? = some c → c = valsAt b j := by
  intro j c hj
  have hO : t.Of ((loadBs b).take k) := by rw [ht]; exact TD.of_ofBlocks _
  have hc : c ∈ t.F := List.mem_of_getElem? hj
  obtain ⟨i, hi⟩ := List.mem_iff_getElem?.1 ((hO.mem c).1 hc)
  have hik : i < k ∧ i < 4352 := by have := (List.getElem?_eq_some_iff.1 hi).1; rw [List.length_take, loadBs_length] at this; omega
  have hi' : (loadBs b)[i]? = some c := by rw [← hi, List.getElem?_take, if_pos hik.1]
  have hcv : c = valsAt b (b.getD (1 + i) 0).toNat := Option.some.inj (hi'.symm.trans (loadBs_get b i hik.2))
  have hLk : t.L.getD i 0 = t.F.idxOf c := by
    rw [hO.like]
    simp only [List.getD, List.getElem?_map, hi, Option.map_some, Option.getD_some]
  have hij : t.F.idxOf c = j := by
    obtain ⟨q1, q2⟩ := List.getElem?_eq_some_iff.1 hj
    have hlt := List.idxOf_lt_length_of_mem hc
    have hp := List.pairwise_iff_getElem.1 (List.nodup_iff_pairwise_ne.1 hO.nodup)
    have he : t.F[t.F.idxOf c] = c := List.getElem_idxOf hlt
    rcases Nat.lt_trichotomy (t.F.idxOf c) j with q | q | q
    · exact absurd (he.trans q2.symm) (hp _ _ hlt q1 q)
    · exact q
    · exact absurd (q2.trans he.symm) (hp _ _ q1 hlt q)
  rw [hcv, hg i hik.1, hLk, hij]
  simp

theorem load_done {b : List Int} (hb : IsB b) (hl : lenOk b) {T : TD} (hT : T = TD.ofBlocks (loadBs b))
    (h : ∀ k, k < 4352 → b.getD (1 + k) 0 = (T.L.getD k 0 : Nat)) (hn : (T.F.length : Int) = b.getD 0 0 + 1) : saveL T = b := by
  have hL : T.L.length = 4352 := by rw [hT, TD.ofBlocks_L_length, loadBs_length]
  have hO : T.Of (loadBs b) := by rw [hT]; exact TD.of_ofBlocks _
  obtain ⟨h1, h2⟩ := hl
  have h0 : 0 ≤ b.getD 0 0 := by
    rw [getD_lt (by omega)]
    exact (hb _ (List.getElem_mem _)).1
  have hF : T.F.flatten = b.drop 4353 := by
    refine flatten_chunks (by simp; omega) ?_
    intro j c hj
    have hc : c ∈ T.F := List.mem_of_getElem? hj
    obtain ⟨k, hk⟩ := List.mem_iff_getElem?.1 ((hO.mem c).1 hc)
    have hk4 : k < 4352 := by have := (List.getElem?_eq_some_iff.1 hk).1; rwa [loadBs_length] at this
    have hcv : c = valsAt b (b.getD (1 + k) 0).toNat := Option.some.inj (hk.symm.trans (loadBs_get b k hk4))
    have hLk : T.L.getD k 0 = T.F.idxOf c := by
      rw [hO.like]
      simp [List.getD, hk]
    have hij : T.F.idxOf c = j := by
      obtain ⟨q1, q2⟩ := List.getElem?_eq_some_iff.1 hj
      have hlt := List.idxOf_lt_length_of_mem hc
      have hp := List.pairwise_iff_getElem.1 (List.nodup_iff_pairwise_ne.1 hO.nodup)
      have he : T.F[T.F.idxOf c] = c := List.getElem_idxOf hlt
      rcases Nat.lt_trichotomy (T.F.idxOf c) j with q | q | q
      · exact absurd (he.trans q2.symm) (hp _ _ hlt q1 q)
      · exact q
      · exact absurd (q2.trans he.symm) (hp _ _ q1 hlt q)
    rw [hcv, h k hk4, hLk, hij]
    unfold valsAt
    rw [List.drop_drop]
    simp
  have hLb : T.L.map Int.ofNat = (b.drop 1).take 4352 := by
    apply List.ext_getElem?
    intro k
    by_cases hk : k < 4352
    · rw [List.getElem?_take, if_pos hk, List.getElem?_drop]
      have h3 := h k hk
      have hkL : k < T.L.length := by omega
      have hkb : 1 + k < b.length := by omega
      rw [getD_lt hkb, getD_lt hkL] at h3
      rw [List.getElem?_eq_getElem hkb, h3]
      simp [hkL]
    · rw [List.getElem?_eq_none (by simp; omega), List.getElem?_eq_none (by simp; omega)]
  unfold saveL
  rw [hF, hLb, show (T.F.length : Int) - 1 = b.getD 0 0 by omega]
  have e : b.drop 4353 = (b.drop 1).drop 4352 := by rw [List.drop_drop]
  rw [e, List.take_append_drop]
  cases b with
  | nil => simp at h1
  | cons x b => rfl

/-- what was saved is a trie's -/
theorem load_saved {bs : List (List Int)} (hbs : bs.length = 4352) (hb : ∀ c ∈ bs, c.length = 256) {T : TD} (hT : T = TD.ofBlocks bs) (hF : T.F.length ≤ 256) :
    loadBs (saveL T) = bs ∧ LoadOk (saveL T) T := by
  have hO : T.Of bs := by rw [hT]; exact TD.of_ofBlocks _
  have hL : T.L.length = 4352 := by rw [hT, TD.ofBlocks_L_length, hbs]
  have hFb : ∀ c ∈ T.F, c.length = 256 := fun c hc => hb c ((hO.mem c).1 hc)
  have hfl := flatten_len hFb
  have hpos : 0 < T.F.length := by
    have : bs[0]'(by omega) ∈ T.F := (hO.mem _).2 (List.getElem_mem _)
    exact List.length_pos_of_mem this
  have hlt : ∀ k, k < 4352 → T.L.getD k 0 < T.F.length := fun k hk => hO.like_lt (by rw [getD_lt (by omega)]; exact List.getElem_mem _)
  refine ⟨?_, ?_, ?_, rfl⟩
  · apply List.ext_getElem?
    intro k
    by_cases hk : k < 4352
    · rw [loadBs_get _ _ hk, saveL_like hL hk, Int.toNat_natCast]
      have hlk := hlt k hk
      have hblk := hO.block (k := k) (by omega)
      rw [getD_lt (by omega : k < bs.length)] at hblk
      rw [List.getElem?_eq_getElem (by omega), ← hblk]
      refine congrArg some ?_
      unfold valsAt saveL
      rw [show 4353 + 256 * T.L.getD k 0 = 4352 + 256 * T.L.getD k 0 + 1 by omega, List.drop_succ_cons, ← List.drop_drop, List.drop_left' (by simp [hL])]
      rw [flatten_chunk hFb _ _ (List.getElem?_eq_getElem hlk), getD_lt hlk]
    · rw [List.getElem?_eq_none (by rw [loadBs_length]; omega), List.getElem?_eq_none (by omega)]
  · unfold lenOk
    rw [saveL_first]
    have : (saveL T).length = 4353 + 256 * T.F.length := by unfold saveL; simp [hL, hfl]; omega
    rw [this]
    omega
  · intro k hk
    rw [saveL_like hL hk, saveL_first]
    have := hlt k hk
    omega

theorem valsAt_isBlk {b : List Int} (hb : IsB b) {i : Nat} (h : 4353 + 256 * (i + 1) ≤ b.length) : IsBlk (valsAt b i) := by
  refine ⟨by unfold valsAt; simp; omega, fun x hx => hb x ?_⟩
  exact List.mem_of_mem_drop (List.mem_of_mem_take hx)

theorem saveL_isB {w : World} {n₀ B : Nat} {T : TD} (h : TrieAt w n₀ B T) : IsB (saveL T) := by
  obtain ⟨hlt, hl, hp, hf, hbk, ⟨bs, rfl⟩, _⟩ := h
  intro x hx
  unfold saveL at hx
  rcases List.mem_cons.1 hx with rfl | hx
  · omega
  · rcases List.mem_append.1 hx with hx | hx
    · obtain ⟨i, hi, rfl⟩ := List.mem_map.1 hx
      have := (TD.of_ofBlocks bs).like_lt hi
      simp; omega
    · obtain ⟨c, hc, hx⟩ := List.mem_flatten.1 hx
      exact (hbk c hc).rng x hx
end Go.Proofs.YtpaijpdmeiagfaaDoor
