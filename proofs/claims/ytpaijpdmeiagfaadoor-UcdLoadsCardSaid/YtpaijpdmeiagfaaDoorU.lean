/- The document's trie, as plain laws: blocks that are touched, a block that is being filled. -/
import Derived.Test.YtpaijpdmeiagfaaDoorD
namespace Go.Proofs.Tm

def touchB (k : Int) (x : P3) : Bool := decide (k * 256 ≤ x.hi) && decide (x.lo < (k + 1) * 256)

theorem pval_touched (l : List P3) (k : Int) (r : Int) (h1 : k * 256 ≤ r) (h2 : r < (k + 1) * 256) : pval (l.filter (touchB k)) r = pval l r := by
  induction l using snocInd with
  | h0 => rfl
  | hs l x ih =>
    rw [List.filter_append, pval_snoc]
    by_cases ht : touchB k x = true
    · rw [List.filter_cons_of_pos ht, List.filter_nil, pval_snoc, ih]
    · rw [List.filter_cons_of_neg ht, List.filter_nil, List.append_nil, ih, if_neg]
      intro h
      apply ht
      simp [touchB]
      omega

def blkTo (f : Int → Int) (k i : Nat) : List Int := (List.range 256).map fun (j : Nat) => if j < i then f (256 * k + j) else 0
theorem blkTo_length (f : Int → Int) (k i : Nat) : (blkTo f k i).length = 256 := by simp [blkTo]
theorem blkTo_get (f : Int → Int) (k i j : Nat) (h : j < 256) : (blkTo f k i)[j]? = some (if j < i then f (256 * k + j) else 0) := by simp [blkTo, h]
theorem blkTo_set (f : Int → Int) (k i : Nat) (hi : i < 256) : (blkTo f k i).set i (f (256 * k + i)) = blkTo f k (i + 1) := by
  apply List.ext_getElem?
  intro j
  rw [List.getElem?_set]
  by_cases hj : j < 256
  · rw [blkTo_get _ _ _ _ hj, blkTo_get _ _ _ _ hj, blkTo_length]
    by_cases e : i = j
    · subst e
      rw [if_pos rfl, if_pos hi, if_pos (by omega)]
    · rw [if_neg e]
      by_cases h : j < i
      · rw [if_pos h, if_pos (by omega)]
      · rw [if_neg h, if_neg (by omega)]
  · rw [List.getElem?_eq_none (by rw [blkTo_length]; omega), List.getElem?_eq_none (by rw [blkTo_length]; omega)]
    split
    · rw [if_neg (by rw [blkTo_length]; omega)]
    · rfl
theorem blkTo_full (f : Int → Int) (k : Nat) : blkTo f k 256 = blk f k := by
  apply List.ext_getElem?
  intro j
  by_cases hj : j < 256
  · rw [blkTo_get _ _ _ _ hj, blk_get _ _ _ hj, if_pos hj]
  · rw [List.getElem?_eq_none (by rw [blkTo_length]; omega), List.getElem?_eq_none (by rw [blk_length]; omega)]
theorem blkTo_zero (f : Int → Int) (k : Nat) : blkTo f k 0 = List.replicate 256 0 := by
  apply List.ext_getElem?
  intro j
  by_cases hj : j < 256
  · rw [blkTo_get _ _ _ _ hj, if_neg (by omega), List.getElem?_replicate, if_pos hj]
  · rw [List.getElem?_eq_none (by rw [blkTo_length]; omega), List.getElem?_eq_none (by rw [List.length_replicate]; omega)]
theorem blk_nil (k : Nat) : blk (pval []) k = List.replicate 256 0 := by
  exact blk_con (f := pval []) (v := 0) (fun r _ _ => rfl)
theorem blk_touched (l : List P3) (k : Nat) : blk (pval (l.filter (touchB k))) k = blk (pval l) k :=
  blk_congr fun r h1 h2 => pval_touched l k r (by omega) (by omega)

/-! runs -/
theorem runs_same {f : Int → Int} {n : Nat} (h : f (n + 1) = (runsTo f n).2.v) : runsTo f (n + 1) = ((runsTo f n).1, ⟨(runsTo f n).2.lo, n + 1, (runsTo f n).2.v⟩) := by simp [runsTo, h]
theorem runs_turn {f : Int → Int} {n : Nat} (h : f (n + 1) ≠ (runsTo f n).2.v) : runsTo f (n + 1) = ((runsTo f n).1 ++ [(runsTo f n).2], ⟨n + 1, n + 1, f (n + 1)⟩) := by simp [runsTo, h]
theorem runsTo_congr {f g : Int → Int} (n : Nat) (h : ∀ r : Int, 0 ≤ r → r ≤ n → f r = g r) : runsTo f n = runsTo g n := by
  induction n with
  | zero => simp only [runsTo]; rw [h 0 (by omega) (by omega)]
  | succ n ih =>
    have := ih fun r h0 h1 => h r h0 (by omega)
    have e := h (n + 1) (by omega) (by omega)
    simp only [runsTo, this, e]
theorem allOf_congr {f g : Int → Int} (h : ∀ r : Int, 0 ≤ r → r ≤ 1114111 → f r = g r) : allOf f = allOf g := by
  unfold allOf; rw [runsTo_congr 1114111 h]
theorem keepV_snoc (l : List P3) (x : P3) : keepV (l ++ [x]) = if x.v ≠ 0 then keepV l ++ [x] else keepV l := by
  unfold keepV
  rw [List.filter_append]
  by_cases h : x.v = 0 <;> simp [h]
theorem tdOf_congr {f g : Int → Int} (h : ∀ r : Int, 0 ≤ r → r ≤ 1114111 → f r = g r) : tdOf f = tdOf g := by
  have e : blks f = blks g := by
    unfold blks
    apply List.map_congr_left
    intro k hk
    have := List.mem_range.1 hk
    exact blk_congr fun r h0 h1 => h r (by omega) (by omega)
  unfold tdOf; rw [e]
/-- all ranges of a trie, built again -/
theorem tdOf_allOf (f : Int → Int) : tdOf (pval (allOf f)) = tdOf f := tdOf_congr fun r h0 h1 => pval_allOf f r h0 h1

/-- between two ranges of the document's All -/
def AllInv (f : Int → Int) (r : Nat) (out : List P3) : Prop :=
  (r = 0 ∧ out = []) ∨ ∃ n : Nat, r = n + 1 ∧ n ≤ 1114111 ∧ out = keepV ((runsTo f n).1 ++ [(runsTo f n).2]) ∧ (n < 1114111 → f (n + 1) ≠ (runsTo f n).2.v)
/-- in a range -/
def HighInv (f : Int → Int) (r h : Nat) (out : List P3) : Prop := out = keepV (runsTo f h).1 ∧ (runsTo f h).2 = ⟨r, h, f r⟩
theorem AllInv.start (f : Int → Int) : AllInv f 0 [] := .inl ⟨rfl, rfl⟩
theorem AllInv.high {f : Int → Int} {r : Nat} {out : List P3} (h : AllInv f r out) (hr : r ≤ 1114111) : HighInv f r r out := by
  rcases h with ⟨rfl, rfl⟩ | ⟨n, rfl, hn, rfl, h⟩
  · exact ⟨rfl, rfl⟩
  · have := runs_turn (h (by omega))
    unfold HighInv
    rw [this]
    exact ⟨rfl, by simp⟩
theorem HighInv.step {f : Int → Int} {r h : Nat} {out : List P3} (hi : HighInv f r h out) (he : f (h + 1) = f r) : HighInv f r (h + 1) out := by
  obtain ⟨h1, h2⟩ := hi
  have : f (h + 1) = (runsTo f h).2.v := by rw [h2, he]
  have e := runs_same this
  unfold HighInv
  rw [e, h2]
  exact ⟨h1, by simp⟩
theorem HighInv.done {f : Int → Int} {r h : Nat} {out : List P3} (hi : HighInv f r h out) (hh : h ≤ 1114111) (hne : h < 1114111 → f (h + 1) ≠ f r) :
    AllInv f (h + 1) (if f r ≠ 0 then out ++ [⟨r, h, f r⟩] else out) := by
  obtain ⟨h1, h2⟩ := hi
  refine .inr ⟨h, rfl, hh, ?_, fun hl => ?_⟩
  · rw [keepV_snoc, h2, h1]
  · rw [h2]; exact hne hl
theorem AllInv.done {f : Int → Int} {out : List P3} (h : AllInv f 1114112 out) : out = allOf f := by
  rcases h with ⟨h, _⟩ | ⟨n, hn, _, rfl, _⟩
  · omega
  · obtain rfl : n = 1114111 := by omega
    rfl
theorem HighInv.first {f : Int → Int} {r h : Nat} {out : List P3} (hi : HighInv f r h out) : r ≤ h := by
  have := (runsOk f h).lo.2
  rw [hi.2] at this
  simp at this; omega
end Go.Proofs.Tm
