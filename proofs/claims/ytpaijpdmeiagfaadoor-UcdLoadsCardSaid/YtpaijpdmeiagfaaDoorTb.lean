/- Tables of entries, as plain laws. -/
import Derived.Test.YtpaijpdmeiagfaaDoorM
namespace Go.Proofs.Tm

/-- entries that rise -/
def riseB : Int → List P3 → Bool
  | _, [] => true
  | n, x :: l => decide (n < x.lo) && decide (x.lo ≤ x.hi) && riseB x.hi l

/-- the value of a number: the first entry that has it -/
def fval : List P3 → Int → Int
  | [], _ => 0
  | x :: l, r => if x.lo ≤ r ∧ r ≤ x.hi then x.v else fval l r

theorem pval_cons (x : P3) (l : List P3) (r : Int) : pval (x :: l) r = l.foldl (fun acc y => if y.lo ≤ r ∧ r ≤ y.hi then y.v else acc) (if x.lo ≤ r ∧ r ≤ x.hi then x.v else 0) := rfl

theorem foldl_out (l : List P3) (r c : Int) (h : ∀ y ∈ l, ¬ (y.lo ≤ r ∧ r ≤ y.hi)) : l.foldl (fun acc y => if y.lo ≤ r ∧ r ≤ y.hi then y.v else acc) c = c := by
  induction l generalizing c with
  | nil => rfl
  | cons y l ih =>
    rw [List.foldl_cons, if_neg (h y (by simp))]
    exact ih c fun z hz => h z (by simp [hz])

theorem riseB_mem {n : Int} {l : List P3} (h : riseB n l = true) : ∀ y ∈ l, n < y.lo ∧ y.lo ≤ y.hi := by
  induction l generalizing n with
  | nil => intro y hy; simp at hy
  | cons x l ih =>
    simp only [riseB, Bool.and_eq_true, decide_eq_true_eq] at h
    intro y hy
    rcases List.mem_cons.1 hy with rfl | hy
    · exact ⟨h.1.1, h.1.2⟩
    · have := ih h.2 y hy
      exact ⟨by omega, this.2⟩

theorem pval_in_rise {n : Int} {l : List P3} (h : riseB n l = true) {x : P3} (hx : x ∈ l) {r : Int} (h1 : x.lo ≤ r) (h2 : r ≤ x.hi) : pval l r = x.v := by
  induction l generalizing n with
  | nil => simp at hx
  | cons y l ih =>
    simp only [riseB, Bool.and_eq_true, decide_eq_true_eq] at h
    have hm := riseB_mem h.2
    rw [pval_cons]
    rcases List.mem_cons.1 hx with rfl | hx
    · rw [if_pos ⟨h1, h2⟩]
      exact foldl_out l r _ fun z hz => by have := hm z hz; omega
    · have h3 := hm x hx
      rw [if_neg (by omega)]
      exact ih h.2 hx

theorem fval_pval {n : Int} {l : List P3} (h : riseB n l = true) (r : Int) : fval l r = pval l r := by
  induction l generalizing n with
  | nil => rfl
  | cons y l ih =>
    have h' := h
    simp only [riseB, Bool.and_eq_true, decide_eq_true_eq] at h
    have hm := riseB_mem h.2
    unfold fval
    by_cases hy : y.lo ≤ r ∧ r ≤ y.hi
    · rw [if_pos hy, pval_in_rise h' (by simp) hy.1 hy.2]
    · rw [if_neg hy, ih h.2, pval_cons, if_neg hy]; rfl

theorem pval_cases (l : List P3) (r : Int) : pval l r = 0 ∨ ∃ x ∈ l, x.lo ≤ r ∧ r ≤ x.hi ∧ pval l r = x.v := by
  induction l using snocInd with
  | h0 => exact .inl rfl
  | hs l x ih =>
    rw [pval_snoc]
    split
    · rename_i h
      exact .inr ⟨x, by simp, h.1, h.2, rfl⟩
    · rcases ih with h | ⟨y, hy, h1, h2, h3⟩
      · exact .inl h
      · exact .inr ⟨y, by simp [hy], h1, h2, h3⟩

theorem tdOf_len (l : List P3) (idx : List Nat) (vs : List Int) (h : ∀ x ∈ l, (x.lo / 256).toNat ∈ idx ∧ (x.hi / 256).toNat ∈ idx ∧ x.v ∈ vs) : (tdOf (pval l)).F.length ≤ idx.length + vs.length + 1 := by
  have hA := tdOf_of (pval l)
  have := len_le (B := idx.map (blk (pval l)) ++ vs.map conB ++ [conB 0]) hA.nodup (by
    intro b hb
    obtain ⟨k, hk, rfl⟩ := mem_blks.1 ((hA.mem b).1 hb)
    rcases blk_cases l k with ⟨x, hx, h1⟩ | h1 | ⟨x, hx, h1⟩
    · obtain ⟨g1, g2, _⟩ := h x hx
      have : k ∈ idx := by
        rcases h1 with h1 | h1
        · have : (x.lo / 256).toNat = k := by omega
          rwa [this] at g1
        · have : (x.hi / 256).toNat = k := by omega
          rwa [this] at g2
      simp only [List.mem_append, List.mem_map]
      exact .inl (.inl ⟨k, this, rfl⟩)
    · simp [h1]
    · obtain ⟨_, _, g3⟩ := h x hx
      simp only [List.mem_append, List.mem_map]
      exact .inl (.inr ⟨x.v, g3, h1.symm⟩))
  simpa [Nat.add_assoc] using this

/-- do rising entries give a value to all numbers from one to another? -/
def coverB (v : Int) : Int → Int → List P3 → Bool
  | lo, hi, [] => decide (hi < lo)
  | lo, hi, x :: l => if hi < lo then true else if x.hi < lo then coverB v lo hi l else decide (x.lo ≤ lo) && decide (x.v = v) && coverB v (x.hi + 1) hi l

theorem coverB_spec {v : Int} {l : List P3} {lo hi : Int} (h : coverB v lo hi l = true) {r : Int} (h1 : lo ≤ r) (h2 : r ≤ hi) : ∃ x ∈ l, x.lo ≤ r ∧ r ≤ x.hi ∧ x.v = v := by
  induction l generalizing lo with
  | nil => simp [coverB] at h; omega
  | cons x l ih =>
    unfold coverB at h
    rw [if_neg (by omega)] at h
    by_cases h3 : x.hi < lo
    · rw [if_pos h3] at h
      obtain ⟨y, hy, h⟩ := ih h h1
      exact ⟨y, by simp [hy], h⟩
    · rw [if_neg h3] at h
      simp only [Bool.and_eq_true, decide_eq_true_eq] at h
      by_cases h4 : r ≤ x.hi
      · exact ⟨x, by simp, by omega, h4, h.1.2⟩
      · obtain ⟨y, hy, h⟩ := ih h.2 (by omega)
        exact ⟨y, by simp [hy], h⟩

theorem tdOf_val_all (l : List P3) (h : ∀ x ∈ l, 0 ≤ x.lo ∧ x.hi ≤ 1114111) (r : Int) : (tdOf (pval l)).val r = pval l r := by
  by_cases h0 : r < 0 ∨ 1114111 < r
  · rw [TD.val_out _ _ h0]
    symm
    apply pval_zero
    intro x hx
    have := h x hx
    omega
  · exact tdOf_val _ _ (by omega) (by omega)
end Go.Proofs.Tm
