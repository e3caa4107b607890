/- Places of a text, as plain laws. A sign is its kind, and whether it is a picture; a place asks for the signs ahead (the last one first), the sign, and those behind. -/
namespace Go.Proofs.Tx

abbrev Sg := Int × Bool

def brkAt (f : List Sg → Sg → List Sg → Bool) (t : List Sg) (i : Nat) : Bool :=
  i == 0 || i == t.length || match t.drop i with
    | [] => false
    | b :: s => f (t.take i).reverse b s

def placesOf (f : List Sg → Sg → List Sg → Bool) (t : List Sg) : List Nat := (List.range (t.length + 1)).filter (brkAt f t)

variable {f : List Sg → Sg → List Sg → Bool}

theorem brkAt_zero (t : List Sg) : brkAt f t 0 = true := by simp [brkAt]
theorem brkAt_end (t : List Sg) : brkAt f t t.length = true := by simp [brkAt]
theorem brkAt_in {t : List Sg} {i : Nat} (h0 : 0 < i) (h1 : i < t.length) : brkAt f t i = f (t.take i).reverse t[i] (t.drop (i + 1)) := by
  unfold brkAt
  rw [List.drop_eq_getElem_cons h1]
  have e0 : (i == 0) = false := by simp; omega
  have e1 : (i == t.length) = false := by simp; omega
  simp [e0, e1]

theorem placesOf_mem {t : List Sg} {i : Nat} : i ∈ placesOf f t ↔ i ≤ t.length ∧ brkAt f t i = true := by
  simp [placesOf, Nat.lt_succ_iff]

theorem filter_range_congr {n : Nat} {p q : Nat → Bool} (h : ∀ i, i < n → p i = q i) : (List.range n).filter p = (List.range n).filter q :=
  List.filter_congr fun i hi => h i (List.mem_range.1 hi)

/-- a text of two parts that break between -/
theorem places_concat {a b : List Sg} (h1 : ∀ i, 0 < i → i < a.length → brkAt f (a ++ b) i = brkAt f a i) (h2 : brkAt f (a ++ b) a.length = true)
    (h3 : ∀ j, 0 < j → j < b.length → brkAt f (a ++ b) (a.length + j) = brkAt f b j) :
    placesOf f (a ++ b) = placesOf f a ++ ((placesOf f b).drop 1).map (a.length + ·) := by
  unfold placesOf
  rw [List.length_append, show a.length + b.length + 1 = (a.length + 1) + b.length by omega, List.range_add, List.filter_append]
  congr 1
  · apply filter_range_congr
    intro i hi
    by_cases e0 : i = 0
    · subst e0; rw [brkAt_zero, brkAt_zero]
    · by_cases e1 : i = a.length
      · subst e1; rw [h2, brkAt_end]
      · exact h1 i (by omega) (by omega)
  · rw [List.range_succ_eq_map, List.filter_cons_of_pos (brkAt_zero b), List.drop_one, List.tail_cons, List.filter_map, List.filter_map, List.map_map]
    have e : (List.range b.length).filter (brkAt f (a ++ b) ∘ fun x => a.length + 1 + x) = (List.range b.length).filter (brkAt f b ∘ Nat.succ) := by
      apply filter_range_congr
      intro j hj
      show brkAt f (a ++ b) (a.length + 1 + j) = brkAt f b (j + 1)
      by_cases e1 : j + 1 = b.length
      · rw [e1, brkAt_end, show a.length + 1 + j = (a ++ b).length by simp; omega, brkAt_end]
      · rw [show a.length + 1 + j = a.length + (j + 1) by omega]
        exact h3 _ (by omega) (by omega)
    rw [e]
    apply List.map_congr_left
    intro j _
    show a.length + 1 + j = a.length + (j + 1)
    omega

/-- the places of a text with one sign more -/
theorem places_snoc {t : List Sg} {x : Sg} (h1 : ∀ i, 0 < i → i < t.length → brkAt f (t ++ [x]) i = brkAt f t i) (ht : t ≠ []) :
    placesOf f (t ++ [x]) = (placesOf f t).dropLast ++ (if brkAt f (t ++ [x]) t.length then [t.length, t.length + 1] else [t.length + 1]) := by
  have hn : 0 < t.length := List.length_pos_iff.2 ht
  unfold placesOf
  rw [List.length_append, List.length_singleton, List.range_succ, List.filter_append, List.range_succ, List.filter_append, List.filter_append]
  have e2 : List.filter (brkAt f (t ++ [x])) [t.length + 1] = [t.length + 1] := by
    rw [List.filter_cons_of_pos]
    · rfl
    · have := brkAt_end (f := f) (t ++ [x]); rwa [List.length_append, List.length_singleton] at this
  have e3 : List.filter (brkAt f t) [t.length] = [t.length] := by
    rw [List.filter_cons_of_pos (brkAt_end t)]; rfl
  rw [e2, e3, List.dropLast_concat]
  have e4 : (List.range t.length).filter (brkAt f (t ++ [x])) = (List.range t.length).filter (brkAt f t) := by
    apply filter_range_congr
    intro i hi
    by_cases e0 : i = 0
    · subst e0; rw [brkAt_zero, brkAt_zero]
    · exact h1 i (by omega) hi
  rw [e4, List.append_assoc]
  congr 1
  by_cases h : brkAt f (t ++ [x]) t.length = true
  · rw [List.filter_cons_of_pos h, if_pos h]; rfl
  · rw [List.filter_cons_of_neg h, if_neg h]; rfl

theorem placesOf_last {t : List Sg} : (placesOf f t).getLast? = some t.length := by
  unfold placesOf
  rw [List.range_succ, List.filter_append, List.filter_cons_of_pos (brkAt_end t)]
  simp
theorem placesOf_head {t : List Sg} : (placesOf f t)[0]? = some 0 := by
  unfold placesOf
  rw [List.range_succ_eq_map, List.filter_cons_of_pos (brkAt_zero t)]
  rfl

/-! how many places lie ahead of a number -/
def cnt (f : List Sg → Sg → List Sg → Bool) (t : List Sg) (i : Nat) : Nat := ((List.range i).filter (brkAt f t)).length
theorem cnt_zero (t : List Sg) : cnt f t 0 = 0 := rfl
theorem cnt_succ (t : List Sg) (i : Nat) : cnt f t (i + 1) = cnt f t i + (if brkAt f t i then 1 else 0) := by
  unfold cnt
  rw [List.range_succ, List.filter_append, List.length_append]
  by_cases h : brkAt f t i = true
  · rw [List.filter_cons_of_pos h, if_pos h]; rfl
  · rw [List.filter_cons_of_neg h, if_neg h]; rfl
theorem cnt_all (t : List Sg) : cnt f t (t.length + 1) = (placesOf f t).length := rfl
theorem places_at {t : List Sg} {i : Nat} (hi : i ≤ t.length) (h : brkAt f t i = true) : (placesOf f t)[cnt f t i]? = some i := by
  unfold placesOf cnt
  rw [show t.length + 1 = i + (1 + (t.length - i)) by omega, List.range_add, List.filter_append, List.getElem?_append_right (Nat.le_refl _), Nat.sub_self, Nat.add_comm 1, List.range_succ_eq_map, List.map_cons, Nat.add_zero, List.filter_cons_of_pos h]
  simp
theorem places_not {t : List Sg} {i k : Nat} (h : brkAt f t i = false) : (placesOf f t)[k]? ≠ some i := by
  intro e
  have := (placesOf_mem.1 (List.mem_of_getElem? e)).2
  rw [h] at this; cases this
theorem cnt_none {t : List Sg} {a b : Nat} (hab : a ≤ b) (h : ∀ k, a ≤ k → k < b → brkAt f t k = false) : cnt f t b = cnt f t a := by
  obtain ⟨d, rfl⟩ := Nat.exists_eq_add_of_le hab
  induction d with
  | zero => rfl
  | succ d ih =>
    rw [← Nat.add_assoc, cnt_succ, h (a + d) (by omega) (by omega)]
    rw [ih (by omega) fun k h1 h2 => h k h1 (by omega)]
    rfl
theorem cnt_le {t : List Sg} {i : Nat} (h : i ≤ t.length) : cnt f t i < (placesOf f t).length ∧ (cnt f t i) ≤ i := by
  have e : cnt f t i ≤ cnt f t t.length := by
    unfold cnt
    obtain ⟨d, hd⟩ := Nat.exists_eq_add_of_le h
    rw [hd, List.range_add, List.filter_append, List.length_append]; omega
  refine ⟨?_, ?_⟩
  · rw [← cnt_all, cnt_succ, brkAt_end]; simp; omega
  · unfold cnt
    have := List.length_filter_le (brkAt f t) (List.range i)
    rwa [List.length_range] at this

/-- the part that a place is in: its begin, and its end -/
structure IsFrom (f : List Sg → Sg → List Sg → Bool) (t : List Sg) (i a : Nat) : Prop where
  le : a ≤ i
  at_ : brkAt f t a = true
  no : ∀ k, a < k → k ≤ i → brkAt f t k = false
structure IsTo (f : List Sg → Sg → List Sg → Bool) (t : List Sg) (i b : Nat) : Prop where
  lt : i < b
  at_ : brkAt f t b = true
  no : ∀ k, i < k → k < b → brkAt f t k = false
theorem IsFrom.uniq {t : List Sg} {i a b : Nat} (h : IsFrom f t i a) (g : IsFrom f t i b) : a = b := by
  rcases Nat.lt_trichotomy a b with e | e | e
  · have := h.no b e g.le; rw [g.at_] at this; cases this
  · exact e
  · have := g.no a e h.le; rw [h.at_] at this; cases this
theorem IsTo.uniq {t : List Sg} {i a b : Nat} (h : IsTo f t i a) (g : IsTo f t i b) : a = b := by
  rcases Nat.lt_trichotomy a b with e | e | e
  · have := g.no a h.lt e; rw [h.at_] at this; cases this
  · exact e
  · have := h.no b g.lt e; rw [g.at_] at this; cases this
theorem IsFrom.place {t : List Sg} {i a : Nat} (h : IsFrom f t i a) (hi : i ≤ t.length) : (placesOf f t)[cnt f t (i + 1) - 1]? = some a := by
  have e : cnt f t (i + 1) = cnt f t a + 1 := by
    rw [cnt_none (a := a + 1) (by have := h.le; omega) fun k h1 h2 => h.no k (by omega) (by omega), cnt_succ, h.at_]; rfl
  rw [e, Nat.add_sub_cancel]
  exact places_at (by have := h.le; omega) h.at_
theorem IsTo.place {t : List Sg} {i b : Nat} (h : IsTo f t i b) (hb : b ≤ t.length) : (placesOf f t)[cnt f t (i + 1)]? = some b := by
  rw [← cnt_none (a := i + 1) (b := b) (by have := h.lt; omega) fun k h1 h2 => h.no k (by omega) h2]
  exact places_at hb h.at_

/-! ### clusters -/
def steers (k : Int) : Bool := decide (1 ≤ k) && decide (k ≤ 3)
def hangulB (a b : Int) : Bool :=
  if a = 9 then b == 9 || b == 10 || b == 12 || b == 13
  else if a = 12 ∨ a = 10 then b == 10 || b == 11
  else if a = 13 ∨ a = 11 then b == 11
  else false
def scan : List Sg → Bool
  | [] => false
  | y :: ys => if y.2 then true else if y.1 = 4 then scan ys else false
def pict : List Sg → Bool
  | [] => false
  | x :: r => decide (x.1 = 5) && scan r
def flagsN (p : List Sg) (k : Int) : Nat := (p.takeWhile fun x => x.1 == k).length
def headK : List Sg → Int
  | [] => -1
  | x :: _ => x.1
def cf (p : List Sg) (b : Sg) (_ : List Sg) : Bool :=
  let a := headK p
  if a = 1 ∧ b.1 = 2 then false
  else if steers a || steers b.1 then true
  else if hangulB a b.1 || b.1 == 4 || b.1 == 5 || b.1 == 8 || a == 7 then false
  else if b.2 && pict p then false
  else decide (a ≠ 6) || decide (b.1 ≠ 6) || flagsN p 6 % 2 == 0

theorem scan_append {p q : List Sg} (h : scan q = false) : scan (p ++ q) = scan p := by
  induction p with
  | nil => exact h
  | cons y ys ih => simp only [List.cons_append, scan]; rw [ih]

theorem cf_local (a b : List Sg) (i : Nat) (h0 : 0 < i) (h1 : i < a.length) : brkAt cf (a ++ b) i = brkAt cf a i := by
  rw [brkAt_in h0 (by simp; omega), brkAt_in h0 h1, List.take_append_of_le_length (by omega), List.getElem_append_left h1]
  rfl

theorem takeWhile_append_stop {α : Type} {p : α → Bool} {l m : List α} (h : ∀ x, m.head? = some x → p x = false) : (l ++ m).takeWhile p = l.takeWhile p := by
  induction l with
  | nil =>
    cases m with
    | nil => rfl
    | cons x m => simp [h x rfl]
  | cons y l ih =>
    simp only [List.cons_append, List.takeWhile_cons]
    rw [ih]

/-- a control between two texts -/
theorem cf_controls {a b : List Sg} {x y : Sg} (hx : a.getLast? = some x) (hy : b.head? = some y) (hc : x.1 = 3 ∨ y.1 = 3 ∨ x.1 = 2 ∨ y.1 = 1) (hpic : ∀ z ∈ a ++ b, z.2 = true → steers z.1 = false) :
    placesOf cf (a ++ b) = placesOf cf a ++ ((placesOf cf b).drop 1).map (a.length + ·) := by
  obtain ⟨a0, rfl⟩ : ∃ a0, a = a0 ++ [x] := by
    rw [List.getLast?_eq_some_iff] at hx
    exact hx
  obtain ⟨b0, rfl⟩ : ∃ b0, b = y :: b0 := by
    cases b with
    | nil => simp at hy
    | cons z b0 => simp at hy; exact ⟨b0, by rw [hy]⟩
  have hxp : steers x.1 = true → x.2 = false := by
    intro h
    cases h2 : x.2 with
    | false => rfl
    | true => have := hpic x (by simp) h2; rw [h] at this; cases this
  refine places_concat (fun i h0 h1 => cf_local _ _ i h0 h1) ?_ ?_
  · rw [brkAt_in (by simp) (by simp), List.take_left, List.getElem_append_right (Nat.le_refl _)]
    simp only [Nat.sub_self, List.getElem_cons_zero, List.reverse_append, List.reverse_cons, List.reverse_nil, List.nil_append, List.cons_append, cf, headK]
    rw [if_neg (by omega), if_pos]
    simp [steers]; omega
  · intro j h0 h1
    rw [brkAt_in (by omega) (by simp at h1 ⊢; omega), brkAt_in h0 h1, List.take_append, List.take_of_length_le (by omega), List.getElem_append_right (by omega)]
    simp only [Nat.add_sub_cancel_left]
    obtain ⟨j, rfl⟩ : ∃ i, j = i + 1 := ⟨j - 1, by omega⟩
    rw [List.take_succ_cons]
    simp only [List.reverse_append, List.reverse_cons, List.nil_append, List.cons_append, List.append_assoc]
    generalize (y :: b0)[j + 1] = z
    generalize hp : (List.take j b0).reverse = p
    have hh : headK (p ++ y :: x :: a0.reverse) = headK (p ++ [y]) := by cases p <;> rfl
    have hf : flagsN (p ++ y :: x :: a0.reverse) 6 = flagsN (p ++ [y]) 6 := by
      unfold flagsN
      rw [show p ++ y :: x :: a0.reverse = (p ++ [y]) ++ x :: a0.reverse by simp]
      by_cases e : y.1 = 6
      · rw [takeWhile_append_stop]
        intro u hu
        simp at hu; subst hu
        simp; omega
      · rw [List.append_assoc, takeWhile_append_stop (l := p) (m := [y]), takeWhile_append_stop (l := p)]
        · intro u hu
          simp at hu; subst hu; simpa using e
        · intro u hu
          simp at hu; subst hu; simpa using e
    have hs : ∀ q : List Sg, scan (q ++ y :: x :: a0.reverse) = scan (q ++ [y]) := by
      intro q
      rw [show q ++ y :: x :: a0.reverse = (q ++ [y]) ++ x :: a0.reverse by simp]
      by_cases e : y.1 = 4
      · apply scan_append
        have hsx : steers x.1 = true := by simp [steers]; omega
        have hx4 : x.1 ≠ 4 := by omega
        simp [scan, hxp hsx, hx4]
      · induction q with
        | nil => simp [scan, e]
        | cons u q ih => simp only [List.cons_append, scan]; rw [ih]
    have hpi : pict (p ++ y :: x :: a0.reverse) = pict (p ++ [y]) := by
      cases p with
      | nil =>
        simp only [List.nil_append, pict]
        by_cases e : y.1 = 5
        · have hsx : steers x.1 = true := by simp [steers]; omega
          have hx4 : x.1 ≠ 4 := by omega
          simp [scan, hxp hsx, hx4]
        · simp [e]
      | cons u q => simp only [List.cons_append, pict]; rw [hs]
    unfold cf
    rw [hh, hf, hpi]

theorem cf_mark {t : List Sg} {x y : Sg} (hx : t.getLast? = some x) (h : y.1 = 4 ∨ y.1 = 5 ∨ y.1 = 8) (hk : x.1 < 1 ∨ 3 < x.1) : brkAt cf (t ++ [y]) t.length = false := by
  obtain ⟨a0, rfl⟩ := List.getLast?_eq_some_iff.1 hx
  rw [brkAt_in (by simp) (by simp), List.take_left, List.getElem_append_right (Nat.le_refl _)]
  simp only [Nat.sub_self, List.getElem_cons_zero, List.reverse_append, List.reverse_cons, List.reverse_nil, List.nil_append, List.cons_append, cf, headK]
  rw [if_neg (by omega), if_neg (by simp [steers]; omega), if_pos]
  rcases h with h | h | h <;> simp [h]

theorem cf_flags (n : Nat) (b : Bool) : placesOf cf (List.replicate n (6, b)) = (List.range n).filter (fun i => i % 2 == 0) ++ [n] := by
  unfold placesOf
  rw [List.length_replicate, List.range_succ, List.filter_append]
  congr 1
  · apply filter_range_congr
    intro i hi
    by_cases h0 : i = 0
    · subst h0; rw [brkAt_zero]; rfl
    · rw [brkAt_in (by omega) (by simpa using hi)]
      obtain ⟨j, rfl⟩ : ∃ j, i = j + 1 := ⟨i - 1, by omega⟩
      rw [List.take_replicate, List.reverse_replicate, Nat.min_eq_left (by omega), List.getElem_replicate, List.replicate_succ]
      have e : flagsN ((6, b) :: List.replicate j (6, b)) 6 = j + 1 := by
        unfold flagsN
        rw [← List.replicate_succ, List.takeWhile_replicate]
        simp
      unfold cf
      rw [e]
      simp [headK, steers, hangulB, pict]
  · rw [List.filter_cons_of_pos]
    · rfl
    · have := brkAt_end (f := cf) (List.replicate n ((6 : Int), b)); rwa [List.length_replicate] at this
end Go.Proofs.Tx
