/- Places of words, as plain laws. -/
import Derived.Test.YtpaijpdmeiagfaaDoorPl
namespace Go.Proofs.Tx

def endsK (k : Int) : Bool := k == 1 || k == 2 || k == 3
def markK (k : Int) : Bool := k == 4 || k == 6 || k == 5
def letterK (k : Int) : Bool := k == 10 || k == 9
def betweenK (k : Int) : Bool := k == 14 || k == 13 || k == 11
def insideK (k : Int) : Bool := k == 15 || k == 13 || k == 11
def soundK (k : Int) : Bool := letterK k || k == 16 || k == 8

/-- is a sign a head, given those ahead of it (the last one first)? -/
def headB (p : List Sg) (x : Sg) : Bool := p.isEmpty || !markK x.1 || endsK (headK p)
/-- the kinds of the heads ahead, the last one first -/
def headsOf : List Sg → List Int
  | [] => []
  | x :: p => if headB p x then x.1 :: headsOf p else headsOf p
/-- the kind of the first head behind, given the sign ahead of it -/
def nextOf : Int → List Sg → Int
  | _, [] => -1
  | a, y :: s => if !markK y.1 || endsK a then y.1 else nextOf y.1 s

def joinedB (before last b next : Int) : Bool :=
  (letterK last && (letterK b || b == 16)) || (last == 16 && (letterK b || b == 16)) || (last == 8 && b == 8) ||
  (letterK last && betweenK b && letterK next) || (letterK before && betweenK last && letterK b) ||
  (last == 16 && insideK b && next == 16) || (before == 16 && insideK last && b == 16) ||
  (last == 9 && (b == 11 || b == 12 && next == 9)) || (before == 9 && last == 12 && b == 9) ||
  (b == 17 && (soundK last || last == 17) || last == 17 && soundK b)

def flagsW (h : List Int) : Nat := (h.takeWhile (· == 7)).length

def wfg (a : Int) (h : List Int) (b : Sg) (next : Int) : Bool :=
  if a = 1 ∧ b.1 = 2 then false
  else if endsK a || endsK b.1 then true
  else if (a == 5 && b.2) || (a == 18 && b.1 == 18) || markK b.1 || joinedB (h.getD 1 (-1)) (h.getD 0 (-1)) b.1 next then false
  else decide (h.getD 0 (-1) ≠ 7) || decide (b.1 ≠ 7) || flagsW h % 2 == 0

def wf (p : List Sg) (b : Sg) (s : List Sg) : Bool := wfg (headK p) (headsOf p) b (nextOf b.1 s)
theorem wf_cons (x b : Sg) (p s : List Sg) : wf (x :: p) b s = wfg x.1 (headsOf (x :: p)) b (nextOf b.1 s) := rfl

theorem headK_append {p q : List Sg} (h : p ≠ []) : headK (p ++ q) = headK p := by
  cases p with
  | nil => exact absurd rfl h
  | cons x p => rfl

/-- a line's end ahead is like nothing ahead -/
theorem headsOf_line (p q : List Sg) (x : Sg) (hx : x.1 = 2) : headsOf (p ++ x :: q) = headsOf p ++ 2 :: headsOf q := by
  induction p with
  | nil =>
    have : headB q x = true := by simp [headB, markK, hx]
    simp [headsOf, this, hx]
  | cons y p ih =>
    have e : headB (p ++ x :: q) y = headB p y := by
      unfold headB
      cases p with
      | nil => simp [headK, endsK, hx]
      | cons z p => simp [headK]
    simp only [List.cons_append, headsOf, e, ih]
    split <;> rfl

theorem nextOf_line (a : Int) (p s : List Sg) (x : Sg) (hx : x.1 = 2) : nextOf a (p ++ x :: s) = nextOf a (p ++ [x]) := by
  induction p generalizing a with
  | nil => simp [nextOf, markK, hx]
  | cons y p ih => simp only [List.cons_append, nextOf, ih]

theorem headsOf_ne {p : List Sg} (h : p ≠ []) : headsOf p ≠ [] := by
  induction p with
  | nil => exact absurd rfl h
  | cons x p ih =>
    unfold headsOf
    cases p with
    | nil => simp [headB]
    | cons y p =>
      split
      · simp
      · exact ih (by simp)

theorem takeWhile_stop {α : Type} {p : α → Bool} {l m : List α} (h : ∀ x, m.head? = some x → p x = false) : (l ++ m).takeWhile p = l.takeWhile p := takeWhile_append_stop h

theorem wf_next {p s s' : List Sg} {b : Sg} (h : nextOf b.1 s = nextOf b.1 s') : wf p b s = wf p b s' := by unfold wf; rw [h]

theorem wf_line (p q s : List Sg) (b x : Sg) (hx : x.1 = 2) (hp : p ≠ []) : wf (p ++ x :: q) b s = wf p b s := by
  unfold wf
  rw [headK_append hp, headsOf_line p q x hx]
  obtain ⟨k, h, e⟩ := List.exists_cons_of_ne_nil (headsOf_ne hp)
  rw [e]
  have hf : flagsW (k :: h ++ 2 :: headsOf q) = flagsW (k :: h) := by
    unfold flagsW
    rw [takeWhile_append_stop]
    intro u hu
    simp at hu; subst hu; rfl
  have hj : joinedB ((k :: h ++ 2 :: headsOf q).getD 1 (-1)) k b.1 (nextOf b.1 s) = joinedB ((k :: h).getD 1 (-1)) k b.1 (nextOf b.1 s) := by
    cases h with
    | nil => simp [joinedB, letterK]
    | cons u h => rfl
  have hl : (k :: h ++ 2 :: headsOf q).getD 0 (-1) = k := rfl
  have hl' : (k :: h).getD 0 (-1) = k := rfl
  unfold wfg
  rw [hl, hl', hj, hf]

/-- a line's end between two texts -/
theorem wf_lines (a b : List Sg) (x : Sg) (hx : x.1 = 2) : placesOf wf ((a ++ [x]) ++ b) = placesOf wf (a ++ [x]) ++ ((placesOf wf b).drop 1).map ((a ++ [x]).length + ·) := by
  refine places_concat (fun i h0 h1 => ?_) ?_ ?_
  · rw [brkAt_in h0 (by simp at h1 ⊢; omega), brkAt_in h0 h1, List.take_append_of_le_length (by omega), List.getElem_append_left h1]
    by_cases e : i = a.length
    · subst e
      have : (a ++ [x])[a.length] = x := by simp
      rw [this]
      have h2 : endsK x.1 = true := by simp [endsK, hx]
      unfold wf wfg
      rw [h2]
      simp
    · have hi : i < a.length := by simp at h1; omega
      apply wf_next
      rw [List.append_assoc, List.drop_append_of_le_length (by omega), List.drop_append_of_le_length (by omega)]
      exact nextOf_line _ _ _ _ hx
  · cases b with
    | nil => rw [List.append_nil]; exact brkAt_end _
    | cons y b =>
      rw [brkAt_in (by simp) (by simp), List.take_left, List.getElem_append_right (Nat.le_refl _)]
      simp only [Nat.sub_self, List.getElem_cons_zero, List.reverse_append, List.reverse_cons, List.reverse_nil, List.nil_append, List.cons_append]
      rw [wf_cons]
      unfold wfg
      rw [if_neg (by omega), if_pos]
      simp [endsK, hx]
  · intro j h0 h1
    rw [brkAt_in (by omega) (by simp; omega), brkAt_in h0 h1, List.take_append, List.take_of_length_le (by omega), List.getElem_append_right (by omega), List.drop_append, List.drop_eq_nil_of_le (by omega)]
    simp only [Nat.add_sub_cancel_left, List.nil_append, List.reverse_append, List.reverse_cons, List.reverse_nil, List.cons_append]
    rw [show (a ++ [x]).length + j + 1 - (a ++ [x]).length = j + 1 by omega]
    refine wf_line _ _ _ _ _ hx ?_
    rw [Ne, List.reverse_eq_nil_iff]
    intro e
    have := congrArg List.length e
    rw [List.length_take, List.length_nil] at this
    omega

/-! a mark put in -/
theorem headsOf_mark (p q : List Sg) (a m : Sg) (hm : markK m.1 = true) (hme : endsK m.1 = false) (ha : endsK a.1 = false) : headsOf (p ++ m :: a :: q) = headsOf (p ++ a :: q) := by
  induction p with
  | nil =>
    have : headB (a :: q) m = false := by simp [headB, hm, headK, ha]
    simp only [List.nil_append]
    rw [headsOf, this]
    rfl
  | cons y p ih =>
    have e : headB (p ++ m :: a :: q) y = headB (p ++ a :: q) y := by
      unfold headB
      cases p with
      | nil => simp [headK, ha, hme]
      | cons z p => simp [headK]
    simp only [List.cons_append]
    rw [headsOf, headsOf, e, ih]

theorem nextOf_mark (k : Int) (s v : List Sg) (a m : Sg) (hm : markK m.1 = true) (hme : endsK m.1 = false) (ha : endsK a.1 = false) : nextOf k (s ++ a :: m :: v) = nextOf k (s ++ a :: v) := by
  have h0 : nextOf a.1 (m :: v) = nextOf a.1 v := by
    rw [nextOf, hm, ha]
    simp only [Bool.not_true, Bool.or_false, Bool.false_eq_true, ↓reduceIte]
    cases v with
    | nil => rfl
    | cons z v => rw [nextOf, nextOf, hme, ha]
  induction s generalizing k with
  | nil =>
    show (if !markK a.1 || endsK k then a.1 else nextOf a.1 (m :: v)) = (if !markK a.1 || endsK k then a.1 else nextOf a.1 v)
    rw [h0]
  | cons y s ih => simp only [List.cons_append, nextOf, ih]

theorem nextOf_mark0 (a : Int) (v : List Sg) (m : Sg) (hm : markK m.1 = true) (hme : endsK m.1 = false) (ha : endsK a = false) : nextOf a (m :: v) = nextOf a v := by
  rw [nextOf, hm, ha]
  simp only [Bool.not_true, Bool.or_false, Bool.false_eq_true, ↓reduceIte]
  cases v with
  | nil => rfl
  | cons z v => rw [nextOf, nextOf, hme, ha]

theorem wf_mark (p q s : List Sg) (a m b : Sg) (hm : m.1 = 4) (ha : endsK a.1 = false) (h18 : a.1 ≠ 18) (h5 : a.1 ≠ 5) : wf (p ++ m :: a :: q) b s = wf (p ++ a :: q) b s := by
  unfold wf
  rw [headsOf_mark p q a m (by simp [hm, markK]) (by simp [hm, endsK]) ha]
  cases p with
  | cons y p => rfl
  | nil =>
    have e1 : a.1 ≠ 1 := by intro h; rw [h] at ha; simp [endsK] at ha
    have e4 : endsK m.1 = false := by simp [hm, endsK]
    have e5 : (a.1 == 5) = false := by simpa using h5
    have e18 : (a.1 == 18) = false := by simpa using h18
    have e6 : (m.1 == 5) = false := by simp [hm]
    have e7 : (m.1 == 18) = false := by simp [hm]
    have c1 : ¬ (a.1 = 1 ∧ b.1 = 2) := fun h => e1 h.1
    have c2 : ¬ (m.1 = 1 ∧ b.1 = 2) := by omega
    show wfg m.1 (headsOf (a :: q)) b (nextOf b.1 s) = wfg a.1 (headsOf (a :: q)) b (nextOf b.1 s)
    unfold wfg
    rw [if_neg c1, if_neg c2, ha, e4, e5, e18, e6, e7]

theorem wf_marks (u v : List Sg) (a m : Sg) (hm : m.1 = 4) (ha : endsK a.1 = false) (h18 : a.1 ≠ 18) (h5 : a.1 ≠ 5) :
    placesOf wf (u ++ a :: m :: v) = (placesOf wf (u ++ a :: v)).map fun n => if u.length + 1 ≤ n then n + 1 else n := by
  have hm1 : markK m.1 = true := by simp [hm, markK]
  have hm2 : endsK m.1 = false := by simp [hm, endsK]
  have e1 : a.1 ≠ 1 := by intro h; rw [h] at ha; simp [endsK] at ha
  unfold placesOf
  have l1 : (u ++ a :: m :: v).length = u.length + 2 + v.length := by simp; omega
  have l2 : (u ++ a :: v).length = u.length + 1 + v.length := by simp; omega
  rw [l1, l2, show u.length + 2 + v.length + 1 = (u.length + 1 + 1) + (v.length + 1) by omega, show u.length + 1 + v.length + 1 = (u.length + 1) + (v.length + 1) by omega]
  have r1 : List.range (u.length + 1 + 1 + (v.length + 1)) = List.range (u.length + 1 + 1) ++ (List.range (v.length + 1)).map (u.length + 1 + 1 + ·) := List.range_add
  have r2 : List.range (u.length + 1 + (v.length + 1)) = List.range (u.length + 1) ++ (List.range (v.length + 1)).map (u.length + 1 + ·) := List.range_add
  rw [r1, r2, List.filter_append, List.filter_append, List.map_append, List.range_succ (n := u.length + 1), List.filter_append]
  have hat : List.filter (brkAt wf (u ++ a :: m :: v)) [u.length + 1] = [] := by
    rw [List.filter_cons_of_neg]
    · rfl
    · rw [brkAt_in (by omega) (by simp)]
      have e0 : (u ++ a :: m :: v)[u.length + 1]'(by simp) = m := by simp
      rw [e0, show u ++ a :: m :: v = (u ++ [a]) ++ m :: v by simp, List.take_left' (by simp)]
      simp only [List.reverse_append, List.reverse_cons, List.reverse_nil, List.nil_append, List.cons_append]
      rw [wf_cons]
      unfold wfg
      rw [if_neg (by omega), ha, hm2, hm1]
      simp
  rw [hat, List.append_nil]
  congr 1
  · have e2 : (List.range (u.length + 1)).filter (brkAt wf (u ++ a :: m :: v)) = (List.range (u.length + 1)).filter (brkAt wf (u ++ a :: v)) := by
      apply filter_range_congr
      intro i hi
      by_cases h0 : i = 0
      · subst h0; rw [brkAt_zero, brkAt_zero]
      · rw [brkAt_in (by omega) (by simp; omega), brkAt_in (by omega) (by simp; omega)]
        have t1 : (u ++ a :: m :: v).take i = (u ++ a :: v).take i := by
          rw [List.take_append_of_le_length (by omega), List.take_append_of_le_length (by omega)]
        rw [t1]
        by_cases h1 : i = u.length
        · subst h1
          have g1 : (u ++ a :: m :: v)[u.length]'(by simp) = a := by simp
          have g2 : (u ++ a :: v)[u.length]'(by simp) = a := by simp
          rw [g1, g2]
          apply wf_next
          rw [List.drop_append, List.drop_append, List.drop_eq_nil_of_le (by omega), show u.length + 1 - u.length = 1 by omega]
          exact nextOf_mark0 _ _ _ hm1 hm2 ha
        · have hi' : i < u.length := by omega
          rw [List.getElem_append_left hi', List.getElem_append_left hi']
          apply wf_next
          rw [List.drop_append_of_le_length (by omega), List.drop_append_of_le_length (by omega)]
          exact nextOf_mark _ _ _ _ _ hm1 hm2 ha
    rw [e2]
    symm
    rw [List.map_congr_left (g := id), List.map_id]
    intro i hi
    have := List.mem_range.1 (List.mem_filter.1 hi).1
    rw [if_neg (by omega)]; rfl
  · rw [List.filter_map, List.filter_map, List.map_map]
    have e2 : (List.range (v.length + 1)).filter (brkAt wf (u ++ a :: m :: v) ∘ fun x => u.length + 1 + 1 + x) = (List.range (v.length + 1)).filter (brkAt wf (u ++ a :: v) ∘ fun x => u.length + 1 + x) := by
      apply filter_range_congr
      intro j hj
      show brkAt wf (u ++ a :: m :: v) (u.length + 1 + 1 + j) = brkAt wf (u ++ a :: v) (u.length + 1 + j)
      by_cases h1 : j = v.length
      · subst h1
        rw [show u.length + 1 + 1 + v.length = (u ++ a :: m :: v).length by rw [l1], show u.length + 1 + v.length = (u ++ a :: v).length by rw [l2], brkAt_end, brkAt_end]
      · have hj' : j < v.length := by omega
        rw [brkAt_in (by omega) (by rw [l1]; omega), brkAt_in (by omega) (by rw [l2]; omega)]
        have g1 : (u ++ a :: m :: v)[u.length + 1 + 1 + j]'(by rw [l1]; omega) = v[j] := by
          rw [List.getElem_append_right (by omega)]
          simp only [show u.length + 1 + 1 + j - u.length = j + 1 + 1 by omega, List.getElem_cons_succ]
        have g2 : (u ++ a :: v)[u.length + 1 + j]'(by rw [l2]; omega) = v[j] := by
          rw [List.getElem_append_right (by omega)]
          simp only [show u.length + 1 + j - u.length = j + 1 by omega, List.getElem_cons_succ]
        have t1 : (u ++ a :: m :: v).take (u.length + 1 + 1 + j) = u ++ a :: m :: v.take j := by
          rw [List.take_append, List.take_of_length_le (by omega), show u.length + 1 + 1 + j - u.length = j + 1 + 1 by omega, List.take_succ_cons, List.take_succ_cons]
        have t2 : (u ++ a :: v).take (u.length + 1 + j) = u ++ a :: v.take j := by
          rw [List.take_append, List.take_of_length_le (by omega), show u.length + 1 + j - u.length = j + 1 by omega, List.take_succ_cons]
        have d1 : (u ++ a :: m :: v).drop (u.length + 1 + 1 + j + 1) = v.drop (j + 1) := by
          rw [List.drop_append, List.drop_eq_nil_of_le (by omega), show u.length + 1 + 1 + j + 1 - u.length = (j + 1) + 1 + 1 by omega]; rfl
        have d2 : (u ++ a :: v).drop (u.length + 1 + j + 1) = v.drop (j + 1) := by
          rw [List.drop_append, List.drop_eq_nil_of_le (by omega), show u.length + 1 + j + 1 - u.length = (j + 1) + 1 by omega]; rfl
        rw [g1, g2, t1, t2, d1, d2]
        simp only [List.reverse_append, List.reverse_cons, List.append_assoc, List.cons_append, List.nil_append]
        exact wf_mark _ _ _ _ _ _ hm ha h18 h5
    rw [e2]
    apply List.map_congr_left
    intro j _
    show u.length + 1 + 1 + j = if u.length + 1 ≤ u.length + 1 + j then u.length + 1 + j + 1 else u.length + 1 + j
    rw [if_pos (by omega)]; omega

/-! letters and figures; spaces; signs that stand alone -/
def plainK (k : Int) : Bool := k == 9 || k == 10 || k == 16

theorem plainK_cases {k : Int} (h : plainK k = true) : k = 9 ∨ k = 10 ∨ k = 16 := by
  simp [plainK] at h; omega

theorem headsOf_last {x : Sg} {p : List Sg} (h : markK x.1 = false) : headsOf (x :: p) = x.1 :: headsOf p := by
  rw [headsOf, headB, h]; simp

theorem wf_plain (x b : Sg) (p s : List Sg) (hx : plainK x.1 = true) (hb : plainK b.1 = true) : wf (x :: p) b s = false := by
  have hx' := plainK_cases hx
  have hb' := plainK_cases hb
  rw [wf_cons, headsOf_last (by rcases hx' with h | h | h <;> simp [h, markK])]
  unfold wfg
  rw [if_neg (by omega), if_neg (by rcases hx' with h | h | h <;> rcases hb' with g | g | g <;> simp [h, g, endsK]), if_pos]
  rcases hx' with h | h | h <;> rcases hb' with g | g | g <;> simp [h, g, joinedB, letterK]

theorem wf_to_space (x b : Sg) (p s : List Sg) (hx : plainK x.1 = true) (hb : b.1 = 18) : wf (x :: p) b s = true := by
  have hx' := plainK_cases hx
  rw [wf_cons, headsOf_last (by rcases hx' with h | h | h <;> simp [h, markK])]
  unfold wfg
  rw [if_neg (by omega), if_neg (by rcases hx' with h | h | h <;> simp [h, hb, endsK]), if_neg]
  · rcases hx' with h | h | h <;> simp [h]
  · rcases hx' with h | h | h <;> simp [h, hb, joinedB, letterK, markK, betweenK, insideK, soundK]

theorem wf_from_space (x b : Sg) (p s : List Sg) (hx : x.1 = 18) (hb : plainK b.1 = true) : wf (x :: p) b s = true := by
  have hb' := plainK_cases hb
  rw [wf_cons, headsOf_last (by simp [hx, markK])]
  unfold wfg
  rw [if_neg (by omega), if_neg (by rcases hb' with h | h | h <;> simp [h, hx, endsK]), if_neg]
  · simp [hx]
  · rcases hb' with h | h | h <;> simp [h, hx, joinedB, letterK, markK, betweenK, insideK, soundK]

theorem filter_range_none {n : Nat} {p : Nat → Bool} (h : ∀ i, i < n → p i = false) : (List.range n).filter p = [] := by
  rw [List.filter_eq_nil_iff]
  intro i hi
  rw [h i (List.mem_range.1 hi)]; simp
theorem filter_range_all {n : Nat} {p : Nat → Bool} (h : ∀ i, i < n → p i = true) : (List.range n).filter p = List.range n := by
  rw [List.filter_eq_self]
  intro i hi
  exact h i (List.mem_range.1 hi)

theorem filter_range_ends {n : Nat} {p : Nat → Bool} (h0 : p 0 = true) (h1 : p (n + 1) = true) (h : ∀ i, 0 < i → i < n + 1 → p i = false) : (List.range (n + 2)).filter p = [0, n + 1] := by
  rw [List.range_succ, List.filter_append, List.range_succ_eq_map, List.filter_cons_of_pos h0, List.filter_map, filter_range_none (p := p ∘ Nat.succ), List.filter_cons_of_pos h1]
  · rfl
  · intro i hi
    exact h (i + 1) (by omega) (by omega)

theorem rev_take_cons {t : List Sg} {i : Nat} (h0 : 0 < i) (h1 : i ≤ t.length) : (t.take i).reverse = t[i - 1] :: (t.take (i - 1)).reverse := by
  obtain ⟨j, rfl⟩ : ∃ j, i = j + 1 := ⟨i - 1, by omega⟩
  rw [List.take_succ_eq_append_getElem (by omega)]
  simp

theorem wf_letters {t : List Sg} (ht : t ≠ []) (h : ∀ x ∈ t, plainK x.1 = true) : placesOf wf t = [0, t.length] := by
  have hn := List.length_pos_iff.2 ht
  obtain ⟨n, hn'⟩ : ∃ n, t.length = n + 1 := ⟨t.length - 1, by omega⟩
  unfold placesOf
  rw [hn']
  refine filter_range_ends (brkAt_zero t) (by rw [← hn']; exact brkAt_end t) ?_
  intro i h0 h1
  rw [brkAt_in h0 (by omega), rev_take_cons h0 (by omega)]
  exact wf_plain _ _ _ _ (h _ (List.getElem_mem _)) (h _ (List.getElem_mem _))

theorem wf_letters2 {t : List Sg} (ht : t ≠ []) (h : ∀ x ∈ t, plainK x.1 = true) (y : Sg) (hy : y.1 = 18) : placesOf wf (t ++ y :: t) = [0, t.length, t.length + 1, 2 * t.length + 1] := by
  have hn := List.length_pos_iff.2 ht
  obtain ⟨n, hn'⟩ : ∃ n, t.length = n + 1 := ⟨t.length - 1, by omega⟩
  have hl : (t ++ y :: t).length = 2 * n + 3 := by simp; omega
  have hg1 : ∀ i (hi : i < t.length) hh, (t ++ y :: t)[i]'hh = t[i] := fun i hi hh => List.getElem_append_left hi
  have hg2 : ∀ hh, (t ++ y :: t)[n + 1]'hh = y := by
    intro hh
    rw [List.getElem_append_right (by omega)]
    simp [hn']
  have hg3 : ∀ i (h0 : n + 1 < i) hh, (t ++ y :: t)[i]'hh = t[i - (n + 2)]'(by omega) := by
    intro i h0 hh
    rw [List.getElem_append_right (by omega)]
    simp only [hn', show i - (n + 1) = (i - (n + 2)) + 1 by omega, List.getElem_cons_succ]
  unfold placesOf
  rw [hl, show 2 * n + 3 + 1 = (n + 2) + (n + 2) by omega, List.range_add, List.filter_append]
  have p1 : (List.range (n + 2)).filter (brkAt wf (t ++ y :: t)) = [0, n + 1] := by
    refine filter_range_ends (brkAt_zero _) ?_ ?_
    · rw [brkAt_in (by omega) (by omega), rev_take_cons (by omega) (by omega), hg2, hg1 _ (by omega)]
      exact wf_to_space _ _ _ _ (h _ (List.getElem_mem _)) hy
    · intro i h0 h1
      rw [brkAt_in h0 (by omega), rev_take_cons h0 (by omega), hg1 _ (by omega), hg1 _ (by omega)]
      exact wf_plain _ _ _ _ (h _ (List.getElem_mem _)) (h _ (List.getElem_mem _))
  have p2 : (List.range (n + 2)).filter (brkAt wf (t ++ y :: t) ∘ fun x => n + 2 + x) = [0, n + 1] := by
    refine filter_range_ends ?_ ?_ ?_
    · show brkAt wf (t ++ y :: t) (n + 2 + 0) = true
      rw [brkAt_in (by omega) (by omega), rev_take_cons (by omega) (by omega), hg3 (n + 2 + 0) (by omega)]
      have : (t ++ y :: t)[n + 2 + 0 - 1]'(by rw [hl]; omega) = y := hg2 (by rw [hl]; omega)
      rw [this]
      exact wf_from_space _ _ _ _ hy (h _ (List.getElem_mem _))
    · show brkAt wf (t ++ y :: t) (n + 2 + (n + 1)) = true
      rw [show n + 2 + (n + 1) = (t ++ y :: t).length by omega]
      exact brkAt_end _
    · intro i h0 h1
      show brkAt wf (t ++ y :: t) (n + 2 + i) = false
      rw [brkAt_in (by omega) (by omega), rev_take_cons (by omega) (by omega), hg3 (n + 2 + i) (by omega), hg3 (n + 2 + i - 1) (by omega)]
      exact wf_plain _ _ _ _ (h _ (List.getElem_mem _)) (h _ (List.getElem_mem _))
  rw [p1, List.filter_map, p2]
  simp [hn']; omega

theorem wf_spaces (n : Nat) (c : Bool) : placesOf wf (List.replicate (n + 1) (18, c)) = [0, n + 1] := by
  unfold placesOf
  rw [List.length_replicate]
  refine filter_range_ends (brkAt_zero _) ?_ ?_
  · have := brkAt_end (f := wf) (List.replicate (n + 1) ((18 : Int), c)); rwa [List.length_replicate] at this
  · intro i h0 h1
    rw [brkAt_in h0 (by simpa using h1), rev_take_cons h0 (by simp; omega), List.getElem_replicate, List.getElem_replicate]
    rw [wf_cons]
    simp [wfg, endsK]

theorem wf_alone (n : Nat) (k : Int) (hk : k = 0 ∨ 11 ≤ k ∧ k ≤ 15) : placesOf wf (List.replicate n (k, false)) = List.range (n + 1) := by
  unfold placesOf
  rw [List.length_replicate]
  apply filter_range_all
  intro i hi
  by_cases h0 : i = 0
  · subst h0; exact brkAt_zero _
  by_cases h1 : i = n
  · subst h1
    have := brkAt_end (f := wf) (List.replicate i (k, false)); rwa [List.length_replicate] at this
  rw [brkAt_in (by omega) (by simp; omega), rev_take_cons (by omega) (by simp; omega), List.getElem_replicate, List.getElem_replicate]
  have hm : markK k = false := by simp [markK]; omega
  rw [wf_cons, headsOf_last hm]
  unfold wfg
  have n1 : ¬ k = 1 := by omega
  have n2 : ¬ k = 2 := by omega
  have n3 : ¬ k = 3 := by omega
  have n4 : ¬ k = 18 := by omega
  have n5 : ¬ k = 10 := by omega
  have n6 : ¬ k = 9 := by omega
  have n7 : ¬ k = 16 := by omega
  have n8 : ¬ k = 8 := by omega
  have n9 : ¬ k = 17 := by omega
  have n10 : ¬ k = 7 := by omega
  rw [if_neg (by omega), if_neg (by simp [endsK, n1, n2, n3]), if_neg]
  · simp [n10]
  · simp [joinedB, letterK, hm, n4, n5, n6, n7, n8, n9, soundK]
end Go.Proofs.Tx
