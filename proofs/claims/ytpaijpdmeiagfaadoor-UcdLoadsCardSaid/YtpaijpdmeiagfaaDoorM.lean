namespace Go.Proofs.Tm

theorem snocInd {α : Type} {p : List α → Prop} (l : List α) (h0 : p []) (hs : ∀ l a, p l → p (l ++ [a])) : p l := by
  have : ∀ n (l : List α), l.length = n → p l := by
    intro n
    induction n with
    | zero => intro l hl; rw [List.eq_nil_of_length_eq_zero hl]; exact h0
    | succ n ih =>
      intro l hl
      have hne : l ≠ [] := by rintro rfl; simp at hl
      rw [← List.dropLast_concat_getLast hne]
      exact hs _ _ (ih _ (by simp [hl]))
  exact this _ l rfl

theorem idxOf_append_of_mem {α : Type} [BEq α] [LawfulBEq α] {a : α} {l m : List α} (h : a ∈ l) : (l ++ m).idxOf a = l.idxOf a := by
  rw [List.idxOf_append, if_pos h]

structure P3 where
  lo : Int
  hi : Int
  v : Int
  deriving DecidableEq, Inhabited

/-- the value of a number by entries: the last one that has it -/
def pval (l : List P3) (r : Int) : Int := l.foldl (fun acc x => if x.lo ≤ r ∧ r ≤ x.hi then x.v else acc) 0

def blk (f : Int → Int) (k : Nat) : List Int := (List.range 256).map fun (i : Nat) => f (256 * k + i)

structure TD where
  F : List (List Int)
  L : List Nat
  deriving DecidableEq, Inhabited

def TD.add (t : TD) (b : List Int) : TD := ⟨if b ∈ t.F then t.F else t.F ++ [b], t.L ++ [t.F.idxOf b]⟩

/-- the value of a number -/
def TD.val (t : TD) (r : Int) : Int := if r < 0 ∨ 1114111 < r then 0 else (t.F.getD (t.L.getD (r / 256).toNat 0) []).getD (r % 256).toNat 0

def TD.ofBlocks (bs : List (List Int)) : TD := bs.foldl TD.add ⟨[], []⟩

theorem TD.ofBlocks_snoc (bs : List (List Int)) (b : List Int) : TD.ofBlocks (bs ++ [b]) = (TD.ofBlocks bs).add b := by
  simp [TD.ofBlocks]

theorem TD.add_F_prefix (t : TD) (b : List Int) : t.F <+: (t.add b).F := by
  unfold TD.add; dsimp only; split
  · exact List.prefix_refl _
  · exact List.prefix_append _ _

theorem TD.mem_add (t : TD) (b : List Int) : b ∈ (t.add b).F := by
  unfold TD.add; dsimp only; split <;> simp_all

theorem TD.add_L (t : TD) (b : List Int) : (t.add b).L = t.L ++ [t.F.idxOf b] := rfl

theorem idxOf_prefix {A B : List (List Int)} {b : List Int} (h : A <+: B) (hb : b ∈ A) : B.idxOf b = A.idxOf b := by
  obtain ⟨C, rfl⟩ := h
  exact idxOf_append_of_mem hb

theorem TD.idxOf_add (t : TD) (b : List Int) : (t.add b).F.idxOf b = t.F.idxOf b := by
  unfold TD.add; dsimp only; split
  · rfl
  · rename_i h
    rw [List.idxOf_append, if_neg h, List.idxOf_eq_length h]; simp

/-- what a trie built of blocks is -/
structure TD.Of (t : TD) (bs : List (List Int)) : Prop where
  mem : ∀ b, b ∈ t.F ↔ b ∈ bs
  nodup : t.F.Nodup
  like : t.L = bs.map t.F.idxOf

theorem TD.of_ofBlocks (bs : List (List Int)) : (TD.ofBlocks bs).Of bs := by
  induction bs using snocInd with
  | h0 => exact ⟨by simp [TD.ofBlocks], by simp [TD.ofBlocks], by simp [TD.ofBlocks]⟩
  | hs bs b ih =>
    rw [TD.ofBlocks_snoc]
    obtain ⟨hm, hn, hl⟩ := ih
    refine ⟨?_, ?_, ?_⟩
    · intro c
      unfold TD.add; dsimp only; split
      · rename_i h
        rw [hm]; simp only [List.mem_append, List.mem_singleton]
        constructor
        · exact Or.inl
        · rintro (h' | rfl)
          · exact h'
          · exact (hm _).1 h
      · simp [hm]
    · unfold TD.add; dsimp only; split
      · exact hn
      · rename_i h
        rw [List.nodup_append]
        refine ⟨hn, by simp, ?_⟩
        intro x hx y hy e
        simp only [List.mem_singleton] at hy
        subst hy; subst e; exact h hx
    · rw [TD.add_L, List.map_append, hl]
      congr 1
      · apply List.map_congr_left
        intro c hc
        exact (idxOf_prefix (TD.add_F_prefix _ _) ((hm c).2 hc)).symm
      · simp [TD.idxOf_add]

theorem TD.ofBlocks_F_prefix (bs cs : List (List Int)) : (TD.ofBlocks bs).F <+: (TD.ofBlocks (bs ++ cs)).F := by
  induction cs using snocInd with
  | h0 => simp
  | hs cs c ih =>
    rw [← List.append_assoc, TD.ofBlocks_snoc]
    exact ih.trans (TD.add_F_prefix _ _)

theorem TD.ofBlocks_L_length (bs : List (List Int)) : (TD.ofBlocks bs).L.length = bs.length := by
  rw [(TD.of_ofBlocks bs).like]; simp


theorem len_le {α : Type} {A : List α} : ∀ {B : List α}, A.Nodup → (∀ a ∈ A, a ∈ B) → A.length ≤ B.length := by
  induction A with
  | nil => intros; simp
  | cons a A ih =>
    intro B hn h
    rw [List.nodup_cons] at hn
    obtain ⟨s, t, rfl⟩ := List.append_of_mem (h a (by simp))
    have := @ih (s ++ t) hn.2 (by
      intro b hb
      have h1 := h b (by simp [hb])
      have hne : b ≠ a := by rintro rfl; exact hn.1 hb
      simp only [List.mem_append, List.mem_cons] at h1 ⊢
      rcases h1 with h1 | h1 | h1
      · exact Or.inl h1
      · exact absurd h1 hne
      · exact Or.inr h1)
    simp only [List.length_append, List.length_cons] at this ⊢; omega

theorem pval_snoc (l : List P3) (x : P3) (r : Int) : pval (l ++ [x]) r = if x.lo ≤ r ∧ r ≤ x.hi then x.v else pval l r := by
  simp [pval]

theorem pval_zero (l : List P3) (r : Int) (h : ∀ x ∈ l, ¬ (x.lo ≤ r ∧ r ≤ x.hi)) : pval l r = 0 := by
  induction l using snocInd with
  | h0 => rfl
  | hs l a ih =>
    rw [pval_snoc, if_neg (h a (by simp))]
    exact ih fun x hx => h x (by simp [hx])

theorem blk_length (f : Int → Int) (k : Nat) : (blk f k).length = 256 := by simp [blk]

theorem blk_congr {f g : Int → Int} {k : Nat} (h : ∀ r : Int, 256 * k ≤ r → r < 256 * k + 256 → f r = g r) : blk f k = blk g k := by
  unfold blk
  apply List.map_congr_left
  intro i hi
  have := List.mem_range.1 hi
  exact h _ (by omega) (by omega)

theorem blk_get (f : Int → Int) (k i : Nat) (h : i < 256) : (blk f k)[i]? = some (f (256 * k + i)) := by
  simp [blk, h]

theorem blk_inj {f g : Int → Int} {k j : Nat} (h : blk f k = blk g j) (i : Nat) (hi : i < 256) : f (256 * k + i) = g (256 * j + i) := by
  have := congrArg (fun l => l[i]?) h
  simp only [blk_get _ _ _ hi] at this
  exact Option.some.inj this

def conB (v : Int) : List Int := List.replicate 256 v

theorem blk_con {f : Int → Int} {k : Nat} {v : Int} (h : ∀ r : Int, 256 * k ≤ r → r < 256 * k + 256 → f r = v) : blk f k = conB v := by
  rw [blk_congr (g := fun _ => v) h]
  unfold blk conB
  rw [List.map_const']; simp

/-- each block of some entries is one at an entry's end, or has one value: 0, or an entry's -/
theorem blk_cases (l : List P3) (k : Nat) :
    (∃ x ∈ l, x.lo / 256 = k ∨ x.hi / 256 = k) ∨ blk (pval l) k = conB 0 ∨ ∃ x ∈ l, blk (pval l) k = conB x.v := by
  induction l using snocInd with
  | h0 => exact .inr (.inl (blk_con fun r _ _ => rfl))
  | hs l x ih =>
    by_cases h1 : x.lo / 256 = k
    · exact .inl ⟨x, by simp, .inl h1⟩
    by_cases h2 : x.hi / 256 = k
    · exact .inl ⟨x, by simp, .inr h2⟩
    by_cases h3 : x.lo ≤ 256 * k ∧ 256 * k + 255 ≤ x.hi
    · refine .inr (.inr ⟨x, by simp, blk_con fun r _ _ => ?_⟩)
      rw [pval_snoc, if_pos ⟨by omega, by omega⟩]
    · have e : blk (pval (l ++ [x])) k = blk (pval l) k := blk_congr fun r _ _ => by
        rw [pval_snoc, if_neg]
        rintro ⟨ha, hb⟩
        omega
      rw [e]
      rcases ih with ⟨y, hy, h⟩ | h | ⟨y, hy, h⟩
      · exact .inl ⟨y, by simp [hy], h⟩
      · exact .inr (.inl h)
      · exact .inr (.inr ⟨y, by simp [hy], h⟩)

/-- one entry more: each block is as it was, at an end, or of its value -/
theorem blk_later (l : List P3) (x : P3) (k : Nat) :
    x.lo / 256 = k ∨ x.hi / 256 = k ∨ blk (pval (l ++ [x])) k = conB x.v ∨ blk (pval (l ++ [x])) k = blk (pval l) k := by
  by_cases h1 : x.lo / 256 = k
  · exact .inl h1
  by_cases h2 : x.hi / 256 = k
  · exact .inr (.inl h2)
  by_cases h3 : x.lo ≤ 256 * k ∧ 256 * k + 255 ≤ x.hi
  · refine .inr (.inr (.inl (blk_con fun r _ _ => ?_)))
    rw [pval_snoc, if_pos ⟨by omega, by omega⟩]
  · refine .inr (.inr (.inr (blk_congr fun r _ _ => ?_)))
    rw [pval_snoc, if_neg]
    rintro ⟨ha, hb⟩
    omega

def blks (f : Int → Int) : List (List Int) := (List.range 4352).map (blk f)

def tdOf (f : Int → Int) : TD := TD.ofBlocks (blks f)

theorem tdOf_of (f : Int → Int) : (tdOf f).Of (blks f) := TD.of_ofBlocks _

theorem mem_blks {f : Int → Int} {b : List Int} : b ∈ blks f ↔ ∃ k < 4352, blk f k = b := by
  simp [blks]

theorem tdOf_later (l : List P3) (x : P3) : (tdOf (pval (l ++ [x]))).F.length ≤ (tdOf (pval l)).F.length + 3 := by
  have hA := tdOf_of (pval (l ++ [x]))
  have hB := tdOf_of (pval l)
  have := len_le (B := (tdOf (pval l)).F ++ [blk (pval (l ++ [x])) (x.lo / 256).toNat, blk (pval (l ++ [x])) (x.hi / 256).toNat, conB x.v]) hA.nodup (by
    intro b hb
    obtain ⟨k, hk, rfl⟩ := mem_blks.1 ((hA.mem b).1 hb)
    rcases blk_later l x k with h | h | h | h
    · have : (x.lo / 256).toNat = k := by omega
      simp [this]
    · have : (x.hi / 256).toNat = k := by omega
      simp [this]
    · simp [h]
    · rw [h]
      have : blk (pval l) k ∈ (tdOf (pval l)).F := (hB.mem _).2 (mem_blks.2 ⟨k, hk, rfl⟩)
      simp [this])
  simpa using this

theorem tdOf_small (l : List P3) : (tdOf (pval l)).F.length ≤ 1 + 3 * l.length := by
  induction l using snocInd with
  | h0 =>
    have := len_le (B := [conB 0]) (tdOf_of (pval [])).nodup (by
      intro b hb
      obtain ⟨k, hk, rfl⟩ := mem_blks.1 (((tdOf_of (pval [])).mem b).1 hb)
      simp [blk_con (f := pval []) (k := k) (v := 0) (fun r _ _ => rfl)])
    simpa using this
  | hs l x ih =>
    have := tdOf_later l x
    simp only [List.length_append, List.length_singleton]; omega


/-! ### runs -/
def runsTo (f : Int → Int) : Nat → List P3 × P3
  | 0 => ([], ⟨0, 0, f 0⟩)
  | n + 1 => if f (n + 1) = (runsTo f n).2.v then ((runsTo f n).1, ⟨(runsTo f n).2.lo, n + 1, (runsTo f n).2.v⟩)
      else ((runsTo f n).1 ++ [(runsTo f n).2], ⟨n + 1, n + 1, f (n + 1)⟩)

def keepV (l : List P3) : List P3 := l.filter fun x => decide (x.v ≠ 0)

def allOf (f : Int → Int) : List P3 := keepV ((runsTo f 1114111).1 ++ [(runsTo f 1114111).2])

def Apart (a b : P3) : Prop := a.hi < b.lo ∧ (b.lo = a.hi + 1 → a.v ≠ b.v)

structure RunsOk (f : Int → Int) (n : Nat) (out : List P3) (x : P3) : Prop where
  hi : x.hi = n
  lo : 0 ≤ x.lo ∧ x.lo ≤ n
  val : ∀ r : Int, x.lo ≤ r → r ≤ n → f r = x.v
  pw : (out ++ [x]).Pairwise Apart
  valid : ∀ y ∈ out ++ [x], 0 ≤ y.lo ∧ y.lo ≤ y.hi ∧ y.hi ≤ n
  inside : ∀ y ∈ out ++ [x], ∀ r : Int, y.lo ≤ r → r ≤ y.hi → f r = y.v
  covers : ∀ r : Int, 0 ≤ r → r ≤ n → ∃ y ∈ out ++ [x], y.lo ≤ r ∧ r ≤ y.hi
  turn : ∀ y ∈ out ++ [x], 0 < y.lo → f (y.lo - 1) ≠ f y.lo

theorem runsOk (f : Int → Int) (n : Nat) : RunsOk f n (runsTo f n).1 (runsTo f n).2 := by
  induction n with
  | zero =>
    refine ⟨rfl, ⟨by simp [runsTo], by simp [runsTo]⟩, ?_, by simp [runsTo], ?_, ?_, ?_, ?_⟩
    · intro r h1 h2
      simp only [runsTo] at h1 ⊢
      have : r = 0 := by omega
      rw [this]
    · intro y hy; simp [runsTo] at hy; subst hy; simp
    · intro y hy r h1 h2; simp [runsTo] at hy; subst hy
      simp only at h1 h2 ⊢
      have : r = 0 := by omega
      rw [this]
    · intro r h1 h2
      refine ⟨⟨0, 0, f 0⟩, by simp [runsTo], ?_, ?_⟩ <;> simp <;> omega
    · intro y hy h; simp [runsTo] at hy; subst hy; simp at h
  | succ n ih =>
    generalize h0 : (runsTo f n).1 = out at ih
    generalize hx : (runsTo f n).2 = x at ih
    obtain ⟨ihi, ilo, ival, ipw, ivalid, iin, icov, iturn⟩ := ih
    by_cases h : f (n + 1) = x.v
    · have e : runsTo f (n + 1) = (out, ⟨x.lo, n + 1, x.v⟩) := by simp [runsTo, h0, hx, h]
      rw [e]; dsimp only
      rw [List.pairwise_append] at ipw
      have hin : ∀ y ∈ out ++ [(⟨x.lo, n + 1, x.v⟩ : P3)], y ∈ out ∨ y = ⟨x.lo, n + 1, x.v⟩ := by
        intro y hy; simpa using hy
      refine ⟨by simp, ⟨ilo.1, ?_⟩, ?_, ?_, ?_, ?_, ?_, ?_⟩
      · dsimp only; omega
      · intro r h1 h2
        dsimp only at h1 ⊢
        by_cases e : r = n + 1
        · rw [e, h]
        · exact ival r h1 (by omega)
      · rw [List.pairwise_append]
        refine ⟨ipw.1, by simp, ?_⟩
        intro a ha b hb
        simp only [List.mem_singleton] at hb; subst hb
        exact ipw.2.2 a ha x (by simp)
      · intro y hy
        rcases hin y hy with hy | rfl
        · have := ivalid y (by simp [hy]); omega
        · dsimp only; omega
      · intro y hy r h1 h2
        rcases hin y hy with hy | rfl
        · exact iin y (by simp [hy]) r h1 h2
        · dsimp only at h1 h2 ⊢
          by_cases e : r = n + 1
          · rw [e, h]
          · exact ival r h1 (by omega)
      · intro r h1 h2
        by_cases e : r = n + 1
        · exact ⟨⟨x.lo, n + 1, x.v⟩, by simp, by dsimp only; omega, by dsimp only; omega⟩
        · obtain ⟨y, hy, h3, h4⟩ := icov r h1 (by omega)
          simp only [List.mem_append, List.mem_singleton] at hy
          rcases hy with hy | rfl
          · exact ⟨y, by simp [hy], h3, h4⟩
          · exact ⟨⟨y.lo, n + 1, y.v⟩, by simp, h3, by dsimp only; omega⟩
      · intro y hy hp
        rcases hin y hy with hy | rfl
        · exact iturn y (by simp [hy]) hp
        · exact iturn x (by simp) hp
    · have e : runsTo f (n + 1) = (out ++ [x], ⟨n + 1, n + 1, f (n + 1)⟩) := by simp [runsTo, h0, hx, h]
      rw [e]; dsimp only
      have hin : ∀ y ∈ out ++ [x] ++ [(⟨n + 1, n + 1, f (n + 1)⟩ : P3)], y ∈ out ++ [x] ∨ y = ⟨n + 1, n + 1, f (n + 1)⟩ := by
        intro y hy; simpa [or_assoc] using hy
      refine ⟨by simp, ⟨by dsimp only; omega, by simp⟩, ?_, ?_, ?_, ?_, ?_, ?_⟩
      · intro r h1 h2
        dsimp only at h1 ⊢
        have : r = n + 1 := by omega
        rw [this]
      · rw [List.pairwise_append]
        refine ⟨ipw, by simp, ?_⟩
        intro a ha b hb
        simp only [List.mem_singleton] at hb; subst hb
        have := ivalid a ha
        refine ⟨by dsimp only; omega, ?_⟩
        intro hb
        dsimp only at hb ⊢
        simp only [List.mem_append, List.mem_singleton] at ha
        rcases ha with ha | rfl
        · rw [List.pairwise_append] at ipw
          have := (ipw.2.2 a ha x (by simp)).1
          omega
        · exact fun hv => h hv.symm
      · intro y hy
        rcases hin y hy with hy | rfl
        · have := ivalid y hy; omega
        · dsimp only; omega
      · intro y hy r h1 h2
        rcases hin y hy with hy | rfl
        · exact iin y hy r h1 h2
        · dsimp only at h1 h2 ⊢
          have : r = n + 1 := by omega
          rw [this]
      · intro r h1 h2
        by_cases e : r = n + 1
        · exact ⟨⟨n + 1, n + 1, f (n + 1)⟩, by simp, by dsimp only; omega, by dsimp only; omega⟩
        · obtain ⟨y, hy, h3, h4⟩ := icov r h1 (by omega)
          exact ⟨y, by rw [List.mem_append]; exact .inl hy, h3, h4⟩
      · intro y hy hp
        rcases hin y hy with hy | rfl
        · exact iturn y hy hp
        · dsimp only
          have h1 := ival n (by omega) (by omega)
          have : ((n : Int) + 1 - 1) = n := by omega
          rw [this, h1]; exact fun e => h e.symm

theorem pval_apart {l : List P3} (hpw : l.Pairwise Apart) {y : P3} (hy : y ∈ l) {r : Int} (h1 : y.lo ≤ r) (h2 : r ≤ y.hi) : pval l r = y.v := by
  induction l using snocInd with
  | h0 => simp at hy
  | hs l a ih =>
    rw [List.pairwise_append] at hpw
    rw [pval_snoc]
    simp only [List.mem_append, List.mem_singleton] at hy
    rcases hy with hy | rfl
    · have := (hpw.2.2 y hy a (by simp)).1
      rw [if_neg (by omega)]
      exact ih hpw.1 hy
    · rw [if_pos ⟨h1, h2⟩]

theorem pval_allOf (f : Int → Int) (r : Int) (h0 : 0 ≤ r) (h1 : r ≤ 1114111) : pval (allOf f) r = f r := by
  obtain ⟨_, _, _, ipw, _, iin, icov, _⟩ := runsOk f 1114111
  obtain ⟨y, hy, h3, h4⟩ := icov r h0 (by omega)
  have hf := iin y hy r h3 h4
  have hpw' : (allOf f).Pairwise Apart := ipw.sublist List.filter_sublist
  by_cases hv : y.v = 0
  · rw [hf, hv]
    apply pval_zero
    rintro z hz ⟨h5, h6⟩
    have hz' : z ∈ (runsTo f 1114111).1 ++ [(runsTo f 1114111).2] := (List.mem_filter.1 hz).1
    have hzv := of_decide_eq_true (List.mem_filter.1 hz).2
    have := iin z hz' r h5 h6
    rw [hf, hv] at this
    exact hzv this.symm
  · rw [hf]
    exact pval_apart hpw' (List.mem_filter.2 ⟨hy, by simpa using hv⟩) h3 h4

theorem allOf_pw (f : Int → Int) : (allOf f).Pairwise Apart := (runsOk f 1114111).pw.sublist List.filter_sublist

theorem allOf_valid (f : Int → Int) : ∀ y ∈ allOf f, 0 ≤ y.lo ∧ y.lo ≤ y.hi ∧ y.hi ≤ 1114111 ∧ y.v ≠ 0 := by
  intro y hy
  have hy' : y ∈ (runsTo f 1114111).1 ++ [(runsTo f 1114111).2] := (List.mem_filter.1 hy).1
  have := (runsOk f 1114111).valid y hy'
  have h2 := of_decide_eq_true (List.mem_filter.1 hy).2
  exact ⟨this.1, this.2.1, by have := this.2.2; omega, h2⟩

theorem pval_turn {l : List P3} {r : Int} (h : pval l (r - 1) ≠ pval l r) : ∃ x ∈ l, r = x.lo ∨ r = x.hi + 1 := by
  induction l using snocInd with
  | h0 => simp [pval] at h
  | hs l a ih =>
    by_cases h1 : r = a.lo
    · exact ⟨a, by simp, .inl h1⟩
    by_cases h2 : r = a.hi + 1
    · exact ⟨a, by simp, .inr h2⟩
    rw [pval_snoc, pval_snoc] at h
    by_cases h3 : a.lo ≤ r ∧ r ≤ a.hi
    · rw [if_pos h3, if_pos (by omega)] at h; exact absurd rfl h
    · rw [if_neg h3, if_neg (by omega)] at h
      obtain ⟨x, hx, hr⟩ := ih h
      exact ⟨x, by simp [hx], hr⟩

theorem allOf_small (l : List P3) : (allOf (pval l)).length ≤ 1 + 2 * l.length := by
  obtain ⟨_, _, _, ipw, ivalid, _, _, iturn⟩ := runsOk (pval l) 1114111
  have h1 : (allOf (pval l)).length ≤ ((runsTo (pval l) 1114111).1 ++ [(runsTo (pval l) 1114111).2]).length := List.length_filter_le _ _
  have h2 : (((runsTo (pval l) 1114111).1 ++ [(runsTo (pval l) 1114111).2]).map P3.lo).Nodup := by
    rw [List.nodup_iff_pairwise_ne, List.pairwise_map]
    refine (List.Pairwise.and_mem.1 ipw).imp ?_
    rintro a b ⟨ha, hb, hab⟩
    have := ivalid a ha
    have := hab.1
    omega
  have h3 := len_le (B := 0 :: (l.map P3.lo ++ l.map (fun x => x.hi + 1))) h2 (by
    intro r hr
    obtain ⟨y, hy, rfl⟩ := List.mem_map.1 hr
    by_cases h0 : 0 < y.lo
    · obtain ⟨x, hx, h⟩ := pval_turn (iturn y hy h0)
      rcases h with h | h
      · simp only [List.mem_cons, List.mem_append, List.mem_map]; exact .inr (.inl ⟨x, hx, h.symm⟩)
      · simp only [List.mem_cons, List.mem_append, List.mem_map]; exact .inr (.inr ⟨x, hx, h.symm⟩)
    · have := (ivalid y hy).1
      have : y.lo = 0 := by omega
      simp [this])
  simp only [List.length_map, List.length_cons, List.length_append] at h1 h3 ⊢
  omega


theorem flatten_get {F : List (List Int)} (hF : ∀ c ∈ F, c.length = 256) (i j : Nat) (hj : j < 256) (hi : i < F.length) : F.flatten[i * 256 + j]? = some ((F.getD i []).getD j 0) := by
  induction F generalizing i with
  | nil => simp at hi
  | cons c F ih =>
    have hc := hF c (by simp)
    rw [List.flatten_cons]
    cases i with
    | zero =>
      rw [List.getElem?_append_left (by omega)]
      simp [List.getD, hc, hj]
    | succ i =>
      rw [List.getElem?_append_right (by omega), hc, show (i + 1) * 256 + j - 256 = i * 256 + j by omega, ih (fun c hc => hF c (by simp [hc])) i (by simpa using hi)]
      simp

theorem TD.Of.like_lt {t : TD} {bs : List (List Int)} (h : t.Of bs) {i : Nat} (hi : i ∈ t.L) : i < t.F.length := by
  rw [h.like] at hi
  obtain ⟨b, hb, rfl⟩ := List.mem_map.1 hi
  exact List.idxOf_lt_length_of_mem ((h.mem b).2 hb)

theorem TD.Of.block {t : TD} {bs : List (List Int)} (h : t.Of bs) {k : Nat} (hk : k < bs.length) : t.F.getD (t.L.getD k 0) [] = bs.getD k [] := by
  have hm : bs[k] ∈ t.F := (h.mem _).2 (List.getElem_mem hk)
  have hlt := List.idxOf_lt_length_of_mem hm
  rw [h.like]
  have e1 : (bs.map t.F.idxOf).getD k 0 = t.F.idxOf bs[k] := by simp [List.getD, hk]
  rw [e1]
  have e2 : t.F[t.F.idxOf bs[k]] = bs[k] := List.getElem_idxOf hlt
  rw [List.getD_eq_getElem?_getD, List.getElem?_eq_getElem hlt, Option.getD_some, e2]
  simp [List.getD, hk]

theorem tdOf_L (f : Int → Int) : (tdOf f).L.length = 4352 := by
  unfold tdOf; rw [TD.ofBlocks_L_length]; simp [blks]

theorem tdOf_val (f : Int → Int) (r : Int) (h0 : 0 ≤ r) (h1 : r ≤ 1114111) : (tdOf f).val r = f r := by
  have hk : (r / 256).toNat < (blks f).length := by simp [blks]; omega
  unfold TD.val
  rw [if_neg (by omega), (tdOf_of f).block hk]
  have e : (blks f).getD (r / 256).toNat [] = blk f (r / 256).toNat := by
    have : (r / 256).toNat < 4352 := by simpa [blks] using hk
    simp [blks, List.getD, this]
  rw [e, List.getD_eq_getElem?_getD, blk_get _ _ _ (by omega), Option.getD_some]
  refine congrArg f ?_
  omega

theorem TD.val_out (t : TD) (r : Int) (h : r < 0 ∨ 1114111 < r) : t.val r = 0 := by unfold TD.val; rw [if_pos h]

end Go.Proofs.Tm
