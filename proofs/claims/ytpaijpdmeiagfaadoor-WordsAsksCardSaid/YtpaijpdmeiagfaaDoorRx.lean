/- A loop over an iterator that keeps a variable of its own in one block of cells (the first block that it lays): the loop runs out. -/
import Derived.RangeFuncNested
import Derived.RangeFuncBound
import Derived.RangeFuncCalls
import Derived.RangeFuncLeaves
import Derived.RangeFuncBox
namespace Go.Proofs.Gr
open Go Go.RowKit

/-- what such an iterator turns between two rounds: new blocks, its own block X, records from base on -/
def Abx {β : Type} (base X : Nat) (J : β → World → Prop) : Prop :=
  ∀ s W W' row, J s W → W.grownBy W' row → (∀ r, row = some r → r = X ∨ (base ≤ r ∧ ∃ o : Obj, W.heap[r]? = some o ∧ o.isCells = false)) → J s W'

theorem Abx.alloc {β : Type} {base X : Nat} {J : β → World → Prop} (h : Abx base X J) {s : β} {W : World} (hJ : J s W) (o : Obj) : J s (W.alloc o) :=
  h s W _ none hJ (World.grownBy_alloc W o none) (fun r e => by cases e)
theorem Abx.put {β : Type} {base X : Nat} {J : β → World → Prop} (h : Abx base X J) {s : β} {W : World} (hJ : J s W) {l : Nat} {o : Obj} (o' : Obj) (hl : base ≤ l) (ho : W.heap[l]? = some o) (hc : o.isCells = false) : J s (W.putObj l o') :=
  h s W _ (some l) hJ (grownBy_putObj' W l o') (fun r e => by cases e; exact .inr ⟨hl, o, ho, hc⟩)

/-- how a round's body ends: it goes on -/
def bodyX {α : Type} (base : Nat) (Kp : World → World → Prop) (I : List α → World → Prop) (xs : List α) (W : World) : Exit → Act → World → Prop
  | .normal, _, W' => KeepsFrom base W W' ∧ Kp W W' ∧ I xs W'
  | _, _, _ => False

variable {F : Fence} {n : Nat} {P : Program}

theorem wpIn_rangeFunc_X {α : Type} {g : Operand} {ps : Array Tmp} {assign body : Code} {Q : Exit → Act → World → Prop} {a : Act} {w : World}
    (hro : F.round = none) (h1 : 1 ≤ n) {gf : Nat} {lb : Array Value} (hg : a.eval g = .func (.func gf) #[] lb) (hFg : F.fn gf) (eg : ∀ args w, (callFunc gf args).run P w = .ok (.enter gf args) w)
    {encs : α → Array Value} {Kp : World → World → Prop} {S : List α → Prop} {N : Nat}
    (hseq : ∀ (l : Nat) (J : List α → World → Prop) (W : World), Below w.heap.size w W → W.heap.size = w.heap.size + 2 → Abx (W.heap.size) (w.heap.size + 2) J →
      (∀ pre x W1, J pre W1 → pre.length < N → w.heap.size + 2 < W1.heap.size → YieldAt F (n - 1 - 1) P l (encs x) W1 fun e W' => e = .returned (.bool true) ∧ J (pre ++ [x]) W' ∧ Kp W1 W') → J [] W →
      CallsIn F (n - 1) P gf (#[.func (.yield l) #[] #[]] ++ lb) W fun e W' => (∃ v, e = .returned v) ∧ ∃ xs, S xs ∧ J xs W')
    (hKt : ∀ {A B C : World}, Kp A B → Kp B C → Kp A C) (hKb : ∀ (W : World) (o o' : Obj), W.heap[w.heap.size + 1]? = some o → o.isCells = false → Kp W (W.putObj (w.heap.size + 1) o')) (hps : ∀ x, (encs x).size = ps.size)
    (I : List α → World → Prop) (hI : Abx w.heap.size (w.heap.size + 2) I) (h0 : I [] w) (Ax : α → Act → World → Prop)
    (hAx : ∀ (x : α) (a' : Act) (W : World) (l : Nat) (o o' : Obj), Ax x a' W → W.heap[l]? = some o → o.isCells = false → Ax x a' (W.putObj l o'))
    (hassign : ∀ (l : Nat) (pre : List α) (x : α) (W : World) (K : Act → World → Prop), I pre W → w.heap.size + 2 < W.heap.size → (∀ a' W2, KeepsFrom w.heap.size W W2 → Kp W W2 → I pre W2 → Ax x a' W2 → w.heap.size + 2 < W2.heap.size → K a' W2) →
      assign.wpIn (F.inRound l) (n - 1 - 1) P (Exit.then K (fun _ _ _ => False)) { tmps := (ps.zip (encs x)).foldl (fun t (p, v) => t.setIfInBounds p v) a.tmps, defers := [] } W)
    (hbody : ∀ (l : Nat) (pre : List α) (x : α) (a' : Act) (W : World), I pre W → pre.length < N → Ax x a' W → w.heap.size + 2 < W.heap.size → body.wpIn (F.inRound l) (n - 1 - 1) P (bodyX w.heap.size Kp I (pre ++ [x]) W) a' W)
    (hdone : ∀ (D : Nat) (xs : List α) (W : World), w.heap.size = D → S xs → I xs W → W.heap[D]? = some (.deferred (some [])) → Q .normal { a with defers := { target := .collected D, args := #[] } :: a.defers } W) :
    (Code.rangeFunc g ps assign body).wpIn F n P Q a w := by
  refine wpIn_rangeFunc fun fn hfn => ?_
  rw [hro]
  obtain ⟨rec, hrec⟩ : ∃ rec : LoopState → Loop, rec = fun st => { state := st, pending := none, fn, tmps := a.tmps, params := ps, assign, body, defers := w.heap.size } := ⟨_, rfl⟩
  obtain ⟨V, hV⟩ : ∃ V, V = (w.alloc (.deferred (some []))).alloc (.loop (rec .ready)) := ⟨_, rfl⟩
  have vsz : V.heap.size = w.heap.size + 2 := by rw [hV]; simp
  have vL : V.heap[w.heap.size + 1]? = some (.loop (rec .ready)) := by
    have := World.alloc_heap_new (w.alloc (.deferred (some []))) (.loop (rec .ready))
    rw [World.size_alloc] at this
    rw [hV]; exact this
  have vD : V.heap[w.heap.size]? = some (.deferred (some [])) := by
    rw [hV]; exact (Below.heap_alloc _ _ _ (by simp)).trans (World.alloc_heap_new w _)
  have vI : I [] V := by rw [hV]; exact hI.alloc (hI.alloc h0 _) _
  have vB : Below w.heap.size w V := by rw [hV]; exact ((Below.refl _ w).alloc (Nat.le_refl _) _).alloc (by simp) _
  refine ⟨w.heap.size + 1, [{ target := .collected w.heap.size, args := #[] }], V, { target := .fn (.func gf) lb, args := #[.func (.yield (w.heap.size + 1)) #[] #[]] }, V, gf,
    #[.func (.yield (w.heap.size + 1)) #[] #[]] ++ lb, V, ?_, ?_, ?_, ?_, fun _ => h1, ?_⟩
  · rw [hV, hrec]; exact run_enterLoop_outer _ _ _ _ _
  · simp only [resolve, hg]
    simp [go_sem]
  · intro f' hf'
    simp [Target.leads] at hf'
    subst hf'; exact hFg
  · simp [invoke, go_sem, eg]
  · refine (hseq (w.heap.size + 1) (fun pre W => (I pre W ∧ w.heap.size + 2 ≤ W.heap.size) ∧ W.heap[w.heap.size + 1]? = some (.loop (rec .ready)) ∧ W.heap[w.heap.size]? = some (.deferred (some []))) V vB vsz ?_ ?_
      ⟨⟨vI, by omega⟩, vL, vD⟩).mono ?_
    · rintro s A A' row ⟨⟨q1, q2⟩, q3, q4⟩ hg' hr
      have q5 : ∀ r, row = some r → w.heap.size + 2 ≤ r := fun r e => by rcases hr r e with h | ⟨h, _⟩ <;> omega
      refine ⟨⟨hI s A A' row q1 hg' (fun r e => ?_), Nat.le_trans q2 hg'.size⟩, ?_, ?_⟩
      · rcases hr r e with h | ⟨h, ho⟩
        · exact .inl h
        · exact .inr ⟨by omega, ho⟩
      · exact (hg'.block _ (by omega) (fun e => by have := q5 _ e.symm; omega)).trans q3
      · exact (hg'.block _ (by omega) (fun e => by have := q5 _ e.symm; omega)).trans q4
    · rintro pre x W ⟨⟨q1, _⟩, q3, q4⟩ hlen hX
      have hy := run_yield (P := P) (args := encs x) q3 (by rw [hrec]; exact hps x)
      rw [hrec] at hy
      refine ⟨fn, _, assign, body, hy, roundIn_of_wpIn hfn (hassign _ pre x W _ q1 hX fun a' W2 p1 p2 p3 p4 p5 => ?_)⟩
      have r3 := p1.same _ _ (by omega) q3 rfl
      have r4 := p1.same _ _ (Nat.le_refl _) q4 rfl
      refine ⟨_, run_beginRound r3 (by rw [hrec]), ?_⟩
      obtain ⟨W3, hW3⟩ : ∃ W3, W3 = W2.putObj (w.heap.size + 1) (.loop { rec .ready with state := .busy }) := ⟨_, rfl⟩
      have s3 : W3.heap[w.heap.size + 1]? = some (.loop { rec .ready with state := .busy }) := by rw [hW3]; exact World.putObj_heap_same (by omega)
      have s4 : W3.heap[w.heap.size]? = some (.deferred (some [])) := by rw [hW3]; exact (World.putObj_heap_other (by omega)).trans r4
      have s5 : I pre W3 := by rw [hW3]; exact hI.put p3 _ (by omega) r3 rfl
      have s6 : Ax x a' W3 := by rw [hW3]; exact hAx _ _ _ _ _ _ p4 r3 rfl
      have s7 : Kp W W3 := by rw [hW3]; exact hKt p2 (hKb _ _ _ r3 rfl)
      have s8 : w.heap.size + 2 < W3.heap.size := by rw [hW3]; have := (grownBy_putObj' W2 (w.heap.size + 1) (.loop { rec .ready with state := .busy })).size; omega
      rw [← hW3]
      refine wpIn_mono (hbody _ pre x a' W3 s5 hlen s6 s8) ?_
      intro e a4 W4 hp
      cases e with
      | normal =>
        obtain ⟨t1, t2, t3⟩ := hp
        have u3 := t1.same _ _ (by omega) s3 rfl
        have u4 := t1.same _ _ (Nat.le_refl _) s4 rfl
        have hr := run_endRound (P := P) none u3
        have usz : w.heap.size + 1 < W4.heap.size := (Array.getElem?_eq_some_iff.1 u3).1
        refine ⟨_, _, hr, rfl, ⟨⟨hI.put t3 _ (by omega) u3 rfl, ?_⟩, ?_, ?_⟩, hKt (hKt s7 t2) (hKb _ _ _ u3 rfl)⟩
        · exact Nat.le_trans (show w.heap.size + 2 ≤ W4.heap.size by have := t1.size; omega) (grownBy_putObj' W4 _ _).size
        · rw [World.putObj_heap_same usz, hrec]; rfl
        · exact (World.putObj_heap_other (by omega)).trans u4
      | _ => exact hp.elim
    · rintro e W2 ⟨⟨v, rfl⟩, xs, hS, ⟨q1, q2⟩, q3, q4⟩
      have hr := run_endLoop (P := P) q3 (by rw [hrec]; simp)
      refine ⟨none, _, by rw [hrec] at hr; exact hr, hdone _ xs _ rfl hS (hI.put q1 _ (by omega) q3 rfl) ?_⟩
      exact (World.putObj_heap_other (by omega)).trans q4
end Go.Proofs.Gr
