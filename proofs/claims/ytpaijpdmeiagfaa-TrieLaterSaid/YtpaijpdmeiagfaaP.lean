/- A region that draws its order, walked along a tree of plans: where two operations are ready at once, both ways. One condition S, strengthened on the way. -/
import Derived.Test.YtpaijpdmeiagfaaG
namespace Go.Proofs.Gg
open Go Go.RowKit

inductive Pl where
  | nil
  | q (i : Nat) (r : Pl)
  | e (i : Nat) (r : Pl)
  | two (i j : Nat) (p q : Pl)

def plB (ops : Array Oper) (stop : Array Bool) : Pl → Array Bool → Bool
  | .nil, listed => listed == stop && (Region.ready .any ops listed).isEmpty
  | .q i r, listed => (Region.ready .any ops listed).contains i && Region.free .any ops listed i && syncB ops stop i && stop.getD i false && plB ops stop r (listed.setIfInBounds i true)
  | .e i r, listed => (Region.ready .any ops listed == [i]) && (listed != stop) && plB ops stop r (listed.setIfInBounds i true)
  | .two i j p q, listed => (Region.ready .any ops listed == [i, j]) && (listed != stop) && plB ops stop p (listed.setIfInBounds i true) && plB ops stop q (listed.setIfInBounds j true)

def Pl.deep : Pl → Nat
  | .nil => 0
  | .q _ r => r.deep + 1
  | .e _ r => r.deep + 1
  | .two _ _ x y => max x.deep y.deep + 1

def wpE (P : Program) (ops : Array Oper) (Q : Exit → Act → World → Prop) (i : Nat) (S : World → Prop) (C : (World → Prop) → Act → World → Prop) (a : Act) (w : World) : Prop :=
  ∃ o, ops[i]? = some o ∧ (if Region.wanted o (yielded ops a.tmps) = true then
      o.wp P a w (fun a' w' => ∃ S' : World → Prop, (∀ w, S' w → S w) ∧ S' w' ∧ C S' a' w') Q
      else C S (a.put o.dst undef) w)

def wpT (P : Program) (ops : Array Oper) (Q : Exit → Act → World → Prop) (K : Act → World → Prop) : Pl → (World → Prop) → Act → World → Prop
  | .nil, _, a, w => K a w
  | .q i r, S, a, w => ∃ o v, ops[i]? = some o ∧ YieldsIf P ops S o v a ∧ wpT P ops Q K r S (a.put o.dst v) w
  | .e i r, S, a, w => wpE P ops Q i S (wpT P ops Q K r) a w
  | .two i j p q, S, a, w => wpE P ops Q i S (wpT P ops Q K p) a w ∧ wpE P ops Q j S (wpT P ops Q K q) a w

section
variable {P : Program} {ops : Array Oper} {Q : Exit → Act → World → Prop} {K : Act → World → Prop}

theorem wpAnyP_of_T (hs : Region.noSelect ops = true) (hQ : ∀ c a d v w, Q (.panic c) (a.put d v) w → Q (.panic c) a w) (stop : Array Bool)
    (hK : ∀ f a w, K a w → Region.ready .any ops stop = [] → wpAny P .any ops Q f stop a w) :
    ∀ (π : Pl) (fuel : Nat) (listed : Array Bool) (S : World → Prop) (a : Act) (w : World), plB ops stop π listed = true → π.deep ≤ fuel → S w →
      wpT P ops Q K π S a w → wpAnyP P ops Q S stop fuel listed a w := by
  intro π
  have eff : ∀ (i : Nat) (r : Pl) (fuel : Nat) (listed : Array Bool) (S : World → Prop) (a : Act) (w : World), S w →
      (∀ (S' : World → Prop) (a' : Act) (w' : World), S' w' → wpT P ops Q K r S' a' w' → wpAnyP P ops Q S' stop fuel (listed.setIfInBounds i true) a' w') →
      wpE P ops Q i S (wpT P ops Q K r) a w → wpOp P ops Q i (fun a' w' => S w' ∧ wpAnyP P ops Q S stop fuel (listed.setIfInBounds i true) a' w') a w := by
    intro i r fuel listed S a w hS ih h
    obtain ⟨o, ho, hr⟩ := h
    by_cases hw : Region.wanted o (yielded ops a.tmps) = true
    · rw [if_pos hw] at hr
      have : wpOp P ops Q i (fun a' w' => ∃ S' : World → Prop, (∀ w, S' w → S w) ∧ S' w' ∧ wpT P ops Q K r S' a' w') a w := by
        unfold wpOp; simp only [ho]; rw [if_pos hw]; exact .inl hr
      refine wpOp_mono (fun a' w' h' => ?_) this
      obtain ⟨S', hS', hSw, hG⟩ := h'
      exact ⟨hS' _ hSw, wpAnyP_mono hS' _ _ _ _ (ih S' a' w' hSw hG)⟩
    · rw [if_neg hw] at hr
      unfold wpOp; simp only [ho]; rw [if_neg hw]
      exact ⟨hS, ih S _ w hS hr⟩
  induction π with
  | nil =>
    intro fuel listed S a w hp _ _ h
    simp only [plB, Bool.and_eq_true, beq_iff_eq, List.isEmpty_iff] at hp
    obtain ⟨rfl, hr⟩ := hp
    have := hK fuel a w h hr
    cases fuel with
    | zero => exact this
    | succ fuel => unfold wpAnyP; rw [if_pos rfl]; exact this
  | q i r ih =>
    intro fuel listed S a w hp hl hS h
    cases fuel with
    | zero => simp [Pl.deep] at hl
    | succ fuel =>
      obtain ⟨o, v, ho, hy, hr⟩ := h
      simp only [plB, Bool.and_eq_true] at hp
      obtain ⟨⟨⟨⟨h1, h2⟩, h3⟩, h4⟩, h5⟩ := hp
      exact wpAnyP_first ho (Region.noSelect_spec hs) (fun c a w => hQ c a _ _ w) h3 h4 fuel listed a w (Region.free_spec ho h2) (by simpa using h1) hy hS
        (ih fuel _ S _ w h5 (by simpa [Pl.deep] using hl) hS hr)
  | e i r ih =>
    intro fuel listed S a w hp hl hS h
    cases fuel with
    | zero => simp [Pl.deep] at hl
    | succ fuel =>
      simp only [plB, Bool.and_eq_true, beq_iff_eq, bne_iff_ne, ne_eq] at hp
      obtain ⟨⟨h1, hne⟩, h2⟩ := hp
      unfold wpAnyP; rw [if_neg hne]
      refine ⟨fun e => (by rw [h1] at e; cases e), fun j hj => ?_⟩
      rw [h1] at hj
      obtain rfl : j = i := by simpa using hj
      exact eff j r fuel listed S a w hS (fun S' a' w' hS' hG => ih fuel _ S' a' w' h2 (by simpa [Pl.deep] using hl) hS' hG) h
  | two i j p q ihp ihq =>
    intro fuel listed S a w hp hl hS h
    cases fuel with
    | zero => simp [Pl.deep] at hl
    | succ fuel =>
      simp only [plB, Bool.and_eq_true, beq_iff_eq, bne_iff_ne, ne_eq] at hp
      obtain ⟨⟨⟨h1, hne⟩, h2⟩, h3⟩ := hp
      simp only [Pl.deep] at hl
      unfold wpAnyP; rw [if_neg hne]
      refine ⟨fun e => (by rw [h1] at e; cases e), fun k hk => ?_⟩
      rw [h1] at hk
      rcases (by simpa using hk : k = i ∨ k = j) with rfl | rfl
      · exact eff k p fuel listed S a w hS (fun S' a' w' hS' hG => ihp fuel _ S' a' w' h2 (by omega) hS' hG) h.1
      · exact eff k q fuel listed S a w hS (fun S' a' w' hS' hG => ihq fuel _ S' a' w' h3 (by omega) hS' hG) h.2

theorem wp_region_T {id : Nat} {a : Act} {w : World} {l : List Oper} (π : Pl) (hm : P.follows .mixedOrders = true)
    (hs : Region.noSelect l.toArray = true) (hp : plB l.toArray (Array.replicate l.length true) π (Array.replicate l.length false) = true) (hl : π.deep ≤ l.length)
    (hQ : ∀ c a d v w, Q (.panic c) (a.put d v) w → Q (.panic c) a w) (S : World → Prop) (hS : S w.drew) (h : wpT P l.toArray Q (Q .normal) π S a w.drew) : (Code.region id l.toArray true).wp P Q a w := by
  refine wp_region_any hm ?_
  have := wpAnyP_of_T hs hQ (Array.replicate l.length true) (K := Q .normal) (fun f a w hk hr => by
    cases f with
    | zero => exact ⟨hr, hk⟩
    | succ f => exact ⟨fun _ => hk, fun i hi => by rw [hr] at hi; cases hi⟩) π l.length (Array.replicate l.length false) S a w.drew hp hl hS h
  have := wpAny_of_P _ _ _ _ this
  simpa using this

theorem wpT_nil {S : World → Prop} {a : Act} {w : World} (h : K a w) : wpT P ops Q K .nil S a w := h
/-- a quiet operation -/
theorem wpT_q {i : Nat} {o : Oper} {v : Value} {r : Pl} {S : World → Prop} {a : Act} {w : World} (ho : ops[i]? = some o) (hw : Region.wanted o (yielded ops a.tmps) = true)
    {a' : Act} (hy : ∀ w, S w → (execOp a.eval o).run P w = .ok (.value v) w) (he : a.put o.dst v = a') (h : wpT P ops Q K r S a' w) : wpT P ops Q K (.q i r) S a w :=
  ⟨o, v, ho, .inl ⟨hw, hy⟩, he ▸ h⟩
theorem wpT_e {i : Nat} {r : Pl} {S : World → Prop} {a : Act} {w : World} (h : wpE P ops Q i S (wpT P ops Q K r) a w) : wpT P ops Q K (.e i r) S a w := h
theorem wpT_two {i j : Nat} {p q : Pl} {S : World → Prop} {a : Act} {w : World} (h1 : wpE P ops Q i S (wpT P ops Q K p) a w) (h2 : wpE P ops Q j S (wpT P ops Q K q) a w) : wpT P ops Q K (.two i j p q) S a w := ⟨h1, h2⟩
variable {C : (World → Prop) → Act → World → Prop}
theorem wpE_e {i : Nat} {o : Oper} {S : World → Prop} {a : Act} {w : World} (ho : ops[i]? = some o) (hw : Region.wanted o (yielded ops a.tmps) = true)
    (h : o.wp P a w (fun a' w' => ∃ S' : World → Prop, (∀ w, S' w → S w) ∧ S' w' ∧ C S' a' w') Q) : wpE P ops Q i S C a w :=
  ⟨o, ho, by rw [if_pos hw]; exact h⟩
theorem wpE_r {i : Nat} {o : Oper} {v : Value} {S : World → Prop} (S' : World → Prop) {a : Act} {w w' : World} (ho : ops[i]? = some o) (hw : Region.wanted o (yielded ops a.tmps) = true)
    {a' : Act} (hr : (execOp a.eval o).run P w = .ok (.value v) w') (he : a.put o.dst v = a') (hS : ∀ w, S' w → S w) (hS' : S' w') (h : C S' a' w') : wpE P ops Q i S C a w :=
  wpE_e ho hw (by unfold Oper.wp; rw [hr]; exact ⟨S', hS, hS', he ▸ h⟩)
theorem wpE_call {i : Nat} {o : Oper} {f : FuncId} {args : Array Value} {S : World → Prop} {a : Act} {w : World} (ho : ops[i]? = some o) (hw : Region.wanted o (yielded ops a.tmps) = true)
    (hr : (execOp a.eval o).run P w = .ok (.enter f args) w) {v : World → Value → Prop} (hc : Calls P f args w fun e w' => ∃ u, e = .returned u ∧ v w' u)
    (h : ∀ w' u, v w' u → ∃ S' : World → Prop, (∀ w, S' w → S w) ∧ S' w' ∧ C S' (a.put o.dst u) w') : wpE P ops Q i S C a w :=
  wpE_e ho hw (by unfold Oper.wp; rw [hr]; exact hc.mono fun e w' ⟨u, he, hv⟩ => by subst he; exact h w' u hv)
end
end Go.Proofs.Gg
