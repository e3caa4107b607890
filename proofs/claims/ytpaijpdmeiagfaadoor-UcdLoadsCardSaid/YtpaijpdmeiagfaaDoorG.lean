/- A region that draws its order, walked along one plan: in segments, each with a condition S on the world of its own. -/
import Derived.WalkKit
import Derived.OrdersHeld
namespace Go.Proofs.Gg
open Go Go.RowKit

/-- 'wpAny' with S kept till the state 'stop', and nothing asked from there on -/
def wpAnyP (P : Program) (ops : Array Oper) (Q : Exit → Act → World → Prop) (S : World → Prop) (stop : Array Bool) : Nat → Array Bool → Act → World → Prop
  | 0, listed, a, w => wpAny P .any ops Q 0 listed a w
  | fuel + 1, listed, a, w => if listed = stop then wpAny P .any ops Q (fuel + 1) listed a w else
    (Region.ready .any ops listed = [] → Q .normal a w) ∧
    ∀ i ∈ Region.ready .any ops listed, wpOp P ops Q i (fun a' w' => S w' ∧ wpAnyP P ops Q S stop fuel (listed.setIfInBounds i true) a' w') a w

/-- every operation beyond 'stop' waits for i -/
def syncB (ops : Array Oper) (stop : Array Bool) (i : Nat) : Bool :=
  (List.range ops.size).all fun k => stop.getD k false || ((ops[k]?).map fun o => o.after.any fun e => Region.binds .any e && e.on == i).getD true

/-- one segment of a plan: 'true': quiet under S; 'false': comes up alone -/
def segB (ops : Array Oper) (stop : Array Bool) : List (Bool × Nat) → Array Bool → Bool
  | [], listed => listed == stop
  | (true, i) :: r, listed => (Region.ready .any ops listed).contains i && Region.free .any ops listed i && syncB ops stop i && stop.getD i false && segB ops stop r (listed.setIfInBounds i true)
  | (false, i) :: r, listed => (Region.ready .any ops listed == [i]) && (listed != stop) && segB ops stop r (listed.setIfInBounds i true)

def listedBy (l : List (Bool × Nat)) (listed : Array Bool) : Array Bool := l.foldl (fun L p => L.setIfInBounds p.2 true) listed

def plansB (ops : Array Oper) : List (List (Bool × Nat)) → Array Bool → Bool
  | [], listed => (Region.ready .any ops listed).isEmpty
  | s :: r, listed => segB ops (listedBy s listed) s listed && plansB ops r (listedBy s listed)

def wpG (P : Program) (ops : Array Oper) (Q : Exit → Act → World → Prop) : List (Bool × Nat) → (World → Prop) → (Act → World → Prop) → Act → World → Prop
  | [], _, K, a, w => K a w
  | (true, i) :: r, S, K, a, w => ∃ o v, ops[i]? = some o ∧ YieldsIf P ops S o v a ∧ wpG P ops Q r S K (a.put o.dst v) w
  | (false, i) :: r, S, K, a, w => ∃ o, ops[i]? = some o ∧ (if Region.wanted o (yielded ops a.tmps) = true then
      o.wp P a w (fun a' w' => ∃ S' : World → Prop, (∀ w, S' w → S w) ∧ S' w' ∧ wpG P ops Q r S' K a' w') Q
      else wpG P ops Q r S K (a.put o.dst undef) w)

def wpGs (P : Program) (ops : Array Oper) (Q : Exit → Act → World → Prop) : List (List (Bool × Nat)) → Act → World → Prop
  | [], a, w => Q .normal a w
  | s :: r, a, w => ∃ S : World → Prop, S w ∧ wpG P ops Q s S (wpGs P ops Q r) a w

section
variable {P : Program} {ops : Array Oper} {Q : Exit → Act → World → Prop}

theorem wpAny_of_P {S : World → Prop} {stop : Array Bool} : ∀ (fuel : Nat) (listed : Array Bool) (a : Act) (w : World),
    wpAnyP P ops Q S stop fuel listed a w → wpAny P .any ops Q fuel listed a w
  | 0, _, _, _, h => h
  | fuel + 1, listed, _, _, h => by
    unfold wpAnyP at h
    by_cases e : listed = stop
    · rw [if_pos e] at h; exact h
    · rw [if_neg e] at h
      exact ⟨h.1, fun i hi => wpOp_mono (fun a' w' h' => wpAny_of_P fuel _ a' w' h'.2) (h.2 i hi)⟩

theorem wpAnyP_mono {S S' : World → Prop} {stop : Array Bool} (h : ∀ w, S' w → S w) : ∀ (fuel : Nat) (listed : Array Bool) (a : Act) (w : World),
    wpAnyP P ops Q S' stop fuel listed a w → wpAnyP P ops Q S stop fuel listed a w
  | 0, _, _, _, H => H
  | fuel + 1, listed, _, _, H => by
    unfold wpAnyP at H ⊢
    by_cases e : listed = stop
    · rw [if_pos e] at H ⊢; exact H
    · rw [if_neg e] at H ⊢
      exact ⟨H.1, fun i hi => wpOp_mono (fun a' w' h' => ⟨h _ h'.1, wpAnyP_mono h fuel _ a' w' h'.2⟩) (H.2 i hi)⟩

theorem sync_only {stop L : Array Bool} {i j : Nat} (hs : syncB ops stop i = true) (hL : L.setIfInBounds i true = stop) (hi : L.getD i true = false)
    (hj : j ∈ Region.ready .any ops L) : j = i := by
  obtain ⟨hun, oj, hoj, hall⟩ := mem_ready.1 hj
  by_cases hji : j = i
  · exact hji
  exfalso
  have hlt : j < ops.size := (Array.getElem?_eq_some_iff.1 hoj).1
  have h1 := List.all_eq_true.1 hs j (List.mem_range.2 hlt)
  simp only [Bool.or_eq_true, hoj, Option.map_some, Option.getD_some, Array.any_eq_true', Bool.and_eq_true, beq_iff_eq] at h1
  have hiL : i < L.size := by
    rcases Nat.lt_or_ge i L.size with h | h
    · exact h
    · simp [Array.getElem?_eq_none h] at hi
  rcases h1 with h1 | ⟨e, he, hb, hon⟩
  · rw [← hL] at h1
    rw [getD_set_ne false (Ne.symm hji)] at h1
    rcases Nat.lt_or_ge j L.size with h | h
    · simp [h] at h1 hun; rw [h1] at hun; cases hun
    · simp [Array.getElem?_eq_none h] at hun
  · have h2 := hall e he hb
    rw [hon] at h2
    simp [hiL] at h2 hi
    rw [h2] at hi; cases hi

theorem wpAnyP_first {S : World → Prop} {stop : Array Bool} {i : Nat} {oi : Oper} {v : Value} (hi : ops[i]? = some oi) (hsel : ∀ (j : Nat) (o : Oper) cs b, ops[j]? = some o → o.op ≠ .select cs b)
    (hQ : ∀ c a w, Q (.panic c) (a.put oi.dst v) w → Q (.panic c) a w) (hsy : syncB ops stop i = true) (hst : stop.getD i false = true) :
    ∀ (fuel : Nat) (listed : Array Bool) (a : Act) (w : World),
      (∀ j oj, ops[j]? = some oj → j ≠ i → listed.getD j true = false → (∀ e ∈ oj.after, Region.binds .any e = true → e.on ≠ i) → oi.apart ops oj = true) →
      i ∈ Region.ready .any ops listed → YieldsIf P ops S oi v a → S w →
      wpAnyP P ops Q S stop fuel (listed.setIfInBounds i true) (a.put oi.dst v) w → wpAnyP P ops Q S stop (fuel + 1) listed a w := by
  intro fuel
  induction fuel with
  | zero =>
    intro L a w hfree hr hy hS H
    have hun := (mem_ready.1 hr).1
    have hne : L ≠ stop := by
      rintro rfl
      rcases Nat.lt_or_ge i L.size with h | h
      · simp [h] at hun hst; rw [hst] at hun; cases hun
      · simp [Array.getElem?_eq_none h] at hun
    unfold wpAnyP; rw [if_neg hne]
    refine ⟨fun h => (by rw [h] at hr; cases hr), fun j hj => ?_⟩
    by_cases hji : j = i
    · subst hji; exact hy.wpOp hi hS ⟨hS, H⟩
    · have h1 := ready_mono hj hji
      have h2 : Region.ready .any ops (L.setIfInBounds i true) = [] := H.1
      rw [h2] at h1; cases h1
  | succ fuel ih =>
    intro L a w hfree hr hy hS H
    have hun := (mem_ready.1 hr).1
    have hne : L ≠ stop := by
      rintro rfl
      rcases Nat.lt_or_ge i L.size with h | h
      · simp [h] at hun hst; rw [hst] at hun; cases hun
      · simp [Array.getElem?_eq_none h] at hun
    unfold wpAnyP; rw [if_neg hne]
    refine ⟨fun h => (by rw [h] at hr; cases hr), fun j hj => ?_⟩
    by_cases hji : j = i
    · subst hji; exact hy.wpOp hi hS ⟨hS, H⟩
    · have hns : L.setIfInBounds i true ≠ stop := fun e => hji (sync_only hsy e hun hj)
      unfold wpAnyP at H
      rw [if_neg hns] at H
      have h1 := H.2 j (ready_mono hj hji)
      obtain ⟨hjun, oj, hoj, hall⟩ := mem_ready.1 hj
      have hnot : ∀ e ∈ oj.after, Region.binds .any e = true → e.on ≠ i := fun e he hb heq => by
        have h1 := hall e he hb
        rw [heq] at h1
        rcases Nat.lt_or_ge i L.size with h' | h'
        · simp [h'] at hun h1; rw [hun] at h1; cases h1
        · simp [Array.getElem?_eq_none h'] at h1
      have h2 := wpOp_putIf hoj (hfree j oj hoj hji hjun hnot) (fun cs b => hsel i oi cs b hi) (fun cs b => hsel j oj cs b hoj) hQ hy h1
      refine wpOp_mono (fun a' w' h3 => ⟨h3.2.1, ih (L.setIfInBounds j true) a' w' (fun k ok hk hki hu hno => hfree k ok hk hki ?_ hno) (ready_mono hr (Ne.symm hji)) h3.1 h3.2.1 ?_⟩) h2
      · by_cases hjk : j = k
        · subst hjk; exact hjun
        · rw [getD_set_ne true hjk] at hu; exact hu
      · rw [Array.setIfInBounds_comm _ _ hji]
        exact h3.2.2

theorem wpAnyP_of_G (hs : Region.noSelect ops = true) (hQ : ∀ c a d v w, Q (.panic c) (a.put d v) w → Q (.panic c) a w) (stop : Array Bool) (K : Act → World → Prop) :
    ∀ (π : List (Bool × Nat)) (fuel : Nat) (listed : Array Bool) (S : World → Prop) (a : Act) (w : World), segB ops stop π listed = true → π.length ≤ fuel → S w →
      (∀ f a w, f + π.length = fuel → K a w → wpAny P .any ops Q f stop a w) →
      wpG P ops Q π S K a w → wpAnyP P ops Q S stop fuel listed a w := by
  intro π
  induction π with
  | nil =>
    intro fuel listed S a w hp _ _ hK h
    obtain rfl : listed = stop := by simpa [segB] using hp
    have := hK fuel a w (by simp) h
    cases fuel with
    | zero => exact this
    | succ fuel => unfold wpAnyP; rw [if_pos rfl]; exact this
  | cons p r ih =>
    intro fuel listed S a w hp hl hS hK h
    obtain ⟨b, i⟩ := p
    cases fuel with
    | zero => simp at hl
    | succ fuel =>
      have hK' : ∀ f a w, f + r.length = fuel → K a w → wpAny P .any ops Q f stop a w := fun f a w hf => hK f a w (by simp; omega)
      cases b with
      | true =>
        obtain ⟨o, v, ho, hy, hr⟩ := h
        simp only [segB, Bool.and_eq_true] at hp
        obtain ⟨⟨⟨⟨h1, h2⟩, h3⟩, h4⟩, h5⟩ := hp
        exact wpAnyP_first ho (Region.noSelect_spec hs) (fun c a w => hQ c a _ _ w) h3 h4 fuel listed a w (Region.free_spec ho h2) (by simpa using h1) hy hS
          (ih fuel _ S _ w h5 (by simpa using hl) hS hK' hr)
      | false =>
        obtain ⟨o, ho, hr⟩ := h
        simp only [segB, Bool.and_eq_true, beq_iff_eq, bne_iff_ne, ne_eq] at hp
        obtain ⟨⟨h1, hne⟩, h2⟩ := hp
        unfold wpAnyP; rw [if_neg hne]
        refine ⟨fun e => (by rw [h1] at e; cases e), fun j hj => ?_⟩
        rw [h1] at hj
        obtain rfl : j = i := by simpa using hj
        have hl' : r.length ≤ fuel := by simpa using hl
        by_cases hw : Region.wanted o (yielded ops a.tmps) = true
        · rw [if_pos hw] at hr
          have : wpOp P ops Q j (fun a' w' => ∃ S' : World → Prop, (∀ w, S' w → S w) ∧ S' w' ∧ wpG P ops Q r S' K a' w') a w := by
            unfold wpOp; simp only [ho]; rw [if_pos hw]; exact .inl hr
          refine wpOp_mono (fun a' w' h' => ?_) this
          obtain ⟨S', hS', hSw, hG⟩ := h'
          exact ⟨hS' _ hSw, wpAnyP_mono hS' _ _ _ _ (ih fuel _ S' a' w' h2 hl' hSw hK' hG)⟩
        · rw [if_neg hw] at hr
          unfold wpOp; simp only [ho]; rw [if_neg hw]
          exact ⟨hS, ih fuel _ S _ w h2 hl' hS hK' hr⟩

theorem wpAny_of_Gs (hs : Region.noSelect ops = true) (hQ : ∀ c a d v w, Q (.panic c) (a.put d v) w → Q (.panic c) a w) :
    ∀ (πs : List (List (Bool × Nat))) (fuel : Nat) (listed : Array Bool) (a : Act) (w : World), plansB ops πs listed = true → (πs.map List.length).sum ≤ fuel →
      wpGs P ops Q πs a w → wpAny P .any ops Q fuel listed a w := by
  intro πs
  induction πs with
  | nil =>
    intro fuel listed a w hp _ h
    have hr : Region.ready .any ops listed = [] := by simpa [plansB] using hp
    cases fuel with
    | zero => exact ⟨hr, h⟩
    | succ fuel => exact ⟨fun _ => h, fun i hi => by rw [hr] at hi; cases hi⟩
  | cons s r ih =>
    intro fuel listed a w hp hl h
    simp only [plansB, Bool.and_eq_true] at hp
    obtain ⟨S, hS, hG⟩ := h
    simp only [List.map_cons, List.sum_cons] at hl
    exact wpAny_of_P _ _ _ _ (wpAnyP_of_G hs hQ _ _ s fuel listed S a w hp.1 (by omega) hS (fun f a w hf hk => ih f _ a w hp.2 (by omega) hk) hG)

theorem wp_region_G {id : Nat} {a : Act} {w : World} {l : List Oper} (πs : List (List (Bool × Nat))) (hm : P.follows .mixedOrders = true)
    (hs : Region.noSelect l.toArray = true) (hp : plansB l.toArray πs (Array.replicate l.length false) = true) (hl : (πs.map List.length).sum ≤ l.length)
    (hQ : ∀ c a d v w, Q (.panic c) (a.put d v) w → Q (.panic c) a w) (h : wpGs P l.toArray Q πs a w.drew) : (Code.region id l.toArray true).wp P Q a w := by
  refine wp_region_any hm ?_
  have := wpAny_of_Gs hs hQ πs l.length (Array.replicate l.length false) a w.drew hp hl h
  simpa using this

theorem wpGs_nil {a : Act} {w : World} (h : Q .normal a w) : wpGs P ops Q [] a w := h
theorem wpGs_seg {s : List (Bool × Nat)} {r : List (List (Bool × Nat))} (S : World → Prop) {a : Act} {w : World} (hS : S w) (h : wpG P ops Q s S (wpGs P ops Q r) a w) : wpGs P ops Q (s :: r) a w := ⟨S, hS, h⟩
variable {K : Act → World → Prop}
theorem wpG_nil {S : World → Prop} {a : Act} {w : World} (h : K a w) : wpG P ops Q [] S K a w := h
/-- a quiet operation -/
theorem wpG_q {i : Nat} {o : Oper} {v : Value} {r : List (Bool × Nat)} {S : World → Prop} {a : Act} {w : World} (ho : ops[i]? = some o) (hw : Region.wanted o (yielded ops a.tmps) = true)
    {a' : Act} (hy : ∀ w, S w → (execOp a.eval o).run P w = .ok (.value v) w) (he : a.put o.dst v = a') (h : wpG P ops Q r S K a' w) : wpG P ops Q ((true, i) :: r) S K a w :=
  ⟨o, v, ho, .inl ⟨hw, hy⟩, he ▸ h⟩
/-- a guarded operation that is passed over -/
theorem wpG_skip {i : Nat} {o : Oper} {r : List (Bool × Nat)} {S : World → Prop} {a : Act} {w : World} (ho : ops[i]? = some o) (hw : Region.wanted o (yielded ops a.tmps) = false)
    {a' : Act} (he : a.put o.dst undef = a') (h : wpG P ops Q r S K a' w) : wpG P ops Q ((true, i) :: r) S K a w :=
  ⟨o, undef, ho, .inr ⟨hw, rfl⟩, he ▸ h⟩
theorem wpG_eskip {i : Nat} {o : Oper} {r : List (Bool × Nat)} {S : World → Prop} {a : Act} {w : World} (ho : ops[i]? = some o) (hw : Region.wanted o (yielded ops a.tmps) = false)
    {a' : Act} (he : a.put o.dst undef = a') (h : wpG P ops Q r S K a' w) : wpG P ops Q ((false, i) :: r) S K a w :=
  ⟨o, ho, by rw [if_neg (by rw [hw]; simp)]; exact he ▸ h⟩
/-- an operation that acts -/
theorem wpG_e {i : Nat} {o : Oper} {r : List (Bool × Nat)} {S : World → Prop} {a : Act} {w : World} (ho : ops[i]? = some o) (hw : Region.wanted o (yielded ops a.tmps) = true)
    (h : o.wp P a w (fun a' w' => ∃ S' : World → Prop, (∀ w, S' w → S w) ∧ S' w' ∧ wpG P ops Q r S' K a' w') Q) : wpG P ops Q ((false, i) :: r) S K a w :=
  ⟨o, ho, by rw [if_pos hw]; exact h⟩
/-- .. by the run's equation -/
theorem wpG_er {i : Nat} {o : Oper} {v : Value} {r : List (Bool × Nat)} {S : World → Prop} (S' : World → Prop) {a : Act} {w w' : World} (ho : ops[i]? = some o) (hw : Region.wanted o (yielded ops a.tmps) = true)
    {a' : Act} (hr : (execOp a.eval o).run P w = .ok (.value v) w') (he : a.put o.dst v = a') (hS : ∀ w, S' w → S w) (hS' : S' w') (h : wpG P ops Q r S' K a' w') : wpG P ops Q ((false, i) :: r) S K a w :=
  wpG_e ho hw (by unfold Oper.wp; rw [hr]; exact ⟨S', hS, hS', he ▸ h⟩)
theorem wpG_es {i : Nat} {o : Oper} {r : List (Bool × Nat)} {S : World → Prop} (S' : World → Prop) {a : Act} {w w' : World} (ho : ops[i]? = some o) (hw : Region.wanted o (yielded ops a.tmps) = true)
    {a' : Act} (hr : (execOp a.eval o).run P w = .ok .skip w') (he : a.put o.dst undef = a') (hS : ∀ w, S' w → S w) (hS' : S' w') (h : wpG P ops Q r S' K a' w') : wpG P ops Q ((false, i) :: r) S K a w :=
  wpG_e ho hw (by unfold Oper.wp; rw [hr]; exact ⟨S', hS, hS', he ▸ h⟩)
/-- .. a call of a Go function -/
theorem wpG_call {i : Nat} {o : Oper} {f : FuncId} {args : Array Value} {r : List (Bool × Nat)} {S : World → Prop} {a : Act} {w : World} (ho : ops[i]? = some o) (hw : Region.wanted o (yielded ops a.tmps) = true)
    (hr : (execOp a.eval o).run P w = .ok (.enter f args) w) {v : World → Value → Prop} (hc : Calls P f args w fun e w' => ∃ u, e = .returned u ∧ v w' u)
    (h : ∀ w' u, v w' u → ∃ S' : World → Prop, (∀ w, S' w → S w) ∧ S' w' ∧ wpG P ops Q r S' K (a.put o.dst u) w') : wpG P ops Q ((false, i) :: r) S K a w :=
  wpG_e ho hw (by unfold Oper.wp; rw [hr]; exact hc.mono fun e w' ⟨u, he, hv⟩ => by subst he; exact h w' u hv)
end
end Go.Proofs.Gg
