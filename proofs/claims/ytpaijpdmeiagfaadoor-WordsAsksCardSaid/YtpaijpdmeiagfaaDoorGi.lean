/- A region that draws its order, walked along one plan, inside a fence without a round that lets every function in. -/
import Derived.Test.YtpaijpdmeiagfaaDoorG
import Derived.OrdersIn
import Derived.RangeFuncSeq
set_option linter.unusedVariables false
set_option linter.unusedSimpArgs false
namespace Go.Proofs.Gi
open Go Go.RowKit Go.Proofs.Gg

section
variable {F : Fence} {n : Nat} {P : Program} {ops : Array Oper} {Q : Exit → Act → World → Prop} {S : World → Prop}

theorem quiet_in (hF : ∀ f, F.fn f) (hro : F.round = none) {i : Nat} {o : Oper} {v : Value} {a : Act} (hi : ops[i]? = some o) (hy : YieldsIf P ops S o v a)
    {K : Act → World → Prop} {w : World} (hS : S w) (h : K (a.put o.dst v) w) : wpOpIn F n P ops Q i K a w := by
  unfold Go.wpOpIn
  simp only [hi]
  rcases hy with ⟨hw, hv⟩ | ⟨hw, rfl⟩
  · simp only [hw, if_true, Oper.wpIn, hro, Oper.semAt_none, hv w hS, Oper.uponIn]
    exact ⟨fun f _ => hF f, h⟩
  · simp only [hw, Bool.false_eq_true, if_false]
    exact ⟨fun f _ => hF f, h⟩

theorem put_in (hF : ∀ f, F.fn f) (hro : F.round = none) {j : Nat} {oi oj : Oper} {v : Value} (hj : ops[j]? = some oj) (hap : oi.apart ops oj = true)
    (hsi : ∀ cs b, oi.op ≠ .select cs b) (hsj : ∀ cs b, oj.op ≠ .select cs b)
    (hQ : ∀ c a w, Q (.panic c) (a.put oi.dst v) w → Q (.panic c) a w) {K : Act → World → Prop} {a : Act} {w : World}
    (hy : YieldsIf P ops S oi v a) (h : wpOpIn F n P ops Q j K (a.put oi.dst v) w) :
    wpOpIn F n P ops Q j (fun a' w' => YieldsIf P ops S oi v a' ∧ K (a'.put oi.dst v) w') a w := by
  obtain ⟨h1, h2, h3⟩ := Oper.apart_spec hap
  have keep : ∀ (a : Act), YieldsIf P ops S oi v a → ∀ u, YieldsIf P ops S oi v (a.put oj.dst u) := fun a hy u =>
    hy.of_same (execOp_put oi hsi a oj.dst u h3) (wanted_put oi a oj.dst u h3)
  have keepD : ∀ d, YieldsIf P ops S oi v { a with defers := d :: a.defers } := fun d => hy.of_same rfl rfl
  unfold wpOpIn at *
  simp only [hj] at *
  rw [wanted_put oj a oi.dst v h1] at h
  split
  · rename_i hw
    simp only [hw, if_true] at h
    unfold Oper.wpIn at *
    refine ⟨fun f _ => hF f, ?_⟩
    have h := h.2
    rw [hro, Oper.semAt_none, execOp_put oj hsj a oi.dst v h1] at h
    rw [hro, Oper.semAt_none]
    generalize (execOp a.eval oj).run P w = r at *
    cases r with
    | ok x w' =>
      cases x <;> simp only [Oper.uponIn] at h ⊢
      case value u => exact ⟨keep a hy u, by rw [← Act.put_comm a v u h2]; exact h⟩
      case skip => exact ⟨keep a hy _, by rw [← Act.put_comm a v undef h2]; exact h⟩
      case defer d =>
        refine ⟨keep _ (keepD d) _, ?_⟩
        rw [← Act.put_comm _ v undef h2, ← Act.put_defers]
        exact h
      case enter f args =>
        refine ⟨h.1, CallsIn.mono h.2 fun e w'' he => ?_⟩
        cases e with
        | returned u => exact ⟨keep a hy u, by rw [← Act.put_comm a v u h2]; exact he⟩
        | panicked c => exact hQ _ _ _ he
        | outgrown => exact he
      case row row args => exact ⟨h.1, RowsIn.mono h.2 fun u w'' he => ⟨keep a hy u, by rw [← Act.put_comm a v u h2]; exact he⟩⟩
      case round l f tmps assign body =>
        refine ⟨h.1, RoundIn.mono h.2 fun e w'' he => ?_⟩
        cases e with
        | returned u => exact ⟨keep a hy u, by rw [← Act.put_comm a v u h2]; exact he⟩
        | panicked c => exact hQ _ _ _ he
        | outgrown => exact he
    | halt x w' =>
      cases x <;> simp only [Oper.uponIn] at h ⊢
      case panic u => exact hQ _ _ _ h
  · rename_i hw
    simp only [hw, Bool.false_eq_true, if_false] at h ⊢
    exact ⟨fun f _ => hF f, keep a hy _, by rw [← Act.put_comm a v undef h2]; exact h.2⟩

/-- 'wpAnyIn' with S kept till the state 'stop', and nothing asked from there on -/
def wpAnyQ (F : Fence) (n : Nat) (P : Program) (ops : Array Oper) (Q : Exit → Act → World → Prop) (S : World → Prop) (stop : Array Bool) : Nat → Array Bool → Act → World → Prop
  | 0, listed, a, w => wpAnyIn F n P .any ops Q 0 listed a w
  | fuel + 1, listed, a, w => if listed = stop then wpAnyIn F n P .any ops Q (fuel + 1) listed a w else
    (Region.ready .any ops listed = [] → Q .normal a w) ∧
    ∀ i ∈ Region.ready .any ops listed, wpOpIn F n P ops Q i (fun a' w' => S w' ∧ wpAnyQ F n P ops Q S stop fuel (listed.setIfInBounds i true) a' w') a w
end

def wpH (F : Fence) (n : Nat) (P : Program) (ops : Array Oper) (Q : Exit → Act → World → Prop) : List (Bool × Nat) → (World → Prop) → (Act → World → Prop) → Act → World → Prop
  | [], _, K, a, w => K a w
  | (true, i) :: r, S, K, a, w => ∃ o v, ops[i]? = some o ∧ YieldsIf P ops S o v a ∧ wpH F n P ops Q r S K (a.put o.dst v) w
  | (false, i) :: r, S, K, a, w => ∃ o, ops[i]? = some o ∧ (if Region.wanted o (yielded ops a.tmps) = true then
      o.wpIn F n P a w (fun a' w' => ∃ S' : World → Prop, (∀ w, S' w → S w) ∧ S' w' ∧ wpH F n P ops Q r S' K a' w') Q
      else wpH F n P ops Q r S K (a.put o.dst undef) w)

def wpHs (F : Fence) (n : Nat) (P : Program) (ops : Array Oper) (Q : Exit → Act → World → Prop) : List (List (Bool × Nat)) → Act → World → Prop
  | [], a, w => Q .normal a w
  | s :: r, a, w => ∃ S : World → Prop, S w ∧ wpH F n P ops Q s S (wpHs F n P ops Q r) a w

section
variable {F : Fence} {n : Nat} {P : Program} {ops : Array Oper} {Q : Exit → Act → World → Prop}

theorem anyIn_of_Q {S : World → Prop} {stop : Array Bool} : ∀ (fuel : Nat) (listed : Array Bool) (a : Act) (w : World),
    wpAnyQ F n P ops Q S stop fuel listed a w → wpAnyIn F n P .any ops Q fuel listed a w
  | 0, _, _, _, h => h
  | fuel + 1, listed, _, _, h => by
    unfold wpAnyQ at h
    by_cases e : listed = stop
    · rw [if_pos e] at h; exact h
    · rw [if_neg e] at h
      exact ⟨h.1, fun i hi => wpOpIn_mono (fun a' w' h' => anyIn_of_Q fuel _ a' w' h'.2) (h.2 i hi)⟩

theorem anyQ_mono {S S' : World → Prop} {stop : Array Bool} (h : ∀ w, S' w → S w) : ∀ (fuel : Nat) (listed : Array Bool) (a : Act) (w : World),
    wpAnyQ F n P ops Q S' stop fuel listed a w → wpAnyQ F n P ops Q S stop fuel listed a w
  | 0, _, _, _, H => H
  | fuel + 1, listed, _, _, H => by
    unfold wpAnyQ at H ⊢
    by_cases e : listed = stop
    · rw [if_pos e] at H ⊢; exact H
    · rw [if_neg e] at H ⊢
      exact ⟨H.1, fun i hi => wpOpIn_mono (fun a' w' h' => ⟨h _ h'.1, anyQ_mono h fuel _ a' w' h'.2⟩) (H.2 i hi)⟩

/-- is a state closed: has each listed operation all listed that it waits for? -/
def closedB (ops : Array Oper) (L : Array Bool) : Bool := (List.range ops.size).all fun k => !(L.getD k false) || ((ops[k]?).map fun o => o.after.all fun e => !(Region.binds .any e) || L.getD e.on false).getD true
def syncC (ops : Array Oper) (stop : Array Bool) (i : Nat) : Bool := !(closedB ops (stop.setIfInBounds i false)) || (Region.ready .any ops (stop.setIfInBounds i false) == [i])
def segC (ops : Array Oper) (stop : Array Bool) : List (Bool × Nat) → Array Bool → Bool
  | [], listed => listed == stop
  | (true, i) :: r, listed => (Region.ready .any ops listed).contains i && Region.free .any ops listed i && syncC ops stop i && stop.getD i false && segC ops stop r (listed.setIfInBounds i true)
  | (false, i) :: r, listed => (Region.ready .any ops listed == [i]) && (listed != stop) && segC ops stop r (listed.setIfInBounds i true)
def plansC (ops : Array Oper) : List (List (Bool × Nat)) → Array Bool → Bool
  | [], listed => (Region.ready .any ops listed).isEmpty
  | s :: r, listed => segC ops (listedBy s listed) s listed && plansC ops r (listedBy s listed)

theorem getD_keep {L : Array Bool} {m j : Nat} (h : L.getD m false = true) : (L.setIfInBounds j true).getD m false = true := by
  by_cases e : j = m
  · subst e
    rcases Nat.lt_or_ge j L.size with hl | hl
    · simp [hl]
    · simp [Array.getElem?_eq_none hl] at h
  · rw [getD_set_ne false e]; exact h
theorem closed_step {L : Array Bool} {j : Nat} (hc : closedB ops L = true) (hj : j ∈ Region.ready .any ops L) : closedB ops (L.setIfInBounds j true) = true := by
  obtain ⟨hun, oj, hoj, hall⟩ := mem_ready.1 hj
  unfold closedB at hc ⊢
  rw [List.all_eq_true] at hc ⊢
  intro k hk
  by_cases e : j = k
  · subst e
    rw [hoj]
    simp only [Option.map_some, Option.getD_some, Bool.or_eq_true, Array.all_eq_true', Bool.not_eq_true']
    refine .inr fun e he => ?_
    cases hb : Region.binds .any e with
    | false => exact .inl rfl
    | true => exact .inr (getD_keep (hall e he hb))
  · have h1 := hc k hk
    rw [getD_set_ne false e]
    rcases Bool.or_eq_true _ _ ▸ h1 with h2 | h2
    · rw [h2]; rfl
    · rw [Bool.or_eq_true]
      right
      cases ho : ops[k]? with
      | none => rfl
      | some o =>
        rw [ho] at h2
        simp only [Option.map_some, Option.getD_some, Array.all_eq_true', Bool.or_eq_true] at h2 ⊢
        intro e he
        rcases h2 e he with h3 | h3
        · exact .inl h3
        · exact .inr (getD_keep h3)
theorem closed_seg {stop : Array Bool} : ∀ (π : List (Bool × Nat)) (L : Array Bool), closedB ops L = true → segC ops stop π L = true → closedB ops stop = true
  | [], L, hc, h => by
    obtain rfl : L = stop := by simpa [segC] using h
    exact hc
  | (true, i) :: r, L, hc, h => by
    simp only [segC, Bool.and_eq_true] at h
    exact closed_seg r _ (closed_step hc (by simpa using h.1.1.1.1)) h.2
  | (false, i) :: r, L, hc, h => by
    simp only [segC, Bool.and_eq_true, beq_iff_eq] at h
    exact closed_seg r _ (closed_step hc (by rw [h.1.1]; simp)) h.2
theorem closed_init (k : Nat) : closedB ops (Array.replicate k false) = true := by
  unfold closedB
  rw [List.all_eq_true]
  intro j _
  have : (Array.replicate k false).getD j false = false := by
    simp only [Array.getD_eq_getD_getElem?, Array.getElem?_replicate]
    split <;> rfl
  rw [this]; rfl

theorem sync_onlyC {stop L : Array Bool} {i j : Nat} (hc : closedB ops L = true) (hs : syncC ops stop i = true) (hL : L.setIfInBounds i true = stop) (hi : L.getD i true = false)
    (hj : j ∈ Region.ready .any ops L) : j = i := by
  have hiL : i < L.size := by
    rcases Nat.lt_or_ge i L.size with h | h
    · exact h
    · simp [Array.getElem?_eq_none h] at hi
  have e : stop.setIfInBounds i false = L := by
    rw [← hL]
    apply Array.ext
    · simp
    · intro k h1 h2
      by_cases hk : i = k
      · subst hk
        simp [hiL] at hi ⊢
        exact hi
      · rw [Array.getElem_setIfInBounds_ne (by simpa using h2) hk, Array.getElem_setIfInBounds_ne h2 hk]
  unfold syncC at hs
  rw [e, hc] at hs
  simp at hs
  rw [hs] at hj
  simpa using hj

theorem anyQ_first (hF : ∀ f, F.fn f) (hro : F.round = none) {S : World → Prop} {stop : Array Bool} {i : Nat} {oi : Oper} {v : Value} (hi : ops[i]? = some oi) (hsel : ∀ (j : Nat) (o : Oper) cs b, ops[j]? = some o → o.op ≠ .select cs b)
    (hQ : ∀ c a w, Q (.panic c) (a.put oi.dst v) w → Q (.panic c) a w) (hsy : syncC ops stop i = true) (hst : stop.getD i false = true) :
    ∀ (fuel : Nat) (listed : Array Bool) (a : Act) (w : World), closedB ops listed = true →
      (∀ j oj, ops[j]? = some oj → j ≠ i → listed.getD j true = false → (∀ e ∈ oj.after, Region.binds .any e = true → e.on ≠ i) → oi.apart ops oj = true) →
      i ∈ Region.ready .any ops listed → YieldsIf P ops S oi v a → S w →
      wpAnyQ F n P ops Q S stop fuel (listed.setIfInBounds i true) (a.put oi.dst v) w → wpAnyQ F n P ops Q S stop (fuel + 1) listed a w := by
  intro fuel
  induction fuel with
  | zero =>
    intro L a w hcl hfree hr hy hS H
    have hun := (mem_ready.1 hr).1
    have hne : L ≠ stop := by
      rintro rfl
      rcases Nat.lt_or_ge i L.size with h | h
      · simp [h] at hun hst; rw [hst] at hun; cases hun
      · simp [Array.getElem?_eq_none h] at hun
    unfold wpAnyQ; rw [if_neg hne]
    refine ⟨fun h => (by rw [h] at hr; cases hr), fun j hj => ?_⟩
    by_cases hji : j = i
    · subst hji; exact quiet_in hF hro hi hy hS ⟨hS, H⟩
    · have h1 := ready_mono hj hji
      have h2 : Region.ready .any ops (L.setIfInBounds i true) = [] := H.1
      rw [h2] at h1; cases h1
  | succ fuel ih =>
    intro L a w hcl hfree hr hy hS H
    have hun := (mem_ready.1 hr).1
    have hne : L ≠ stop := by
      rintro rfl
      rcases Nat.lt_or_ge i L.size with h | h
      · simp [h] at hun hst; rw [hst] at hun; cases hun
      · simp [Array.getElem?_eq_none h] at hun
    unfold wpAnyQ; rw [if_neg hne]
    refine ⟨fun h => (by rw [h] at hr; cases hr), fun j hj => ?_⟩
    by_cases hji : j = i
    · subst hji; exact quiet_in hF hro hi hy hS ⟨hS, H⟩
    · have hns : L.setIfInBounds i true ≠ stop := fun e => hji (sync_onlyC hcl hsy e hun hj)
      unfold wpAnyQ at H
      rw [if_neg hns] at H
      have h1 := H.2 j (ready_mono hj hji)
      obtain ⟨hjun, oj, hoj, hall⟩ := mem_ready.1 hj
      have hnot : ∀ e ∈ oj.after, Region.binds .any e = true → e.on ≠ i := fun e he hb heq => by
        have h1 := hall e he hb
        rw [heq] at h1
        rcases Nat.lt_or_ge i L.size with h' | h'
        · simp [h'] at hun h1; rw [hun] at h1; cases h1
        · simp [Array.getElem?_eq_none h'] at h1
      have h2 := put_in hF hro hoj (hfree j oj hoj hji hjun hnot) (fun cs b => hsel i oi cs b hi) (fun cs b => hsel j oj cs b hoj) hQ hy h1
      refine wpOpIn_mono (fun a' w' h3 => ⟨h3.2.1, ih (L.setIfInBounds j true) a' w' (closed_step hcl hj) (fun k ok hk hki hu hno => hfree k ok hk hki ?_ hno) (ready_mono hr (Ne.symm hji)) h3.1 h3.2.1 ?_⟩) h2
      · by_cases hjk : j = k
        · subst hjk; exact hjun
        · rw [getD_set_ne true hjk] at hu; exact hu
      · rw [Array.setIfInBounds_comm _ _ hji]
        exact h3.2.2

theorem anyQ_of_H (hF : ∀ f, F.fn f) (hro : F.round = none) (hs : Region.noSelect ops = true) (hQ : ∀ c a d v w, Q (.panic c) (a.put d v) w → Q (.panic c) a w) (stop : Array Bool) (K : Act → World → Prop) :
    ∀ (π : List (Bool × Nat)) (fuel : Nat) (listed : Array Bool) (S : World → Prop) (a : Act) (w : World), closedB ops listed = true → segC ops stop π listed = true → π.length ≤ fuel → S w →
      (∀ f a w, f + π.length = fuel → K a w → wpAnyIn F n P .any ops Q f stop a w) →
      wpH F n P ops Q π S K a w → wpAnyQ F n P ops Q S stop fuel listed a w := by
  intro π
  induction π with
  | nil =>
    intro fuel listed S a w hcl hp _ _ hK h
    obtain rfl : listed = stop := by simpa [segC] using hp
    have := hK fuel a w (by simp) h
    cases fuel with
    | zero => exact this
    | succ fuel => unfold wpAnyQ; rw [if_pos rfl]; exact this
  | cons p r ih =>
    intro fuel listed S a w hcl hp hl hS hK h
    obtain ⟨b, i⟩ := p
    cases fuel with
    | zero => simp at hl
    | succ fuel =>
      have hK' : ∀ f a w, f + r.length = fuel → K a w → wpAnyIn F n P .any ops Q f stop a w := fun f a w hf => hK f a w (by simp; omega)
      cases b with
      | true =>
        obtain ⟨o, v, ho, hy, hr⟩ := h
        simp only [segC, Bool.and_eq_true] at hp
        obtain ⟨⟨⟨⟨h1, h2⟩, h3⟩, h4⟩, h5⟩ := hp
        exact anyQ_first hF hro ho (Region.noSelect_spec hs) (fun c a w => hQ c a _ _ w) h3 h4 fuel listed a w hcl (Region.free_spec ho h2) (by simpa using h1) hy hS
          (ih fuel _ S _ w (closed_step hcl (by simpa using h1)) h5 (by simpa using hl) hS hK' hr)
      | false =>
        obtain ⟨o, ho, hr⟩ := h
        simp only [segC, Bool.and_eq_true, beq_iff_eq, bne_iff_ne, ne_eq] at hp
        obtain ⟨⟨h1, hne⟩, h2⟩ := hp
        unfold wpAnyQ; rw [if_neg hne]
        refine ⟨fun e => (by rw [h1] at e; cases e), fun j hj => ?_⟩
        rw [h1] at hj
        obtain rfl : j = i := by simpa using hj
        have hl' : r.length ≤ fuel := by simpa using hl
        by_cases hw : Region.wanted o (yielded ops a.tmps) = true
        · rw [if_pos hw] at hr
          have : wpOpIn F n P ops Q j (fun a' w' => ∃ S' : World → Prop, (∀ w, S' w → S w) ∧ S' w' ∧ wpH F n P ops Q r S' K a' w') a w := by
            unfold wpOpIn; simp only [ho]; rw [if_pos hw]; exact hr
          refine wpOpIn_mono (fun a' w' h' => ?_) this
          obtain ⟨S', hS', hSw, hG⟩ := h'
          exact ⟨hS' _ hSw, anyQ_mono hS' _ _ _ _ (ih fuel _ S' a' w' (closed_step hcl (by rw [h1]; simp)) h2 hl' hSw hK' hG)⟩
        · rw [if_neg hw] at hr
          unfold wpOpIn; simp only [ho]; rw [if_neg hw]
          exact ⟨fun f _ => hF f, hS, ih fuel _ S _ w (closed_step hcl (by rw [h1]; simp)) h2 hl' hS hK' hr⟩

theorem anyIn_of_Hs (hF : ∀ f, F.fn f) (hro : F.round = none) (hs : Region.noSelect ops = true) (hQ : ∀ c a d v w, Q (.panic c) (a.put d v) w → Q (.panic c) a w) :
    ∀ (πs : List (List (Bool × Nat))) (fuel : Nat) (listed : Array Bool) (a : Act) (w : World), closedB ops listed = true → plansC ops πs listed = true → (πs.map List.length).sum ≤ fuel →
      wpHs F n P ops Q πs a w → wpAnyIn F n P .any ops Q fuel listed a w := by
  intro πs
  induction πs with
  | nil =>
    intro fuel listed a w hcl hp _ h
    have hr : Region.ready .any ops listed = [] := by simpa [plansC] using hp
    cases fuel with
    | zero => exact ⟨hr, h⟩
    | succ fuel => exact ⟨fun _ => h, fun i hi => by rw [hr] at hi; cases hi⟩
  | cons s r ih =>
    intro fuel listed a w hcl hp hl h
    simp only [plansC, Bool.and_eq_true] at hp
    obtain ⟨S, hS, hG⟩ := h
    simp only [List.map_cons, List.sum_cons] at hl
    exact anyIn_of_Q _ _ _ _ (anyQ_of_H hF hro hs hQ _ _ s fuel listed S a w hcl hp.1 (by omega) hS (fun f a w hf hk => ih f _ a w (closed_seg s listed hcl hp.1) hp.2 (by omega) hk) hG)

theorem wpIn_region_H (hF : ∀ f, F.fn f) (hro : F.round = none) {id : Nat} {a : Act} {w : World} {l : List Oper} (πs : List (List (Bool × Nat))) (hm : P.follows .mixedOrders = true)
    (hs : Region.noSelect l.toArray = true) (hp : plansC l.toArray πs (Array.replicate l.length false) = true) (hl : (πs.map List.length).sum ≤ l.length)
    (hQ : ∀ c a d v w, Q (.panic c) (a.put d v) w → Q (.panic c) a w) (h : wpHs F n P l.toArray Q πs a w.drew) : (Code.region id l.toArray true).wpIn F n P Q a w := by
  refine wpIn_region_any hm ?_
  have := anyIn_of_Hs hF hro hs hQ πs l.length (Array.replicate l.length false) a w.drew (closed_init _) hp hl h
  simpa using this

theorem wpHs_nil {a : Act} {w : World} (h : Q .normal a w) : wpHs F n P ops Q [] a w := h
theorem wpHs_seg {s : List (Bool × Nat)} {r : List (List (Bool × Nat))} (S : World → Prop) {a : Act} {w : World} (hS : S w) (h : wpH F n P ops Q s S (wpHs F n P ops Q r) a w) : wpHs F n P ops Q (s :: r) a w := ⟨S, hS, h⟩
variable {K : Act → World → Prop}
theorem wpH_nil {S : World → Prop} {a : Act} {w : World} (h : K a w) : wpH F n P ops Q [] S K a w := h
/-- a quiet operation -/
theorem wpH_q {i : Nat} {o : Oper} {v : Value} {r : List (Bool × Nat)} {S : World → Prop} {a : Act} {w : World} (ho : ops[i]? = some o) (hw : Region.wanted o (yielded ops a.tmps) = true)
    {a' : Act} (hy : ∀ w, S w → (execOp a.eval o).run P w = .ok (.value v) w) (he : a.put o.dst v = a') (h : wpH F n P ops Q r S K a' w) : wpH F n P ops Q ((true, i) :: r) S K a w :=
  ⟨o, v, ho, .inl ⟨hw, hy⟩, he ▸ h⟩
/-- a guarded operation that is passed over -/
theorem wpH_skip {i : Nat} {o : Oper} {r : List (Bool × Nat)} {S : World → Prop} {a : Act} {w : World} (ho : ops[i]? = some o) (hw : Region.wanted o (yielded ops a.tmps) = false)
    {a' : Act} (he : a.put o.dst undef = a') (h : wpH F n P ops Q r S K a' w) : wpH F n P ops Q ((true, i) :: r) S K a w :=
  ⟨o, undef, ho, .inr ⟨hw, rfl⟩, he ▸ h⟩
theorem wpH_eskip {i : Nat} {o : Oper} {r : List (Bool × Nat)} {S : World → Prop} {a : Act} {w : World} (ho : ops[i]? = some o) (hw : Region.wanted o (yielded ops a.tmps) = false)
    {a' : Act} (he : a.put o.dst undef = a') (h : wpH F n P ops Q r S K a' w) : wpH F n P ops Q ((false, i) :: r) S K a w :=
  ⟨o, ho, by rw [if_neg (by rw [hw]; simp)]; exact he ▸ h⟩
/-- an operation that acts -/
theorem wpH_e {i : Nat} {o : Oper} {r : List (Bool × Nat)} {S : World → Prop} {a : Act} {w : World} (ho : ops[i]? = some o) (hw : Region.wanted o (yielded ops a.tmps) = true)
    (h : o.wpIn F n P a w (fun a' w' => ∃ S' : World → Prop, (∀ w, S' w → S w) ∧ S' w' ∧ wpH F n P ops Q r S' K a' w') Q) : wpH F n P ops Q ((false, i) :: r) S K a w :=
  ⟨o, ho, by rw [if_pos hw]; exact h⟩
/-- .. by the run's equation -/
theorem wpH_er (hF : ∀ f, F.fn f) (hro : F.round = none) {i : Nat} {o : Oper} {v : Value} {r : List (Bool × Nat)} {S : World → Prop} (S' : World → Prop) {a : Act} {w w' : World} (ho : ops[i]? = some o) (hw : Region.wanted o (yielded ops a.tmps) = true)
    {a' : Act} (hr : (execOp a.eval o).run P w = .ok (.value v) w') (he : a.put o.dst v = a') (hS : ∀ w, S' w → S w) (hS' : S' w') (h : wpH F n P ops Q r S' K a' w') : wpH F n P ops Q ((false, i) :: r) S K a w :=
  wpH_e ho hw (by unfold Oper.wpIn; rw [hro, Oper.semAt_none, hr]; exact ⟨fun f _ => hF f, S', hS, hS', he ▸ h⟩)
theorem wpH_es (hF : ∀ f, F.fn f) (hro : F.round = none) {i : Nat} {o : Oper} {r : List (Bool × Nat)} {S : World → Prop} (S' : World → Prop) {a : Act} {w w' : World} (ho : ops[i]? = some o) (hw : Region.wanted o (yielded ops a.tmps) = true)
    {a' : Act} (hr : (execOp a.eval o).run P w = .ok .skip w') (he : a.put o.dst undef = a') (hS : ∀ w, S' w → S w) (hS' : S' w') (h : wpH F n P ops Q r S' K a' w') : wpH F n P ops Q ((false, i) :: r) S K a w :=
  wpH_e ho hw (by unfold Oper.wpIn; rw [hro, Oper.semAt_none, hr]; exact ⟨fun f _ => hF f, S', hS, hS', he ▸ h⟩)
/-- .. a call of a Go function -/
theorem wpH_call (hF : ∀ f, F.fn f) (hro : F.round = none) (hn : F.depth.isSome = true → 1 ≤ n) {i : Nat} {o : Oper} {f : FuncId} {args : Array Value} {r : List (Bool × Nat)} {S : World → Prop} {a : Act} {w : World} (ho : ops[i]? = some o) (hw : Region.wanted o (yielded ops a.tmps) = true)
    (hr : (execOp a.eval o).run P w = .ok (.enter f args) w) {v : World → Value → Prop} (hc : CallsIn F (n - 1) P f args w fun e w' => ∃ u, e = .returned u ∧ v w' u)
    (h : ∀ w' u, v w' u → ∃ S' : World → Prop, (∀ w, S' w → S w) ∧ S' w' ∧ wpH F n P ops Q r S' K (a.put o.dst u) w') : wpH F n P ops Q ((false, i) :: r) S K a w :=
  wpH_e ho hw (by
    unfold Oper.wpIn
    rw [hro, Oper.semAt_none, hr]
    exact ⟨fun f _ => hF f, hn, hc.mono fun e w' ⟨u, he, hv⟩ => by subst he; exact h w' u hv⟩)
/-- .. a call of yield -/
theorem wpH_yield (hF : ∀ f, F.fn f) (hro : F.round = none) (hn : F.depth.isSome = true → 1 ≤ n) {i : Nat} {o : Oper} {l : Nat} {args : Array Value} {r : List (Bool × Nat)} {S : World → Prop} {a : Act} {w : World} (ho : ops[i]? = some o) (hw : Region.wanted o (yielded ops a.tmps) = true)
    (hr : (execOp a.eval o).run P w = (Instr.yield l args).run P w) {v : World → Value → Prop} (hc : YieldAt F (n - 1) P l args w fun e w' => ∃ u, e = .returned u ∧ v w' u)
    (h : ∀ w' u, v w' u → ∃ S' : World → Prop, (∀ w, S' w → S w) ∧ S' w' ∧ wpH F n P ops Q r S' K (a.put o.dst u) w') : wpH F n P ops Q ((false, i) :: r) S K a w :=
  wpH_e ho hw (by
    obtain ⟨fn, tmps, assign, body, h1, h2⟩ := hc
    unfold Oper.wpIn
    rw [hro, Oper.semAt_none, hr, h1]
    exact ⟨fun f _ => hF f, hn, h2.mono fun e w' ⟨u, he, hv⟩ => by subst he; exact h w' u hv⟩)
end
end Go.Proofs.Gi
