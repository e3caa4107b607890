/- The document's words: heads by their places. -/
import Derived.Test.YtpaijpdmeiagfaaDoorPt
namespace Go.Proofs.Tx
open Go.Proofs.Tm

def hpN (zs : List Int) : Nat → Int
  | 0 => -1
  | k + 1 => if headI (sgW zs) k then k else hpN zs k
/-- the last head ahead of a place -/
def hpZ (zs : List Int) (i : Int) : Int := hpN zs i.toNat
theorem hpZ_neg {zs : List Int} {i : Int} (h : i ≤ 0) : hpZ zs i = -1 := by
  unfold hpZ; rw [show i.toNat = 0 by omega]; rfl
theorem hpZ_step {zs : List Int} {k : Int} (h : 0 ≤ k) : hpZ zs (k + 1) = if headI (sgW zs) k then k else hpZ zs k := by
  unfold hpZ
  rw [show (k + 1).toNat = k.toNat + 1 by omega]
  show (if headI (sgW zs) (k.toNat : Int) then (k.toNat : Int) else hpN zs k.toNat) = _
  rw [show (k.toNat : Int) = k by omega]
theorem hpN_rng (zs : List Int) (k : Nat) : -1 ≤ hpN zs k ∧ hpN zs k < k ∨ hpN zs k = -1 := by
  induction k with
  | zero => exact .inr rfl
  | succ k ih =>
    unfold hpN
    split
    · exact .inl ⟨by omega, by omega⟩
    · rcases ih with h | h
      · exact .inl ⟨h.1, by omega⟩
      · exact .inr h
theorem hpZ_rng (zs : List Int) (i : Int) : -1 ≤ hpZ zs i ∧ (hpZ zs i < i ∨ hpZ zs i = -1) := by
  unfold hpZ
  have := hpN_rng zs i.toNat
  omega
def kindZ (zs : List Int) (k : Int) : Int := if k < 0 then -1 else wdK (zs.getD k.toNat 0)
theorem heads_hp (zs : List Int) (i : Nat) (hi : i ≤ zs.length) : headsOf (ahd (sgW zs) i) = if hpZ zs i < 0 then [] else kindZ zs (hpZ zs i) :: headsOf (ahd (sgW zs) (hpZ zs i)) := by
  induction i with
  | zero => rw [ahd_zero (by simp), hpZ_neg (by simp)]; rfl
  | succ k ih =>
    rw [show ((k + 1 : Nat) : Int) = (k : Int) + 1 by omega, heads_step (by omega) (by omega), hpZ_step (by omega)]
    split
    · rw [if_neg (by omega)]
      unfold kindZ
      rw [if_neg (by omega)]
    · exact ih (by omega)
theorem heads_hpZ {zs : List Int} {i : Int} (h0 : 0 ≤ i) (hi : i ≤ zs.length) : headsOf (ahd (sgW zs) i) = if hpZ zs i < 0 then [] else kindZ zs (hpZ zs i) :: headsOf (ahd (sgW zs) (hpZ zs i)) := by
  have := heads_hp zs i.toNat (by omega)
  rwa [show (i.toNat : Int) = i by omega] at this
theorem kind0 {zs : List Int} {i : Int} (h0 : 0 ≤ i) (hi : i ≤ zs.length) : (headsOf (ahd (sgW zs) i)).getD 0 (-1) = kindZ zs (hpZ zs i) := by
  rw [heads_hpZ h0 hi]
  by_cases h : hpZ zs i < 0
  · rw [if_pos h]; unfold kindZ; rw [if_pos h]; rfl
  · rw [if_neg h]; rfl
theorem kind1 {zs : List Int} {i : Int} (h0 : 0 ≤ i) (hi : i ≤ zs.length) : (headsOf (ahd (sgW zs) i)).getD 1 (-1) = kindZ zs (hpZ zs (hpZ zs i)) := by
  rw [heads_hpZ h0 hi]
  by_cases h : hpZ zs i < 0
  · rw [if_pos h, hpZ_neg (by omega)]; rfl
  · rw [if_neg h]
    have := hpZ_rng zs i
    exact kind0 (by omega) (by omega)

/-- flags up to a head -/
def flZ (zs : List Int) (k : Int) : Nat := if k < 0 then 0 else flagsW (kindZ zs k :: headsOf (ahd (sgW zs) k))
theorem flZ_head {zs : List Int} {i : Int} (h0 : 0 ≤ i) (hi : i ≤ zs.length) : flagsW (headsOf (ahd (sgW zs) i)) = flZ zs (hpZ zs i) := by
  rw [heads_hpZ h0 hi]
  unfold flZ
  by_cases h : hpZ zs i < 0
  · rw [if_pos h, if_pos h]; rfl
  · rw [if_neg h, if_neg h]
theorem flagsW_cons (k : Int) (h : List Int) : flagsW (k :: h) = if k = 7 then flagsW h + 1 else 0 := by
  unfold flagsW
  rw [List.takeWhile_cons]
  by_cases e : k = 7
  · rw [if_pos e, if_pos (by simpa using e)]; rfl
  · rw [if_neg e, if_neg (by simpa using e)]; rfl
theorem flZ_step {zs : List Int} {k : Int} (h0 : 0 ≤ k) (hk : k < zs.length) : flZ zs k = if kindZ zs k = 7 then flZ zs (hpZ zs k) + 1 else 0 := by
  rw [← flZ_head h0 (by omega)]
  unfold flZ
  rw [if_neg (by omega), flagsW_cons]
theorem flZ_neg {zs : List Int} {k : Int} (h : k < 0) : flZ zs k = 0 := if_pos h
theorem flagsW_len (h : List Int) : flagsW h ≤ h.length := by
  unfold flagsW
  exact (List.takeWhile_prefix _).length_le
theorem headsOf_len (p : List Sg) : (headsOf p).length ≤ p.length := by
  induction p with
  | nil => simp [headsOf]
  | cons x p ih =>
    unfold headsOf
    split
    · simp; omega
    · simp; omega
theorem ahd_len (t : List Sg) (i : Int) : (ahd t i).length ≤ t.length := by
  unfold ahd; simp; omega

def nxF (zs : List Int) : Nat → Int → Int
  | 0, _ => -1
  | f + 1, k => if headI (sgW zs) k then k else nxF zs f (k + 1)
/-- the first head from a place on -/
def nxZ (zs : List Int) (k : Int) : Int := nxF zs (zs.length - k.toNat) k
theorem nxZ_end {zs : List Int} {k : Int} (h : (zs.length : Int) ≤ k) : nxZ zs k = -1 := by
  unfold nxZ; rw [show zs.length - k.toNat = 0 by omega]; rfl
theorem nxZ_step {zs : List Int} {k : Int} (h0 : 0 ≤ k) (h1 : k < zs.length) : nxZ zs k = if headI (sgW zs) k then k else nxZ zs (k + 1) := by
  unfold nxZ
  rw [show zs.length - k.toNat = (zs.length - (k + 1).toNat) + 1 by omega]
  rfl
theorem next_nx (zs : List Int) (d : Nat) (k : Int) (h0 : 0 < k) (hd : zs.length - k.toNat = d) : nextI zs k = kindZ zs (nxZ zs k) ∧ (nxZ zs k = -1 ∨ k ≤ nxZ zs k ∧ nxZ zs k < zs.length) := by
  induction d generalizing k with
  | zero =>
    rw [nextI_end (by omega), nxZ_end (by omega)]
    exact ⟨rfl, .inl rfl⟩
  | succ d ih =>
    rw [nextI_step h0 (by omega), nxZ_step (by omega) (by omega)]
    split
    · refine ⟨?_, .inr ⟨by omega, by omega⟩⟩
      unfold kindZ
      rw [if_neg (by omega)]
    · have := ih (k + 1) (by omega) (by omega)
      exact ⟨this.1, by omega⟩
theorem nextI_nx {zs : List Int} {k : Int} (h0 : 0 < k) : nextI zs k = kindZ zs (nxZ zs k) := (next_nx zs _ k h0 rfl).1
theorem nxZ_rng {zs : List Int} {k : Int} (h0 : 0 < k) : nxZ zs k = -1 ∨ k ≤ nxZ zs k ∧ nxZ zs k < zs.length := (next_nx zs _ k h0 rfl).2

theorem brkW_ref {zs : List Int} {i : Int} (h0 : 0 < i) (h1 : i < zs.length) :
    brkI wf (sgW zs) i = wfg (wdK (zs.getD (i - 1).toNat 0)) (headsOf (ahd (sgW zs) i)) (wdK (zs.getD i.toNat 0), piB (zs.getD i.toNat 0)) (kindZ zs (nxZ zs (i + 1))) := by
  rw [brkW_in h0 h1, nextI_nx (by omega)]
end Go.Proofs.Tx
