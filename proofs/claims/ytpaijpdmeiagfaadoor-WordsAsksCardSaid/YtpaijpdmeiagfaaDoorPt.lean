/- A text of numbers: its signs; what the loops over it reckon, step by step. -/
import Derived.Test.YtpaijpdmeiagfaaDoorPw
import Derived.Test.YtpaijpdmeiagfaaDoorRw
namespace Go.Proofs.Tx
open Go.Proofs.Tm

def sgC (zs : List Int) : List Sg := zs.map fun r => (clK r, piB r)
def sgW (zs : List Int) : List Sg := zs.map fun r => (wdK r, piB r)
theorem sgC_length (zs : List Int) : (sgC zs).length = zs.length := by simp [sgC]
theorem sgW_length (zs : List Int) : (sgW zs).length = zs.length := by simp [sgW]
theorem sgC_append (a b : List Int) : sgC (a ++ b) = sgC a ++ sgC b := by simp [sgC]
theorem sgW_append (a b : List Int) : sgW (a ++ b) = sgW a ++ sgW b := by simp [sgW]
theorem sgC_get {zs : List Int} {i : Nat} (h : i < zs.length) (h' : i < (sgC zs).length) : (sgC zs)[i] = (clK (zs.getD i 0), piB (zs.getD i 0)) := by
  simp [sgC, List.getD, h]
theorem sgW_get {zs : List Int} {i : Nat} (h : i < zs.length) (h' : i < (sgW zs).length) : (sgW zs)[i] = (wdK (zs.getD i 0), piB (zs.getD i 0)) := by
  simp [sgW, List.getD, h]

/-- does a part end at a place? -/
def brkI (f : List Sg → Sg → List Sg → Bool) (t : List Sg) (i : Int) : Bool := if i < 0 ∨ (t.length : Int) < i then false else brkAt f t i.toNat
theorem brkI_out {f : List Sg → Sg → List Sg → Bool} {t : List Sg} {i : Int} (h : i < 0 ∨ (t.length : Int) < i) : brkI f t i = false := if_pos h
theorem brkI_nat {f : List Sg → Sg → List Sg → Bool} {t : List Sg} {i : Nat} (h : i ≤ t.length) : brkI f t i = brkAt f t i := by
  unfold brkI; rw [if_neg (by omega), Int.toNat_natCast]
theorem brkI_ends {f : List Sg → Sg → List Sg → Bool} {t : List Sg} {i : Int} (h : i = 0 ∨ i = t.length) : brkI f t i = true := by
  unfold brkI
  rw [if_neg (by omega)]
  rcases h with rfl | rfl
  · exact brkAt_zero t
  · rw [Int.toNat_natCast]; exact brkAt_end t

/-- the signs ahead of a place, the last one first -/
def ahd (t : List Sg) (i : Int) : List Sg := (t.take i.toNat).reverse
theorem ahd_zero {t : List Sg} {i : Int} (h : i ≤ 0) : ahd t i = [] := by
  unfold ahd; rw [show i.toNat = 0 by omega]; rfl
theorem ahd_succ {t : List Sg} {i : Int} (h0 : 0 < i) (h1 : i ≤ t.length) (h' : (i - 1).toNat < t.length) : ahd t i = t[(i - 1).toNat] :: ahd t (i - 1) := by
  unfold ahd
  rw [rev_take_cons (by omega) (by omega)]
  congr 1
  · congr 1; omega
  · rw [show i.toNat - 1 = (i - 1).toNat by omega]
theorem ahdC {zs : List Int} {i : Int} (h0 : 0 < i) (h1 : i ≤ zs.length) : ahd (sgC zs) i = (clK (zs.getD (i - 1).toNat 0), piB (zs.getD (i - 1).toNat 0)) :: ahd (sgC zs) (i - 1) := by
  rw [ahd_succ h0 (by rw [sgC_length]; exact h1) (by rw [sgC_length]; omega), sgC_get (by omega)]
theorem ahdW {zs : List Int} {i : Int} (h0 : 0 < i) (h1 : i ≤ zs.length) : ahd (sgW zs) i = (wdK (zs.getD (i - 1).toNat 0), piB (zs.getD (i - 1).toNat 0)) :: ahd (sgW zs) (i - 1) := by
  rw [ahd_succ h0 (by rw [sgW_length]; exact h1) (by rw [sgW_length]; omega), sgW_get (by omega)]

theorem brkI_in {f : List Sg → Sg → List Sg → Bool} {t : List Sg} {i : Int} (h0 : 0 < i) (h1 : i < t.length) (h' : i.toNat < t.length) : brkI f t i = f (ahd t i) t[i.toNat] (t.drop (i + 1).toNat) := by
  unfold brkI
  rw [if_neg (by omega), brkAt_in (by omega) h', show (i + 1).toNat = i.toNat + 1 by omega]
  rfl

/-! ### clusters -/
theorem scan_step {zs : List Int} {k : Int} (h0 : 0 ≤ k) (h1 : k < zs.length) : scan (ahd (sgC zs) (k + 1)) = if piB (zs.getD k.toNat 0) then true else if clK (zs.getD k.toNat 0) = 4 then scan (ahd (sgC zs) k) else false := by
  rw [ahdC (by omega) (by omega), Int.add_sub_cancel]; rfl
theorem pict_step {zs : List Int} {i : Int} (h0 : 0 < i) (h1 : i ≤ zs.length) : pict (ahd (sgC zs) i) = (decide (clK (zs.getD (i - 1).toNat 0) = 5) && scan (ahd (sgC zs) (i - 1))) := by
  rw [ahdC h0 h1]; rfl
theorem flagsN_cons (x : Sg) (p : List Sg) (k : Int) : flagsN (x :: p) k = if x.1 = k then flagsN p k + 1 else 0 := by
  unfold flagsN
  rw [List.takeWhile_cons]
  by_cases h : x.1 = k
  · rw [if_pos h, if_pos (by simpa using h)]; rfl
  · rw [if_neg h, if_neg (by simpa using h)]; rfl
theorem flags_step {zs : List Int} {k : Int} (h0 : 0 < k) (h1 : k ≤ zs.length) : flagsN (ahd (sgC zs) k) 6 = if clK (zs.getD (k - 1).toNat 0) = 6 then flagsN (ahd (sgC zs) (k - 1)) 6 + 1 else 0 := by
  rw [ahdC h0 h1, flagsN_cons]

def cfK (a b : Int) (pic : Bool) (fl : Nat) : Bool :=
  if a = 1 ∧ b = 2 then false
  else if steers a || steers b then true
  else if hangulB a b || b == 4 || b == 5 || b == 8 || a == 7 then false
  else if pic then false
  else decide (a ≠ 6) || decide (b ≠ 6) || fl % 2 == 0
theorem brkC_in {zs : List Int} {i : Int} (h0 : 0 < i) (h1 : i < zs.length) :
    brkI cf (sgC zs) i = cfK (clK (zs.getD (i - 1).toNat 0)) (clK (zs.getD i.toNat 0)) (piB (zs.getD i.toNat 0) && pict (ahd (sgC zs) i)) (flagsN (ahd (sgC zs) i) 6) := by
  rw [brkI_in h0 (by rw [sgC_length]; exact h1) (by rw [sgC_length]; omega), sgC_get (by omega)]
  unfold cf cfK
  have e : headK (ahd (sgC zs) i) = clK (zs.getD (i - 1).toNat 0) := by rw [ahdC h0 (by omega)]; rfl
  rw [e]

/-! ### words -/
def headI (t : List Sg) (i : Int) : Bool := if i < 0 then false else match t.drop i.toNat with
  | [] => false
  | x :: _ => headB (ahd t i) x
theorem headI_out {t : List Sg} {i : Int} (h : i < 0 ∨ (t.length : Int) ≤ i) : headI t i = false := by
  unfold headI
  rcases h with h | h
  · rw [if_pos h]
  · split
    · rfl
    · rw [List.drop_eq_nil_of_le (by omega)]
theorem headI_zero {t : List Sg} (h : t ≠ []) : headI t 0 = true := by
  cases t with
  | nil => exact absurd rfl h
  | cons x t => rfl
theorem headI_in {zs : List Int} {i : Int} (h0 : 0 < i) (h1 : i < zs.length) : headI (sgW zs) i = (!markK (wdK (zs.getD i.toNat 0)) || endsK (wdK (zs.getD (i - 1).toNat 0))) := by
  unfold headI
  rw [if_neg (by omega), List.drop_eq_getElem_cons (by rw [sgW_length]; omega : i.toNat < (sgW zs).length), ahdW h0 (by omega), sgW_get (by omega)]
  rfl
theorem heads_step {zs : List Int} {k : Int} (h0 : 0 ≤ k) (h1 : k < zs.length) :
    headsOf (ahd (sgW zs) (k + 1)) = if headI (sgW zs) k then wdK (zs.getD k.toNat 0) :: headsOf (ahd (sgW zs) k) else headsOf (ahd (sgW zs) k) := by
  rw [ahdW (by omega) (by omega), Int.add_sub_cancel, headsOf]
  have : headB (ahd (sgW zs) k) (wdK (zs.getD k.toNat 0), piB (zs.getD k.toNat 0)) = headI (sgW zs) k := by
    unfold headI
    rw [if_neg (by omega), List.drop_eq_getElem_cons (by rw [sgW_length]; omega : k.toNat < (sgW zs).length), sgW_get (by omega)]
  rw [this]
/-- the kind of the first head from a place on -/
def nextI (zs : List Int) (k : Int) : Int := nextOf (wdK (zs.getD (k - 1).toNat 0)) ((sgW zs).drop k.toNat)
theorem nextI_end {zs : List Int} {k : Int} (h : (zs.length : Int) ≤ k) : nextI zs k = -1 := by
  unfold nextI
  rw [List.drop_eq_nil_of_le (by rw [sgW_length]; omega)]; rfl
theorem nextI_step {zs : List Int} {k : Int} (h0 : 0 < k) (h1 : k < zs.length) : nextI zs k = if headI (sgW zs) k then wdK (zs.getD k.toNat 0) else nextI zs (k + 1) := by
  rw [headI_in h0 h1]
  unfold nextI
  rw [List.drop_eq_getElem_cons (by rw [sgW_length]; omega : k.toNat < (sgW zs).length), sgW_get (by omega), nextOf, Int.add_sub_cancel, show (k + 1).toNat = k.toNat + 1 by omega]

theorem brkW_in {zs : List Int} {i : Int} (h0 : 0 < i) (h1 : i < zs.length) :
    brkI wf (sgW zs) i = wfg (wdK (zs.getD (i - 1).toNat 0)) (headsOf (ahd (sgW zs) i)) (wdK (zs.getD i.toNat 0), piB (zs.getD i.toNat 0)) (nextI zs (i + 1)) := by
  rw [brkI_in h0 (by rw [sgW_length]; exact h1) (by rw [sgW_length]; omega), sgW_get (by omega)]
  unfold wf nextI
  rw [Int.add_sub_cancel]
  have e : headK (ahd (sgW zs) i) = wdK (zs.getD (i - 1).toNat 0) := by rw [ahdW h0 (by omega)]; rfl
  rw [e]

/-! ### places as whole numbers -/
def plI (f : List Sg → Sg → List Sg → Bool) (t : List Sg) : List Int := (placesOf f t).map Int.ofNat
/-- the places ahead of a number -/
def plTo (f : List Sg → Sg → List Sg → Bool) (t : List Sg) (k : Nat) : List Int := ((List.range k).filter (brkAt f t)).map Int.ofNat
theorem plTo_zero (f : List Sg → Sg → List Sg → Bool) (t : List Sg) : plTo f t 0 = [] := rfl
theorem plTo_all (f : List Sg → Sg → List Sg → Bool) (t : List Sg) : plTo f t (t.length + 1) = plI f t := rfl
theorem plTo_yes {f : List Sg → Sg → List Sg → Bool} {t : List Sg} {k : Nat} (h : brkAt f t k = true) : plTo f t (k + 1) = plTo f t k ++ [(k : Int)] := by
  unfold plTo
  rw [List.range_succ, List.filter_append, List.filter_cons_of_pos h]; simp
theorem plTo_no {f : List Sg → Sg → List Sg → Bool} {t : List Sg} {k : Nat} (h : brkAt f t k = false) : plTo f t (k + 1) = plTo f t k := by
  unfold plTo
  rw [List.range_succ, List.filter_append, List.filter_cons_of_neg (by rw [h]; simp)]; simp
theorem plTo_len (f : List Sg → Sg → List Sg → Bool) (t : List Sg) (k : Nat) : (plTo f t k).length ≤ k := by
  unfold plTo
  rw [List.length_map]
  exact Nat.le_trans (List.length_filter_le _ _) (by simp)
theorem plTo_pre {f : List Sg → Sg → List Sg → Bool} {t : List Sg} {k n : Nat} (h : k ≤ n) : plTo f t k <+: plTo f t n := by
  obtain ⟨d, rfl⟩ := Nat.exists_eq_add_of_le h
  unfold plTo
  rw [List.range_add, List.filter_append, List.map_append]
  exact List.prefix_append _ _
theorem plI_len (f : List Sg → Sg → List Sg → Bool) (t : List Sg) : (plI f t).length ≤ t.length + 1 := by
  rw [← plTo_all]; exact plTo_len _ _ _
theorem plI_rng {f : List Sg → Sg → List Sg → Bool} {t : List Sg} : ∀ z ∈ plI f t, 0 ≤ z ∧ z ≤ t.length := by
  intro z hz
  obtain ⟨k, hk, rfl⟩ := List.mem_map.1 hz
  have := (placesOf_mem.1 hk).1
  constructor
  · exact Int.natCast_nonneg _
  · show ((k : Nat) : Int) ≤ _; omega
theorem plI_inj {f g : List Sg → Sg → List Sg → Bool} {t u : List Sg} (h : placesOf f t = placesOf g u) : plI f t = plI g u := by unfold plI; rw [h]
end Go.Proofs.Tx
