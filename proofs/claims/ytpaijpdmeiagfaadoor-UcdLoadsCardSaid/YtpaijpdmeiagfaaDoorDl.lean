/- The data that bytes are, as a plain law: four tries, each with its length ahead. -/
import Derived.Test.YtpaijpdmeiagfaaDoorQ
namespace Go.Proofs.YtpaijpdmeiagfaaDoor
open Go Go.Proofs.Kk Go.Proofs.Tm

/-- a length, of four bytes -/
def len4 (b : List Int) : Int := b.getD 0 0 + 256 * b.getD 1 0 + 65536 * b.getD 2 0 + 16777216 * b.getD 3 0
def put4 (n : Nat) : List Int := [((n % 256 : Nat) : Int), ((n / 256 % 256 : Nat) : Int), ((n / 65536 % 256 : Nat) : Int), ((n / 16777216 % 256 : Nat) : Int)]

open Classical in
/-- what n tables at the head of some bytes are, and nothing behind -/
noncomputable def dload : Nat → List Int → Option (List TD)
  | 0, b => if b = [] then some [] else none
  | n + 1, b => if 4 ≤ b.length ∧ len4 b ≤ (b.length : Int) - 4 ∧ LoadOk ((b.drop 4).take (len4 b).toNat) (TD.ofBlocks (loadBs ((b.drop 4).take (len4 b).toNat))) then
      (dload n (b.drop (4 + (len4 b).toNat))).map (TD.ofBlocks (loadBs ((b.drop 4).take (len4 b).toNat)) :: ·) else none

def dsave : List TD → List Int
  | [] => []
  | T :: l => put4 (saveL T).length ++ saveL T ++ dsave l

theorem dload_step {n : Nat} {b : List Int} (h4 : 4 ≤ b.length) (hn : len4 b ≤ (b.length : Int) - 4) {c : List Int} (hc : c = (b.drop 4).take (len4 b).toNat) {T : TD} (hT : T = TD.ofBlocks (loadBs c)) (hok : LoadOk c T) :
    dload (n + 1) b = (dload n (b.drop (4 + (len4 b).toNat))).map (T :: ·) := by
  rw [dload, if_pos ⟨h4, hn, by rw [← hc, ← hT]; exact hok⟩, ← hc, ← hT]
theorem dload_short {n : Nat} {b : List Int} (h : b.length < 4) : dload (n + 1) b = none := by
  rw [dload, if_neg (by omega)]
theorem dload_over {n : Nat} {b : List Int} (h : (b.length : Int) - 4 < len4 b) : dload (n + 1) b = none := by
  rw [dload, if_neg (by omega)]
theorem dload_bad {n : Nat} {b : List Int} {c : List Int} (hc : c = (b.drop 4).take (len4 b).toNat) {T : TD} (hT : T = TD.ofBlocks (loadBs c)) (h : ¬ LoadOk c T) : dload (n + 1) b = none := by
  rw [dload, if_neg]
  rintro ⟨_, _, h3⟩
  rw [← hc, ← hT] at h3
  exact h h3

theorem len4_put4 {b : List Int} (hb : IsB b) (h4 : 4 ≤ b.length) : b.take 4 = put4 (len4 b).toNat ∧ 0 ≤ len4 b := by
  match b, h4 with
  | x0 :: x1 :: x2 :: x3 :: r, _ =>
    have h0 := hb x0 (by simp)
    have h1 := hb x1 (by simp)
    have h2 := hb x2 (by simp)
    have h3 := hb x3 (by simp)
    have e : len4 (x0 :: x1 :: x2 :: x3 :: r) = x0 + 256 * x1 + 65536 * x2 + 16777216 * x3 := rfl
    rw [e]
    refine ⟨?_, by omega⟩
    have e0 : (((x0 + 256 * x1 + 65536 * x2 + 16777216 * x3).toNat % 256 : Nat) : Int) = x0 := by omega
    have e1 : (((x0 + 256 * x1 + 65536 * x2 + 16777216 * x3).toNat / 256 % 256 : Nat) : Int) = x1 := by omega
    have e2 : (((x0 + 256 * x1 + 65536 * x2 + 16777216 * x3).toNat / 65536 % 256 : Nat) : Int) = x2 := by omega
    have e3 : (((x0 + 256 * x1 + 65536 * x2 + 16777216 * x3).toNat / 16777216 % 256 : Nat) : Int) = x3 := by omega
    unfold put4
    rw [e0, e1, e2, e3]
    rfl

theorem len4_of_put4 (n : Nat) (h : n < 4294967296) (r : List Int) : len4 (put4 n ++ r) = n := by
  have e : len4 (put4 n ++ r) = ((n % 256 : Nat) : Int) + 256 * ((n / 256 % 256 : Nat) : Int) + 65536 * ((n / 65536 % 256 : Nat) : Int) + 16777216 * ((n / 16777216 % 256 : Nat) : Int) := rfl
  rw [e]; omega

/-- what is loaded is saved as it stood there -/
theorem dload_save {n : Nat} {b : List Int} (hb : IsB b) {l : List TD} (h : dload n b = some l) : dsave l = b ∧ l.length = n := by
  induction n generalizing b l with
  | zero =>
    unfold dload at h
    split at h
    · rename_i e
      cases h
      exact ⟨by rw [e]; rfl, rfl⟩
    · cases h
  | succ n ih =>
    unfold dload at h
    split at h
    · rename_i hc
      obtain ⟨h4, hn, hok⟩ := hc
      obtain ⟨l', hl', rfl⟩ := Option.map_eq_some_iff.1 h
      obtain ⟨e1, e2⟩ := ih (fun x hx => hb x (List.mem_of_mem_drop hx)) hl'
      obtain ⟨g1, g2⟩ := len4_put4 hb h4
      refine ⟨?_, by simp [e2]⟩
      rw [dsave, hok.save, e1]
      have hlen : ((b.drop 4).take (len4 b).toNat).length = (len4 b).toNat := by
        rw [List.length_take, List.length_drop]; omega
      rw [hlen, ← g1, ← List.drop_drop, List.append_assoc, List.take_append_drop, List.take_append_drop]
    · cases h

/-- what was saved is loaded -/
theorem dload_saved (l : List TD) (h : ∀ T ∈ l, LoadOk (saveL T) T ∧ T = TD.ofBlocks (loadBs (saveL T)) ∧ (saveL T).length < 4294967296) : dload l.length (dsave l) = some l := by
  induction l with
  | nil => simp [dload, dsave]
  | cons T l ih =>
    obtain ⟨h1, h2, h3⟩ := h T (by simp)
    have hd : dsave (T :: l) = put4 (saveL T).length ++ (saveL T ++ dsave l) := by rw [dsave, List.append_assoc]
    have hp : (put4 (saveL T).length).length = 4 := rfl
    have hl4 : len4 (dsave (T :: l)) = (saveL T).length := by rw [hd]; exact len4_of_put4 _ h3 _
    have e4 : (dsave (T :: l)).drop 4 = saveL T ++ dsave l := by rw [hd]; exact List.drop_left' hp
    have hc : saveL T = ((dsave (T :: l)).drop 4).take (len4 (dsave (T :: l))).toNat := by
      rw [hl4, e4, Int.toNat_natCast, List.take_left]
    rw [List.length_cons, dload_step (c := saveL T) (T := T) ?_ ?_ hc h2 h1]
    · rw [← List.drop_drop, e4, hl4, Int.toNat_natCast, List.drop_left, ih fun t ht => h t (by simp [ht])]
      rfl
    · rw [hd, List.length_append, hp]; omega
    · rw [hl4, hd, List.length_append, List.length_append, hp]; omega
end Go.Proofs.YtpaijpdmeiagfaaDoor
