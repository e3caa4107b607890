/- TrieBack: the walk. -/
import Derived.Test.YtpaijpdmeiagfaaDoorY
import Derived.Test.YtpaijpdmeiagfaaDoorJ
set_option linter.unusedVariables false
set_option linter.unusedSimpArgs false
namespace Go.Proofs.YtpaijpdmeiagfaaDoor
open Go Go.RowKit Go.WideMaps Go.Proofs.Kk Go.Proofs.Tm Go.Proofs.Gg

/-- bytes that came in -/
structure ArgB (w : World) (a : Option Addr) (n c : Nat) (bs : List Int) : Prop where
  len : bs.length = n
  rng : IsB bs
  at_ : 0 < n → BytesAt w w.heap.size (.slice a n c) bs

theorem argB_of {w : World} {a : Option Addr} {len cap : Nat} {zs : List Int} (h : IsRow .u8 w a len cap zs) (hl : len ≤ 140737488355328) : ArgB w a len cap (zs.take len) := by
  rcases h with ⟨rfl, rfl, rfl, rfl⟩ | ⟨x, rfl, h1, h2, h3, h4, h5⟩
  · exact ⟨rfl, by intro x hx; simp at hx, fun h => by omega⟩
  · have hlen : (zs.take len).length = len := by rw [List.length_take]; omega
    refine ⟨hlen, fun y hy => u8_wf (h5 y (List.mem_of_mem_take hy)), fun hpos => ?_⟩
    have q0 := h4 0 (by omega)
    have e0 : x.add 0 = x := by simp [Addr.add]
    rw [e0] at q0
    have hlt := World.block_lt_of_cell? w x q0
    obtain ⟨b, off, sp⟩ := x
    have hsp : sp = none := by
      unfold World.cell? at q0
      split at q0
      · cases sp with
        | none => rfl
        | some s => simp at q0
      · cases q0
    subst hsp
    refine ⟨some ⟨b, off, none⟩, cap, by rw [hlen], by omega, by omega, by unfold maxLen at h2; omega, .inr ⟨b, off, rfl, hlt, ?_⟩⟩
    intro j y hy
    have hj : j < len := by have := (List.getElem?_eq_some_iff.1 hy).1; rw [hlen] at this; exact this
    have hy2 : zs[j]? = some y := by rw [List.getElem?_take, if_pos hj] at hy; exact hy
    have := h4 j (by omega)
    rw [Addr.add_lit] at this
    rw [this, List.getD_eq_getElem?_getD, hy2, Option.getD_some]

set_option maxRecDepth 100000 in
set_option maxHeartbeats 1000000 in
theorem load_short0 (ao : Option Addr) (c n : Nat) (b : List Int) (hn : b.length = n) (w : World) (T : TD) (hs : n ≤ 4352) :
    Calls Tryd.prog 63 #[.slice ao n c] w (LoadPost w b T) := by
  have h1 : (n : Int) ≤ 4352 := by omega
  have hno : Hid (¬ LoadOk b T) := fun h => by have := h.len.1; omega
  go_enter Tryd.func63, Tryd.ntmps63
  go_wp2
  go_ret2
  exact ⟨.inr ⟨hno.out, rfl⟩, Below.refl _ _⟩

theorem load_arg {w w0 : World} {a : Option Addr} {n c : Nat} {bs : List Int} (h : ArgB w0 a n c bs) (hb : Below w0.heap.size w0 w) (T : TD) (hT : Hid (T = TD.ofBlocks (loadBs bs))) :
    Calls Tryd.prog 63 #[.slice a n c] w (LoadPost w bs T) := by
  by_cases hn : n ≤ 4352
  · exact load_short0 a c n bs h.len w T hn
  · exact load_any _ bs w (((h.at_ (by omega)).below hb (Nat.le_refl _)).mono hb.size) h.rng T hT

end Go.Proofs.YtpaijpdmeiagfaaDoor
