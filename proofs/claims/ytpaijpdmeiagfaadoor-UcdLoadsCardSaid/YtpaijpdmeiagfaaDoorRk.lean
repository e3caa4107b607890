/- What the rows of this seat share: the facts on the program's head, each once. -/
import Derived.Test.YtpaijpdmeiagfaaDoorNl
import Derived.ProofKit
import Derived.ChangeOld
import Derived.Deep.DeepHandedRow
import Derived.LaidLaws
namespace Go.Proofs.YtpaijpdmeiagfaaDoor
open Go Go.RowKit
set_option maxRecDepth 100000

theorem and2 {a b : Bool} (ha : a = true) (hb : b = true) : (a && b) = true := by rw [ha, hb]; rfl
theorem beq_r {α : Type} [BEq α] {a b b' : α} (h : b = b') (h2 : (a == b') = true) : (a == b) = true := by rw [h]; exact h2

theorem beq_l {α : Type} [BEq α] {a a' b : α} (h : a = a') (h2 : (a' == b) = true) : (a == b) = true := by rw [h]; exact h2

theorem make_of {P : Program} {c : List Char} {rest : List (List Char)} (h : behindMainWord (wordsSigns P.initOrder.toList) = c :: rest) (h1 : (c == "gc".toList) = false) (h2 : (c == "spec".toList) = false) (h3 : (c == "cut".toList) = true) : P.make = some .cut := by
  unfold Program.make
  rw [h]
  dsimp only
  rw [h1, h2, h3]
  rfl
theorem mainIs_of {P : Program} {h s : List Char} {r : List (List Char)} (hw : wordsSigns P.initOrder.toList = h :: s :: r) (h1 : isSumSigns s = true) (h2 : (h == "harness".toList) = true) : P.mainIs = some (true, s) := by
  unfold Program.mainIs
  rw [hw]
  dsimp only
  rw [h1, h2]
  rfl
theorem headLifts_of {P : Program} {ws : List (List Char)} (h : behindMainWord (wordsSigns P.initOrder.toList) = ws) (h1 : (stripLifts liftWords ws).1 = []) : P.headLifts = [] := by
  unfold Program.headLifts
  rw [h]
  dsimp only
  rw [h1]
  split <;> rfl
theorem liftsFinal_of {P : Program} {c : List Char} {rest : List (List Char)} (h : behindMainWord (wordsSigns P.initOrder.toList) = c :: rest) (h0 : P.headLifts = []) (h1 : ((c :: rest).head? == some "carried".toList) = false) : P.liftsFinal = false := by
  unfold Program.liftsFinal
  rw [h, h0]
  dsimp only
  rw [h1]
  rfl
theorem mayEnter_of {P : Program} {c : List Char} {rest : List (List Char)} (h : behindMainWord (wordsSigns P.initOrder.toList) = c :: rest) (h1 : (stripLifts liftWords (c :: rest)).1 = []) (h2 : ((stripLifts liftWords (c :: rest)).2.head? == some "cut".toList) = true)
    (h3 : P.laysLater = false) (h4 : P.bearsReflect = false) (h5 : P.doorFits [] = true) : P.mayEnter = true := by
  unfold Program.mayEnter
  rw [h]
  dsimp only
  rw [h1, h2, h3, h4, h5]
  simp

def headN : List Nat := [104, 97, 114, 110, 101, 115, 115, 32, 49, 97, 53, 99, 52, 97, 102, 97, 49, 48, 50, 50, 52, 48, 55, 101, 49, 57, 102, 99, 101, 97, 102, 54, 99, 100, 52, 97, 55, 50, 51, 48, 52, 57, 48, 54, 56, 55, 53, 98, 51, 55, 54, 54, 97, 48, 54, 56, 48, 102, 56, 97, 54, 51, 54, 49, 57, 56, 57, 100, 97, 52, 51, 53, 32, 99, 117, 116, 32, 97, 116, 32, 115, 99, 97, 110, 115, 105, 111, 110, 47, 115, 99, 97, 110, 115, 105, 111, 110, 108, 97, 119, 48, 54, 46, 87, 111, 114, 100, 115, 76, 101, 116, 116, 101, 114, 115, 32, 115, 99, 97, 110, 115, 105, 111, 110, 47, 115, 99, 97, 110, 115, 105, 111, 110, 108, 97, 119, 48, 52, 46, 85, 99, 100, 84, 101, 108, 108, 115, 32, 115, 99, 97, 110, 115, 105, 111, 110, 47, 115, 99, 97, 110, 115, 105, 111, 110, 108, 97, 119, 48, 54, 46, 87, 111, 114, 100, 115, 83, 112, 97, 99, 101, 115, 32, 115, 99, 97, 110, 115, 105, 111, 110, 47, 115, 99, 97, 110, 115, 105, 111, 110, 108, 97, 119, 48, 52, 46, 85, 99, 100, 72, 97, 110, 103, 117, 108, 32, 115, 99, 97, 110, 115, 105, 111, 110, 47, 115, 99, 97, 110, 115, 105, 111, 110, 108, 97, 119, 48, 52, 46, 85, 99, 100, 77, 97, 114, 107, 115, 32, 115, 99, 97, 110, 115, 105, 111, 110, 47, 115, 99, 97, 110, 115, 105, 111, 110, 108, 97, 119, 48, 52, 46, 85, 99, 100, 79, 117, 116, 115, 105, 100, 101, 32, 115, 99, 97, 110, 115, 105, 111, 110, 47, 115, 99, 97, 110, 115, 105, 111, 110, 108, 97, 119, 48, 52, 46, 85, 99, 100, 83, 97, 118, 101, 115, 32, 115, 99, 97, 110, 115, 105, 111, 110, 47, 115, 99, 97, 110, 115, 105, 111, 110, 108, 97, 119, 48, 52, 46, 85, 99, 100, 76, 111, 97, 100, 115, 32, 115, 99, 97, 110, 115, 105, 111, 110, 47, 115, 99, 97, 110, 115, 105, 111, 110, 108, 97, 119, 48, 52, 46, 85, 99, 100, 66, 121, 116, 101, 115, 32, 115, 99, 97, 110, 115, 105, 111, 110, 47, 115, 99, 97, 110, 115, 105, 111, 110, 108, 97, 119, 48, 53, 46, 67, 108, 117, 115, 116, 101, 114, 66, 114, 101, 97, 107, 115, 32, 115, 99, 97, 110, 115, 105, 111, 110, 47, 115, 99, 97, 110, 115, 105, 111, 110, 108, 97, 119, 48, 53, 46, 67, 108, 117, 115, 116, 101, 114, 67, 111, 110, 116, 114, 111, 108, 115, 32, 115, 99, 97, 110, 115, 105, 111, 110, 47, 115, 99, 97, 110, 115, 105, 111, 110, 108, 97, 119, 48, 53, 46, 67, 108, 117, 115, 116, 101, 114, 77, 97, 114, 107, 115, 32, 115, 99, 97, 110, 115, 105, 111, 110, 47, 115, 99, 97, 110, 115, 105, 111, 110, 108, 97, 119, 48, 53, 46, 67, 108, 117, 115, 116, 101, 114, 70, 108, 97, 103, 115, 32, 115, 99, 97, 110, 115, 105, 111, 110, 47, 115, 99, 97, 110, 115, 105, 111, 110, 108, 97, 119, 48, 53, 46, 67, 108, 117, 115, 116, 101, 114, 76, 111, 99, 97, 108, 32, 115, 99, 97, 110, 115, 105, 111, 110, 47, 115, 99, 97, 110, 115, 105, 111, 110, 108, 97, 119, 48, 53, 46, 67, 108, 117, 115, 116, 101, 114, 65, 115, 107, 115, 32, 115, 99, 97, 110, 115, 105, 111, 110, 47, 115, 99, 97, 110, 115, 105, 111, 110, 108, 97, 119, 48, 53, 46, 67, 108, 117, 115, 116, 101, 114, 80, 97, 114, 116, 115, 32, 115, 99, 97, 110, 115, 105, 111, 110, 47, 115, 99, 97, 110, 115, 105, 111, 110, 108, 97, 119, 48, 54, 46, 87, 111, 114, 100, 115, 66, 114, 101, 97, 107, 115, 32, 115, 99, 97, 110, 115, 105, 111, 110, 47, 115, 99, 97, 110, 115, 105, 111, 110, 108, 97, 119, 48, 54, 46, 87, 111, 114, 100, 115, 65, 115, 107, 115, 32, 115, 99, 97, 110, 115, 105, 111, 110, 47, 115, 99, 97, 110, 115, 105, 111, 110, 108, 97, 119, 48, 54, 46, 87, 111, 114, 100, 115, 80, 97, 114, 116, 115, 32, 115, 99, 97, 110, 115, 105, 111, 110, 47, 115, 99, 97, 110, 115, 105, 111, 110, 108, 97, 119, 48, 54, 46, 87, 111, 114, 100, 115, 77, 97, 114, 107, 115, 32, 115, 99, 97, 110, 115, 105, 111, 110, 47, 115, 99, 97, 110, 115, 105, 111, 110, 108, 97, 119, 48, 54, 46, 87, 111, 114, 100, 115, 76, 105, 110, 101, 115]
def wordsN : List (List Nat) := [[99, 117, 116], [97, 116], [115, 99, 97, 110, 115, 105, 111, 110, 47, 115, 99, 97, 110, 115, 105, 111, 110, 108, 97, 119, 48, 54, 46, 87, 111, 114, 100, 115, 76, 101, 116, 116, 101, 114, 115], [115, 99, 97, 110, 115, 105, 111, 110, 47, 115, 99, 97, 110, 115, 105, 111, 110, 108, 97, 119, 48, 52, 46, 85, 99, 100, 84, 101, 108, 108, 115], [115, 99, 97, 110, 115, 105, 111, 110, 47, 115, 99, 97, 110, 115, 105, 111, 110, 108, 97, 119, 48, 54, 46, 87, 111, 114, 100, 115, 83, 112, 97, 99, 101, 115], [115, 99, 97, 110, 115, 105, 111, 110, 47, 115, 99, 97, 110, 115, 105, 111, 110, 108, 97, 119, 48, 52, 46, 85, 99, 100, 72, 97, 110, 103, 117, 108], [115, 99, 97, 110, 115, 105, 111, 110, 47, 115, 99, 97, 110, 115, 105, 111, 110, 108, 97, 119, 48, 52, 46, 85, 99, 100, 77, 97, 114, 107, 115], [115, 99, 97, 110, 115, 105, 111, 110, 47, 115, 99, 97, 110, 115, 105, 111, 110, 108, 97, 119, 48, 52, 46, 85, 99, 100, 79, 117, 116, 115, 105, 100, 101], [115, 99, 97, 110, 115, 105, 111, 110, 47, 115, 99, 97, 110, 115, 105, 111, 110, 108, 97, 119, 48, 52, 46, 85, 99, 100, 83, 97, 118, 101, 115], [115, 99, 97, 110, 115, 105, 111, 110, 47, 115, 99, 97, 110, 115, 105, 111, 110, 108, 97, 119, 48, 52, 46, 85, 99, 100, 76, 111, 97, 100, 115], [115, 99, 97, 110, 115, 105, 111, 110, 47, 115, 99, 97, 110, 115, 105, 111, 110, 108, 97, 119, 48, 52, 46, 85, 99, 100, 66, 121, 116, 101, 115], [115, 99, 97, 110, 115, 105, 111, 110, 47, 115, 99, 97, 110, 115, 105, 111, 110, 108, 97, 119, 48, 53, 46, 67, 108, 117, 115, 116, 101, 114, 66, 114, 101, 97, 107, 115], [115, 99, 97, 110, 115, 105, 111, 110, 47, 115, 99, 97, 110, 115, 105, 111, 110, 108, 97, 119, 48, 53, 46, 67, 108, 117, 115, 116, 101, 114, 67, 111, 110, 116, 114, 111, 108, 115], [115, 99, 97, 110, 115, 105, 111, 110, 47, 115, 99, 97, 110, 115, 105, 111, 110, 108, 97, 119, 48, 53, 46, 67, 108, 117, 115, 116, 101, 114, 77, 97, 114, 107, 115], [115, 99, 97, 110, 115, 105, 111, 110, 47, 115, 99, 97, 110, 115, 105, 111, 110, 108, 97, 119, 48, 53, 46, 67, 108, 117, 115, 116, 101, 114, 70, 108, 97, 103, 115], [115, 99, 97, 110, 115, 105, 111, 110, 47, 115, 99, 97, 110, 115, 105, 111, 110, 108, 97, 119, 48, 53, 46, 67, 108, 117, 115, 116, 101, 114, 76, 111, 99, 97, 108], [115, 99, 97, 110, 115, 105, 111, 110, 47, 115, 99, 97, 110, 115, 105, 111, 110, 108, 97, 119, 48, 53, 46, 67, 108, 117, 115, 116, 101, 114, 65, 115, 107, 115], [115, 99, 97, 110, 115, 105, 111, 110, 47, 115, 99, 97, 110, 115, 105, 111, 110, 108, 97, 119, 48, 53, 46, 67, 108, 117, 115, 116, 101, 114, 80, 97, 114, 116, 115], [115, 99, 97, 110, 115, 105, 111, 110, 47, 115, 99, 97, 110, 115, 105, 111, 110, 108, 97, 119, 48, 54, 46, 87, 111, 114, 100, 115, 66, 114, 101, 97, 107, 115], [115, 99, 97, 110, 115, 105, 111, 110, 47, 115, 99, 97, 110, 115, 105, 111, 110, 108, 97, 119, 48, 54, 46, 87, 111, 114, 100, 115, 65, 115, 107, 115], [115, 99, 97, 110, 115, 105, 111, 110, 47, 115, 99, 97, 110, 115, 105, 111, 110, 108, 97, 119, 48, 54, 46, 87, 111, 114, 100, 115, 80, 97, 114, 116, 115], [115, 99, 97, 110, 115, 105, 111, 110, 47, 115, 99, 97, 110, 115, 105, 111, 110, 108, 97, 119, 48, 54, 46, 87, 111, 114, 100, 115, 77, 97, 114, 107, 115], [115, 99, 97, 110, 115, 105, 111, 110, 47, 115, 99, 97, 110, 115, 105, 111, 110, 108, 97, 119, 48, 54, 46, 87, 111, 114, 100, 115, 76, 105, 110, 101, 115]]
def headC : List Char := headN.map Char.ofNat
theorem head_of : Tryd.prog.initOrder = String.ofList headC := by kernel_rfl
theorem head_list : Tryd.prog.initOrder.toList = headC := by rw [head_of, String.toList_ofList]
theorem head_words : behindMainWord (wordsSigns headC) = wordsN.map (List.map Char.ofNat) := by kernel_rfl
theorem head_words2 : behindMainWord (wordsSigns Tryd.prog.initOrder.toList) = wordsN.map (List.map Char.ofNat) := by rw [head_list, head_words]
theorem words_cut : wordsN.map (List.map Char.ofNat) = [Char.ofNat 99, Char.ofNat 117, Char.ofNat 116] :: (wordsN.drop 1).map (List.map Char.ofNat) := by rfl
theorem head_cut : behindMainWord (wordsSigns Tryd.prog.initOrder.toList) = [Char.ofNat 99, Char.ofNat 117, Char.ofNat 116] :: (wordsN.drop 1).map (List.map Char.ofNat) := head_words2.trans words_cut
theorem strip1 : (stripLifts liftWords ([Char.ofNat 99, Char.ofNat 117, Char.ofNat 116] :: (wordsN.drop 1).map (List.map Char.ofNat))).1 = [] := by kernel_rfl
theorem strip2 : ((stripLifts liftWords ([Char.ofNat 99, Char.ofNat 117, Char.ofNat 116] :: (wordsN.drop 1).map (List.map Char.ofNat))).2.head? == some "cut".toList) = true := by kernel_rfl
theorem seatMake : Tryd.prog.make = some .cut := make_of head_cut (by kernel_rfl) (by kernel_rfl) (by kernel_rfl)
theorem seatHead : Tryd.prog.headLifts = [] := headLifts_of head_cut strip1
theorem seatLifts : Tryd.prog.liftsFinal = false := liftsFinal_of head_cut seatHead (by kernel_rfl)
theorem seatLater : Tryd.prog.laysLater = false := by kernel_rfl
theorem seatReflect : Tryd.prog.bearsReflect = false := by kernel_rfl
theorem seatDoor : Tryd.prog.doorFits [] = true := by kernel_rfl
theorem seatMay : Tryd.prog.mayEnter = true := mayEnter_of head_cut strip1 strip2 seatLater seatReflect seatDoor
def mainN : List (List Nat) := [[104, 97, 114, 110, 101, 115, 115], [49, 97, 53, 99, 52, 97, 102, 97, 49, 48, 50, 50, 52, 48, 55, 101, 49, 57, 102, 99, 101, 97, 102, 54, 99, 100, 52, 97, 55, 50, 51, 48, 52, 57, 48, 54, 56, 55, 53, 98, 51, 55, 54, 54, 97, 48, 54, 56, 48, 102, 56, 97, 54, 51, 54, 49, 57, 56, 57, 100, 97, 52, 51, 53]]
theorem head_main : wordsSigns headC = (mainN.getD 0 []).map Char.ofNat :: (mainN.getD 1 []).map Char.ofNat :: wordsN.map (List.map Char.ofNat) := by kernel_rfl
theorem head_main2 : wordsSigns Tryd.prog.initOrder.toList = (mainN.getD 0 []).map Char.ofNat :: (mainN.getD 1 []).map Char.ofNat :: wordsN.map (List.map Char.ofNat) := by rw [head_list, head_main]
theorem main_sum : (mainN.getD 1 []).map Char.ofNat = "1a5c4afa1022407e19fceaf6cd4a72304906875b3766a0680f8a6361989da435".toList := by kernel_rfl
theorem seatMain : Tryd.prog.mainIs = some (true, "1a5c4afa1022407e19fceaf6cd4a72304906875b3766a0680f8a6361989da435".toList) := by
  rw [← main_sum]
  exact mainIs_of head_main2 (by kernel_rfl) (by kernel_rfl)
theorem seatLaid : laidOutB Tryd.prog = true := by kernel_rfl
theorem seatMaps : mapsRowed Tryd.prog = true := by kernel_rfl
theorem seatStops : Tryd.prog.stopsHeard = true := by kernel_rfl
end Go.Proofs.YtpaijpdmeiagfaaDoor
