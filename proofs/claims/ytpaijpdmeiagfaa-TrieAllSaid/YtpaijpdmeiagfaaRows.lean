/-
  No cell of these rows narrows 'for every input' (looked for: loops, veiled, ifaces, maps, wideKeys, modest, calm, conditions, laid).
  DERIVED. THE GIVEN ROWS OF THIS SEAT. 8 by the template 'for every input the law returns true; each argument reads behind the call as it read before'; 0 by the template 'total and deterministic' (their statements: YtpaijpdmeiagfaaTotals.lean).
  GIVEN WITH THE SEED: the statements are not yours to turn. If you find one false, say at which input.
  Laid BY PROGRAM, IN A SANDBOX (cutbox-rows.mjs): the forced cells as the released guide's own fill.sh prints them over the translation 984ae4c9997c57f5… (all of the seat's roots in one cut). By AI agents, Wed Nov 11 2026. No macro, syntax, notation, axiom, sorry.
-/
import Derived.Test.YtpaijpdmeiagfaaChecked
import GoSem.Claim
import GoSem.ClaimJoined
import GoSem.ClaimMapViews
import Derived.JoinedTies
import Derived.KernelRfl
namespace Go.Proofs.Ytpaijpdmeiagfaa
/- THE CELL 'sum', in the pinned program and in every row, IS THE sha256 OF THE DUMP (.gsa) THAT YtpaijpdmeiagfaaProg.lean LOADS. Nothing in Lean hashes anything: it is a label: what it is worth is what the hold of that sum in a sandbox is worth. -/
noncomputable def Try.pinned : Pinned := { name := "ytpaijpdmeiagfaa", sum := "984ae4c9997c57f528cb87f5f4c1e5df4c974648d90f2775b526f0d6f5161290", checked := Try.checked }
namespace Rows
def none {H : Type} : Left H := { results := [], args := [] }

/-- 'scansionlaw03.TrieBuilds': WHATEVER THE INPUT: true; the input reads as it did. -/
def trieBuildsSpec : ChangeSpec := { name := "trieBuilds", fn := fun _ => fun
  | [d1, d2] => { results := [.lit (.bool true)], args := [d1, d2] }
  | _ => none }
def trieBuildsRow : OpenClaim := { program := "ytpaijpdmeiagfaa", sum := "984ae4c9997c57f528cb87f5f4c1e5df4c974648d90f2775b526f0d6f5161290", func := "scansion/scansionlaw03.TrieBuilds", spec := "trieBuilds", unfollowed := true, recurses := true, plainKeys := false, apart := false }
def TrieBuildsSaid : Prop := trieBuildsRow.holds Try.pinned (OpenSpec.ofChange trieBuildsSpec)

/-- ITS FALSE NEIGHBOUR: 'it returns false'. Refute it at one input. -/
def trieBuildsWrong : ChangeSpec := { name := "trieBuilds", fn := fun _ => fun
  | [d1, d2] => { results := [.lit (.bool false)], args := [d1, d2] }
  | _ => none }
def TrieBuildsWrongFalsely : Prop := trieBuildsRow.holds Try.pinned (OpenSpec.ofChange trieBuildsWrong)

/-- 'scansionlaw03.TrieLater': WHATEVER THE INPUT: true; the input reads as it did. -/
def trieLaterSpec : ChangeSpec := { name := "trieLater", fn := fun _ => fun
  | [d1, d2, d3] => { results := [.lit (.bool true)], args := [d1, d2, d3] }
  | _ => none }
def trieLaterRow : OpenClaim := { program := "ytpaijpdmeiagfaa", sum := "984ae4c9997c57f528cb87f5f4c1e5df4c974648d90f2775b526f0d6f5161290", func := "scansion/scansionlaw03.TrieLater", spec := "trieLater", unfollowed := true, recurses := true, plainKeys := false, apart := false }
def TrieLaterSaid : Prop := trieLaterRow.holds Try.pinned (OpenSpec.ofChange trieLaterSpec)

/-- ITS FALSE NEIGHBOUR: 'it returns false'. Refute it at one input. -/
def trieLaterWrong : ChangeSpec := { name := "trieLater", fn := fun _ => fun
  | [d1, d2, d3] => { results := [.lit (.bool false)], args := [d1, d2, d3] }
  | _ => none }
def TrieLaterWrongFalsely : Prop := trieLaterRow.holds Try.pinned (OpenSpec.ofChange trieLaterWrong)

/-- 'scansionlaw03.TrieLow': WHATEVER THE INPUT: true; the input reads as it did. -/
def trieLowSpec : ChangeSpec := { name := "trieLow", fn := fun _ => fun
  | [d1, d2] => { results := [.lit (.bool true)], args := [d1, d2] }
  | _ => none }
def trieLowRow : OpenClaim := { program := "ytpaijpdmeiagfaa", sum := "984ae4c9997c57f528cb87f5f4c1e5df4c974648d90f2775b526f0d6f5161290", func := "scansion/scansionlaw03.TrieLow", spec := "trieLow", unfollowed := true, recurses := true, plainKeys := false, apart := false }
def TrieLowSaid : Prop := trieLowRow.holds Try.pinned (OpenSpec.ofChange trieLowSpec)

/-- ITS FALSE NEIGHBOUR: 'it returns false'. Refute it at one input. -/
def trieLowWrong : ChangeSpec := { name := "trieLow", fn := fun _ => fun
  | [d1, d2] => { results := [.lit (.bool false)], args := [d1, d2] }
  | _ => none }
def TrieLowWrongFalsely : Prop := trieLowRow.holds Try.pinned (OpenSpec.ofChange trieLowWrong)

/-- 'scansionlaw03.TrieSame': WHATEVER THE INPUT: true; the input reads as it did. -/
def trieSameSpec : ChangeSpec := { name := "trieSame", fn := fun _ => fun
  | [d] => { results := [.lit (.bool true)], args := [d] }
  | _ => none }
def trieSameRow : OpenClaim := { program := "ytpaijpdmeiagfaa", sum := "984ae4c9997c57f528cb87f5f4c1e5df4c974648d90f2775b526f0d6f5161290", func := "scansion/scansionlaw03.TrieSame", spec := "trieSame", unfollowed := true, recurses := true, plainKeys := false, apart := false }
def TrieSameSaid : Prop := trieSameRow.holds Try.pinned (OpenSpec.ofChange trieSameSpec)

/-- ITS FALSE NEIGHBOUR: 'it returns false'. Refute it at one input. -/
def trieSameWrong : ChangeSpec := { name := "trieSame", fn := fun _ => fun
  | [d] => { results := [.lit (.bool false)], args := [d] }
  | _ => none }
def TrieSameWrongFalsely : Prop := trieSameRow.holds Try.pinned (OpenSpec.ofChange trieSameWrong)

/-- 'scansionlaw03.TrieLoads': WHATEVER THE INPUT: true; the input reads as it did. -/
def trieLoadsSpec : ChangeSpec := { name := "trieLoads", fn := fun _ => fun
  | [d1, d2, d3] => { results := [.lit (.bool true)], args := [d1, d2, d3] }
  | _ => none }
def trieLoadsRow : OpenClaim := { program := "ytpaijpdmeiagfaa", sum := "984ae4c9997c57f528cb87f5f4c1e5df4c974648d90f2775b526f0d6f5161290", func := "scansion/scansionlaw03.TrieLoads", spec := "trieLoads", unfollowed := true, recurses := true, plainKeys := false, apart := false }
def TrieLoadsSaid : Prop := trieLoadsRow.holds Try.pinned (OpenSpec.ofChange trieLoadsSpec)

/-- ITS FALSE NEIGHBOUR: 'it returns false'. Refute it at one input. -/
def trieLoadsWrong : ChangeSpec := { name := "trieLoads", fn := fun _ => fun
  | [d1, d2, d3] => { results := [.lit (.bool false)], args := [d1, d2, d3] }
  | _ => none }
def TrieLoadsWrongFalsely : Prop := trieLoadsRow.holds Try.pinned (OpenSpec.ofChange trieLoadsWrong)

/-- 'scansionlaw03.TrieBack': WHATEVER THE INPUT: true; the input reads as it did. -/
def trieBackSpec : ChangeSpec := { name := "trieBack", fn := fun _ => fun
  | [d1, d2, d3] => { results := [.lit (.bool true)], args := [d1, d2, d3] }
  | _ => none }
def trieBackRow : OpenClaim := { program := "ytpaijpdmeiagfaa", sum := "984ae4c9997c57f528cb87f5f4c1e5df4c974648d90f2775b526f0d6f5161290", func := "scansion/scansionlaw03.TrieBack", spec := "trieBack", unfollowed := true, recurses := true, plainKeys := false, apart := false }
def TrieBackSaid : Prop := trieBackRow.holds Try.pinned (OpenSpec.ofChange trieBackSpec)

/-- ITS FALSE NEIGHBOUR: 'it returns false'. Refute it at one input. -/
def trieBackWrong : ChangeSpec := { name := "trieBack", fn := fun _ => fun
  | [d1, d2, d3] => { results := [.lit (.bool false)], args := [d1, d2, d3] }
  | _ => none }
def TrieBackWrongFalsely : Prop := trieBackRow.holds Try.pinned (OpenSpec.ofChange trieBackWrong)

/-- 'scansionlaw03.TrieSaves': WHATEVER THE INPUT: true; the input reads as it did. -/
def trieSavesSpec : ChangeSpec := { name := "trieSaves", fn := fun _ => fun
  | [d] => { results := [.lit (.bool true)], args := [d] }
  | _ => none }
def trieSavesRow : OpenClaim := { program := "ytpaijpdmeiagfaa", sum := "984ae4c9997c57f528cb87f5f4c1e5df4c974648d90f2775b526f0d6f5161290", func := "scansion/scansionlaw03.TrieSaves", spec := "trieSaves", unfollowed := true, recurses := true, plainKeys := false, apart := false }
def TrieSavesSaid : Prop := trieSavesRow.holds Try.pinned (OpenSpec.ofChange trieSavesSpec)

/-- ITS FALSE NEIGHBOUR: 'it returns false'. Refute it at one input. -/
def trieSavesWrong : ChangeSpec := { name := "trieSaves", fn := fun _ => fun
  | [d] => { results := [.lit (.bool false)], args := [d] }
  | _ => none }
def TrieSavesWrongFalsely : Prop := trieSavesRow.holds Try.pinned (OpenSpec.ofChange trieSavesWrong)

/-- 'scansionlaw03.TrieAll': WHATEVER THE INPUT: true; the input reads as it did. -/
def trieAllSpec : ChangeSpec := { name := "trieAll", fn := fun _ => fun
  | [d] => { results := [.lit (.bool true)], args := [d] }
  | _ => none }
def trieAllRow : OpenClaim := { program := "ytpaijpdmeiagfaa", sum := "984ae4c9997c57f528cb87f5f4c1e5df4c974648d90f2775b526f0d6f5161290", func := "scansion/scansionlaw03.TrieAll", spec := "trieAll", unfollowed := true, recurses := true, plainKeys := false, apart := false }
def TrieAllSaid : Prop := trieAllRow.holds Try.pinned (OpenSpec.ofChange trieAllSpec)

/-- ITS FALSE NEIGHBOUR: 'it returns false'. Refute it at one input. -/
def trieAllWrong : ChangeSpec := { name := "trieAll", fn := fun _ => fun
  | [d] => { results := [.lit (.bool false)], args := [d] }
  | _ => none }
def TrieAllWrongFalsely : Prop := trieAllRow.holds Try.pinned (OpenSpec.ofChange trieAllWrong)

/- THE SECOND FORM. 'bulk': how many values and letters a reading holds, each counted each time it is reached (what is shared counts as often as it is met; a slice's spare places count too). A statement '..UptoSaid' is the law's where the arguments, and the package variables that the reading takes, are together of bulk at most 1048576: NARROWER than '..Said'. Prove '..Said' where nothing that the law and all that it calls make is longer than what came in: it says more and counts as full. Else prove '..UptoSaid'. A law counts once. -/
mutual
def uptoBulk {H : Type} : DataW H → Nat
  | .lit (.string bytes) => bytes.length + 1
  | .lit _ => 1
  | .nil => 1
  | .ptr d => uptoBulk d + 1
  | .slice elems spare => uptoBulkAll elems + uptoBulkAll spare + 1
  | .agg parts => uptoBulkAll parts + 1
  | .iface _ d => uptoBulk d + 1
  | .map entries => uptoBulkEntries entries + 1
  | .held _ => 1
def uptoBulkAll {H : Type} : List (DataW H) → Nat
  | [] => 0
  | d :: r => uptoBulk d + uptoBulkAll r
def uptoBulkEntries {H : Type} : List (Lit × DataW H) → Nat
  | [] => 0
  | x :: r => uptoBulkEntry x + uptoBulkEntries r
def uptoBulkEntry {H : Type} : Lit × DataW H → Nat
  | (.string bytes, d) => bytes.length + uptoBulk d + 1
  | (_, d) => uptoBulk d + 1
 end
def uptoSmall : (H : Type) → List (DataW H) → Bool := fun _ ds => decide (uptoBulkAll ds ≤ 1048576)
def OpenSpec.upto (s : _root_.Go.ChangeSpec) : _root_.Go.OpenSpec := { _root_.Go.OpenSpec.ofChange s with cond := some uptoSmall }

/-- 'scansionlaw03.TrieBuilds', WHERE WHAT IT READS IS OF BULK AT MOST 1048576: true; the input reads as it did. -/
def trieBuildsUptoRow : OpenClaim := { program := "ytpaijpdmeiagfaa", sum := "984ae4c9997c57f528cb87f5f4c1e5df4c974648d90f2775b526f0d6f5161290", func := "scansion/scansionlaw03.TrieBuilds", spec := "trieBuilds", unfollowed := true, recurses := true, plainKeys := false, apart := false, narrowed := true }
def TrieBuildsUptoSaid : Prop := trieBuildsUptoRow.holds Try.pinned (OpenSpec.upto trieBuildsSpec)

/-- 'scansionlaw03.TrieLater', WHERE WHAT IT READS IS OF BULK AT MOST 1048576: true; the input reads as it did. -/
def trieLaterUptoRow : OpenClaim := { program := "ytpaijpdmeiagfaa", sum := "984ae4c9997c57f528cb87f5f4c1e5df4c974648d90f2775b526f0d6f5161290", func := "scansion/scansionlaw03.TrieLater", spec := "trieLater", unfollowed := true, recurses := true, plainKeys := false, apart := false, narrowed := true }
def TrieLaterUptoSaid : Prop := trieLaterUptoRow.holds Try.pinned (OpenSpec.upto trieLaterSpec)

/-- 'scansionlaw03.TrieLow', WHERE WHAT IT READS IS OF BULK AT MOST 1048576: true; the input reads as it did. -/
def trieLowUptoRow : OpenClaim := { program := "ytpaijpdmeiagfaa", sum := "984ae4c9997c57f528cb87f5f4c1e5df4c974648d90f2775b526f0d6f5161290", func := "scansion/scansionlaw03.TrieLow", spec := "trieLow", unfollowed := true, recurses := true, plainKeys := false, apart := false, narrowed := true }
def TrieLowUptoSaid : Prop := trieLowUptoRow.holds Try.pinned (OpenSpec.upto trieLowSpec)

/-- 'scansionlaw03.TrieSame', WHERE WHAT IT READS IS OF BULK AT MOST 1048576: true; the input reads as it did. -/
def trieSameUptoRow : OpenClaim := { program := "ytpaijpdmeiagfaa", sum := "984ae4c9997c57f528cb87f5f4c1e5df4c974648d90f2775b526f0d6f5161290", func := "scansion/scansionlaw03.TrieSame", spec := "trieSame", unfollowed := true, recurses := true, plainKeys := false, apart := false, narrowed := true }
def TrieSameUptoSaid : Prop := trieSameUptoRow.holds Try.pinned (OpenSpec.upto trieSameSpec)

/-- 'scansionlaw03.TrieLoads', WHERE WHAT IT READS IS OF BULK AT MOST 1048576: true; the input reads as it did. -/
def trieLoadsUptoRow : OpenClaim := { program := "ytpaijpdmeiagfaa", sum := "984ae4c9997c57f528cb87f5f4c1e5df4c974648d90f2775b526f0d6f5161290", func := "scansion/scansionlaw03.TrieLoads", spec := "trieLoads", unfollowed := true, recurses := true, plainKeys := false, apart := false, narrowed := true }
def TrieLoadsUptoSaid : Prop := trieLoadsUptoRow.holds Try.pinned (OpenSpec.upto trieLoadsSpec)

/-- 'scansionlaw03.TrieBack', WHERE WHAT IT READS IS OF BULK AT MOST 1048576: true; the input reads as it did. -/
def trieBackUptoRow : OpenClaim := { program := "ytpaijpdmeiagfaa", sum := "984ae4c9997c57f528cb87f5f4c1e5df4c974648d90f2775b526f0d6f5161290", func := "scansion/scansionlaw03.TrieBack", spec := "trieBack", unfollowed := true, recurses := true, plainKeys := false, apart := false, narrowed := true }
def TrieBackUptoSaid : Prop := trieBackUptoRow.holds Try.pinned (OpenSpec.upto trieBackSpec)

/-- 'scansionlaw03.TrieSaves', WHERE WHAT IT READS IS OF BULK AT MOST 1048576: true; the input reads as it did. -/
def trieSavesUptoRow : OpenClaim := { program := "ytpaijpdmeiagfaa", sum := "984ae4c9997c57f528cb87f5f4c1e5df4c974648d90f2775b526f0d6f5161290", func := "scansion/scansionlaw03.TrieSaves", spec := "trieSaves", unfollowed := true, recurses := true, plainKeys := false, apart := false, narrowed := true }
def TrieSavesUptoSaid : Prop := trieSavesUptoRow.holds Try.pinned (OpenSpec.upto trieSavesSpec)

/-- 'scansionlaw03.TrieAll', WHERE WHAT IT READS IS OF BULK AT MOST 1048576: true; the input reads as it did. -/
def trieAllUptoRow : OpenClaim := { program := "ytpaijpdmeiagfaa", sum := "984ae4c9997c57f528cb87f5f4c1e5df4c974648d90f2775b526f0d6f5161290", func := "scansion/scansionlaw03.TrieAll", spec := "trieAll", unfollowed := true, recurses := true, plainKeys := false, apart := false, narrowed := true }
def TrieAllUptoSaid : Prop := trieAllUptoRow.holds Try.pinned (OpenSpec.upto trieAllSpec)

end Rows
end Go.Proofs.Ytpaijpdmeiagfaa
