/-
  NARROWER THAN 'FOR EVERY INPUT', by the rows' own cells (each row's printed sentence says how): WordsLetters: laid · UcdTells: laid · WordsSpaces: laid · UcdHangul: laid · UcdMarks: laid · UcdOutside: laid · UcdSaves: laid · UcdLoads: laid · UcdBytes: laid · ClusterBreaks: laid · ClusterControls: laid · ClusterMarks: laid · ClusterFlags: laid · ClusterLocal: laid · ClusterAsks: laid · ClusterParts: laid · WordsBreaks: laid · WordsAsks: laid · WordsParts: laid · WordsMarks: laid · WordsLines: laid.
  DERIVED. THE GIVEN ROWS OF THIS SEAT. 21 by the template 'for every input the law returns true; each argument reads behind the call as it read before'; 0 by the template 'total and deterministic' (their statements: YtpaijpdmeiagfaaDoorTotals.lean).
  GIVEN WITH THE SEED: the statements are not yours to turn. If you find one false, say at which input.
  Laid BY PROGRAM, IN A SANDBOX (cutbox-rows.mjs): the forced cells as the released guide's own fill.sh prints them over the translation 5d8f19ecb82e7355… (all of the seat's roots in one cut). By AI agents, Wed Nov 11 2026. No macro, syntax, notation, axiom, sorry.
-/
import Derived.Test.YtpaijpdmeiagfaaDoorChecked
import GoSem.Claim
import GoSem.ClaimJoined
import GoSem.ClaimMapViews
import Derived.JoinedTies
import Derived.KernelRfl
namespace Go.Proofs.YtpaijpdmeiagfaaDoor
/- THE CELL 'sum', in the pinned program and in every row, IS THE sha256 OF THE DUMP (.gsa) THAT YtpaijpdmeiagfaaDoorProg.lean LOADS. Nothing in Lean hashes anything: it is a label: what it is worth is what the hold of that sum in a sandbox is worth. -/
noncomputable def Tryd.pinned : Pinned := { name := "ytpaijpdmeiagfaadoor", sum := "5d8f19ecb82e7355c4b604e1674db3190cae465b320610b7c01219af47e25699", checked := Tryd.checked }
namespace Rows
def none {H : Type} : Left H := { results := [], args := [] }

/- WHAT THE LISTED PACKAGE-LEVEL VARIABLES READ AS WHEN THE CALL BEGINS. Each datum BY PROGRAM (the guide's laid-datum.mjs) off the statement by which the dump's own 'gosem.cut.vars' lays the variable. In a bare row this is a premise. The card (YtpaijpdmeiagfaaDoorCards.lean) ties it to the program's text. -/
def laid_scansion_ucd_scriptRows {H : Type} : DataW H := .agg [.agg [.lit (.int .i64 3585), .lit (.int .i64 3642), .lit (.int .u8 2)], .agg [.lit (.int .i64 3648), .lit (.int .i64 3662), .lit (.int .u8 2)], .agg [.lit (.int .i64 3713), .lit (.int .i64 3773), .lit (.int .u8 3)], .agg [.lit (.int .i64 3776), .lit (.int .i64 3790), .lit (.int .u8 3)], .agg [.lit (.int .i64 3804), .lit (.int .i64 3807), .lit (.int .u8 3)], .agg [.lit (.int .i64 6016), .lit (.int .i64 6067), .lit (.int .u8 4)], .agg [.lit (.int .i64 6070), .lit (.int .i64 6099), .lit (.int .u8 4)], .agg [.lit (.int .i64 6103), .lit (.int .i64 6103), .lit (.int .u8 4)], .agg [.lit (.int .i64 6108), .lit (.int .i64 6109), .lit (.int .u8 4)], .agg [.lit (.int .i64 11904), .lit (.int .i64 12245), .lit (.int .u8 1)], .agg [.lit (.int .i64 12293), .lit (.int .i64 12295), .lit (.int .u8 1)], .agg [.lit (.int .i64 12321), .lit (.int .i64 12329), .lit (.int .u8 1)], .agg [.lit (.int .i64 12344), .lit (.int .i64 12347), .lit (.int .u8 1)], .agg [.lit (.int .i64 12353), .lit (.int .i64 12438), .lit (.int .u8 1)], .agg [.lit (.int .i64 12445), .lit (.int .i64 12447), .lit (.int .u8 1)], .agg [.lit (.int .i64 12449), .lit (.int .i64 12538), .lit (.int .u8 1)], .agg [.lit (.int .i64 12541), .lit (.int .i64 12543), .lit (.int .u8 1)], .agg [.lit (.int .i64 12784), .lit (.int .i64 12799), .lit (.int .u8 1)], .agg [.lit (.int .i64 13312), .lit (.int .i64 19903), .lit (.int .u8 1)], .agg [.lit (.int .i64 19968), .lit (.int .i64 40959), .lit (.int .u8 1)], .agg [.lit (.int .i64 63744), .lit (.int .i64 64217), .lit (.int .u8 1)], .agg [.lit (.int .i64 65382), .lit (.int .i64 65391), .lit (.int .u8 1)], .agg [.lit (.int .i64 65393), .lit (.int .i64 65437), .lit (.int .u8 1)], .agg [.lit (.int .i64 131072), .lit (.int .i64 195101), .lit (.int .u8 1)]]

/-- 'scansionlaw06.WordsLetters': WHATEVER THE INPUT: true; the input reads as it did. -/
def wordsLettersSpec : ChangeSpec := { name := "wordsLetters", fn := fun _ => fun
  | [d] => { results := [.lit (.bool true)], args := [d] }
  | _ => none }
def wordsLettersRow : OpenClaim := { program := "ytpaijpdmeiagfaadoor", sum := "5d8f19ecb82e7355c4b604e1674db3190cae465b320610b7c01219af47e25699", func := "scansion/scansionlaw06.WordsLetters", spec := "wordsLetters", unfollowed := true, recurses := true, named := ["scansion/ucd.scriptRows"], plainKeys := false, apart := false, laid := [("scansion/ucd.scriptRows", laid_scansion_ucd_scriptRows)] }
def WordsLettersSaid : Prop := wordsLettersRow.holds Tryd.pinned (OpenSpec.ofChange wordsLettersSpec)

/-- ITS FALSE NEIGHBOUR: 'it returns false'. Refute it at one input. -/
def wordsLettersWrong : ChangeSpec := { name := "wordsLetters", fn := fun _ => fun
  | [d] => { results := [.lit (.bool false)], args := [d] }
  | _ => none }
def WordsLettersWrongFalsely : Prop := wordsLettersRow.holds Tryd.pinned (OpenSpec.ofChange wordsLettersWrong)

/-- 'scansionlaw04.UcdTells': WHATEVER THE INPUT: true; the input reads as it did. -/
def ucdTellsSpec : ChangeSpec := { name := "ucdTells", fn := fun _ => fun
  | [d] => { results := [.lit (.bool true)], args := [d] }
  | _ => none }
def ucdTellsRow : OpenClaim := { program := "ytpaijpdmeiagfaadoor", sum := "5d8f19ecb82e7355c4b604e1674db3190cae465b320610b7c01219af47e25699", func := "scansion/scansionlaw04.UcdTells", spec := "ucdTells", unfollowed := true, recurses := true, named := ["scansion/ucd.scriptRows"], plainKeys := false, apart := false, laid := [("scansion/ucd.scriptRows", laid_scansion_ucd_scriptRows)] }
def UcdTellsSaid : Prop := ucdTellsRow.holds Tryd.pinned (OpenSpec.ofChange ucdTellsSpec)

/-- ITS FALSE NEIGHBOUR: 'it returns false'. Refute it at one input. -/
def ucdTellsWrong : ChangeSpec := { name := "ucdTells", fn := fun _ => fun
  | [d] => { results := [.lit (.bool false)], args := [d] }
  | _ => none }
def UcdTellsWrongFalsely : Prop := ucdTellsRow.holds Tryd.pinned (OpenSpec.ofChange ucdTellsWrong)

/-- 'scansionlaw06.WordsSpaces': WHATEVER THE INPUT: true; the input reads as it did. -/
def wordsSpacesSpec : ChangeSpec := { name := "wordsSpaces", fn := fun _ => fun
  | [d1, d2] => { results := [.lit (.bool true)], args := [d1, d2] }
  | _ => none }
def wordsSpacesRow : OpenClaim := { program := "ytpaijpdmeiagfaadoor", sum := "5d8f19ecb82e7355c4b604e1674db3190cae465b320610b7c01219af47e25699", func := "scansion/scansionlaw06.WordsSpaces", spec := "wordsSpaces", unfollowed := true, recurses := true, named := ["scansion/ucd.scriptRows"], plainKeys := false, apart := false, laid := [("scansion/ucd.scriptRows", laid_scansion_ucd_scriptRows)] }
def WordsSpacesSaid : Prop := wordsSpacesRow.holds Tryd.pinned (OpenSpec.ofChange wordsSpacesSpec)

/-- ITS FALSE NEIGHBOUR: 'it returns false'. Refute it at one input. -/
def wordsSpacesWrong : ChangeSpec := { name := "wordsSpaces", fn := fun _ => fun
  | [d1, d2] => { results := [.lit (.bool false)], args := [d1, d2] }
  | _ => none }
def WordsSpacesWrongFalsely : Prop := wordsSpacesRow.holds Tryd.pinned (OpenSpec.ofChange wordsSpacesWrong)

/-- 'scansionlaw04.UcdHangul': WHATEVER THE INPUT: true; the input reads as it did. -/
def ucdHangulSpec : ChangeSpec := { name := "ucdHangul", fn := fun _ => fun
  | [d] => { results := [.lit (.bool true)], args := [d] }
  | _ => none }
def ucdHangulRow : OpenClaim := { program := "ytpaijpdmeiagfaadoor", sum := "5d8f19ecb82e7355c4b604e1674db3190cae465b320610b7c01219af47e25699", func := "scansion/scansionlaw04.UcdHangul", spec := "ucdHangul", unfollowed := true, recurses := true, named := ["scansion/ucd.scriptRows"], plainKeys := false, apart := false, laid := [("scansion/ucd.scriptRows", laid_scansion_ucd_scriptRows)] }
def UcdHangulSaid : Prop := ucdHangulRow.holds Tryd.pinned (OpenSpec.ofChange ucdHangulSpec)

/-- ITS FALSE NEIGHBOUR: 'it returns false'. Refute it at one input. -/
def ucdHangulWrong : ChangeSpec := { name := "ucdHangul", fn := fun _ => fun
  | [d] => { results := [.lit (.bool false)], args := [d] }
  | _ => none }
def UcdHangulWrongFalsely : Prop := ucdHangulRow.holds Tryd.pinned (OpenSpec.ofChange ucdHangulWrong)

/-- 'scansionlaw04.UcdMarks': WHATEVER THE INPUT: true; the input reads as it did. -/
def ucdMarksSpec : ChangeSpec := { name := "ucdMarks", fn := fun _ => fun
  | [d] => { results := [.lit (.bool true)], args := [d] }
  | _ => none }
def ucdMarksRow : OpenClaim := { program := "ytpaijpdmeiagfaadoor", sum := "5d8f19ecb82e7355c4b604e1674db3190cae465b320610b7c01219af47e25699", func := "scansion/scansionlaw04.UcdMarks", spec := "ucdMarks", unfollowed := true, recurses := true, named := ["scansion/ucd.scriptRows"], plainKeys := false, apart := false, laid := [("scansion/ucd.scriptRows", laid_scansion_ucd_scriptRows)] }
def UcdMarksSaid : Prop := ucdMarksRow.holds Tryd.pinned (OpenSpec.ofChange ucdMarksSpec)

/-- ITS FALSE NEIGHBOUR: 'it returns false'. Refute it at one input. -/
def ucdMarksWrong : ChangeSpec := { name := "ucdMarks", fn := fun _ => fun
  | [d] => { results := [.lit (.bool false)], args := [d] }
  | _ => none }
def UcdMarksWrongFalsely : Prop := ucdMarksRow.holds Tryd.pinned (OpenSpec.ofChange ucdMarksWrong)

/-- 'scansionlaw04.UcdOutside': WHATEVER THE INPUT: true; the input reads as it did. -/
def ucdOutsideSpec : ChangeSpec := { name := "ucdOutside", fn := fun _ => fun
  | [d] => { results := [.lit (.bool true)], args := [d] }
  | _ => none }
def ucdOutsideRow : OpenClaim := { program := "ytpaijpdmeiagfaadoor", sum := "5d8f19ecb82e7355c4b604e1674db3190cae465b320610b7c01219af47e25699", func := "scansion/scansionlaw04.UcdOutside", spec := "ucdOutside", unfollowed := true, recurses := true, named := ["scansion/ucd.scriptRows"], plainKeys := false, apart := false, laid := [("scansion/ucd.scriptRows", laid_scansion_ucd_scriptRows)] }
def UcdOutsideSaid : Prop := ucdOutsideRow.holds Tryd.pinned (OpenSpec.ofChange ucdOutsideSpec)

/-- ITS FALSE NEIGHBOUR: 'it returns false'. Refute it at one input. -/
def ucdOutsideWrong : ChangeSpec := { name := "ucdOutside", fn := fun _ => fun
  | [d] => { results := [.lit (.bool false)], args := [d] }
  | _ => none }
def UcdOutsideWrongFalsely : Prop := ucdOutsideRow.holds Tryd.pinned (OpenSpec.ofChange ucdOutsideWrong)

/-- 'scansionlaw04.UcdSaves': WHATEVER THE INPUT: true; the input reads as it did. -/
def ucdSavesSpec : ChangeSpec := { name := "ucdSaves", fn := fun _ => fun
  | [d] => { results := [.lit (.bool true)], args := [d] }
  | _ => none }
def ucdSavesRow : OpenClaim := { program := "ytpaijpdmeiagfaadoor", sum := "5d8f19ecb82e7355c4b604e1674db3190cae465b320610b7c01219af47e25699", func := "scansion/scansionlaw04.UcdSaves", spec := "ucdSaves", unfollowed := true, recurses := true, named := ["scansion/ucd.scriptRows"], plainKeys := false, apart := false, laid := [("scansion/ucd.scriptRows", laid_scansion_ucd_scriptRows)] }
def UcdSavesSaid : Prop := ucdSavesRow.holds Tryd.pinned (OpenSpec.ofChange ucdSavesSpec)

/-- ITS FALSE NEIGHBOUR: 'it returns false'. Refute it at one input. -/
def ucdSavesWrong : ChangeSpec := { name := "ucdSaves", fn := fun _ => fun
  | [d] => { results := [.lit (.bool false)], args := [d] }
  | _ => none }
def UcdSavesWrongFalsely : Prop := ucdSavesRow.holds Tryd.pinned (OpenSpec.ofChange ucdSavesWrong)

/-- 'scansionlaw04.UcdLoads': WHATEVER THE INPUT: true; the input reads as it did. -/
def ucdLoadsSpec : ChangeSpec := { name := "ucdLoads", fn := fun _ => fun
  | [d1, d2, d3] => { results := [.lit (.bool true)], args := [d1, d2, d3] }
  | _ => none }
def ucdLoadsRow : OpenClaim := { program := "ytpaijpdmeiagfaadoor", sum := "5d8f19ecb82e7355c4b604e1674db3190cae465b320610b7c01219af47e25699", func := "scansion/scansionlaw04.UcdLoads", spec := "ucdLoads", unfollowed := true, recurses := true, named := ["scansion/ucd.scriptRows"], plainKeys := false, apart := false, laid := [("scansion/ucd.scriptRows", laid_scansion_ucd_scriptRows)] }
def UcdLoadsSaid : Prop := ucdLoadsRow.holds Tryd.pinned (OpenSpec.ofChange ucdLoadsSpec)

/-- ITS FALSE NEIGHBOUR: 'it returns false'. Refute it at one input. -/
def ucdLoadsWrong : ChangeSpec := { name := "ucdLoads", fn := fun _ => fun
  | [d1, d2, d3] => { results := [.lit (.bool false)], args := [d1, d2, d3] }
  | _ => none }
def UcdLoadsWrongFalsely : Prop := ucdLoadsRow.holds Tryd.pinned (OpenSpec.ofChange ucdLoadsWrong)

/-- 'scansionlaw04.UcdBytes': WHATEVER THE INPUT: true; the input reads as it did. -/
def ucdBytesSpec : ChangeSpec := { name := "ucdBytes", fn := fun _ => fun
  | [d] => { results := [.lit (.bool true)], args := [d] }
  | _ => none }
def ucdBytesRow : OpenClaim := { program := "ytpaijpdmeiagfaadoor", sum := "5d8f19ecb82e7355c4b604e1674db3190cae465b320610b7c01219af47e25699", func := "scansion/scansionlaw04.UcdBytes", spec := "ucdBytes", unfollowed := true, recurses := true, named := ["scansion/ucd.scriptRows"], plainKeys := false, apart := false, laid := [("scansion/ucd.scriptRows", laid_scansion_ucd_scriptRows)] }
def UcdBytesSaid : Prop := ucdBytesRow.holds Tryd.pinned (OpenSpec.ofChange ucdBytesSpec)

/-- ITS FALSE NEIGHBOUR: 'it returns false'. Refute it at one input. -/
def ucdBytesWrong : ChangeSpec := { name := "ucdBytes", fn := fun _ => fun
  | [d] => { results := [.lit (.bool false)], args := [d] }
  | _ => none }
def UcdBytesWrongFalsely : Prop := ucdBytesRow.holds Tryd.pinned (OpenSpec.ofChange ucdBytesWrong)

/-- 'scansionlaw05.ClusterBreaks': WHATEVER THE INPUT: true; the input reads as it did. -/
def clusterBreaksSpec : ChangeSpec := { name := "clusterBreaks", fn := fun _ => fun
  | [d] => { results := [.lit (.bool true)], args := [d] }
  | _ => none }
def clusterBreaksRow : OpenClaim := { program := "ytpaijpdmeiagfaadoor", sum := "5d8f19ecb82e7355c4b604e1674db3190cae465b320610b7c01219af47e25699", func := "scansion/scansionlaw05.ClusterBreaks", spec := "clusterBreaks", unfollowed := true, recurses := true, named := ["scansion/ucd.scriptRows"], plainKeys := false, apart := false, laid := [("scansion/ucd.scriptRows", laid_scansion_ucd_scriptRows)] }
def ClusterBreaksSaid : Prop := clusterBreaksRow.holds Tryd.pinned (OpenSpec.ofChange clusterBreaksSpec)

/-- ITS FALSE NEIGHBOUR: 'it returns false'. Refute it at one input. -/
def clusterBreaksWrong : ChangeSpec := { name := "clusterBreaks", fn := fun _ => fun
  | [d] => { results := [.lit (.bool false)], args := [d] }
  | _ => none }
def ClusterBreaksWrongFalsely : Prop := clusterBreaksRow.holds Tryd.pinned (OpenSpec.ofChange clusterBreaksWrong)

/-- 'scansionlaw05.ClusterControls': WHATEVER THE INPUT: true; the input reads as it did. -/
def clusterControlsSpec : ChangeSpec := { name := "clusterControls", fn := fun _ => fun
  | [d1, d2] => { results := [.lit (.bool true)], args := [d1, d2] }
  | _ => none }
def clusterControlsRow : OpenClaim := { program := "ytpaijpdmeiagfaadoor", sum := "5d8f19ecb82e7355c4b604e1674db3190cae465b320610b7c01219af47e25699", func := "scansion/scansionlaw05.ClusterControls", spec := "clusterControls", unfollowed := true, recurses := true, named := ["scansion/ucd.scriptRows"], plainKeys := false, apart := false, laid := [("scansion/ucd.scriptRows", laid_scansion_ucd_scriptRows)] }
def ClusterControlsSaid : Prop := clusterControlsRow.holds Tryd.pinned (OpenSpec.ofChange clusterControlsSpec)

/-- ITS FALSE NEIGHBOUR: 'it returns false'. Refute it at one input. -/
def clusterControlsWrong : ChangeSpec := { name := "clusterControls", fn := fun _ => fun
  | [d1, d2] => { results := [.lit (.bool false)], args := [d1, d2] }
  | _ => none }
def ClusterControlsWrongFalsely : Prop := clusterControlsRow.holds Tryd.pinned (OpenSpec.ofChange clusterControlsWrong)

/-- 'scansionlaw05.ClusterMarks': WHATEVER THE INPUT: true; the input reads as it did. -/
def clusterMarksSpec : ChangeSpec := { name := "clusterMarks", fn := fun _ => fun
  | [d1, d2] => { results := [.lit (.bool true)], args := [d1, d2] }
  | _ => none }
def clusterMarksRow : OpenClaim := { program := "ytpaijpdmeiagfaadoor", sum := "5d8f19ecb82e7355c4b604e1674db3190cae465b320610b7c01219af47e25699", func := "scansion/scansionlaw05.ClusterMarks", spec := "clusterMarks", unfollowed := true, recurses := true, named := ["scansion/ucd.scriptRows"], plainKeys := false, apart := false, laid := [("scansion/ucd.scriptRows", laid_scansion_ucd_scriptRows)] }
def ClusterMarksSaid : Prop := clusterMarksRow.holds Tryd.pinned (OpenSpec.ofChange clusterMarksSpec)

/-- ITS FALSE NEIGHBOUR: 'it returns false'. Refute it at one input. -/
def clusterMarksWrong : ChangeSpec := { name := "clusterMarks", fn := fun _ => fun
  | [d1, d2] => { results := [.lit (.bool false)], args := [d1, d2] }
  | _ => none }
def ClusterMarksWrongFalsely : Prop := clusterMarksRow.holds Tryd.pinned (OpenSpec.ofChange clusterMarksWrong)

/-- 'scansionlaw05.ClusterFlags': WHATEVER THE INPUT: true; the input reads as it did. -/
def clusterFlagsSpec : ChangeSpec := { name := "clusterFlags", fn := fun _ => fun
  | [d] => { results := [.lit (.bool true)], args := [d] }
  | _ => none }
def clusterFlagsRow : OpenClaim := { program := "ytpaijpdmeiagfaadoor", sum := "5d8f19ecb82e7355c4b604e1674db3190cae465b320610b7c01219af47e25699", func := "scansion/scansionlaw05.ClusterFlags", spec := "clusterFlags", unfollowed := true, recurses := true, named := ["scansion/ucd.scriptRows"], plainKeys := false, apart := false, laid := [("scansion/ucd.scriptRows", laid_scansion_ucd_scriptRows)] }
def ClusterFlagsSaid : Prop := clusterFlagsRow.holds Tryd.pinned (OpenSpec.ofChange clusterFlagsSpec)

/-- ITS FALSE NEIGHBOUR: 'it returns false'. Refute it at one input. -/
def clusterFlagsWrong : ChangeSpec := { name := "clusterFlags", fn := fun _ => fun
  | [d] => { results := [.lit (.bool false)], args := [d] }
  | _ => none }
def ClusterFlagsWrongFalsely : Prop := clusterFlagsRow.holds Tryd.pinned (OpenSpec.ofChange clusterFlagsWrong)

/-- 'scansionlaw05.ClusterLocal': WHATEVER THE INPUT: true; the input reads as it did. -/
def clusterLocalSpec : ChangeSpec := { name := "clusterLocal", fn := fun _ => fun
  | [d1, d2, d3] => { results := [.lit (.bool true)], args := [d1, d2, d3] }
  | _ => none }
def clusterLocalRow : OpenClaim := { program := "ytpaijpdmeiagfaadoor", sum := "5d8f19ecb82e7355c4b604e1674db3190cae465b320610b7c01219af47e25699", func := "scansion/scansionlaw05.ClusterLocal", spec := "clusterLocal", unfollowed := true, recurses := true, named := ["scansion/ucd.scriptRows"], plainKeys := false, apart := false, laid := [("scansion/ucd.scriptRows", laid_scansion_ucd_scriptRows)] }
def ClusterLocalSaid : Prop := clusterLocalRow.holds Tryd.pinned (OpenSpec.ofChange clusterLocalSpec)

/-- ITS FALSE NEIGHBOUR: 'it returns false'. Refute it at one input. -/
def clusterLocalWrong : ChangeSpec := { name := "clusterLocal", fn := fun _ => fun
  | [d1, d2, d3] => { results := [.lit (.bool false)], args := [d1, d2, d3] }
  | _ => none }
def ClusterLocalWrongFalsely : Prop := clusterLocalRow.holds Tryd.pinned (OpenSpec.ofChange clusterLocalWrong)

/-- 'scansionlaw05.ClusterAsks': WHATEVER THE INPUT: true; the input reads as it did. -/
def clusterAsksSpec : ChangeSpec := { name := "clusterAsks", fn := fun _ => fun
  | [d1, d2] => { results := [.lit (.bool true)], args := [d1, d2] }
  | _ => none }
def clusterAsksRow : OpenClaim := { program := "ytpaijpdmeiagfaadoor", sum := "5d8f19ecb82e7355c4b604e1674db3190cae465b320610b7c01219af47e25699", func := "scansion/scansionlaw05.ClusterAsks", spec := "clusterAsks", unfollowed := true, recurses := true, named := ["scansion/ucd.scriptRows"], plainKeys := false, apart := false, laid := [("scansion/ucd.scriptRows", laid_scansion_ucd_scriptRows)] }
def ClusterAsksSaid : Prop := clusterAsksRow.holds Tryd.pinned (OpenSpec.ofChange clusterAsksSpec)

/-- ITS FALSE NEIGHBOUR: 'it returns false'. Refute it at one input. -/
def clusterAsksWrong : ChangeSpec := { name := "clusterAsks", fn := fun _ => fun
  | [d1, d2] => { results := [.lit (.bool false)], args := [d1, d2] }
  | _ => none }
def ClusterAsksWrongFalsely : Prop := clusterAsksRow.holds Tryd.pinned (OpenSpec.ofChange clusterAsksWrong)

/-- 'scansionlaw05.ClusterParts': WHATEVER THE INPUT: true; the input reads as it did. -/
def clusterPartsSpec : ChangeSpec := { name := "clusterParts", fn := fun _ => fun
  | [d] => { results := [.lit (.bool true)], args := [d] }
  | _ => none }
def clusterPartsRow : OpenClaim := { program := "ytpaijpdmeiagfaadoor", sum := "5d8f19ecb82e7355c4b604e1674db3190cae465b320610b7c01219af47e25699", func := "scansion/scansionlaw05.ClusterParts", spec := "clusterParts", unfollowed := true, recurses := true, named := ["scansion/ucd.scriptRows"], plainKeys := false, apart := false, laid := [("scansion/ucd.scriptRows", laid_scansion_ucd_scriptRows)] }
def ClusterPartsSaid : Prop := clusterPartsRow.holds Tryd.pinned (OpenSpec.ofChange clusterPartsSpec)

/-- ITS FALSE NEIGHBOUR: 'it returns false'. Refute it at one input. -/
def clusterPartsWrong : ChangeSpec := { name := "clusterParts", fn := fun _ => fun
  | [d] => { results := [.lit (.bool false)], args := [d] }
  | _ => none }
def ClusterPartsWrongFalsely : Prop := clusterPartsRow.holds Tryd.pinned (OpenSpec.ofChange clusterPartsWrong)

/-- 'scansionlaw06.WordsBreaks': WHATEVER THE INPUT: true; the input reads as it did. -/
def wordsBreaksSpec : ChangeSpec := { name := "wordsBreaks", fn := fun _ => fun
  | [d] => { results := [.lit (.bool true)], args := [d] }
  | _ => none }
def wordsBreaksRow : OpenClaim := { program := "ytpaijpdmeiagfaadoor", sum := "5d8f19ecb82e7355c4b604e1674db3190cae465b320610b7c01219af47e25699", func := "scansion/scansionlaw06.WordsBreaks", spec := "wordsBreaks", unfollowed := true, recurses := true, named := ["scansion/ucd.scriptRows"], plainKeys := false, apart := false, laid := [("scansion/ucd.scriptRows", laid_scansion_ucd_scriptRows)] }
def WordsBreaksSaid : Prop := wordsBreaksRow.holds Tryd.pinned (OpenSpec.ofChange wordsBreaksSpec)

/-- ITS FALSE NEIGHBOUR: 'it returns false'. Refute it at one input. -/
def wordsBreaksWrong : ChangeSpec := { name := "wordsBreaks", fn := fun _ => fun
  | [d] => { results := [.lit (.bool false)], args := [d] }
  | _ => none }
def WordsBreaksWrongFalsely : Prop := wordsBreaksRow.holds Tryd.pinned (OpenSpec.ofChange wordsBreaksWrong)

/-- 'scansionlaw06.WordsAsks': WHATEVER THE INPUT: true; the input reads as it did. -/
def wordsAsksSpec : ChangeSpec := { name := "wordsAsks", fn := fun _ => fun
  | [d1, d2] => { results := [.lit (.bool true)], args := [d1, d2] }
  | _ => none }
def wordsAsksRow : OpenClaim := { program := "ytpaijpdmeiagfaadoor", sum := "5d8f19ecb82e7355c4b604e1674db3190cae465b320610b7c01219af47e25699", func := "scansion/scansionlaw06.WordsAsks", spec := "wordsAsks", unfollowed := true, recurses := true, named := ["scansion/ucd.scriptRows"], plainKeys := false, apart := false, laid := [("scansion/ucd.scriptRows", laid_scansion_ucd_scriptRows)] }
def WordsAsksSaid : Prop := wordsAsksRow.holds Tryd.pinned (OpenSpec.ofChange wordsAsksSpec)

/-- ITS FALSE NEIGHBOUR: 'it returns false'. Refute it at one input. -/
def wordsAsksWrong : ChangeSpec := { name := "wordsAsks", fn := fun _ => fun
  | [d1, d2] => { results := [.lit (.bool false)], args := [d1, d2] }
  | _ => none }
def WordsAsksWrongFalsely : Prop := wordsAsksRow.holds Tryd.pinned (OpenSpec.ofChange wordsAsksWrong)

/-- 'scansionlaw06.WordsParts': WHATEVER THE INPUT: true; the input reads as it did. -/
def wordsPartsSpec : ChangeSpec := { name := "wordsParts", fn := fun _ => fun
  | [d] => { results := [.lit (.bool true)], args := [d] }
  | _ => none }
def wordsPartsRow : OpenClaim := { program := "ytpaijpdmeiagfaadoor", sum := "5d8f19ecb82e7355c4b604e1674db3190cae465b320610b7c01219af47e25699", func := "scansion/scansionlaw06.WordsParts", spec := "wordsParts", unfollowed := true, recurses := true, named := ["scansion/ucd.scriptRows"], plainKeys := false, apart := false, laid := [("scansion/ucd.scriptRows", laid_scansion_ucd_scriptRows)] }
def WordsPartsSaid : Prop := wordsPartsRow.holds Tryd.pinned (OpenSpec.ofChange wordsPartsSpec)

/-- ITS FALSE NEIGHBOUR: 'it returns false'. Refute it at one input. -/
def wordsPartsWrong : ChangeSpec := { name := "wordsParts", fn := fun _ => fun
  | [d] => { results := [.lit (.bool false)], args := [d] }
  | _ => none }
def WordsPartsWrongFalsely : Prop := wordsPartsRow.holds Tryd.pinned (OpenSpec.ofChange wordsPartsWrong)

/-- 'scansionlaw06.WordsMarks': WHATEVER THE INPUT: true; the input reads as it did. -/
def wordsMarksSpec : ChangeSpec := { name := "wordsMarks", fn := fun _ => fun
  | [d1, d2] => { results := [.lit (.bool true)], args := [d1, d2] }
  | _ => none }
def wordsMarksRow : OpenClaim := { program := "ytpaijpdmeiagfaadoor", sum := "5d8f19ecb82e7355c4b604e1674db3190cae465b320610b7c01219af47e25699", func := "scansion/scansionlaw06.WordsMarks", spec := "wordsMarks", unfollowed := true, recurses := true, named := ["scansion/ucd.scriptRows"], plainKeys := false, apart := false, laid := [("scansion/ucd.scriptRows", laid_scansion_ucd_scriptRows)] }
def WordsMarksSaid : Prop := wordsMarksRow.holds Tryd.pinned (OpenSpec.ofChange wordsMarksSpec)

/-- ITS FALSE NEIGHBOUR: 'it returns false'. Refute it at one input. -/
def wordsMarksWrong : ChangeSpec := { name := "wordsMarks", fn := fun _ => fun
  | [d1, d2] => { results := [.lit (.bool false)], args := [d1, d2] }
  | _ => none }
def WordsMarksWrongFalsely : Prop := wordsMarksRow.holds Tryd.pinned (OpenSpec.ofChange wordsMarksWrong)

/-- 'scansionlaw06.WordsLines': WHATEVER THE INPUT: true; the input reads as it did. -/
def wordsLinesSpec : ChangeSpec := { name := "wordsLines", fn := fun _ => fun
  | [d1, d2] => { results := [.lit (.bool true)], args := [d1, d2] }
  | _ => none }
def wordsLinesRow : OpenClaim := { program := "ytpaijpdmeiagfaadoor", sum := "5d8f19ecb82e7355c4b604e1674db3190cae465b320610b7c01219af47e25699", func := "scansion/scansionlaw06.WordsLines", spec := "wordsLines", unfollowed := true, recurses := true, named := ["scansion/ucd.scriptRows"], plainKeys := false, apart := false, laid := [("scansion/ucd.scriptRows", laid_scansion_ucd_scriptRows)] }
def WordsLinesSaid : Prop := wordsLinesRow.holds Tryd.pinned (OpenSpec.ofChange wordsLinesSpec)

/-- ITS FALSE NEIGHBOUR: 'it returns false'. Refute it at one input. -/
def wordsLinesWrong : ChangeSpec := { name := "wordsLines", fn := fun _ => fun
  | [d1, d2] => { results := [.lit (.bool false)], args := [d1, d2] }
  | _ => none }
def WordsLinesWrongFalsely : Prop := wordsLinesRow.holds Tryd.pinned (OpenSpec.ofChange wordsLinesWrong)

/- THE SECOND FORM. 'bulk': how many values and letters a reading holds, each counted each time it is reached (what is shared counts as often as it is met; a slice's spare places count too). A statement '..UptoSaid' is the law's where the arguments, and the package variables that the reading takes, are together of bulk at most 1048576: NARROWER than '..Said'. Prove '..Said' where nothing that the law and all that it calls make is longer than what came in: it says more and counts as full. Else prove '..UptoSaid'. A law counts once. -/
mutual
def uptoBulk {H : Type} : DataW H → Nat
  | .lit (.string bytes) => bytes.length + 1
  | .lit _ => 1
  | .nil => 1
  | .ptr d => uptoBulk d + 1
  | .slice elems spare => uptoBulkAll elems + uptoBulkAll spare + 1
  | .agg parts => uptoBulkAll parts + 1
  | .iface _ d => uptoBulk d + 1
  | .map entries => uptoBulkEntries entries + 1
  | .held _ => 1
def uptoBulkAll {H : Type} : List (DataW H) → Nat
  | [] => 0
  | d :: r => uptoBulk d + uptoBulkAll r
def uptoBulkEntries {H : Type} : List (Lit × DataW H) → Nat
  | [] => 0
  | x :: r => uptoBulkEntry x + uptoBulkEntries r
def uptoBulkEntry {H : Type} : Lit × DataW H → Nat
  | (.string bytes, d) => bytes.length + uptoBulk d + 1
  | (_, d) => uptoBulk d + 1
 end
def uptoSmall : (H : Type) → List (DataW H) → Bool := fun _ ds => decide (uptoBulkAll ds ≤ 1048576)
def OpenSpec.upto (s : _root_.Go.ChangeSpec) : _root_.Go.OpenSpec := { _root_.Go.OpenSpec.ofChange s with cond := some uptoSmall }

/-- 'scansionlaw06.WordsLetters', WHERE WHAT IT READS IS OF BULK AT MOST 1048576: true; the input reads as it did. -/
def wordsLettersUptoRow : OpenClaim := { program := "ytpaijpdmeiagfaadoor", sum := "5d8f19ecb82e7355c4b604e1674db3190cae465b320610b7c01219af47e25699", func := "scansion/scansionlaw06.WordsLetters", spec := "wordsLetters", unfollowed := true, recurses := true, named := ["scansion/ucd.scriptRows"], plainKeys := false, apart := false, laid := [("scansion/ucd.scriptRows", laid_scansion_ucd_scriptRows)], narrowed := true }
def WordsLettersUptoSaid : Prop := wordsLettersUptoRow.holds Tryd.pinned (OpenSpec.upto wordsLettersSpec)

/-- 'scansionlaw04.UcdTells', WHERE WHAT IT READS IS OF BULK AT MOST 1048576: true; the input reads as it did. -/
def ucdTellsUptoRow : OpenClaim := { program := "ytpaijpdmeiagfaadoor", sum := "5d8f19ecb82e7355c4b604e1674db3190cae465b320610b7c01219af47e25699", func := "scansion/scansionlaw04.UcdTells", spec := "ucdTells", unfollowed := true, recurses := true, named := ["scansion/ucd.scriptRows"], plainKeys := false, apart := false, laid := [("scansion/ucd.scriptRows", laid_scansion_ucd_scriptRows)], narrowed := true }
def UcdTellsUptoSaid : Prop := ucdTellsUptoRow.holds Tryd.pinned (OpenSpec.upto ucdTellsSpec)

/-- 'scansionlaw06.WordsSpaces', WHERE WHAT IT READS IS OF BULK AT MOST 1048576: true; the input reads as it did. -/
def wordsSpacesUptoRow : OpenClaim := { program := "ytpaijpdmeiagfaadoor", sum := "5d8f19ecb82e7355c4b604e1674db3190cae465b320610b7c01219af47e25699", func := "scansion/scansionlaw06.WordsSpaces", spec := "wordsSpaces", unfollowed := true, recurses := true, named := ["scansion/ucd.scriptRows"], plainKeys := false, apart := false, laid := [("scansion/ucd.scriptRows", laid_scansion_ucd_scriptRows)], narrowed := true }
def WordsSpacesUptoSaid : Prop := wordsSpacesUptoRow.holds Tryd.pinned (OpenSpec.upto wordsSpacesSpec)

/-- 'scansionlaw04.UcdHangul', WHERE WHAT IT READS IS OF BULK AT MOST 1048576: true; the input reads as it did. -/
def ucdHangulUptoRow : OpenClaim := { program := "ytpaijpdmeiagfaadoor", sum := "5d8f19ecb82e7355c4b604e1674db3190cae465b320610b7c01219af47e25699", func := "scansion/scansionlaw04.UcdHangul", spec := "ucdHangul", unfollowed := true, recurses := true, named := ["scansion/ucd.scriptRows"], plainKeys := false, apart := false, laid := [("scansion/ucd.scriptRows", laid_scansion_ucd_scriptRows)], narrowed := true }
def UcdHangulUptoSaid : Prop := ucdHangulUptoRow.holds Tryd.pinned (OpenSpec.upto ucdHangulSpec)

/-- 'scansionlaw04.UcdMarks', WHERE WHAT IT READS IS OF BULK AT MOST 1048576: true; the input reads as it did. -/
def ucdMarksUptoRow : OpenClaim := { program := "ytpaijpdmeiagfaadoor", sum := "5d8f19ecb82e7355c4b604e1674db3190cae465b320610b7c01219af47e25699", func := "scansion/scansionlaw04.UcdMarks", spec := "ucdMarks", unfollowed := true, recurses := true, named := ["scansion/ucd.scriptRows"], plainKeys := false, apart := false, laid := [("scansion/ucd.scriptRows", laid_scansion_ucd_scriptRows)], narrowed := true }
def UcdMarksUptoSaid : Prop := ucdMarksUptoRow.holds Tryd.pinned (OpenSpec.upto ucdMarksSpec)

/-- 'scansionlaw04.UcdOutside', WHERE WHAT IT READS IS OF BULK AT MOST 1048576: true; the input reads as it did. -/
def ucdOutsideUptoRow : OpenClaim := { program := "ytpaijpdmeiagfaadoor", sum := "5d8f19ecb82e7355c4b604e1674db3190cae465b320610b7c01219af47e25699", func := "scansion/scansionlaw04.UcdOutside", spec := "ucdOutside", unfollowed := true, recurses := true, named := ["scansion/ucd.scriptRows"], plainKeys := false, apart := false, laid := [("scansion/ucd.scriptRows", laid_scansion_ucd_scriptRows)], narrowed := true }
def UcdOutsideUptoSaid : Prop := ucdOutsideUptoRow.holds Tryd.pinned (OpenSpec.upto ucdOutsideSpec)

/-- 'scansionlaw04.UcdSaves', WHERE WHAT IT READS IS OF BULK AT MOST 1048576: true; the input reads as it did. -/
def ucdSavesUptoRow : OpenClaim := { program := "ytpaijpdmeiagfaadoor", sum := "5d8f19ecb82e7355c4b604e1674db3190cae465b320610b7c01219af47e25699", func := "scansion/scansionlaw04.UcdSaves", spec := "ucdSaves", unfollowed := true, recurses := true, named := ["scansion/ucd.scriptRows"], plainKeys := false, apart := false, laid := [("scansion/ucd.scriptRows", laid_scansion_ucd_scriptRows)], narrowed := true }
def UcdSavesUptoSaid : Prop := ucdSavesUptoRow.holds Tryd.pinned (OpenSpec.upto ucdSavesSpec)

/-- 'scansionlaw04.UcdLoads', WHERE WHAT IT READS IS OF BULK AT MOST 1048576: true; the input reads as it did. -/
def ucdLoadsUptoRow : OpenClaim := { program := "ytpaijpdmeiagfaadoor", sum := "5d8f19ecb82e7355c4b604e1674db3190cae465b320610b7c01219af47e25699", func := "scansion/scansionlaw04.UcdLoads", spec := "ucdLoads", unfollowed := true, recurses := true, named := ["scansion/ucd.scriptRows"], plainKeys := false, apart := false, laid := [("scansion/ucd.scriptRows", laid_scansion_ucd_scriptRows)], narrowed := true }
def UcdLoadsUptoSaid : Prop := ucdLoadsUptoRow.holds Tryd.pinned (OpenSpec.upto ucdLoadsSpec)

/-- 'scansionlaw04.UcdBytes', WHERE WHAT IT READS IS OF BULK AT MOST 1048576: true; the input reads as it did. -/
def ucdBytesUptoRow : OpenClaim := { program := "ytpaijpdmeiagfaadoor", sum := "5d8f19ecb82e7355c4b604e1674db3190cae465b320610b7c01219af47e25699", func := "scansion/scansionlaw04.UcdBytes", spec := "ucdBytes", unfollowed := true, recurses := true, named := ["scansion/ucd.scriptRows"], plainKeys := false, apart := false, laid := [("scansion/ucd.scriptRows", laid_scansion_ucd_scriptRows)], narrowed := true }
def UcdBytesUptoSaid : Prop := ucdBytesUptoRow.holds Tryd.pinned (OpenSpec.upto ucdBytesSpec)

/-- 'scansionlaw05.ClusterBreaks', WHERE WHAT IT READS IS OF BULK AT MOST 1048576: true; the input reads as it did. -/
def clusterBreaksUptoRow : OpenClaim := { program := "ytpaijpdmeiagfaadoor", sum := "5d8f19ecb82e7355c4b604e1674db3190cae465b320610b7c01219af47e25699", func := "scansion/scansionlaw05.ClusterBreaks", spec := "clusterBreaks", unfollowed := true, recurses := true, named := ["scansion/ucd.scriptRows"], plainKeys := false, apart := false, laid := [("scansion/ucd.scriptRows", laid_scansion_ucd_scriptRows)], narrowed := true }
def ClusterBreaksUptoSaid : Prop := clusterBreaksUptoRow.holds Tryd.pinned (OpenSpec.upto clusterBreaksSpec)

/-- 'scansionlaw05.ClusterControls', WHERE WHAT IT READS IS OF BULK AT MOST 1048576: true; the input reads as it did. -/
def clusterControlsUptoRow : OpenClaim := { program := "ytpaijpdmeiagfaadoor", sum := "5d8f19ecb82e7355c4b604e1674db3190cae465b320610b7c01219af47e25699", func := "scansion/scansionlaw05.ClusterControls", spec := "clusterControls", unfollowed := true, recurses := true, named := ["scansion/ucd.scriptRows"], plainKeys := false, apart := false, laid := [("scansion/ucd.scriptRows", laid_scansion_ucd_scriptRows)], narrowed := true }
def ClusterControlsUptoSaid : Prop := clusterControlsUptoRow.holds Tryd.pinned (OpenSpec.upto clusterControlsSpec)

/-- 'scansionlaw05.ClusterMarks', WHERE WHAT IT READS IS OF BULK AT MOST 1048576: true; the input reads as it did. -/
def clusterMarksUptoRow : OpenClaim := { program := "ytpaijpdmeiagfaadoor", sum := "5d8f19ecb82e7355c4b604e1674db3190cae465b320610b7c01219af47e25699", func := "scansion/scansionlaw05.ClusterMarks", spec := "clusterMarks", unfollowed := true, recurses := true, named := ["scansion/ucd.scriptRows"], plainKeys := false, apart := false, laid := [("scansion/ucd.scriptRows", laid_scansion_ucd_scriptRows)], narrowed := true }
def ClusterMarksUptoSaid : Prop := clusterMarksUptoRow.holds Tryd.pinned (OpenSpec.upto clusterMarksSpec)

/-- 'scansionlaw05.ClusterFlags', WHERE WHAT IT READS IS OF BULK AT MOST 1048576: true; the input reads as it did. -/
def clusterFlagsUptoRow : OpenClaim := { program := "ytpaijpdmeiagfaadoor", sum := "5d8f19ecb82e7355c4b604e1674db3190cae465b320610b7c01219af47e25699", func := "scansion/scansionlaw05.ClusterFlags", spec := "clusterFlags", unfollowed := true, recurses := true, named := ["scansion/ucd.scriptRows"], plainKeys := false, apart := false, laid := [("scansion/ucd.scriptRows", laid_scansion_ucd_scriptRows)], narrowed := true }
def ClusterFlagsUptoSaid : Prop := clusterFlagsUptoRow.holds Tryd.pinned (OpenSpec.upto clusterFlagsSpec)

/-- 'scansionlaw05.ClusterLocal', WHERE WHAT IT READS IS OF BULK AT MOST 1048576: true; the input reads as it did. -/
def clusterLocalUptoRow : OpenClaim := { program := "ytpaijpdmeiagfaadoor", sum := "5d8f19ecb82e7355c4b604e1674db3190cae465b320610b7c01219af47e25699", func := "scansion/scansionlaw05.ClusterLocal", spec := "clusterLocal", unfollowed := true, recurses := true, named := ["scansion/ucd.scriptRows"], plainKeys := false, apart := false, laid := [("scansion/ucd.scriptRows", laid_scansion_ucd_scriptRows)], narrowed := true }
def ClusterLocalUptoSaid : Prop := clusterLocalUptoRow.holds Tryd.pinned (OpenSpec.upto clusterLocalSpec)

/-- 'scansionlaw05.ClusterAsks', WHERE WHAT IT READS IS OF BULK AT MOST 1048576: true; the input reads as it did. -/
def clusterAsksUptoRow : OpenClaim := { program := "ytpaijpdmeiagfaadoor", sum := "5d8f19ecb82e7355c4b604e1674db3190cae465b320610b7c01219af47e25699", func := "scansion/scansionlaw05.ClusterAsks", spec := "clusterAsks", unfollowed := true, recurses := true, named := ["scansion/ucd.scriptRows"], plainKeys := false, apart := false, laid := [("scansion/ucd.scriptRows", laid_scansion_ucd_scriptRows)], narrowed := true }
def ClusterAsksUptoSaid : Prop := clusterAsksUptoRow.holds Tryd.pinned (OpenSpec.upto clusterAsksSpec)

/-- 'scansionlaw05.ClusterParts', WHERE WHAT IT READS IS OF BULK AT MOST 1048576: true; the input reads as it did. -/
def clusterPartsUptoRow : OpenClaim := { program := "ytpaijpdmeiagfaadoor", sum := "5d8f19ecb82e7355c4b604e1674db3190cae465b320610b7c01219af47e25699", func := "scansion/scansionlaw05.ClusterParts", spec := "clusterParts", unfollowed := true, recurses := true, named := ["scansion/ucd.scriptRows"], plainKeys := false, apart := false, laid := [("scansion/ucd.scriptRows", laid_scansion_ucd_scriptRows)], narrowed := true }
def ClusterPartsUptoSaid : Prop := clusterPartsUptoRow.holds Tryd.pinned (OpenSpec.upto clusterPartsSpec)

/-- 'scansionlaw06.WordsBreaks', WHERE WHAT IT READS IS OF BULK AT MOST 1048576: true; the input reads as it did. -/
def wordsBreaksUptoRow : OpenClaim := { program := "ytpaijpdmeiagfaadoor", sum := "5d8f19ecb82e7355c4b604e1674db3190cae465b320610b7c01219af47e25699", func := "scansion/scansionlaw06.WordsBreaks", spec := "wordsBreaks", unfollowed := true, recurses := true, named := ["scansion/ucd.scriptRows"], plainKeys := false, apart := false, laid := [("scansion/ucd.scriptRows", laid_scansion_ucd_scriptRows)], narrowed := true }
def WordsBreaksUptoSaid : Prop := wordsBreaksUptoRow.holds Tryd.pinned (OpenSpec.upto wordsBreaksSpec)

/-- 'scansionlaw06.WordsAsks', WHERE WHAT IT READS IS OF BULK AT MOST 1048576: true; the input reads as it did. -/
def wordsAsksUptoRow : OpenClaim := { program := "ytpaijpdmeiagfaadoor", sum := "5d8f19ecb82e7355c4b604e1674db3190cae465b320610b7c01219af47e25699", func := "scansion/scansionlaw06.WordsAsks", spec := "wordsAsks", unfollowed := true, recurses := true, named := ["scansion/ucd.scriptRows"], plainKeys := false, apart := false, laid := [("scansion/ucd.scriptRows", laid_scansion_ucd_scriptRows)], narrowed := true }
def WordsAsksUptoSaid : Prop := wordsAsksUptoRow.holds Tryd.pinned (OpenSpec.upto wordsAsksSpec)

/-- 'scansionlaw06.WordsParts', WHERE WHAT IT READS IS OF BULK AT MOST 1048576: true; the input reads as it did. -/
def wordsPartsUptoRow : OpenClaim := { program := "ytpaijpdmeiagfaadoor", sum := "5d8f19ecb82e7355c4b604e1674db3190cae465b320610b7c01219af47e25699", func := "scansion/scansionlaw06.WordsParts", spec := "wordsParts", unfollowed := true, recurses := true, named := ["scansion/ucd.scriptRows"], plainKeys := false, apart := false, laid := [("scansion/ucd.scriptRows", laid_scansion_ucd_scriptRows)], narrowed := true }
def WordsPartsUptoSaid : Prop := wordsPartsUptoRow.holds Tryd.pinned (OpenSpec.upto wordsPartsSpec)

/-- 'scansionlaw06.WordsMarks', WHERE WHAT IT READS IS OF BULK AT MOST 1048576: true; the input reads as it did. -/
def wordsMarksUptoRow : OpenClaim := { program := "ytpaijpdmeiagfaadoor", sum := "5d8f19ecb82e7355c4b604e1674db3190cae465b320610b7c01219af47e25699", func := "scansion/scansionlaw06.WordsMarks", spec := "wordsMarks", unfollowed := true, recurses := true, named := ["scansion/ucd.scriptRows"], plainKeys := false, apart := false, laid := [("scansion/ucd.scriptRows", laid_scansion_ucd_scriptRows)], narrowed := true }
def WordsMarksUptoSaid : Prop := wordsMarksUptoRow.holds Tryd.pinned (OpenSpec.upto wordsMarksSpec)

/-- 'scansionlaw06.WordsLines', WHERE WHAT IT READS IS OF BULK AT MOST 1048576: true; the input reads as it did. -/
def wordsLinesUptoRow : OpenClaim := { program := "ytpaijpdmeiagfaadoor", sum := "5d8f19ecb82e7355c4b604e1674db3190cae465b320610b7c01219af47e25699", func := "scansion/scansionlaw06.WordsLines", spec := "wordsLines", unfollowed := true, recurses := true, named := ["scansion/ucd.scriptRows"], plainKeys := false, apart := false, laid := [("scansion/ucd.scriptRows", laid_scansion_ucd_scriptRows)], narrowed := true }
def WordsLinesUptoSaid : Prop := wordsLinesUptoRow.holds Tryd.pinned (OpenSpec.upto wordsLinesSpec)

end Rows
end Go.Proofs.YtpaijpdmeiagfaaDoor
