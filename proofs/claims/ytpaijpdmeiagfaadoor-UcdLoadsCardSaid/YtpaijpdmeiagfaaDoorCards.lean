/-
  DERIVED. GIVEN WITH THE SEED: THE CARDS: each row of YtpaijpdmeiagfaaDoorRows.lean that lists a variable, with what it lists TIED to the program's text (the seventh form; the later family's looks); each row that meets fmt, with fmt's text TOLD by the authors' own Lean function (tested against real Go, not proved from fmt's source: count such statements apart). THE CARD IS WHAT COUNTS. Prove the row's statement (the work); the ties are given (YtpaijpdmeiagfaaDoorTie.lean); close each card by the builder's one call (the guide's Derived/Test/ToyasCard.lean, 'card_holds'). Laid BY PROGRAM, IN A SANDBOX (cutbox-door.mjs). By AI agents, Wed Nov 11 2026. No macro, syntax, notation, axiom, sorry.
-/
import Derived.Test.YtpaijpdmeiagfaaDoorRows
import GoSem.ClaimSeven
namespace Go.Proofs.YtpaijpdmeiagfaaDoor
namespace Rows

/-- THE TIED CARD OF 'scansionlaw06.WordsLetters'. -/
def wordsLettersCard : Claim7 := { stood := { row := wordsLettersRow, standIns := [], harness := (true, "1a5c4afa1022407e19fceaf6cd4a72304906875b3766a0680f8a6361989da435"), looks := false }, kinds := [], alts := [], laidByText := true, laidKinds := [.widerDeep], laidTests := true, laidLooks := .later }
def WordsLettersCardSaid : Prop := Claim7.holds Tryd.pinned (.plain (OpenSpec.ofChange wordsLettersSpec)) wordsLettersCard

/-- THE TIED CARD OF 'scansionlaw04.UcdTells'. -/
def ucdTellsCard : Claim7 := { stood := { row := ucdTellsRow, standIns := [], harness := (true, "1a5c4afa1022407e19fceaf6cd4a72304906875b3766a0680f8a6361989da435"), looks := false }, kinds := [], alts := [], laidByText := true, laidKinds := [.widerDeep], laidTests := true, laidLooks := .later }
def UcdTellsCardSaid : Prop := Claim7.holds Tryd.pinned (.plain (OpenSpec.ofChange ucdTellsSpec)) ucdTellsCard

/-- THE TIED CARD OF 'scansionlaw06.WordsSpaces'. -/
def wordsSpacesCard : Claim7 := { stood := { row := wordsSpacesRow, standIns := [], harness := (true, "1a5c4afa1022407e19fceaf6cd4a72304906875b3766a0680f8a6361989da435"), looks := false }, kinds := [], alts := [], laidByText := true, laidKinds := [.widerDeep], laidTests := true, laidLooks := .later }
def WordsSpacesCardSaid : Prop := Claim7.holds Tryd.pinned (.plain (OpenSpec.ofChange wordsSpacesSpec)) wordsSpacesCard

/-- THE TIED CARD OF 'scansionlaw04.UcdHangul'. -/
def ucdHangulCard : Claim7 := { stood := { row := ucdHangulRow, standIns := [], harness := (true, "1a5c4afa1022407e19fceaf6cd4a72304906875b3766a0680f8a6361989da435"), looks := false }, kinds := [], alts := [], laidByText := true, laidKinds := [.widerDeep], laidTests := true, laidLooks := .later }
def UcdHangulCardSaid : Prop := Claim7.holds Tryd.pinned (.plain (OpenSpec.ofChange ucdHangulSpec)) ucdHangulCard

/-- THE TIED CARD OF 'scansionlaw04.UcdMarks'. -/
def ucdMarksCard : Claim7 := { stood := { row := ucdMarksRow, standIns := [], harness := (true, "1a5c4afa1022407e19fceaf6cd4a72304906875b3766a0680f8a6361989da435"), looks := false }, kinds := [], alts := [], laidByText := true, laidKinds := [.widerDeep], laidTests := true, laidLooks := .later }
def UcdMarksCardSaid : Prop := Claim7.holds Tryd.pinned (.plain (OpenSpec.ofChange ucdMarksSpec)) ucdMarksCard

/-- THE TIED CARD OF 'scansionlaw04.UcdOutside'. -/
def ucdOutsideCard : Claim7 := { stood := { row := ucdOutsideRow, standIns := [], harness := (true, "1a5c4afa1022407e19fceaf6cd4a72304906875b3766a0680f8a6361989da435"), looks := false }, kinds := [], alts := [], laidByText := true, laidKinds := [.widerDeep], laidTests := true, laidLooks := .later }
def UcdOutsideCardSaid : Prop := Claim7.holds Tryd.pinned (.plain (OpenSpec.ofChange ucdOutsideSpec)) ucdOutsideCard

/-- THE TIED CARD OF 'scansionlaw04.UcdSaves'. -/
def ucdSavesCard : Claim7 := { stood := { row := ucdSavesRow, standIns := [], harness := (true, "1a5c4afa1022407e19fceaf6cd4a72304906875b3766a0680f8a6361989da435"), looks := false }, kinds := [], alts := [], laidByText := true, laidKinds := [.widerDeep], laidTests := true, laidLooks := .later }
def UcdSavesCardSaid : Prop := Claim7.holds Tryd.pinned (.plain (OpenSpec.ofChange ucdSavesSpec)) ucdSavesCard

/-- THE TIED CARD OF 'scansionlaw04.UcdLoads'. -/
def ucdLoadsCard : Claim7 := { stood := { row := ucdLoadsRow, standIns := [], harness := (true, "1a5c4afa1022407e19fceaf6cd4a72304906875b3766a0680f8a6361989da435"), looks := false }, kinds := [], alts := [], laidByText := true, laidKinds := [.widerDeep], laidTests := true, laidLooks := .later }
def UcdLoadsCardSaid : Prop := Claim7.holds Tryd.pinned (.plain (OpenSpec.ofChange ucdLoadsSpec)) ucdLoadsCard

/-- THE TIED CARD OF 'scansionlaw04.UcdBytes'. -/
def ucdBytesCard : Claim7 := { stood := { row := ucdBytesRow, standIns := [], harness := (true, "1a5c4afa1022407e19fceaf6cd4a72304906875b3766a0680f8a6361989da435"), looks := false }, kinds := [], alts := [], laidByText := true, laidKinds := [.widerDeep], laidTests := true, laidLooks := .later }
def UcdBytesCardSaid : Prop := Claim7.holds Tryd.pinned (.plain (OpenSpec.ofChange ucdBytesSpec)) ucdBytesCard

/-- THE TIED CARD OF 'scansionlaw05.ClusterBreaks'. -/
def clusterBreaksCard : Claim7 := { stood := { row := clusterBreaksRow, standIns := [], harness := (true, "1a5c4afa1022407e19fceaf6cd4a72304906875b3766a0680f8a6361989da435"), looks := false }, kinds := [], alts := [], laidByText := true, laidKinds := [.widerDeep], laidTests := true, laidLooks := .later }
def ClusterBreaksCardSaid : Prop := Claim7.holds Tryd.pinned (.plain (OpenSpec.ofChange clusterBreaksSpec)) clusterBreaksCard

/-- THE TIED CARD OF 'scansionlaw05.ClusterControls'. -/
def clusterControlsCard : Claim7 := { stood := { row := clusterControlsRow, standIns := [], harness := (true, "1a5c4afa1022407e19fceaf6cd4a72304906875b3766a0680f8a6361989da435"), looks := false }, kinds := [], alts := [], laidByText := true, laidKinds := [.widerDeep], laidTests := true, laidLooks := .later }
def ClusterControlsCardSaid : Prop := Claim7.holds Tryd.pinned (.plain (OpenSpec.ofChange clusterControlsSpec)) clusterControlsCard

/-- THE TIED CARD OF 'scansionlaw05.ClusterMarks'. -/
def clusterMarksCard : Claim7 := { stood := { row := clusterMarksRow, standIns := [], harness := (true, "1a5c4afa1022407e19fceaf6cd4a72304906875b3766a0680f8a6361989da435"), looks := false }, kinds := [], alts := [], laidByText := true, laidKinds := [.widerDeep], laidTests := true, laidLooks := .later }
def ClusterMarksCardSaid : Prop := Claim7.holds Tryd.pinned (.plain (OpenSpec.ofChange clusterMarksSpec)) clusterMarksCard

/-- THE TIED CARD OF 'scansionlaw05.ClusterFlags'. -/
def clusterFlagsCard : Claim7 := { stood := { row := clusterFlagsRow, standIns := [], harness := (true, "1a5c4afa1022407e19fceaf6cd4a72304906875b3766a0680f8a6361989da435"), looks := false }, kinds := [], alts := [], laidByText := true, laidKinds := [.widerDeep], laidTests := true, laidLooks := .later }
def ClusterFlagsCardSaid : Prop := Claim7.holds Tryd.pinned (.plain (OpenSpec.ofChange clusterFlagsSpec)) clusterFlagsCard

/-- THE TIED CARD OF 'scansionlaw05.ClusterLocal'. -/
def clusterLocalCard : Claim7 := { stood := { row := clusterLocalRow, standIns := [], harness := (true, "1a5c4afa1022407e19fceaf6cd4a72304906875b3766a0680f8a6361989da435"), looks := false }, kinds := [], alts := [], laidByText := true, laidKinds := [.widerDeep], laidTests := true, laidLooks := .later }
def ClusterLocalCardSaid : Prop := Claim7.holds Tryd.pinned (.plain (OpenSpec.ofChange clusterLocalSpec)) clusterLocalCard

/-- THE TIED CARD OF 'scansionlaw05.ClusterAsks'. -/
def clusterAsksCard : Claim7 := { stood := { row := clusterAsksRow, standIns := [], harness := (true, "1a5c4afa1022407e19fceaf6cd4a72304906875b3766a0680f8a6361989da435"), looks := false }, kinds := [], alts := [], laidByText := true, laidKinds := [.widerDeep], laidTests := true, laidLooks := .later }
def ClusterAsksCardSaid : Prop := Claim7.holds Tryd.pinned (.plain (OpenSpec.ofChange clusterAsksSpec)) clusterAsksCard

/-- THE TIED CARD OF 'scansionlaw05.ClusterParts'. -/
def clusterPartsCard : Claim7 := { stood := { row := clusterPartsRow, standIns := [], harness := (true, "1a5c4afa1022407e19fceaf6cd4a72304906875b3766a0680f8a6361989da435"), looks := false }, kinds := [], alts := [], laidByText := true, laidKinds := [.widerDeep], laidTests := true, laidLooks := .later }
def ClusterPartsCardSaid : Prop := Claim7.holds Tryd.pinned (.plain (OpenSpec.ofChange clusterPartsSpec)) clusterPartsCard

/-- THE TIED CARD OF 'scansionlaw06.WordsBreaks'. -/
def wordsBreaksCard : Claim7 := { stood := { row := wordsBreaksRow, standIns := [], harness := (true, "1a5c4afa1022407e19fceaf6cd4a72304906875b3766a0680f8a6361989da435"), looks := false }, kinds := [], alts := [], laidByText := true, laidKinds := [.widerDeep], laidTests := true, laidLooks := .later }
def WordsBreaksCardSaid : Prop := Claim7.holds Tryd.pinned (.plain (OpenSpec.ofChange wordsBreaksSpec)) wordsBreaksCard

/-- THE TIED CARD OF 'scansionlaw06.WordsAsks'. -/
def wordsAsksCard : Claim7 := { stood := { row := wordsAsksRow, standIns := [], harness := (true, "1a5c4afa1022407e19fceaf6cd4a72304906875b3766a0680f8a6361989da435"), looks := false }, kinds := [], alts := [], laidByText := true, laidKinds := [.widerDeep], laidTests := true, laidLooks := .later }
def WordsAsksCardSaid : Prop := Claim7.holds Tryd.pinned (.plain (OpenSpec.ofChange wordsAsksSpec)) wordsAsksCard

/-- THE TIED CARD OF 'scansionlaw06.WordsParts'. -/
def wordsPartsCard : Claim7 := { stood := { row := wordsPartsRow, standIns := [], harness := (true, "1a5c4afa1022407e19fceaf6cd4a72304906875b3766a0680f8a6361989da435"), looks := false }, kinds := [], alts := [], laidByText := true, laidKinds := [.widerDeep], laidTests := true, laidLooks := .later }
def WordsPartsCardSaid : Prop := Claim7.holds Tryd.pinned (.plain (OpenSpec.ofChange wordsPartsSpec)) wordsPartsCard

/-- THE TIED CARD OF 'scansionlaw06.WordsMarks'. -/
def wordsMarksCard : Claim7 := { stood := { row := wordsMarksRow, standIns := [], harness := (true, "1a5c4afa1022407e19fceaf6cd4a72304906875b3766a0680f8a6361989da435"), looks := false }, kinds := [], alts := [], laidByText := true, laidKinds := [.widerDeep], laidTests := true, laidLooks := .later }
def WordsMarksCardSaid : Prop := Claim7.holds Tryd.pinned (.plain (OpenSpec.ofChange wordsMarksSpec)) wordsMarksCard

/-- THE TIED CARD OF 'scansionlaw06.WordsLines'. -/
def wordsLinesCard : Claim7 := { stood := { row := wordsLinesRow, standIns := [], harness := (true, "1a5c4afa1022407e19fceaf6cd4a72304906875b3766a0680f8a6361989da435"), looks := false }, kinds := [], alts := [], laidByText := true, laidKinds := [.widerDeep], laidTests := true, laidLooks := .later }
def WordsLinesCardSaid : Prop := Claim7.holds Tryd.pinned (.plain (OpenSpec.ofChange wordsLinesSpec)) wordsLinesCard

/-- THE SECOND FORM's CARD OF 'scansionlaw06.WordsLetters'. -/
def wordsLettersUptoCard : Claim7 := { stood := { row := wordsLettersUptoRow, standIns := [], harness := (true, "1a5c4afa1022407e19fceaf6cd4a72304906875b3766a0680f8a6361989da435"), looks := false }, kinds := [], alts := [], laidByText := true, laidKinds := [.widerDeep], laidTests := true, laidLooks := .later }
def WordsLettersUptoCardSaid : Prop := Claim7.holds Tryd.pinned (.plain (OpenSpec.upto wordsLettersSpec)) wordsLettersUptoCard

/-- THE SECOND FORM's CARD OF 'scansionlaw04.UcdTells'. -/
def ucdTellsUptoCard : Claim7 := { stood := { row := ucdTellsUptoRow, standIns := [], harness := (true, "1a5c4afa1022407e19fceaf6cd4a72304906875b3766a0680f8a6361989da435"), looks := false }, kinds := [], alts := [], laidByText := true, laidKinds := [.widerDeep], laidTests := true, laidLooks := .later }
def UcdTellsUptoCardSaid : Prop := Claim7.holds Tryd.pinned (.plain (OpenSpec.upto ucdTellsSpec)) ucdTellsUptoCard

/-- THE SECOND FORM's CARD OF 'scansionlaw06.WordsSpaces'. -/
def wordsSpacesUptoCard : Claim7 := { stood := { row := wordsSpacesUptoRow, standIns := [], harness := (true, "1a5c4afa1022407e19fceaf6cd4a72304906875b3766a0680f8a6361989da435"), looks := false }, kinds := [], alts := [], laidByText := true, laidKinds := [.widerDeep], laidTests := true, laidLooks := .later }
def WordsSpacesUptoCardSaid : Prop := Claim7.holds Tryd.pinned (.plain (OpenSpec.upto wordsSpacesSpec)) wordsSpacesUptoCard

/-- THE SECOND FORM's CARD OF 'scansionlaw04.UcdHangul'. -/
def ucdHangulUptoCard : Claim7 := { stood := { row := ucdHangulUptoRow, standIns := [], harness := (true, "1a5c4afa1022407e19fceaf6cd4a72304906875b3766a0680f8a6361989da435"), looks := false }, kinds := [], alts := [], laidByText := true, laidKinds := [.widerDeep], laidTests := true, laidLooks := .later }
def UcdHangulUptoCardSaid : Prop := Claim7.holds Tryd.pinned (.plain (OpenSpec.upto ucdHangulSpec)) ucdHangulUptoCard

/-- THE SECOND FORM's CARD OF 'scansionlaw04.UcdMarks'. -/
def ucdMarksUptoCard : Claim7 := { stood := { row := ucdMarksUptoRow, standIns := [], harness := (true, "1a5c4afa1022407e19fceaf6cd4a72304906875b3766a0680f8a6361989da435"), looks := false }, kinds := [], alts := [], laidByText := true, laidKinds := [.widerDeep], laidTests := true, laidLooks := .later }
def UcdMarksUptoCardSaid : Prop := Claim7.holds Tryd.pinned (.plain (OpenSpec.upto ucdMarksSpec)) ucdMarksUptoCard

/-- THE SECOND FORM's CARD OF 'scansionlaw04.UcdOutside'. -/
def ucdOutsideUptoCard : Claim7 := { stood := { row := ucdOutsideUptoRow, standIns := [], harness := (true, "1a5c4afa1022407e19fceaf6cd4a72304906875b3766a0680f8a6361989da435"), looks := false }, kinds := [], alts := [], laidByText := true, laidKinds := [.widerDeep], laidTests := true, laidLooks := .later }
def UcdOutsideUptoCardSaid : Prop := Claim7.holds Tryd.pinned (.plain (OpenSpec.upto ucdOutsideSpec)) ucdOutsideUptoCard

/-- THE SECOND FORM's CARD OF 'scansionlaw04.UcdSaves'. -/
def ucdSavesUptoCard : Claim7 := { stood := { row := ucdSavesUptoRow, standIns := [], harness := (true, "1a5c4afa1022407e19fceaf6cd4a72304906875b3766a0680f8a6361989da435"), looks := false }, kinds := [], alts := [], laidByText := true, laidKinds := [.widerDeep], laidTests := true, laidLooks := .later }
def UcdSavesUptoCardSaid : Prop := Claim7.holds Tryd.pinned (.plain (OpenSpec.upto ucdSavesSpec)) ucdSavesUptoCard

/-- THE SECOND FORM's CARD OF 'scansionlaw04.UcdLoads'. -/
def ucdLoadsUptoCard : Claim7 := { stood := { row := ucdLoadsUptoRow, standIns := [], harness := (true, "1a5c4afa1022407e19fceaf6cd4a72304906875b3766a0680f8a6361989da435"), looks := false }, kinds := [], alts := [], laidByText := true, laidKinds := [.widerDeep], laidTests := true, laidLooks := .later }
def UcdLoadsUptoCardSaid : Prop := Claim7.holds Tryd.pinned (.plain (OpenSpec.upto ucdLoadsSpec)) ucdLoadsUptoCard

/-- THE SECOND FORM's CARD OF 'scansionlaw04.UcdBytes'. -/
def ucdBytesUptoCard : Claim7 := { stood := { row := ucdBytesUptoRow, standIns := [], harness := (true, "1a5c4afa1022407e19fceaf6cd4a72304906875b3766a0680f8a6361989da435"), looks := false }, kinds := [], alts := [], laidByText := true, laidKinds := [.widerDeep], laidTests := true, laidLooks := .later }
def UcdBytesUptoCardSaid : Prop := Claim7.holds Tryd.pinned (.plain (OpenSpec.upto ucdBytesSpec)) ucdBytesUptoCard

/-- THE SECOND FORM's CARD OF 'scansionlaw05.ClusterBreaks'. -/
def clusterBreaksUptoCard : Claim7 := { stood := { row := clusterBreaksUptoRow, standIns := [], harness := (true, "1a5c4afa1022407e19fceaf6cd4a72304906875b3766a0680f8a6361989da435"), looks := false }, kinds := [], alts := [], laidByText := true, laidKinds := [.widerDeep], laidTests := true, laidLooks := .later }
def ClusterBreaksUptoCardSaid : Prop := Claim7.holds Tryd.pinned (.plain (OpenSpec.upto clusterBreaksSpec)) clusterBreaksUptoCard

/-- THE SECOND FORM's CARD OF 'scansionlaw05.ClusterControls'. -/
def clusterControlsUptoCard : Claim7 := { stood := { row := clusterControlsUptoRow, standIns := [], harness := (true, "1a5c4afa1022407e19fceaf6cd4a72304906875b3766a0680f8a6361989da435"), looks := false }, kinds := [], alts := [], laidByText := true, laidKinds := [.widerDeep], laidTests := true, laidLooks := .later }
def ClusterControlsUptoCardSaid : Prop := Claim7.holds Tryd.pinned (.plain (OpenSpec.upto clusterControlsSpec)) clusterControlsUptoCard

/-- THE SECOND FORM's CARD OF 'scansionlaw05.ClusterMarks'. -/
def clusterMarksUptoCard : Claim7 := { stood := { row := clusterMarksUptoRow, standIns := [], harness := (true, "1a5c4afa1022407e19fceaf6cd4a72304906875b3766a0680f8a6361989da435"), looks := false }, kinds := [], alts := [], laidByText := true, laidKinds := [.widerDeep], laidTests := true, laidLooks := .later }
def ClusterMarksUptoCardSaid : Prop := Claim7.holds Tryd.pinned (.plain (OpenSpec.upto clusterMarksSpec)) clusterMarksUptoCard

/-- THE SECOND FORM's CARD OF 'scansionlaw05.ClusterFlags'. -/
def clusterFlagsUptoCard : Claim7 := { stood := { row := clusterFlagsUptoRow, standIns := [], harness := (true, "1a5c4afa1022407e19fceaf6cd4a72304906875b3766a0680f8a6361989da435"), looks := false }, kinds := [], alts := [], laidByText := true, laidKinds := [.widerDeep], laidTests := true, laidLooks := .later }
def ClusterFlagsUptoCardSaid : Prop := Claim7.holds Tryd.pinned (.plain (OpenSpec.upto clusterFlagsSpec)) clusterFlagsUptoCard

/-- THE SECOND FORM's CARD OF 'scansionlaw05.ClusterLocal'. -/
def clusterLocalUptoCard : Claim7 := { stood := { row := clusterLocalUptoRow, standIns := [], harness := (true, "1a5c4afa1022407e19fceaf6cd4a72304906875b3766a0680f8a6361989da435"), looks := false }, kinds := [], alts := [], laidByText := true, laidKinds := [.widerDeep], laidTests := true, laidLooks := .later }
def ClusterLocalUptoCardSaid : Prop := Claim7.holds Tryd.pinned (.plain (OpenSpec.upto clusterLocalSpec)) clusterLocalUptoCard

/-- THE SECOND FORM's CARD OF 'scansionlaw05.ClusterAsks'. -/
def clusterAsksUptoCard : Claim7 := { stood := { row := clusterAsksUptoRow, standIns := [], harness := (true, "1a5c4afa1022407e19fceaf6cd4a72304906875b3766a0680f8a6361989da435"), looks := false }, kinds := [], alts := [], laidByText := true, laidKinds := [.widerDeep], laidTests := true, laidLooks := .later }
def ClusterAsksUptoCardSaid : Prop := Claim7.holds Tryd.pinned (.plain (OpenSpec.upto clusterAsksSpec)) clusterAsksUptoCard

/-- THE SECOND FORM's CARD OF 'scansionlaw05.ClusterParts'. -/
def clusterPartsUptoCard : Claim7 := { stood := { row := clusterPartsUptoRow, standIns := [], harness := (true, "1a5c4afa1022407e19fceaf6cd4a72304906875b3766a0680f8a6361989da435"), looks := false }, kinds := [], alts := [], laidByText := true, laidKinds := [.widerDeep], laidTests := true, laidLooks := .later }
def ClusterPartsUptoCardSaid : Prop := Claim7.holds Tryd.pinned (.plain (OpenSpec.upto clusterPartsSpec)) clusterPartsUptoCard

/-- THE SECOND FORM's CARD OF 'scansionlaw06.WordsBreaks'. -/
def wordsBreaksUptoCard : Claim7 := { stood := { row := wordsBreaksUptoRow, standIns := [], harness := (true, "1a5c4afa1022407e19fceaf6cd4a72304906875b3766a0680f8a6361989da435"), looks := false }, kinds := [], alts := [], laidByText := true, laidKinds := [.widerDeep], laidTests := true, laidLooks := .later }
def WordsBreaksUptoCardSaid : Prop := Claim7.holds Tryd.pinned (.plain (OpenSpec.upto wordsBreaksSpec)) wordsBreaksUptoCard

/-- THE SECOND FORM's CARD OF 'scansionlaw06.WordsAsks'. -/
def wordsAsksUptoCard : Claim7 := { stood := { row := wordsAsksUptoRow, standIns := [], harness := (true, "1a5c4afa1022407e19fceaf6cd4a72304906875b3766a0680f8a6361989da435"), looks := false }, kinds := [], alts := [], laidByText := true, laidKinds := [.widerDeep], laidTests := true, laidLooks := .later }
def WordsAsksUptoCardSaid : Prop := Claim7.holds Tryd.pinned (.plain (OpenSpec.upto wordsAsksSpec)) wordsAsksUptoCard

/-- THE SECOND FORM's CARD OF 'scansionlaw06.WordsParts'. -/
def wordsPartsUptoCard : Claim7 := { stood := { row := wordsPartsUptoRow, standIns := [], harness := (true, "1a5c4afa1022407e19fceaf6cd4a72304906875b3766a0680f8a6361989da435"), looks := false }, kinds := [], alts := [], laidByText := true, laidKinds := [.widerDeep], laidTests := true, laidLooks := .later }
def WordsPartsUptoCardSaid : Prop := Claim7.holds Tryd.pinned (.plain (OpenSpec.upto wordsPartsSpec)) wordsPartsUptoCard

/-- THE SECOND FORM's CARD OF 'scansionlaw06.WordsMarks'. -/
def wordsMarksUptoCard : Claim7 := { stood := { row := wordsMarksUptoRow, standIns := [], harness := (true, "1a5c4afa1022407e19fceaf6cd4a72304906875b3766a0680f8a6361989da435"), looks := false }, kinds := [], alts := [], laidByText := true, laidKinds := [.widerDeep], laidTests := true, laidLooks := .later }
def WordsMarksUptoCardSaid : Prop := Claim7.holds Tryd.pinned (.plain (OpenSpec.upto wordsMarksSpec)) wordsMarksUptoCard

/-- THE SECOND FORM's CARD OF 'scansionlaw06.WordsLines'. -/
def wordsLinesUptoCard : Claim7 := { stood := { row := wordsLinesUptoRow, standIns := [], harness := (true, "1a5c4afa1022407e19fceaf6cd4a72304906875b3766a0680f8a6361989da435"), looks := false }, kinds := [], alts := [], laidByText := true, laidKinds := [.widerDeep], laidTests := true, laidLooks := .later }
def WordsLinesUptoCardSaid : Prop := Claim7.holds Tryd.pinned (.plain (OpenSpec.upto wordsLinesSpec)) wordsLinesUptoCard
end Rows
end Go.Proofs.YtpaijpdmeiagfaaDoor
