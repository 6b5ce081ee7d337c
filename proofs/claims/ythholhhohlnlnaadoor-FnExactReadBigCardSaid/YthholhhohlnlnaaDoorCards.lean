/-
  DERIVED. GIVEN WITH THE SEED: THE CARDS: each row of YthholhhohlnlnaaDoorRows.lean that lists a variable, with what it lists TIED to the program's text (the seventh form; the later family's looks); each row that meets fmt, with fmt's text TOLD by the authors' own Lean function (tested against real Go, not proved from fmt's source: count such statements apart). THE CARD IS WHAT COUNTS. Prove the row's statement (the work); the ties are given (YthholhhohlnlnaaDoorTie.lean); close each card by the builder's one call (the guide's Derived/Test/ToyasCard.lean, 'card_holds'). Laid BY PROGRAM, IN A SANDBOX (cutbox-door.mjs). By AI agents, Wed Nov 11 2026. No macro, syntax, notation, axiom, sorry.
-/
import Derived.Test.YthholhhohlnlnaaDoorRows
import GoSem.ClaimSeven
namespace Go.Proofs.YthholhhohlnlnaaDoor
namespace Rows

/-- THE TIED CARD OF 'laws.FnExactBigText'. -/
def fnExactBigTextCard : Claim7 := { stood := { row := fnExactBigTextRow, standIns := [], harness := (true, "cb1b9e930a271b9e1744f2b3185dc42a338240dc567dcca24f8f0a44fcccb3b1"), looks := false }, kinds := [], alts := [], laidByText := true, laidKinds := [.data, .data, .data], laidTests := true, laidLooks := .later }
def FnExactBigTextCardSaid : Prop := Claim7.holds Tryd.pinned (.plain (OpenSpec.ofChange fnExactBigTextSpec)) fnExactBigTextCard

/-- THE TIED CARD OF 'laws.FnExactReadBig'. -/
def fnExactReadBigCard : Claim7 := { stood := { row := fnExactReadBigRow, standIns := [], harness := (true, "cb1b9e930a271b9e1744f2b3185dc42a338240dc567dcca24f8f0a44fcccb3b1"), looks := false }, kinds := [], alts := [], laidByText := true, laidKinds := [.data, .data, .data], laidTests := true, laidLooks := .later }
def FnExactReadBigCardSaid : Prop := Claim7.holds Tryd.pinned (.plain (OpenSpec.ofChange fnExactReadBigSpec)) fnExactReadBigCard

/-- THE TIED CARD OF 'laws.FnExactRatText'. -/
def fnExactRatTextCard : Claim7 := { stood := { row := fnExactRatTextRow, standIns := [], harness := (true, "cb1b9e930a271b9e1744f2b3185dc42a338240dc567dcca24f8f0a44fcccb3b1"), looks := false }, kinds := [], alts := [], laidByText := true, laidKinds := [.data, .data, .data], laidTests := true, laidLooks := .later }
def FnExactRatTextCardSaid : Prop := Claim7.holds Tryd.pinned (.plain (OpenSpec.ofChange fnExactRatTextSpec)) fnExactRatTextCard

/-- THE SECOND FORM's CARD OF 'laws.FnExactBigText'. -/
def fnExactBigTextUptoCard : Claim7 := { stood := { row := fnExactBigTextUptoRow, standIns := [], harness := (true, "cb1b9e930a271b9e1744f2b3185dc42a338240dc567dcca24f8f0a44fcccb3b1"), looks := false }, kinds := [], alts := [], laidByText := true, laidKinds := [.data, .data, .data], laidTests := true, laidLooks := .later }
def FnExactBigTextUptoCardSaid : Prop := Claim7.holds Tryd.pinned (.plain (OpenSpec.upto fnExactBigTextSpec)) fnExactBigTextUptoCard

/-- THE SECOND FORM's CARD OF 'laws.FnExactReadBig'. -/
def fnExactReadBigUptoCard : Claim7 := { stood := { row := fnExactReadBigUptoRow, standIns := [], harness := (true, "cb1b9e930a271b9e1744f2b3185dc42a338240dc567dcca24f8f0a44fcccb3b1"), looks := false }, kinds := [], alts := [], laidByText := true, laidKinds := [.data, .data, .data], laidTests := true, laidLooks := .later }
def FnExactReadBigUptoCardSaid : Prop := Claim7.holds Tryd.pinned (.plain (OpenSpec.upto fnExactReadBigSpec)) fnExactReadBigUptoCard

/-- THE SECOND FORM's CARD OF 'laws.FnExactRatText'. -/
def fnExactRatTextUptoCard : Claim7 := { stood := { row := fnExactRatTextUptoRow, standIns := [], harness := (true, "cb1b9e930a271b9e1744f2b3185dc42a338240dc567dcca24f8f0a44fcccb3b1"), looks := false }, kinds := [], alts := [], laidByText := true, laidKinds := [.data, .data, .data], laidTests := true, laidLooks := .later }
def FnExactRatTextUptoCardSaid : Prop := Claim7.holds Tryd.pinned (.plain (OpenSpec.upto fnExactRatTextSpec)) fnExactRatTextUptoCard
end Rows
end Go.Proofs.YthholhhohlnlnaaDoor
