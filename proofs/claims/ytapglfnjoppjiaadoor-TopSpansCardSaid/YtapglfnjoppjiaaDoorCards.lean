/-
  DERIVED. GIVEN WITH THE SEED: THE CARDS: each row of YtapglfnjoppjiaaDoorRows.lean that lists a variable, with what it lists TIED to the program's text (the seventh form; the later family's looks); each row that meets fmt, with fmt's text TOLD by the authors' own Lean function (tested against real Go, not proved from fmt's source: count such statements apart). THE CARD IS WHAT COUNTS. Prove the row's statement (the work); the ties are given (YtapglfnjoppjiaaDoorTie.lean); close each card by the builder's one call (the guide's Derived/Test/ToyasCard.lean, 'card_holds'). Laid BY PROGRAM, IN A SANDBOX (cutbox-door.mjs). By AI agents, Wed Nov 11 2026. No macro, syntax, notation, axiom, sorry.
-/
import Derived.Test.YtapglfnjoppjiaaDoorRows
import GoSem.ClaimSeven
namespace Go.Proofs.YtapglfnjoppjiaaDoor
namespace Rows

/-- THE TIED CARD OF 'lockkeepertop.TopTorn'. -/
def topTornCard : Claim7 := { stood := { row := topTornRow, standIns := [], harness := (true, "67452e8c771c979d410a3acd0a70291502048a4a7c826a01043516b6371fd159"), looks := false }, kinds := [], alts := [], laidByText := true, laidKinds := [.data], laidTests := true, laidLooks := .later }
def TopTornCardSaid : Prop := Claim7.holds Tryd.pinned (.plain (OpenSpec.ofChange topTornSpec)) topTornCard

/-- THE TIED CARD OF 'lockkeepertop.TopSpans'. -/
def topSpansCard : Claim7 := { stood := { row := topSpansRow, standIns := [], harness := (true, "67452e8c771c979d410a3acd0a70291502048a4a7c826a01043516b6371fd159"), looks := false }, kinds := [], alts := [], laidByText := true, laidKinds := [.data], laidTests := true, laidLooks := .later }
def TopSpansCardSaid : Prop := Claim7.holds Tryd.pinned (.plain (OpenSpec.ofChange topSpansSpec)) topSpansCard

/-- THE TIED CARD OF 'lockkeepertop.TopNumbered'. -/
def topNumberedCard : Claim7 := { stood := { row := topNumberedRow, standIns := [], harness := (true, "67452e8c771c979d410a3acd0a70291502048a4a7c826a01043516b6371fd159"), looks := false }, kinds := [], alts := [], laidByText := true, laidKinds := [.data], laidTests := true, laidLooks := .later }
def TopNumberedCardSaid : Prop := Claim7.holds Tryd.pinned (.plain (OpenSpec.ofChange topNumberedSpec)) topNumberedCard

/-- THE TIED CARD OF 'lockkeepertop.TopPosted'. -/
def topPostedCard : Claim7 := { stood := { row := topPostedRow, standIns := [], harness := (true, "67452e8c771c979d410a3acd0a70291502048a4a7c826a01043516b6371fd159"), looks := false }, kinds := [], alts := [], laidByText := true, laidKinds := [.data], laidTests := true, laidLooks := .later }
def TopPostedCardSaid : Prop := Claim7.holds Tryd.pinned (.plain (OpenSpec.ofChange topPostedSpec)) topPostedCard

/-- THE TIED CARD OF 'lockkeepertop.TopRung'. -/
def topRungCard : Claim7 := { stood := { row := topRungRow, standIns := [], harness := (true, "67452e8c771c979d410a3acd0a70291502048a4a7c826a01043516b6371fd159"), looks := false }, kinds := [], alts := [], laidByText := true, laidKinds := [.data], laidTests := true, laidLooks := .later }
def TopRungCardSaid : Prop := Claim7.holds Tryd.pinned (.plain (OpenSpec.ofChange topRungSpec)) topRungCard

/-- THE SECOND FORM's CARD OF 'lockkeepertop.TopTorn'. -/
def topTornUptoCard : Claim7 := { stood := { row := topTornUptoRow, standIns := [], harness := (true, "67452e8c771c979d410a3acd0a70291502048a4a7c826a01043516b6371fd159"), looks := false }, kinds := [], alts := [], laidByText := true, laidKinds := [.data], laidTests := true, laidLooks := .later }
def TopTornUptoCardSaid : Prop := Claim7.holds Tryd.pinned (.plain (OpenSpec.upto topTornSpec)) topTornUptoCard

/-- THE SECOND FORM's CARD OF 'lockkeepertop.TopSpans'. -/
def topSpansUptoCard : Claim7 := { stood := { row := topSpansUptoRow, standIns := [], harness := (true, "67452e8c771c979d410a3acd0a70291502048a4a7c826a01043516b6371fd159"), looks := false }, kinds := [], alts := [], laidByText := true, laidKinds := [.data], laidTests := true, laidLooks := .later }
def TopSpansUptoCardSaid : Prop := Claim7.holds Tryd.pinned (.plain (OpenSpec.upto topSpansSpec)) topSpansUptoCard

/-- THE SECOND FORM's CARD OF 'lockkeepertop.TopNumbered'. -/
def topNumberedUptoCard : Claim7 := { stood := { row := topNumberedUptoRow, standIns := [], harness := (true, "67452e8c771c979d410a3acd0a70291502048a4a7c826a01043516b6371fd159"), looks := false }, kinds := [], alts := [], laidByText := true, laidKinds := [.data], laidTests := true, laidLooks := .later }
def TopNumberedUptoCardSaid : Prop := Claim7.holds Tryd.pinned (.plain (OpenSpec.upto topNumberedSpec)) topNumberedUptoCard

/-- THE SECOND FORM's CARD OF 'lockkeepertop.TopPosted'. -/
def topPostedUptoCard : Claim7 := { stood := { row := topPostedUptoRow, standIns := [], harness := (true, "67452e8c771c979d410a3acd0a70291502048a4a7c826a01043516b6371fd159"), looks := false }, kinds := [], alts := [], laidByText := true, laidKinds := [.data], laidTests := true, laidLooks := .later }
def TopPostedUptoCardSaid : Prop := Claim7.holds Tryd.pinned (.plain (OpenSpec.upto topPostedSpec)) topPostedUptoCard

/-- THE SECOND FORM's CARD OF 'lockkeepertop.TopRung'. -/
def topRungUptoCard : Claim7 := { stood := { row := topRungUptoRow, standIns := [], harness := (true, "67452e8c771c979d410a3acd0a70291502048a4a7c826a01043516b6371fd159"), looks := false }, kinds := [], alts := [], laidByText := true, laidKinds := [.data], laidTests := true, laidLooks := .later }
def TopRungUptoCardSaid : Prop := Claim7.holds Tryd.pinned (.plain (OpenSpec.upto topRungSpec)) topRungUptoCard
end Rows
end Go.Proofs.YtapglfnjoppjiaaDoor
