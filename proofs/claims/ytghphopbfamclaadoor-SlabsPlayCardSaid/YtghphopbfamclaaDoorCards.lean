/-
  DERIVED. GIVEN WITH THE SEED: THE CARDS: each row of YtghphopbfamclaaDoorRows.lean that lists a variable, with what it lists TIED to the program's text (the seventh form; the later family's looks); each row that meets fmt, with fmt's text TOLD by the authors' own Lean function (tested against real Go, not proved from fmt's source: count such statements apart). THE CARD IS WHAT COUNTS. Prove the row's statement (the work); the ties are given (YtghphopbfamclaaDoorTie.lean); close each card by the builder's one call (the guide's Derived/Test/ToyasCard.lean, 'card_holds'). Laid BY PROGRAM, IN A SANDBOX (cutbox-door.mjs). By AI agents, Wed Nov 11 2026. No macro, syntax, notation, axiom, sorry.
-/
import Derived.Test.YtghphopbfamclaaDoorRows
import GoSem.ClaimSeven
namespace Go.Proofs.YtghphopbfamclaaDoor
namespace Rows

/-- THE TIED CARD OF 'ferryhouselaw17.SlabsVoid'. -/
def slabsVoidCard : Claim7 := { stood := { row := slabsVoidRow, standIns := [], harness := (true, "a5d2b02faea2dd1ce445b1cb79e991e15203259401b2cc3a4493fe2d728c934d"), looks := false }, kinds := [], alts := [], laidByText := true, laidKinds := [.data], laidTests := true, laidLooks := .later }
def SlabsVoidCardSaid : Prop := Claim7.holds Tryd.pinned (.plain (OpenSpec.ofChange slabsVoidSpec)) slabsVoidCard

/-- THE TIED CARD OF 'ferryhouselaw17.SlabsTwo'. -/
def slabsTwoCard : Claim7 := { stood := { row := slabsTwoRow, standIns := [], harness := (true, "a5d2b02faea2dd1ce445b1cb79e991e15203259401b2cc3a4493fe2d728c934d"), looks := false }, kinds := [], alts := [], laidByText := true, laidKinds := [.data], laidTests := true, laidLooks := .later }
def SlabsTwoCardSaid : Prop := Claim7.holds Tryd.pinned (.plain (OpenSpec.ofChange slabsTwoSpec)) slabsTwoCard

/-- THE TIED CARD OF 'ferryhouselaw17.SlabsFill'. -/
def slabsFillCard : Claim7 := { stood := { row := slabsFillRow, standIns := [], harness := (true, "a5d2b02faea2dd1ce445b1cb79e991e15203259401b2cc3a4493fe2d728c934d"), looks := false }, kinds := [], alts := [], laidByText := true, laidKinds := [.data], laidTests := true, laidLooks := .later }
def SlabsFillCardSaid : Prop := Claim7.holds Tryd.pinned (.plain (OpenSpec.ofChange slabsFillSpec)) slabsFillCard

/-- THE TIED CARD OF 'ferryhouselaw17.SlabsPlay'. -/
def slabsPlayCard : Claim7 := { stood := { row := slabsPlayRow, standIns := [], harness := (true, "a5d2b02faea2dd1ce445b1cb79e991e15203259401b2cc3a4493fe2d728c934d"), looks := false }, kinds := [], alts := [], laidByText := true, laidKinds := [.data], laidTests := true, laidLooks := .later }
def SlabsPlayCardSaid : Prop := Claim7.holds Tryd.pinned (.plain (OpenSpec.ofChange slabsPlaySpec)) slabsPlayCard

/-- THE SECOND FORM's CARD OF 'ferryhouselaw17.SlabsVoid'. -/
def slabsVoidUptoCard : Claim7 := { stood := { row := slabsVoidUptoRow, standIns := [], harness := (true, "a5d2b02faea2dd1ce445b1cb79e991e15203259401b2cc3a4493fe2d728c934d"), looks := false }, kinds := [], alts := [], laidByText := true, laidKinds := [.data], laidTests := true, laidLooks := .later }
def SlabsVoidUptoCardSaid : Prop := Claim7.holds Tryd.pinned (.plain (OpenSpec.upto slabsVoidSpec)) slabsVoidUptoCard

/-- THE SECOND FORM's CARD OF 'ferryhouselaw17.SlabsTwo'. -/
def slabsTwoUptoCard : Claim7 := { stood := { row := slabsTwoUptoRow, standIns := [], harness := (true, "a5d2b02faea2dd1ce445b1cb79e991e15203259401b2cc3a4493fe2d728c934d"), looks := false }, kinds := [], alts := [], laidByText := true, laidKinds := [.data], laidTests := true, laidLooks := .later }
def SlabsTwoUptoCardSaid : Prop := Claim7.holds Tryd.pinned (.plain (OpenSpec.upto slabsTwoSpec)) slabsTwoUptoCard

/-- THE SECOND FORM's CARD OF 'ferryhouselaw17.SlabsFill'. -/
def slabsFillUptoCard : Claim7 := { stood := { row := slabsFillUptoRow, standIns := [], harness := (true, "a5d2b02faea2dd1ce445b1cb79e991e15203259401b2cc3a4493fe2d728c934d"), looks := false }, kinds := [], alts := [], laidByText := true, laidKinds := [.data], laidTests := true, laidLooks := .later }
def SlabsFillUptoCardSaid : Prop := Claim7.holds Tryd.pinned (.plain (OpenSpec.upto slabsFillSpec)) slabsFillUptoCard

/-- THE SECOND FORM's CARD OF 'ferryhouselaw17.SlabsPlay'. -/
def slabsPlayUptoCard : Claim7 := { stood := { row := slabsPlayUptoRow, standIns := [], harness := (true, "a5d2b02faea2dd1ce445b1cb79e991e15203259401b2cc3a4493fe2d728c934d"), looks := false }, kinds := [], alts := [], laidByText := true, laidKinds := [.data], laidTests := true, laidLooks := .later }
def SlabsPlayUptoCardSaid : Prop := Claim7.holds Tryd.pinned (.plain (OpenSpec.upto slabsPlaySpec)) slabsPlayUptoCard
end Rows
end Go.Proofs.YtghphopbfamclaaDoor
