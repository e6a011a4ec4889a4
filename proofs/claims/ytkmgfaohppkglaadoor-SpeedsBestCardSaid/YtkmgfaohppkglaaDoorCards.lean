/-
  DERIVED. GIVEN WITH THE SEED: THE CARDS: each row of YtkmgfaohppkglaaDoorRows.lean that lists a variable, with what it lists TIED to the program's text (the seventh form; the later family's looks); each row that meets fmt, with fmt's text TOLD by the authors' own Lean function (tested against real Go, not proved from fmt's source: count such statements apart). THE CARD IS WHAT COUNTS. Prove the row's statement (the work); the ties are given (YtkmgfaohppkglaaDoorTie.lean); close each card by the builder's one call (the guide's Derived/Test/ToyasCard.lean, 'card_holds'). Laid BY PROGRAM, IN A SANDBOX (cutbox-door.mjs). By AI agents, Wed Nov 11 2026. No macro, syntax, notation, axiom, sorry.
-/
import Derived.Test.YtkmgfaohppkglaaDoorRows
import GoSem.ClaimSeven
namespace Go.Proofs.YtkmgfaohppkglaaDoor
namespace Rows

/-- THE TIED CARD OF 'ferryhouselaw23.SpeedsWait'. -/
def speedsWaitCard : Claim7 := { stood := { row := speedsWaitRow, standIns := [], harness := (true, "656535ba3473c43983ac1b63af012e507ea98e9185f20dc370e88fefc86b7388"), looks := false }, kinds := [], alts := [], laidByText := true, laidKinds := [.data], laidTests := true, laidLooks := .later }
def SpeedsWaitCardSaid : Prop := Claim7.holds Tryd.pinned (.plain (OpenSpec.ofChange speedsWaitSpec)) speedsWaitCard

/-- THE TIED CARD OF 'ferryhouselaw23.SpeedsPick'. -/
def speedsPickCard : Claim7 := { stood := { row := speedsPickRow, standIns := [], harness := (true, "656535ba3473c43983ac1b63af012e507ea98e9185f20dc370e88fefc86b7388"), looks := false }, kinds := [], alts := [], laidByText := true, laidKinds := [.data], laidTests := true, laidLooks := .later }
def SpeedsPickCardSaid : Prop := Claim7.holds Tryd.pinned (.plain (OpenSpec.ofChange speedsPickSpec)) speedsPickCard

/-- THE TIED CARD OF 'ferryhouselaw23.SpeedsOrder'. -/
def speedsOrderCard : Claim7 := { stood := { row := speedsOrderRow, standIns := [], harness := (true, "656535ba3473c43983ac1b63af012e507ea98e9185f20dc370e88fefc86b7388"), looks := false }, kinds := [], alts := [], laidByText := true, laidKinds := [.data], laidTests := true, laidLooks := .later }
def SpeedsOrderCardSaid : Prop := Claim7.holds Tryd.pinned (.plain (OpenSpec.ofChange speedsOrderSpec)) speedsOrderCard

/-- THE TIED CARD OF 'ferryhouselaw23.SpeedsMore'. -/
def speedsMoreCard : Claim7 := { stood := { row := speedsMoreRow, standIns := [], harness := (true, "656535ba3473c43983ac1b63af012e507ea98e9185f20dc370e88fefc86b7388"), looks := false }, kinds := [], alts := [], laidByText := true, laidKinds := [.data], laidTests := true, laidLooks := .later }
def SpeedsMoreCardSaid : Prop := Claim7.holds Tryd.pinned (.plain (OpenSpec.ofChange speedsMoreSpec)) speedsMoreCard

/-- THE TIED CARD OF 'ferryhouselaw23.SpeedsBest'. -/
def speedsBestCard : Claim7 := { stood := { row := speedsBestRow, standIns := [], harness := (true, "656535ba3473c43983ac1b63af012e507ea98e9185f20dc370e88fefc86b7388"), looks := false }, kinds := [], alts := [], laidByText := true, laidKinds := [.data], laidTests := true, laidLooks := .later }
def SpeedsBestCardSaid : Prop := Claim7.holds Tryd.pinned (.plain (OpenSpec.ofChange speedsBestSpec)) speedsBestCard

/-- THE SECOND FORM's CARD OF 'ferryhouselaw23.SpeedsWait'. -/
def speedsWaitUptoCard : Claim7 := { stood := { row := speedsWaitUptoRow, standIns := [], harness := (true, "656535ba3473c43983ac1b63af012e507ea98e9185f20dc370e88fefc86b7388"), looks := false }, kinds := [], alts := [], laidByText := true, laidKinds := [.data], laidTests := true, laidLooks := .later }
def SpeedsWaitUptoCardSaid : Prop := Claim7.holds Tryd.pinned (.plain (OpenSpec.upto speedsWaitSpec)) speedsWaitUptoCard

/-- THE SECOND FORM's CARD OF 'ferryhouselaw23.SpeedsPick'. -/
def speedsPickUptoCard : Claim7 := { stood := { row := speedsPickUptoRow, standIns := [], harness := (true, "656535ba3473c43983ac1b63af012e507ea98e9185f20dc370e88fefc86b7388"), looks := false }, kinds := [], alts := [], laidByText := true, laidKinds := [.data], laidTests := true, laidLooks := .later }
def SpeedsPickUptoCardSaid : Prop := Claim7.holds Tryd.pinned (.plain (OpenSpec.upto speedsPickSpec)) speedsPickUptoCard

/-- THE SECOND FORM's CARD OF 'ferryhouselaw23.SpeedsOrder'. -/
def speedsOrderUptoCard : Claim7 := { stood := { row := speedsOrderUptoRow, standIns := [], harness := (true, "656535ba3473c43983ac1b63af012e507ea98e9185f20dc370e88fefc86b7388"), looks := false }, kinds := [], alts := [], laidByText := true, laidKinds := [.data], laidTests := true, laidLooks := .later }
def SpeedsOrderUptoCardSaid : Prop := Claim7.holds Tryd.pinned (.plain (OpenSpec.upto speedsOrderSpec)) speedsOrderUptoCard

/-- THE SECOND FORM's CARD OF 'ferryhouselaw23.SpeedsMore'. -/
def speedsMoreUptoCard : Claim7 := { stood := { row := speedsMoreUptoRow, standIns := [], harness := (true, "656535ba3473c43983ac1b63af012e507ea98e9185f20dc370e88fefc86b7388"), looks := false }, kinds := [], alts := [], laidByText := true, laidKinds := [.data], laidTests := true, laidLooks := .later }
def SpeedsMoreUptoCardSaid : Prop := Claim7.holds Tryd.pinned (.plain (OpenSpec.upto speedsMoreSpec)) speedsMoreUptoCard

/-- THE SECOND FORM's CARD OF 'ferryhouselaw23.SpeedsBest'. -/
def speedsBestUptoCard : Claim7 := { stood := { row := speedsBestUptoRow, standIns := [], harness := (true, "656535ba3473c43983ac1b63af012e507ea98e9185f20dc370e88fefc86b7388"), looks := false }, kinds := [], alts := [], laidByText := true, laidKinds := [.data], laidTests := true, laidLooks := .later }
def SpeedsBestUptoCardSaid : Prop := Claim7.holds Tryd.pinned (.plain (OpenSpec.upto speedsBestSpec)) speedsBestUptoCard
end Rows
end Go.Proofs.YtkmgfaohppkglaaDoor
