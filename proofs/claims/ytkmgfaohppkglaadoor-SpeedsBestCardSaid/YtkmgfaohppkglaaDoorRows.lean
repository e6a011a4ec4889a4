/-
  NARROWER THAN 'FOR EVERY INPUT', by the rows' own cells (each row's printed sentence says how): SpeedsWait: laid · SpeedsPick: laid · SpeedsOrder: laid · SpeedsMore: laid · SpeedsBest: laid.
  DERIVED. THE GIVEN ROWS OF THIS SEAT. 5 by the template 'for every input the law returns true; each argument reads behind the call as it read before'; 0 by the template 'total and deterministic' (their statements: YtkmgfaohppkglaaDoorTotals.lean).
  GIVEN WITH THE SEED: the statements are not yours to turn. If you find one false, say at which input.
  Laid BY PROGRAM, IN A SANDBOX (cutbox-rows.mjs): the forced cells as the released guide's own fill.sh prints them over the translation 835bc49a2840b4ae… (all of the seat's roots in one cut). By AI agents, Wed Nov 11 2026. No macro, syntax, notation, axiom, sorry.
-/
import Derived.Test.YtkmgfaohppkglaaDoorChecked
import GoSem.Claim
import GoSem.ClaimJoined
import GoSem.ClaimMapViews
import Derived.JoinedTies
import Derived.KernelRfl
namespace Go.Proofs.YtkmgfaohppkglaaDoor
/- THE CELL 'sum', in the pinned program and in every row, IS THE sha256 OF THE DUMP (.gsa) THAT YtkmgfaohppkglaaDoorProg.lean LOADS. Nothing in Lean hashes anything: it is a label: what it is worth is what the hold of that sum in a sandbox is worth. -/
noncomputable def Tryd.pinned : Pinned := { name := "ytkmgfaohppkglaadoor", sum := "835bc49a2840b4ae380ef06096d43aeaac31a80fdc56c3dacab6e839c3835366", checked := Tryd.checked }
namespace Rows
def none {H : Type} : Left H := { results := [], args := [] }

/- WHAT THE LISTED PACKAGE-LEVEL VARIABLES READ AS WHEN THE CALL BEGINS. Each datum BY PROGRAM (the guide's laid-datum.mjs) off the statement by which the dump's own 'gosem.cut.vars' lays the variable. In a bare row this is a premise. The card (YtkmgfaohppkglaaDoorCards.lean) ties it to the program's text. -/
def laid_math_bits_deBruijn64tab {H : Type} : DataW H := .agg [.lit (.int .u8 0), .lit (.int .u8 1), .lit (.int .u8 56), .lit (.int .u8 2), .lit (.int .u8 57), .lit (.int .u8 49), .lit (.int .u8 28), .lit (.int .u8 3), .lit (.int .u8 61), .lit (.int .u8 58), .lit (.int .u8 42), .lit (.int .u8 50), .lit (.int .u8 38), .lit (.int .u8 29), .lit (.int .u8 17), .lit (.int .u8 4), .lit (.int .u8 62), .lit (.int .u8 47), .lit (.int .u8 59), .lit (.int .u8 36), .lit (.int .u8 45), .lit (.int .u8 43), .lit (.int .u8 51), .lit (.int .u8 22), .lit (.int .u8 53), .lit (.int .u8 39), .lit (.int .u8 33), .lit (.int .u8 30), .lit (.int .u8 24), .lit (.int .u8 18), .lit (.int .u8 12), .lit (.int .u8 5), .lit (.int .u8 63), .lit (.int .u8 55), .lit (.int .u8 48), .lit (.int .u8 27), .lit (.int .u8 60), .lit (.int .u8 41), .lit (.int .u8 37), .lit (.int .u8 16), .lit (.int .u8 46), .lit (.int .u8 35), .lit (.int .u8 44), .lit (.int .u8 21), .lit (.int .u8 52), .lit (.int .u8 32), .lit (.int .u8 23), .lit (.int .u8 11), .lit (.int .u8 54), .lit (.int .u8 26), .lit (.int .u8 40), .lit (.int .u8 15), .lit (.int .u8 34), .lit (.int .u8 20), .lit (.int .u8 31), .lit (.int .u8 10), .lit (.int .u8 25), .lit (.int .u8 14), .lit (.int .u8 19), .lit (.int .u8 9), .lit (.int .u8 13), .lit (.int .u8 8), .lit (.int .u8 7), .lit (.int .u8 6)]

/-- 'ferryhouselaw23.SpeedsWait': WHATEVER THE INPUT: true; the input reads as it did. -/
def speedsWaitSpec : ChangeSpec := { name := "speedsWait", fn := fun _ => fun
  | [d1, d2, d3] => { results := [.lit (.bool true)], args := [d1, d2, d3] }
  | _ => none }
def speedsWaitRow : OpenClaim := { program := "ytkmgfaohppkglaadoor", sum := "835bc49a2840b4ae380ef06096d43aeaac31a80fdc56c3dacab6e839c3835366", func := "ferryhouse/ferryhouselaw23.SpeedsWait", spec := "speedsWait", inPlace := ["math.Float64frombits", "math.Float64bits"], unfollowed := true, recurses := true, named := ["math/bits.deBruijn64tab"], apart := false, laid := [("math/bits.deBruijn64tab", laid_math_bits_deBruijn64tab)] }
def SpeedsWaitSaid : Prop := speedsWaitRow.holds Tryd.pinned (OpenSpec.ofChange speedsWaitSpec)

/-- ITS FALSE NEIGHBOUR: 'it returns false'. Refute it at one input. -/
def speedsWaitWrong : ChangeSpec := { name := "speedsWait", fn := fun _ => fun
  | [d1, d2, d3] => { results := [.lit (.bool false)], args := [d1, d2, d3] }
  | _ => none }
def SpeedsWaitWrongFalsely : Prop := speedsWaitRow.holds Tryd.pinned (OpenSpec.ofChange speedsWaitWrong)

/-- 'ferryhouselaw23.SpeedsPick': WHATEVER THE INPUT: true; the input reads as it did. -/
def speedsPickSpec : ChangeSpec := { name := "speedsPick", fn := fun _ => fun
  | [d1, d2] => { results := [.lit (.bool true)], args := [d1, d2] }
  | _ => none }
def speedsPickRow : OpenClaim := { program := "ytkmgfaohppkglaadoor", sum := "835bc49a2840b4ae380ef06096d43aeaac31a80fdc56c3dacab6e839c3835366", func := "ferryhouse/ferryhouselaw23.SpeedsPick", spec := "speedsPick", inPlace := ["math.Float64frombits", "math.Float64bits"], unfollowed := true, recurses := true, named := ["math/bits.deBruijn64tab"], apart := false, laid := [("math/bits.deBruijn64tab", laid_math_bits_deBruijn64tab)] }
def SpeedsPickSaid : Prop := speedsPickRow.holds Tryd.pinned (OpenSpec.ofChange speedsPickSpec)

/-- ITS FALSE NEIGHBOUR: 'it returns false'. Refute it at one input. -/
def speedsPickWrong : ChangeSpec := { name := "speedsPick", fn := fun _ => fun
  | [d1, d2] => { results := [.lit (.bool false)], args := [d1, d2] }
  | _ => none }
def SpeedsPickWrongFalsely : Prop := speedsPickRow.holds Tryd.pinned (OpenSpec.ofChange speedsPickWrong)

/-- 'ferryhouselaw23.SpeedsOrder': WHATEVER THE INPUT: true; the input reads as it did. -/
def speedsOrderSpec : ChangeSpec := { name := "speedsOrder", fn := fun _ => fun
  | [d1, d2, d3] => { results := [.lit (.bool true)], args := [d1, d2, d3] }
  | _ => none }
def speedsOrderRow : OpenClaim := { program := "ytkmgfaohppkglaadoor", sum := "835bc49a2840b4ae380ef06096d43aeaac31a80fdc56c3dacab6e839c3835366", func := "ferryhouse/ferryhouselaw23.SpeedsOrder", spec := "speedsOrder", inPlace := ["math.Float64frombits", "math.Float64bits"], unfollowed := true, recurses := true, named := ["math/bits.deBruijn64tab"], apart := false, laid := [("math/bits.deBruijn64tab", laid_math_bits_deBruijn64tab)] }
def SpeedsOrderSaid : Prop := speedsOrderRow.holds Tryd.pinned (OpenSpec.ofChange speedsOrderSpec)

/-- ITS FALSE NEIGHBOUR: 'it returns false'. Refute it at one input. -/
def speedsOrderWrong : ChangeSpec := { name := "speedsOrder", fn := fun _ => fun
  | [d1, d2, d3] => { results := [.lit (.bool false)], args := [d1, d2, d3] }
  | _ => none }
def SpeedsOrderWrongFalsely : Prop := speedsOrderRow.holds Tryd.pinned (OpenSpec.ofChange speedsOrderWrong)

/-- 'ferryhouselaw23.SpeedsMore': WHATEVER THE INPUT: true; the input reads as it did. -/
def speedsMoreSpec : ChangeSpec := { name := "speedsMore", fn := fun _ => fun
  | [d1, d2, d3] => { results := [.lit (.bool true)], args := [d1, d2, d3] }
  | _ => none }
def speedsMoreRow : OpenClaim := { program := "ytkmgfaohppkglaadoor", sum := "835bc49a2840b4ae380ef06096d43aeaac31a80fdc56c3dacab6e839c3835366", func := "ferryhouse/ferryhouselaw23.SpeedsMore", spec := "speedsMore", inPlace := ["math.Float64frombits", "math.Float64bits"], unfollowed := true, recurses := true, named := ["math/bits.deBruijn64tab"], apart := false, laid := [("math/bits.deBruijn64tab", laid_math_bits_deBruijn64tab)] }
def SpeedsMoreSaid : Prop := speedsMoreRow.holds Tryd.pinned (OpenSpec.ofChange speedsMoreSpec)

/-- ITS FALSE NEIGHBOUR: 'it returns false'. Refute it at one input. -/
def speedsMoreWrong : ChangeSpec := { name := "speedsMore", fn := fun _ => fun
  | [d1, d2, d3] => { results := [.lit (.bool false)], args := [d1, d2, d3] }
  | _ => none }
def SpeedsMoreWrongFalsely : Prop := speedsMoreRow.holds Tryd.pinned (OpenSpec.ofChange speedsMoreWrong)

/-- 'ferryhouselaw23.SpeedsBest': WHATEVER THE INPUT: true; the input reads as it did. -/
def speedsBestSpec : ChangeSpec := { name := "speedsBest", fn := fun _ => fun
  | [d1, d2, d3] => { results := [.lit (.bool true)], args := [d1, d2, d3] }
  | _ => none }
def speedsBestRow : OpenClaim := { program := "ytkmgfaohppkglaadoor", sum := "835bc49a2840b4ae380ef06096d43aeaac31a80fdc56c3dacab6e839c3835366", func := "ferryhouse/ferryhouselaw23.SpeedsBest", spec := "speedsBest", inPlace := ["math.Float64frombits", "math.Float64bits"], unfollowed := true, recurses := true, named := ["math/bits.deBruijn64tab"], apart := false, laid := [("math/bits.deBruijn64tab", laid_math_bits_deBruijn64tab)] }
def SpeedsBestSaid : Prop := speedsBestRow.holds Tryd.pinned (OpenSpec.ofChange speedsBestSpec)

/-- ITS FALSE NEIGHBOUR: 'it returns false'. Refute it at one input. -/
def speedsBestWrong : ChangeSpec := { name := "speedsBest", fn := fun _ => fun
  | [d1, d2, d3] => { results := [.lit (.bool false)], args := [d1, d2, d3] }
  | _ => none }
def SpeedsBestWrongFalsely : Prop := speedsBestRow.holds Tryd.pinned (OpenSpec.ofChange speedsBestWrong)

/- THE SECOND FORM. 'bulk': how many values and letters a reading holds, each counted each time it is reached (what is shared counts as often as it is met; a slice's spare places count too). A statement '..UptoSaid' is the law's where the arguments, and the package variables that the reading takes, are together of bulk at most 1048576: NARROWER than '..Said'. Prove '..Said' where nothing that the law and all that it calls make is longer than what came in: it says more and counts as full. Else prove '..UptoSaid'. A law counts once. -/
mutual
def uptoBulk {H : Type} : DataW H → Nat
  | .lit (.string bytes) => bytes.length + 1
  | .lit _ => 1
  | .nil => 1
  | .ptr d => uptoBulk d + 1
  | .slice elems spare => uptoBulkAll elems + uptoBulkAll spare + 1
  | .agg parts => uptoBulkAll parts + 1
  | .iface _ d => uptoBulk d + 1
  | .map entries => uptoBulkEntries entries + 1
  | .held _ => 1
def uptoBulkAll {H : Type} : List (DataW H) → Nat
  | [] => 0
  | d :: r => uptoBulk d + uptoBulkAll r
def uptoBulkEntries {H : Type} : List (Lit × DataW H) → Nat
  | [] => 0
  | x :: r => uptoBulkEntry x + uptoBulkEntries r
def uptoBulkEntry {H : Type} : Lit × DataW H → Nat
  | (.string bytes, d) => bytes.length + uptoBulk d + 1
  | (_, d) => uptoBulk d + 1
 end
def uptoSmall : (H : Type) → List (DataW H) → Bool := fun _ ds => decide (uptoBulkAll ds ≤ 1048576)
def OpenSpec.upto (s : _root_.Go.ChangeSpec) : _root_.Go.OpenSpec := { _root_.Go.OpenSpec.ofChange s with cond := some uptoSmall }

/-- 'ferryhouselaw23.SpeedsWait', WHERE WHAT IT READS IS OF BULK AT MOST 1048576: true; the input reads as it did. -/
def speedsWaitUptoRow : OpenClaim := { program := "ytkmgfaohppkglaadoor", sum := "835bc49a2840b4ae380ef06096d43aeaac31a80fdc56c3dacab6e839c3835366", func := "ferryhouse/ferryhouselaw23.SpeedsWait", spec := "speedsWait", inPlace := ["math.Float64frombits", "math.Float64bits"], unfollowed := true, recurses := true, named := ["math/bits.deBruijn64tab"], apart := false, laid := [("math/bits.deBruijn64tab", laid_math_bits_deBruijn64tab)], narrowed := true }
def SpeedsWaitUptoSaid : Prop := speedsWaitUptoRow.holds Tryd.pinned (OpenSpec.upto speedsWaitSpec)

/-- 'ferryhouselaw23.SpeedsPick', WHERE WHAT IT READS IS OF BULK AT MOST 1048576: true; the input reads as it did. -/
def speedsPickUptoRow : OpenClaim := { program := "ytkmgfaohppkglaadoor", sum := "835bc49a2840b4ae380ef06096d43aeaac31a80fdc56c3dacab6e839c3835366", func := "ferryhouse/ferryhouselaw23.SpeedsPick", spec := "speedsPick", inPlace := ["math.Float64frombits", "math.Float64bits"], unfollowed := true, recurses := true, named := ["math/bits.deBruijn64tab"], apart := false, laid := [("math/bits.deBruijn64tab", laid_math_bits_deBruijn64tab)], narrowed := true }
def SpeedsPickUptoSaid : Prop := speedsPickUptoRow.holds Tryd.pinned (OpenSpec.upto speedsPickSpec)

/-- 'ferryhouselaw23.SpeedsOrder', WHERE WHAT IT READS IS OF BULK AT MOST 1048576: true; the input reads as it did. -/
def speedsOrderUptoRow : OpenClaim := { program := "ytkmgfaohppkglaadoor", sum := "835bc49a2840b4ae380ef06096d43aeaac31a80fdc56c3dacab6e839c3835366", func := "ferryhouse/ferryhouselaw23.SpeedsOrder", spec := "speedsOrder", inPlace := ["math.Float64frombits", "math.Float64bits"], unfollowed := true, recurses := true, named := ["math/bits.deBruijn64tab"], apart := false, laid := [("math/bits.deBruijn64tab", laid_math_bits_deBruijn64tab)], narrowed := true }
def SpeedsOrderUptoSaid : Prop := speedsOrderUptoRow.holds Tryd.pinned (OpenSpec.upto speedsOrderSpec)

/-- 'ferryhouselaw23.SpeedsMore', WHERE WHAT IT READS IS OF BULK AT MOST 1048576: true; the input reads as it did. -/
def speedsMoreUptoRow : OpenClaim := { program := "ytkmgfaohppkglaadoor", sum := "835bc49a2840b4ae380ef06096d43aeaac31a80fdc56c3dacab6e839c3835366", func := "ferryhouse/ferryhouselaw23.SpeedsMore", spec := "speedsMore", inPlace := ["math.Float64frombits", "math.Float64bits"], unfollowed := true, recurses := true, named := ["math/bits.deBruijn64tab"], apart := false, laid := [("math/bits.deBruijn64tab", laid_math_bits_deBruijn64tab)], narrowed := true }
def SpeedsMoreUptoSaid : Prop := speedsMoreUptoRow.holds Tryd.pinned (OpenSpec.upto speedsMoreSpec)

/-- 'ferryhouselaw23.SpeedsBest', WHERE WHAT IT READS IS OF BULK AT MOST 1048576: true; the input reads as it did. -/
def speedsBestUptoRow : OpenClaim := { program := "ytkmgfaohppkglaadoor", sum := "835bc49a2840b4ae380ef06096d43aeaac31a80fdc56c3dacab6e839c3835366", func := "ferryhouse/ferryhouselaw23.SpeedsBest", spec := "speedsBest", inPlace := ["math.Float64frombits", "math.Float64bits"], unfollowed := true, recurses := true, named := ["math/bits.deBruijn64tab"], apart := false, laid := [("math/bits.deBruijn64tab", laid_math_bits_deBruijn64tab)], narrowed := true }
def SpeedsBestUptoSaid : Prop := speedsBestUptoRow.holds Tryd.pinned (OpenSpec.upto speedsBestSpec)

end Rows
end Go.Proofs.YtkmgfaohppkglaaDoor
