/-
  No cell of these rows narrows 'for every input' (looked for: loops, veiled, ifaces, maps, wideKeys, modest, calm, conditions, laid).
  DERIVED. THE GIVEN ROWS OF THIS SEAT. 4 by the template 'for every input the law returns true; each argument reads behind the call as it read before'; 0 by the template 'total and deterministic' (their statements: YtgjijoielfpmkaaTotals.lean).
  GIVEN WITH THE SEED: the statements are not yours to turn. If you find one false, say at which input.
  Laid BY PROGRAM, IN A SANDBOX (cutbox-rows.mjs): the forced cells as the released guide's own fill.sh prints them over the translation b8e9ff32de4d0877… (all of the seat's roots in one cut). By AI agents, Wed Nov 11 2026. No macro, syntax, notation, axiom, sorry.
-/
import Derived.Test.YtgjijoielfpmkaaChecked
import GoSem.Claim
import GoSem.ClaimJoined
import GoSem.ClaimMapViews
import Derived.JoinedTies
import Derived.KernelRfl
namespace Go.Proofs.Ytgjijoielfpmkaa
/- THE CELL 'sum', in the pinned program and in every row, IS THE sha256 OF THE DUMP (.gsa) THAT YtgjijoielfpmkaaProg.lean LOADS. Nothing in Lean hashes anything: it is a label: what it is worth is what the hold of that sum in a sandbox is worth. -/
noncomputable def Try.pinned : Pinned := { name := "ytgjijoielfpmkaa", sum := "b8e9ff32de4d087713b72b99966b02a1d6d5a1ccc2ea263e1b6140e58296f8a3", checked := Try.checked }
namespace Rows
def none {H : Type} : Left H := { results := [], args := [] }

/-- 'ferryhouselaw05.RulesCheck': WHATEVER THE INPUT: true; the input reads as it did. -/
def rulesCheckSpec : ChangeSpec := { name := "rulesCheck", fn := fun _ => fun
  | [d] => { results := [.lit (.bool true)], args := [d] }
  | _ => none }
def rulesCheckRow : OpenClaim := { program := "ytgjijoielfpmkaa", sum := "b8e9ff32de4d087713b72b99966b02a1d6d5a1ccc2ea263e1b6140e58296f8a3", func := "ferryhouse/ferryhouselaw05.RulesCheck", spec := "rulesCheck", unfollowed := true, recurses := true, plainKeys := false, apart := false }
def RulesCheckSaid : Prop := rulesCheckRow.holds Try.pinned (OpenSpec.ofChange rulesCheckSpec)

/-- ITS FALSE NEIGHBOUR: 'it returns false'. Refute it at one input. -/
def rulesCheckWrong : ChangeSpec := { name := "rulesCheck", fn := fun _ => fun
  | [d] => { results := [.lit (.bool false)], args := [d] }
  | _ => none }
def RulesCheckWrongFalsely : Prop := rulesCheckRow.holds Try.pinned (OpenSpec.ofChange rulesCheckWrong)

/-- 'ferryhouselaw05.RulesHold': WHATEVER THE INPUT: true; the input reads as it did. -/
def rulesHoldSpec : ChangeSpec := { name := "rulesHold", fn := fun _ => fun
  | [d] => { results := [.lit (.bool true)], args := [d] }
  | _ => none }
def rulesHoldRow : OpenClaim := { program := "ytgjijoielfpmkaa", sum := "b8e9ff32de4d087713b72b99966b02a1d6d5a1ccc2ea263e1b6140e58296f8a3", func := "ferryhouse/ferryhouselaw05.RulesHold", spec := "rulesHold", unfollowed := true, recurses := true, plainKeys := false, apart := false }
def RulesHoldSaid : Prop := rulesHoldRow.holds Try.pinned (OpenSpec.ofChange rulesHoldSpec)

/-- ITS FALSE NEIGHBOUR: 'it returns false'. Refute it at one input. -/
def rulesHoldWrong : ChangeSpec := { name := "rulesHold", fn := fun _ => fun
  | [d] => { results := [.lit (.bool false)], args := [d] }
  | _ => none }
def RulesHoldWrongFalsely : Prop := rulesHoldRow.holds Try.pinned (OpenSpec.ofChange rulesHoldWrong)

/-- 'ferryhouselaw05.RulesOther': WHATEVER THE INPUT: true; the input reads as it did. -/
def rulesOtherSpec : ChangeSpec := { name := "rulesOther", fn := fun _ => fun
  | [d1, d2, d3] => { results := [.lit (.bool true)], args := [d1, d2, d3] }
  | _ => none }
def rulesOtherRow : OpenClaim := { program := "ytgjijoielfpmkaa", sum := "b8e9ff32de4d087713b72b99966b02a1d6d5a1ccc2ea263e1b6140e58296f8a3", func := "ferryhouse/ferryhouselaw05.RulesOther", spec := "rulesOther", unfollowed := true, recurses := true, plainKeys := false, apart := false }
def RulesOtherSaid : Prop := rulesOtherRow.holds Try.pinned (OpenSpec.ofChange rulesOtherSpec)

/-- ITS FALSE NEIGHBOUR: 'it returns false'. Refute it at one input. -/
def rulesOtherWrong : ChangeSpec := { name := "rulesOther", fn := fun _ => fun
  | [d1, d2, d3] => { results := [.lit (.bool false)], args := [d1, d2, d3] }
  | _ => none }
def RulesOtherWrongFalsely : Prop := rulesOtherRow.holds Try.pinned (OpenSpec.ofChange rulesOtherWrong)

/-- 'ferryhouselaw05.RulesMore': WHATEVER THE INPUT: true; the input reads as it did. -/
def rulesMoreSpec : ChangeSpec := { name := "rulesMore", fn := fun _ => fun
  | [d1, d2, d3] => { results := [.lit (.bool true)], args := [d1, d2, d3] }
  | _ => none }
def rulesMoreRow : OpenClaim := { program := "ytgjijoielfpmkaa", sum := "b8e9ff32de4d087713b72b99966b02a1d6d5a1ccc2ea263e1b6140e58296f8a3", func := "ferryhouse/ferryhouselaw05.RulesMore", spec := "rulesMore", unfollowed := true, recurses := true, plainKeys := false, apart := false }
def RulesMoreSaid : Prop := rulesMoreRow.holds Try.pinned (OpenSpec.ofChange rulesMoreSpec)

/-- ITS FALSE NEIGHBOUR: 'it returns false'. Refute it at one input. -/
def rulesMoreWrong : ChangeSpec := { name := "rulesMore", fn := fun _ => fun
  | [d1, d2, d3] => { results := [.lit (.bool false)], args := [d1, d2, d3] }
  | _ => none }
def RulesMoreWrongFalsely : Prop := rulesMoreRow.holds Try.pinned (OpenSpec.ofChange rulesMoreWrong)

/- THE SECOND FORM. 'bulk': how many values and letters a reading holds, each counted each time it is reached (what is shared counts as often as it is met; a slice's spare places count too). A statement '..UptoSaid' is the law's where the arguments, and the package variables that the reading takes, are together of bulk at most 1048576: NARROWER than '..Said'. Prove '..Said' where nothing that the law and all that it calls make is longer than what came in: it says more and counts as full. Else prove '..UptoSaid'. A law counts once. -/
mutual
def uptoBulk {H : Type} : DataW H → Nat
  | .lit (.string bytes) => bytes.length + 1
  | .lit _ => 1
  | .nil => 1
  | .ptr d => uptoBulk d + 1
  | .slice elems spare => uptoBulkAll elems + uptoBulkAll spare + 1
  | .agg parts => uptoBulkAll parts + 1
  | .iface _ d => uptoBulk d + 1
  | .map entries => uptoBulkEntries entries + 1
  | .held _ => 1
def uptoBulkAll {H : Type} : List (DataW H) → Nat
  | [] => 0
  | d :: r => uptoBulk d + uptoBulkAll r
def uptoBulkEntries {H : Type} : List (Lit × DataW H) → Nat
  | [] => 0
  | x :: r => uptoBulkEntry x + uptoBulkEntries r
def uptoBulkEntry {H : Type} : Lit × DataW H → Nat
  | (.string bytes, d) => bytes.length + uptoBulk d + 1
  | (_, d) => uptoBulk d + 1
 end
def uptoSmall : (H : Type) → List (DataW H) → Bool := fun _ ds => decide (uptoBulkAll ds ≤ 1048576)
def OpenSpec.upto (s : _root_.Go.ChangeSpec) : _root_.Go.OpenSpec := { _root_.Go.OpenSpec.ofChange s with cond := some uptoSmall }

/-- 'ferryhouselaw05.RulesCheck', WHERE WHAT IT READS IS OF BULK AT MOST 1048576: true; the input reads as it did. -/
def rulesCheckUptoRow : OpenClaim := { program := "ytgjijoielfpmkaa", sum := "b8e9ff32de4d087713b72b99966b02a1d6d5a1ccc2ea263e1b6140e58296f8a3", func := "ferryhouse/ferryhouselaw05.RulesCheck", spec := "rulesCheck", unfollowed := true, recurses := true, plainKeys := false, apart := false, narrowed := true }
def RulesCheckUptoSaid : Prop := rulesCheckUptoRow.holds Try.pinned (OpenSpec.upto rulesCheckSpec)

/-- 'ferryhouselaw05.RulesHold', WHERE WHAT IT READS IS OF BULK AT MOST 1048576: true; the input reads as it did. -/
def rulesHoldUptoRow : OpenClaim := { program := "ytgjijoielfpmkaa", sum := "b8e9ff32de4d087713b72b99966b02a1d6d5a1ccc2ea263e1b6140e58296f8a3", func := "ferryhouse/ferryhouselaw05.RulesHold", spec := "rulesHold", unfollowed := true, recurses := true, plainKeys := false, apart := false, narrowed := true }
def RulesHoldUptoSaid : Prop := rulesHoldUptoRow.holds Try.pinned (OpenSpec.upto rulesHoldSpec)

/-- 'ferryhouselaw05.RulesOther', WHERE WHAT IT READS IS OF BULK AT MOST 1048576: true; the input reads as it did. -/
def rulesOtherUptoRow : OpenClaim := { program := "ytgjijoielfpmkaa", sum := "b8e9ff32de4d087713b72b99966b02a1d6d5a1ccc2ea263e1b6140e58296f8a3", func := "ferryhouse/ferryhouselaw05.RulesOther", spec := "rulesOther", unfollowed := true, recurses := true, plainKeys := false, apart := false, narrowed := true }
def RulesOtherUptoSaid : Prop := rulesOtherUptoRow.holds Try.pinned (OpenSpec.upto rulesOtherSpec)

/-- 'ferryhouselaw05.RulesMore', WHERE WHAT IT READS IS OF BULK AT MOST 1048576: true; the input reads as it did. -/
def rulesMoreUptoRow : OpenClaim := { program := "ytgjijoielfpmkaa", sum := "b8e9ff32de4d087713b72b99966b02a1d6d5a1ccc2ea263e1b6140e58296f8a3", func := "ferryhouse/ferryhouselaw05.RulesMore", spec := "rulesMore", unfollowed := true, recurses := true, plainKeys := false, apart := false, narrowed := true }
def RulesMoreUptoSaid : Prop := rulesMoreUptoRow.holds Try.pinned (OpenSpec.upto rulesMoreSpec)

end Rows
end Go.Proofs.Ytgjijoielfpmkaa
