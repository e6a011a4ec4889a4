/-
  No cell of these rows narrows 'for every input' (looked for: loops, veiled, ifaces, maps, wideKeys, modest, calm, conditions, laid).
  DERIVED. THE GIVEN ROWS OF THIS SEAT. 3 by the template 'for every input the law returns true; each argument reads behind the call as it read before'; 0 by the template 'total and deterministic' (their statements: YtgipohphnegnhaaTotals.lean).
  GIVEN WITH THE SEED: the statements are not yours to turn. If you find one false, say at which input.
  Laid BY PROGRAM, IN A SANDBOX (cutbox-rows.mjs): the forced cells as the released guide's own fill.sh prints them over the translation d103b52ea749ac2d… (all of the seat's roots in one cut). By AI agents, Wed Nov 11 2026. No macro, syntax, notation, axiom, sorry.
-/
import Derived.Test.YtgipohphnegnhaaChecked
import GoSem.Claim
import GoSem.ClaimJoined
import GoSem.ClaimMapViews
import Derived.JoinedTies
import Derived.KernelRfl
namespace Go.Proofs.Ytgipohphnegnhaa
/- THE CELL 'sum', in the pinned program and in every row, IS THE sha256 OF THE DUMP (.gsa) THAT YtgipohphnegnhaaProg.lean LOADS. Nothing in Lean hashes anything: it is a label: what it is worth is what the hold of that sum in a sandbox is worth. -/
noncomputable def Try.pinned : Pinned := { name := "ytgipohphnegnhaa", sum := "d103b52ea749ac2d42149907015cf9c57631656c4c7fd7f801dacb674f340142", checked := Try.checked }
namespace Rows
def none {H : Type} : Left H := { results := [], args := [] }

/-- 'ferryhouselaw12.RecentsLast': WHATEVER THE INPUT: true; the input reads as it did. -/
def recentsLastSpec : ChangeSpec := { name := "recentsLast", fn := fun _ => fun
  | [d1, d2] => { results := [.lit (.bool true)], args := [d1, d2] }
  | _ => none }
def recentsLastRow : OpenClaim := { program := "ytgipohphnegnhaa", sum := "d103b52ea749ac2d42149907015cf9c57631656c4c7fd7f801dacb674f340142", func := "ferryhouse/ferryhouselaw12.RecentsLast", spec := "recentsLast", apart := false }
def RecentsLastSaid : Prop := recentsLastRow.holds Try.pinned (OpenSpec.ofChange recentsLastSpec)

/-- ITS FALSE NEIGHBOUR: 'it returns false'. Refute it at one input. -/
def recentsLastWrong : ChangeSpec := { name := "recentsLast", fn := fun _ => fun
  | [d1, d2] => { results := [.lit (.bool false)], args := [d1, d2] }
  | _ => none }
def RecentsLastWrongFalsely : Prop := recentsLastRow.holds Try.pinned (OpenSpec.ofChange recentsLastWrong)

/-- 'ferryhouselaw12.RecentsPlay': WHATEVER THE INPUT: true; the input reads as it did. -/
def recentsPlaySpec : ChangeSpec := { name := "recentsPlay", fn := fun _ => fun
  | [d1, d2, d3] => { results := [.lit (.bool true)], args := [d1, d2, d3] }
  | _ => none }
def recentsPlayRow : OpenClaim := { program := "ytgipohphnegnhaa", sum := "d103b52ea749ac2d42149907015cf9c57631656c4c7fd7f801dacb674f340142", func := "ferryhouse/ferryhouselaw12.RecentsPlay", spec := "recentsPlay", apart := false }
def RecentsPlaySaid : Prop := recentsPlayRow.holds Try.pinned (OpenSpec.ofChange recentsPlaySpec)

/-- ITS FALSE NEIGHBOUR: 'it returns false'. Refute it at one input. -/
def recentsPlayWrong : ChangeSpec := { name := "recentsPlay", fn := fun _ => fun
  | [d1, d2, d3] => { results := [.lit (.bool false)], args := [d1, d2, d3] }
  | _ => none }
def RecentsPlayWrongFalsely : Prop := recentsPlayRow.holds Try.pinned (OpenSpec.ofChange recentsPlayWrong)

/-- 'ferryhouselaw12.RecentsNone': WHATEVER THE INPUT: true; the input reads as it did. -/
def recentsNoneSpec : ChangeSpec := { name := "recentsNone", fn := fun _ => fun
  | [d] => { results := [.lit (.bool true)], args := [d] }
  | _ => none }
def recentsNoneRow : OpenClaim := { program := "ytgipohphnegnhaa", sum := "d103b52ea749ac2d42149907015cf9c57631656c4c7fd7f801dacb674f340142", func := "ferryhouse/ferryhouselaw12.RecentsNone", spec := "recentsNone", apart := false }
def RecentsNoneSaid : Prop := recentsNoneRow.holds Try.pinned (OpenSpec.ofChange recentsNoneSpec)

/-- ITS FALSE NEIGHBOUR: 'it returns false'. Refute it at one input. -/
def recentsNoneWrong : ChangeSpec := { name := "recentsNone", fn := fun _ => fun
  | [d] => { results := [.lit (.bool false)], args := [d] }
  | _ => none }
def RecentsNoneWrongFalsely : Prop := recentsNoneRow.holds Try.pinned (OpenSpec.ofChange recentsNoneWrong)

/- THE SECOND FORM. 'bulk': how many values and letters a reading holds, each counted each time it is reached (what is shared counts as often as it is met; a slice's spare places count too). A statement '..UptoSaid' is the law's where the arguments, and the package variables that the reading takes, are together of bulk at most 1048576: NARROWER than '..Said'. Prove '..Said' where nothing that the law and all that it calls make is longer than what came in: it says more and counts as full. Else prove '..UptoSaid'. A law counts once. -/
mutual
def uptoBulk {H : Type} : DataW H → Nat
  | .lit (.string bytes) => bytes.length + 1
  | .lit _ => 1
  | .nil => 1
  | .ptr d => uptoBulk d + 1
  | .slice elems spare => uptoBulkAll elems + uptoBulkAll spare + 1
  | .agg parts => uptoBulkAll parts + 1
  | .iface _ d => uptoBulk d + 1
  | .map entries => uptoBulkEntries entries + 1
  | .held _ => 1
def uptoBulkAll {H : Type} : List (DataW H) → Nat
  | [] => 0
  | d :: r => uptoBulk d + uptoBulkAll r
def uptoBulkEntries {H : Type} : List (Lit × DataW H) → Nat
  | [] => 0
  | x :: r => uptoBulkEntry x + uptoBulkEntries r
def uptoBulkEntry {H : Type} : Lit × DataW H → Nat
  | (.string bytes, d) => bytes.length + uptoBulk d + 1
  | (_, d) => uptoBulk d + 1
 end
def uptoSmall : (H : Type) → List (DataW H) → Bool := fun _ ds => decide (uptoBulkAll ds ≤ 1048576)
def OpenSpec.upto (s : _root_.Go.ChangeSpec) : _root_.Go.OpenSpec := { _root_.Go.OpenSpec.ofChange s with cond := some uptoSmall }

/-- 'ferryhouselaw12.RecentsLast', WHERE WHAT IT READS IS OF BULK AT MOST 1048576: true; the input reads as it did. -/
def recentsLastUptoRow : OpenClaim := { program := "ytgipohphnegnhaa", sum := "d103b52ea749ac2d42149907015cf9c57631656c4c7fd7f801dacb674f340142", func := "ferryhouse/ferryhouselaw12.RecentsLast", spec := "recentsLast", apart := false, narrowed := true }
def RecentsLastUptoSaid : Prop := recentsLastUptoRow.holds Try.pinned (OpenSpec.upto recentsLastSpec)

/-- 'ferryhouselaw12.RecentsPlay', WHERE WHAT IT READS IS OF BULK AT MOST 1048576: true; the input reads as it did. -/
def recentsPlayUptoRow : OpenClaim := { program := "ytgipohphnegnhaa", sum := "d103b52ea749ac2d42149907015cf9c57631656c4c7fd7f801dacb674f340142", func := "ferryhouse/ferryhouselaw12.RecentsPlay", spec := "recentsPlay", apart := false, narrowed := true }
def RecentsPlayUptoSaid : Prop := recentsPlayUptoRow.holds Try.pinned (OpenSpec.upto recentsPlaySpec)

/-- 'ferryhouselaw12.RecentsNone', WHERE WHAT IT READS IS OF BULK AT MOST 1048576: true; the input reads as it did. -/
def recentsNoneUptoRow : OpenClaim := { program := "ytgipohphnegnhaa", sum := "d103b52ea749ac2d42149907015cf9c57631656c4c7fd7f801dacb674f340142", func := "ferryhouse/ferryhouselaw12.RecentsNone", spec := "recentsNone", apart := false, narrowed := true }
def RecentsNoneUptoSaid : Prop := recentsNoneUptoRow.holds Try.pinned (OpenSpec.upto recentsNoneSpec)

end Rows
end Go.Proofs.Ytgipohphnegnhaa
