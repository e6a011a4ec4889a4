/- A slab of pairs, of a room of three: has, Len, Get. -/
import Derived.Test.YtghphopbfamclaaDoorK
namespace Go.Proofs.YtghphopbfamclaaDoor
open Go.RowKit

/-- A slab of pairs in memory: its one word, its things' six cells. -/
structure PairIn (w : World) (p bt bu : Nat) (wv : Nat) (X : List Int) (many : Nat) : Prop where
  head : w.heap[p]? = some (.cells #[.slice (some ⟨bt, 0, none⟩) 3 3, .slice (some ⟨bu, 0, none⟩) 1 1, .int .i64 (many : Int)] 68)
  things : w.heap[bt]? = some (.cells (icells .u64 X) 43)
  used : w.heap[bu]? = some (.cells (ncells [wv]) 22)
  lenX : X.length = 6

theorem PairIn.cell0 {w : World} {p bt bu wv many : Nat} {X : List Int} (h : PairIn w p bt bu wv X many) : w.cell? ⟨p, 0, none⟩ = some (.slice (some ⟨bt, 0, none⟩) 3 3) := by
  simp only [World.cell?, h.head]; rfl
theorem PairIn.cell1 {w : World} {p bt bu wv many : Nat} {X : List Int} (h : PairIn w p bt bu wv X many) : w.cell? ⟨p, 1, none⟩ = some (.slice (some ⟨bu, 0, none⟩) 1 1) := by
  simp only [World.cell?, h.head]; rfl
theorem PairIn.cell2 {w : World} {p bt bu wv many : Nat} {X : List Int} (h : PairIn w p bt bu wv X many) : w.cell? ⟨p, 2, none⟩ = some (.int .i64 (many : Int)) := by
  simp only [World.cell?, h.head]; rfl
theorem PairIn.word {w : World} {p bt bu wv many : Nat} {X : List Int} (h : PairIn w p bt bu wv X many) : w.cell? ⟨bu, 0, none⟩ = some (.int .u64 (wv : Int)) := by
  simp only [World.cell?, h.used]; rfl

theorem q66 (w : World) (a : Option Addr) (n c : Nat) : (binOp .eql 66 (.slice a n c) (.slice none 0 0)).run Tryd.prog w = .ok (.bool a.isNone) w := Lib.run_eql_slice_nil w 66 43 a n c 0 0 (by kernel_rfl)

set_option maxHeartbeats 400000 in
theorem pair_has {p bt bu many : Nat} {X : List Int} (w : World) (hs : PairIn w p bt bu 1 X many) : Calls Tryd.prog 29 #[.pointer (some ⟨p, 0, none⟩), .int .i64 0] w fun e w' => e = .returned (.int .i64 0) ∧ w = w' := by
  have h0 := hs.cell0
  have h1 := hs.cell1
  have hc := hs.word
  have q := q66
  go_enter Tryd.func29, Tryd.ntmps29
  go_wp2
  go_ret
  exact ⟨rfl, rfl⟩

set_option maxHeartbeats 400000 in
theorem pair_hasnt {p bt bu many : Nat} {X : List Int} (w : World) (hs : PairIn w p bt bu 0 X many) : Calls Tryd.prog 29 #[.pointer (some ⟨p, 0, none⟩), .int .i64 0] w fun e w' => e = .returned (.int .i64 11) ∧ w = w' := by
  have h0 := hs.cell0
  have h1 := hs.cell1
  have hc := hs.word
  have q := q66
  go_enter Tryd.func29, Tryd.ntmps29
  go_wp2
  go_ret
  exact ⟨rfl, rfl⟩

theorem pair_len {p bt bu wv many : Nat} {X : List Int} (w : World) (hs : PairIn w p bt bu wv X many) : Calls Tryd.prog 17 #[.pointer (some ⟨p, 0, none⟩)] w fun e w' => e = .returned (.int .i64 (many : Int)) ∧ w = w' := by
  have h2 := hs.cell2
  go_enter Tryd.func17, Tryd.ntmps17
  go_wp2
  go_ret
  exact ⟨rfl, rfl⟩

end Go.Proofs.YtghphopbfamclaaDoor
