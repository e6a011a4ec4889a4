/- A slab in memory; which numbers it has. -/
import Derived.Test.YtghphopbfamclaaDoorA
import Derived.Laws.ShiftsVarLaws
import Derived.Laws.MakeOwn
import Derived.Lib.SliceRun
namespace Go.Proofs.YtghphopbfamclaaDoor
open Go.RowKit

def ncells (l : List Nat) : Array Value := icells .u64 (l.map Int.ofNat)

theorem ncells_get (l : List Nat) (j : Nat) : (ncells l)[j]? = (l[j]?).map fun x => Value.int .u64 (x : Int) := by
  simp [ncells, icells_get, Option.map_map, Function.comp_def]
  rcases l[j]? <;> rfl
theorem ncells_size (l : List Nat) : (ncells l).size = l.length := by simp [ncells]

theorem ncells_at {w : World} {b j : Nat} {l : List Nat} {t : TypeId} (h : w.heap[b]? = some (.cells (ncells l) t)) (hj : j < l.length) : w.cell? ⟨b, j, none⟩ = some (.int .u64 ((l.getD j 0 : Nat) : Int)) := by
  simp only [World.cell?, h]
  rw [if_neg (by simp), ncells_get, List.getD_eq_getElem?_getD, List.getElem?_eq_getElem hj]
  rfl

/-- A slab's words and things in memory: of p's struct, of the things' block and of the words'. -/
structure SlabIn (w : World) (p bt bu room : Nat) (ws X : List Nat) (many : Nat) : Prop where
  head : w.heap[p]? = some (.cells #[.slice (some ⟨bt, 0, none⟩) room room, .slice (some ⟨bu, 0, none⟩) ((room + 63) / 64) ((room + 63) / 64), .int .i64 (many : Int)] 25)
  things : w.heap[bt]? = some (.cells (ncells X) 22)
  used : w.heap[bu]? = some (.cells (ncells ws) 22)
  lenX : X.length = room
  lenW : ws.length = (room + 63) / 64
  small : ∀ x ∈ ws, x < 18446744073709551616
  least : 1 ≤ room
  most : room ≤ 4096

theorem SlabIn.cell0 {w : World} {p bt bu room many : Nat} {ws X : List Nat} (h : SlabIn w p bt bu room ws X many) : w.cell? ⟨p, 0, none⟩ = some (.slice (some ⟨bt, 0, none⟩) room room) := by
  simp only [World.cell?, h.head]; rfl
theorem SlabIn.cell1 {w : World} {p bt bu room many : Nat} {ws X : List Nat} (h : SlabIn w p bt bu room ws X many) : w.cell? ⟨p, 1, none⟩ = some (.slice (some ⟨bu, 0, none⟩) ((room + 63) / 64) ((room + 63) / 64)) := by
  simp only [World.cell?, h.head]; rfl
theorem SlabIn.cell2 {w : World} {p bt bu room many : Nat} {ws X : List Nat} (h : SlabIn w p bt bu room ws X many) : w.cell? ⟨p, 2, none⟩ = some (.int .i64 (many : Int)) := by
  simp only [World.cell?, h.head]; rfl

/-- Which bit is set in a row of words. -/
def bitOf (ws : List Nat) (n : Nat) : Bool := (ws.getD (n / 64) 0).testBit (n % 64)

/-- A struct of a slab that no call made. -/
def VoidAt (w : World) (p : Nat) : Prop := w.heap[p]? = some (.cells #[.slice none 0 0, .slice none 0 0, .int .i64 0] 25)

theorem VoidAt.cell0 {w : World} {p : Nat} (h : VoidAt w p) : w.cell? ⟨p, 0, none⟩ = some (.slice none 0 0) := by
  simp only [World.cell?, show w.heap[p]? = _ from h]; rfl

theorem VoidAt.cell1 {w : World} {p : Nat} (h : VoidAt w p) : w.cell? ⟨p, 1, none⟩ = some (.slice none 0 0) := by
  simp only [World.cell?, show w.heap[p]? = _ from h]; rfl
theorem VoidAt.cell2 {w : World} {p : Nat} (h : VoidAt w p) : w.cell? ⟨p, 2, none⟩ = some (.int .i64 0) := by
  simp only [World.cell?, show w.heap[p]? = _ from h]; rfl

theorem q23 (w : World) (a : Option Addr) (n c : Nat) : (binOp .eql 23 (.slice a n c) (.slice none 0 0)).run Tryd.prog w = .ok (.bool a.isNone) w := Lib.run_eql_slice_nil w 23 22 a n c 0 0 (by kernel_rfl)

set_option maxHeartbeats 400000 in
theorem has_nil (n : Int) (w : World) : Calls Tryd.prog 28 #[.pointer none, .int .i64 n] w fun e w' => e = .returned (.int .i64 2) ∧ w = w' := by
  have q := q23
  go_enter Tryd.func28, Tryd.ntmps28
  go_wp2
  go_ret
  exact ⟨rfl, rfl⟩

set_option maxHeartbeats 400000 in
theorem has_void (p : Nat) (n : Int) (w : World) (hv : VoidAt w p) : Calls Tryd.prog 28 #[.pointer (some ⟨p, 0, none⟩), .int .i64 n] w fun e w' => e = .returned (.int .i64 2) ∧ w = w' := by
  have h0 := hv.cell0
  have q := q23
  go_enter Tryd.func28, Tryd.ntmps28
  go_wp2
  go_ret
  exact ⟨rfl, rfl⟩

set_option maxHeartbeats 400000 in
theorem has_neg {p bt bu room many : Nat} {ws X : List Nat} {n : Int} (w : World) (hs : SlabIn w p bt bu room ws X many) (hn : n < 0) : Calls Tryd.prog 28 #[.pointer (some ⟨p, 0, none⟩), .int .i64 n] w fun e w' => e = .returned (.int .i64 11) ∧ w = w' := by
  have h0 := hs.cell0
  have q := q23
  go_enter Tryd.func28, Tryd.ntmps28
  go_wp2
  go_ret
  exact ⟨rfl, rfl⟩

set_option maxHeartbeats 400000 in
theorem has_above {p bt bu room many : Nat} {ws X : List Nat} {n : Int} (w : World) (hs : SlabIn w p bt bu room ws X many) (hn : room ≤ n) : Calls Tryd.prog 28 #[.pointer (some ⟨p, 0, none⟩), .int .i64 n] w fun e w' => e = .returned (.int .i64 11) ∧ w = w' := by
  have h0 := hs.cell0
  have h2 : ¬ n < 0 := by omega
  have h3 : (n ≥ (room : Int)) := by omega
  have q := q23
  go_enter Tryd.func28, Tryd.ntmps28
  go_wp2
  go_ret
  exact ⟨rfl, rfl⟩

theorem shr_and_one {x n : Nat} (hx : x < 18446744073709551616) : (bits BinOp.and .u64 ((x : Int) / 2 ^ n) 1 == 0) = !x.testBit n := by
  have e1 : (x : Int) / 2 ^ n = ((x / 2 ^ n : Nat) : Int) := by push_cast; rfl
  have h1 : x / 2 ^ n < 18446744073709551616 := Nat.lt_of_le_of_lt (Nat.div_le_self _ _) hx
  have e2 : bits BinOp.and .u64 ((x : Int) / 2 ^ n) 1 = ((x / 2 ^ n &&& 1 : Nat) : Int) := by
    rw [e1]
    exact u64_and_nat _ 1 h1 (by decide)
  rw [e2, Nat.and_one_is_mod, Nat.testBit_eq_decide_div_mod_eq]
  generalize x / 2 ^ n = q
  rcases Nat.mod_two_eq_zero_or_one q with h | h <;> simp [h]

set_option maxHeartbeats 400000 in
theorem has_in {p bt bu room many n : Nat} {ws X : List Nat} (w : World) (hs : SlabIn w p bt bu room ws X many) (hn : n < room) : Calls Tryd.prog 28 #[.pointer (some ⟨p, 0, none⟩), .int .i64 (n : Int)] w fun e w' => e = .returned (.int .i64 (if bitOf ws n then 0 else 11)) ∧ w = w' := by
  have h0 := hs.cell0
  have h1 := hs.cell1
  have hm := hs.most
  have h2 : ¬ (n : Int) < 0 := by omega
  have h3 : ¬ ((n : Int) ≥ (room : Int)) := by omega
  have hc := ncells_at hs.used (j := n / 64) (by rw [hs.lenW]; omega)
  have hx : ws.getD (n / 64) 0 < 18446744073709551616 := by
    rw [List.getD_eq_getElem?_getD, List.getElem?_eq_getElem (by rw [hs.lenW]; omega)]
    exact hs.small _ (List.getElem_mem _)
  unfold bitOf
  generalize ws.getD (n / 64) 0 = x at hc hx
  have e := shr_and_one (n := n % 64) hx
  cases hb : x.testBit (n % 64) <;> rw [hb] at e <;> have q := q23
  · go_enter Tryd.func28, Tryd.ntmps28
    go_wp2
    go_ret
    exact ⟨rfl, rfl⟩
  · go_enter Tryd.func28, Tryd.ntmps28
    go_wp2
    go_ret
    exact ⟨rfl, rfl⟩

end Go.Proofs.YtghphopbfamclaaDoor
