/- Set and Free. -/
import Derived.Test.YtghphopbfamclaaDoorC
namespace Go.Proofs.YtghphopbfamclaaDoor
open Go.RowKit

section
variable {P : Program} {ops : Array Oper} {Q : Exit → Act → World → Prop} {a : Act} {w : World} {rest : List Oper}

theorem splice_one {C : Array Value} {j : Nat} {v : Value} (hj : j < C.size) : splice C j #[v] = C.setIfInBounds j v := by
  apply Array.ext_getElem?
  intro i
  rw [Array.getElem?_setIfInBounds]
  by_cases h : j = i
  · subst h
    have := splice_in (C := C) (A := #[v]) (off := j) (j := 0) (by simp; omega) (by simp)
    rw [Nat.add_zero] at this
    rw [this, if_pos rfl, if_pos hj]; rfl
  · rw [splice_out (by simp; omega) (by simp; omega), if_neg h]

/-- One cell is written. -/
theorem wl_store1 {o : Oper} {ty t : TypeId} {p x : Operand} {b j : Nat} {C : Array Value} {v : Value} (hg : o.guard = none) (hd : o.dst = none) (ho : o.op = .store ty p x) (hp : a.eval p = .pointer (some ⟨b, j, none⟩)) (hx : a.eval x = v) (hv : v.cells = #[v]) (h1 : v.oneCell' = true)
    (hi : (P.info? ty).map (·.size) = some 1) (hw : w.heap[b]? = some (.cells C t)) (hj : j < C.size)
    (K : ∀ w', w'.heap[b]? = some (.cells (C.setIfInBounds j v) t) → Wrote w w' b → wpList P ops Q rest a w') : wpList P ops Q (o :: rest) a w := by
  have hlt : b < w.heap.size := (Array.getElem?_eq_some_iff.1 hw).1
  refine wpList_runSkip hg (exec_store_sub (A := #[v]) ho hp hx hv hw (by simp; omega) (by simp; exact h1) (by simpa using hi)) ?_
  rw [hd]
  refine K _ ?_ (Wrote.setRow _ _ _)
  rw [splice_one hj]
  rw [World.setRow, Array.getElem?_modify, if_pos rfl, hw]
  rfl
end

/-- What turns where a slab is written: its own three blocks. -/
structure Turned (w w' : World) (p bt bu : Nat) : Prop where
  os : w'.os = w.os
  tape : w'.tape = w.tape
  output : w'.output = w.output
  size : w'.heap.size = w.heap.size
  block : ∀ k, k ≠ p → k ≠ bt → k ≠ bu → w'.heap[k]? = w.heap[k]?

theorem Turned.refl (w : World) (p bt bu : Nat) : Turned w w p bt bu := ⟨rfl, rfl, rfl, rfl, fun _ _ _ _ => rfl⟩
theorem Turned.drew {w w' : World} {p bt bu : Nat} (h : Turned w w' p bt bu) : Turned w w'.drew p bt bu := ⟨h.os, h.tape, h.output, h.size, h.block⟩
theorem Turned.wrote {w w' w'' : World} {p bt bu b : Nat} (h : Turned w w' p bt bu) (k : Wrote w' w'' b) (hb : b = p ∨ b = bt ∨ b = bu) : Turned w w'' p bt bu :=
  ⟨k.os.trans h.os, k.tape.trans h.tape, k.output.trans h.output, k.size.trans h.size, fun i h1 h2 h3 => (k.block i (by rcases hb with rfl | rfl | rfl <;> assumption)).trans (h.block i h1 h2 h3)⟩
theorem Turned.trans {w w' w'' : World} {p bt bu : Nat} (h : Turned w w' p bt bu) (k : Turned w' w'' p bt bu) : Turned w w'' p bt bu :=
  ⟨k.os.trans h.os, k.tape.trans h.tape, k.output.trans h.output, k.size.trans h.size, fun i h1 h2 h3 => (k.block i h1 h2 h3).trans (h.block i h1 h2 h3)⟩
theorem Turned.below {B p bt bu : Nat} {w0 w w' : World} (h : Turned w w' p bt bu) (hb : Below B w0 w) (h1 : B ≤ p) (h2 : B ≤ bt) (h3 : B ≤ bu) : Below B w0 w' :=
  ⟨h.os.trans hb.os, h.tape.trans hb.tape, h.output.trans hb.output, by rw [h.size]; exact hb.size, fun k hk => (h.block k (by omega) (by omega) (by omega)).trans (hb.block k hk)⟩

theorem ncells_set (l : List Nat) (j x : Nat) : (ncells l).setIfInBounds j (.int .u64 (x : Int)) = ncells (l.set j x) := by
  simp [ncells, icells, List.map_set]

/-- The three blocks are three. -/
structure Apart (p bt bu : Nat) : Prop where
  one : bt ≠ p
  two : bu ≠ p
  three : bt ≠ bu

theorem SlabIn.set {w w' : World} {p bt bu room many n x : Nat} {ws X : List Nat} (h : SlabIn w p bt bu room ws X many) (ha : Apart p bt bu) (hw : w'.heap[bt]? = some (.cells ((ncells X).setIfInBounds n (.int .u64 (x : Int))) 22)) (hW : Wrote w w' bt) :
    SlabIn w' p bt bu room ws (X.set n x) many :=
  ⟨(hW.block _ (Ne.symm ha.one)).trans h.head, by rw [hw, ncells_set], (hW.block _ (Ne.symm ha.three)).trans h.used, by rw [List.length_set]; exact h.lenX, h.lenW, h.small, h.least, h.most⟩

theorem SlabIn.word {w w' : World} {p bt bu room many n x : Nat} {ws X : List Nat} (h : SlabIn w p bt bu room ws X many) (ha : Apart p bt bu) (hw : w'.heap[bu]? = some (.cells ((ncells ws).setIfInBounds n (.int .u64 (x : Int))) 22)) (hW : Wrote w w' bu) (hx : x < 18446744073709551616) :
    SlabIn w' p bt bu room (ws.set n x) X many :=
  ⟨(hW.block _ (Ne.symm ha.two)).trans h.head, (hW.block _ ha.three).trans h.things, by rw [hw, ncells_set], h.lenX, by rw [List.length_set]; exact h.lenW,
    fun y hy => by rcases List.mem_or_eq_of_mem_set hy with h1 | rfl
                   · exact h.small y h1
                   · exact hx, h.least, h.most⟩

theorem SlabIn.many {w w' : World} {p bt bu room many m : Nat} {ws X : List Nat} {v1 v2 : Value} (h : SlabIn w p bt bu room ws X many) (ha : Apart p bt bu) (hw : w'.heap[p]? = some (.cells ((#[.slice (some ⟨bt, 0, none⟩) room room, .slice (some ⟨bu, 0, none⟩) ((room + 63) / 64) ((room + 63) / 64), v1] : Array Value).setIfInBounds 2 v2) 25)) (hv : v2 = .int .i64 (m : Int)) (hW : Wrote w w' p) :
    SlabIn w' p bt bu room ws X m :=
  ⟨by rw [hw, hv]; rfl, (hW.block _ ha.one).trans h.things, (hW.block _ ha.two).trans h.used, h.lenX, h.lenW, h.small, h.least, h.most⟩

theorem SlabIn.drew {w : World} {p bt bu room many : Nat} {ws X : List Nat} (h : SlabIn w p bt bu room ws X many) : SlabIn w.drew p bt bu room ws X many := ⟨h.head, h.things, h.used, h.lenX, h.lenW, h.small, h.least, h.most⟩

set_option maxHeartbeats 400000 in
theorem set_nil (n : Int) (x : Nat) (w : World) : Calls Tryd.prog 9 #[.pointer none, .int .i64 n, .int .u64 (x : Int)] w fun e w' => e = .returned (.int .i64 2) ∧ w = w' := by
  go_enter Tryd.func9, Tryd.ntmps9
  go_wp2_with fail
  refine (has_nil n w).mono ?_
  rintro e w1 ⟨rfl, rfl⟩
  go_wp2
  go_ret
  exact ⟨rfl, rfl⟩

set_option maxHeartbeats 400000 in
theorem set_void (p : Nat) (n : Int) (x : Nat) (w : World) (hv : VoidAt w p) : Calls Tryd.prog 9 #[.pointer (some ⟨p, 0, none⟩), .int .i64 n, .int .u64 (x : Int)] w fun e w' => e = .returned (.int .i64 2) ∧ w = w' := by
  go_enter Tryd.func9, Tryd.ntmps9
  go_wp2_with fail
  refine (has_void p n w hv).mono ?_
  rintro e w1 ⟨rfl, rfl⟩
  go_wp2
  go_ret
  exact ⟨rfl, rfl⟩

set_option maxHeartbeats 400000 in
theorem set_none {p bt bu room many : Nat} {ws X : List Nat} (n : Int) (x : Nat) (w : World) (hs : SlabIn w p bt bu room ws X many) (hn : hasN room ws n = false) :
    Calls Tryd.prog 9 #[.pointer (some ⟨p, 0, none⟩), .int .i64 n, .int .u64 (x : Int)] w fun e w' => e = .returned (.int .i64 11) ∧ w = w' := by
  go_enter Tryd.func9, Tryd.ntmps9
  go_wp2_with fail
  refine (has_any n w hs).mono ?_
  rw [hn]
  rintro e w1 ⟨rfl, rfl⟩
  go_wp2
  go_ret
  exact ⟨rfl, rfl⟩

set_option maxHeartbeats 400000 in
theorem set_some {p bt bu room many n : Nat} {ws X : List Nat} (x : Nat) (w : World) (hs : SlabIn w p bt bu room ws X many) (ha : Apart p bt bu) (hn : hasN room ws (n : Int) = true) :
    Calls Tryd.prog 9 #[.pointer (some ⟨p, 0, none⟩), .int .i64 (n : Int), .int .u64 (x : Int)] w fun e w' => e = .returned (.int .i64 0) ∧ SlabIn w' p bt bu room ws (X.set n x) many ∧ Turned w w' p bt bu := by
  obtain ⟨m, h1, h2, h3⟩ := hasN_true hn
  obtain rfl : n = m := by omega
  have h0 := hs.cell0
  have hr := hs.most
  go_enter Tryd.func9, Tryd.ntmps9
  go_wp2_with fail
  refine (has_any n w hs).mono ?_
  rw [hn]
  rintro e w1 ⟨rfl, rfl⟩
  go_wp2_with ((with_reducible refine wl_store1 (ty := 22) (p := .tmp 19) (x := .tmp 18) (b := bt) (j := n) (v := .int .u64 (x : Int)) ?_ ?_ ?_ ?_ ?_ ?_ ?_ ?_ hs.things ?_ ?_); (exact rfl); (exact rfl); (exact rfl); (exact rfl); (exact rfl); (exact rfl); (exact rfl); (kernel_rfl); (rw [ncells_size, hs.lenX]; exact h2); intro w2 hw2 hW2)
  go_ret
  exact ⟨rfl, hs.set ha hw2 hW2, (Turned.refl _ _ _ _).wrote hW2 (.inr (.inl rfl))⟩

end Go.Proofs.YtghphopbfamclaaDoor
