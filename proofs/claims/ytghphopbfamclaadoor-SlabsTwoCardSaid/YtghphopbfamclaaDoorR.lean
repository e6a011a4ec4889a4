/- Set and New of a slab of pairs. -/
import Derived.Test.YtghphopbfamclaaDoorQ
namespace Go.Proofs.YtghphopbfamclaaDoor
open Go.RowKit

section
variable {ops : Array Oper} {Q : Exit → Act → World → Prop} {a : Act} {w : World} {rest : List Oper} {dst : Option Nat} {x y : Operand} {ty : TypeId} {pos : String} {after : Array Edge} {m n : Int}

theorem wl_box43 (hx : a.eval x = pv m n) (K : wpList Tryd.prog ops Q rest (a.put dst (.pointer (some ⟨w.heap.size, 0, none⟩))) (w.alloc (.cells (icells .u64 [m, n]) 43))) :
    wpList Tryd.prog ops Q (⟨dst, .box 43 x, ty, pos, after, none⟩ :: rest) a w :=
  wpList_run rfl (exec_box rfl hx rfl) K

theorem wst_load43 {R : Act → Prop} {b off : Nat} (hx : a.eval x = .pointer (some ⟨b, off, none⟩)) (hr : RowAt w b off (icells .u64 [m, n])) (K : wpStill Tryd.prog ops w R rest (a.put dst (pv m n))) :
    wpStill Tryd.prog ops w R (⟨dst, .load 43 x, ty, pos, after, none⟩ :: rest) a :=
  wpStill_run rfl (exec_load_sub rfl hx hr und43 rfl size43) K

theorem wl_store43at {b : Nat} {u v : Int} {X : List Int} (hp : a.eval x = .pointer (some ⟨b, 0, none⟩)) (hx : a.eval y = pv m n) (hg : w.heap[b]? = some (.cells (icells .u64 (u :: v :: X)) 43))
    (K : ∀ w1, w1.heap[b]? = some (.cells (icells .u64 (m :: n :: X)) 43) → Wrote w w1 b → wpList Tryd.prog ops Q rest (a.put dst undef) w1) :
    wpList Tryd.prog ops Q (⟨dst, .store 43 x y, ty, pos, after, none⟩ :: rest) a w := by
  refine wpList_runSkip rfl (exec_store_sub (A := icells .u64 [m, n]) rfl hp hx rfl hg (by simp) (icells_one _ _) size43) (K _ ?_ (Wrote.setRow _ _ _))
  have e : splice (icells .u64 (u :: v :: X)) 0 (icells .u64 [m, n]) = icells .u64 (m :: n :: X) := by
    simp [splice, icells]
  rw [e, World.setRow, Array.getElem?_modify, if_pos rfl, hg]
  rfl
end

theorem PairIn.wroteThings {w w' : World} {p bt bu wv many : Nat} {X X' : List Int} (h : PairIn w p bt bu wv X many) (ha : Apart p bt bu) (hw : w'.heap[bt]? = some (.cells (icells .u64 X') 43)) (hl : X'.length = 6) (hW : Wrote w w' bt) : PairIn w' p bt bu wv X' many :=
  ⟨(hW.block _ (Ne.symm ha.one)).trans h.head, hw, (hW.block _ (Ne.symm ha.three)).trans h.used, hl⟩
theorem PairIn.drew {w : World} {p bt bu wv many : Nat} {X : List Int} (h : PairIn w p bt bu wv X many) : PairIn w.drew p bt bu wv X many := ⟨h.head, h.things, h.used, h.lenX⟩

/-- What turns where a slab is written and memory is made: its own three blocks, of the old. -/
structure Moved (w w' : World) (p bt bu : Nat) : Prop where
  os : w'.os = w.os
  tape : w'.tape = w.tape
  output : w'.output = w.output
  size : w.heap.size ≤ w'.heap.size
  block : ∀ k, k < w.heap.size → k ≠ p → k ≠ bt → k ≠ bu → w'.heap[k]? = w.heap[k]?

theorem Moved.of_below {w w' : World} {p bt bu : Nat} (h : Below w.heap.size w w') : Moved w w' p bt bu := ⟨h.os, h.tape, h.output, h.size, fun k hk _ _ _ => h.block k hk⟩
theorem Moved.drew {w w' : World} {p bt bu : Nat} (h : Moved w w' p bt bu) : Moved w w'.drew p bt bu := ⟨h.os, h.tape, h.output, h.size, h.block⟩
theorem Moved.wrote {w w' w'' : World} {p bt bu b : Nat} (h : Moved w w' p bt bu) (k : Wrote w' w'' b) (hb : b = p ∨ b = bt ∨ b = bu) : Moved w w'' p bt bu :=
  ⟨k.os.trans h.os, k.tape.trans h.tape, k.output.trans h.output, by rw [k.size]; exact h.size, fun i hi h1 h2 h3 => (k.block i (by rcases hb with rfl | rfl | rfl <;> assumption)).trans (h.block i hi h1 h2 h3)⟩
theorem Moved.below {B p bt bu : Nat} {w0 w w' : World} (h : Moved w w' p bt bu) (hb : Below B w0 w) (hB : B ≤ w.heap.size) (h1 : B ≤ p) (h2 : B ≤ bt) (h3 : B ≤ bu) : Below B w0 w' :=
  ⟨h.os.trans hb.os, h.tape.trans hb.tape, h.output.trans hb.output, Nat.le_trans hb.size h.size, fun k hk => (h.block k (by omega) (by omega) (by omega) (by omega)).trans (hb.block k hk)⟩

set_option maxHeartbeats 800000 in
theorem pair_set {p bt bu many : Nat} {x y u v : Int} {X : List Int} (w : World) (hs : PairIn w p bt bu 1 (u :: v :: X) many) (ha : Apart p bt bu) : Calls Tryd.prog 18 #[.pointer (some ⟨p, 0, none⟩), .int .i64 0, pv x y] w fun e w' =>
    e = .returned (.int .i64 0) ∧ PairIn w' p bt bu 1 (x :: y :: X) many ∧ Moved w w' p bt bu := by
  go_enter Tryd.func18, Tryd.ntmps18
  go_wp2_with ((with_reducible refine wl_box43 (m := x) (n := y) ?_ ?_); (exact rfl))
  have hk : Below w.heap.size w (w.alloc (.cells (icells .u64 [x, y]) 43)) := (Below.refl _ _).alloc (Nat.le_refl _) _
  have hz : (w.alloc (.cells (icells .u64 [x, y]) 43)).heap[w.heap.size]? = some (.cells (icells .u64 [x, y]) 43) := heap_alloc_new _ _
  have hs1 := hs.keep hk
  refine (pair_has _ hs1).mono ?_
  rintro e w1 ⟨rfl, rfl⟩
  generalize w.alloc (.cells (icells .u64 [x, y]) 43) = w1 at hk hz hs1
  have hs2 := hs1.drew
  have c0 := hs2.cell0
  have hz2 : w1.drew.heap[w.heap.size]? = some (.cells (icells .u64 [x, y]) 43) := hz
  go_wp2_with fail
  refine wp_region_tail 7 (by kernel_rfl) (by kernel_rfl) ?_
  simp only [List.take_succ_cons, List.take_zero, List.drop_succ_cons, List.drop_zero]
  repeat (first | ((with_reducible refine wst_load43 (b := w.heap.size) ?_ (RowAt.of_cells hz2) ?_); (exact rfl)) | still_step)
  refine wpStill_nil ?_
  refine wl_store43at (b := bt) (m := x) (n := y) rfl rfl hs2.things ?_
  intro w3 hw3 hW3
  have hs3 := hs2.wroteThings ha hw3 (by have := hs.lenX; simpa using this) hW3
  go_wp2
  go_ret
  exact ⟨rfl, hs3, ((Moved.of_below hk).drew).wrote hW3 (.inr (.inl rfl))⟩

end Go.Proofs.YtghphopbfamclaaDoor
