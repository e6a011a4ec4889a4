/- Arrays of two words: load, alloc, store; Get of a slab of pairs. -/
import Derived.Test.YtghphopbfamclaaDoorP
namespace Go.Proofs.YtghphopbfamclaaDoor
open Go.RowKit

theorem und43 : Tryd.prog.underlying 43 = some (.array 2 22) := by kernel_rfl
theorem size43 : (Tryd.prog.info? 43).map (·.size) = some 2 := by kernel_rfl
theorem zero43 : (Tryd.prog.info? 43).bind (·.zero) = some (.agg (icells .u64 [0, 0])) := by kernel_rfl

/-- A pair. -/
def pv (x y : Int) : Value := .agg (icells .u64 [x, y])

section
variable {ops : Array Oper} {Q : Exit → Act → World → Prop} {a : Act} {w : World} {rest : List Oper} {dst : Option Nat} {x y : Operand} {ty : TypeId} {pos : String} {after : Array Edge} {m n : Int}

theorem wl_load43 {b off : Nat} (hx : a.eval x = .pointer (some ⟨b, off, none⟩)) (hr : RowAt w b off (icells .u64 [m, n])) (K : wpList Tryd.prog ops Q rest (a.put dst (pv m n)) w) :
    wpList Tryd.prog ops Q (⟨dst, .load 43 x, ty, pos, after, none⟩ :: rest) a w :=
  wpList_run rfl (exec_load_sub rfl hx hr und43 rfl size43) K

theorem wl_alloc43 (K : wpList Tryd.prog ops Q rest (a.put dst (.pointer (some ⟨w.heap.size, 0, none⟩))) (w.alloc (.cells (icells .u64 [0, 0]) 43))) :
    wpList Tryd.prog ops Q (⟨dst, .alloc 43, ty, pos, after, none⟩ :: rest) a w :=
  wpList_run rfl (exec_alloc rfl zero43 rfl) K

theorem wl_store43 {b : Nat} {C : Array Value} (hp : a.eval x = .pointer (some ⟨b, 0, none⟩)) (hx : a.eval y = pv m n) (hg : w.heap[b]? = some (.cells C 43)) (hC : C.size = 2)
    (K : ∀ w1, w1.heap[b]? = some (.cells (icells .u64 [m, n]) 43) → Wrote w w1 b → wpList Tryd.prog ops Q rest (a.put dst undef) w1) :
    wpList Tryd.prog ops Q (⟨dst, .store 43 x y, ty, pos, after, none⟩ :: rest) a w := by
  have hsz : (icells .u64 [m, n]).size = C.size := by simp [hC]
  refine wpList_runSkip rfl (exec_store_sub (A := icells .u64 [m, n]) rfl hp hx rfl hg (by omega) (icells_one _ _) size43) (K _ ?_ (Wrote.setRow _ _ _))
  rw [splice_whole hsz, World.setRow, Array.getElem?_modify, if_pos rfl, hg]
  rfl
end

theorem results_cell_tmp {P : Program} {w : World} {fn : Func} {p t : Tmp} {ty : TypeId} (h : fn.results = #[.cell p ty, .tmp t]) (tmps : Array Value) {b off : Nat} {A : Array Value} {d : TypeDesc}
    (hp : tmps.getD p undef = .pointer (some ⟨b, off, none⟩)) (hg : RowAt w b off A)
    (hu : P.underlying ty = some d) (hd : (match d with | .struct _ | .array _ _ => true | _ => false) = true) (hi : (P.info? ty).map (·.size) = some A.size) :
    (results fn tmps).run P w = .ok (.tuple #[.agg A, tmps.getD t undef]) w := by
  have hp' : tmps[p]?.getD undef = .pointer (some ⟨b, off, none⟩) := by simpa using hp
  simp [results, h, hp', asAddr, run_loadVar_sub hg hu hd hi]

theorem PairIn.keep {w w' : World} {p bt bu wv many : Nat} {X : List Int} (h : PairIn w p bt bu wv X many) (hb : Below w.heap.size w w') : PairIn w' p bt bu wv X many :=
  ⟨(hb.block _ (Array.getElem?_eq_some_iff.1 h.head).1).trans h.head, (hb.block _ (Array.getElem?_eq_some_iff.1 h.things).1).trans h.things, (hb.block _ (Array.getElem?_eq_some_iff.1 h.used).1).trans h.used, h.lenX⟩

theorem PairIn.row {w : World} {p bt bu wv many : Nat} {x y : Int} {X : List Int} (h : PairIn w p bt bu wv (x :: y :: X) many) : RowAt w bt 0 (icells .u64 [x, y]) := by
  refine ⟨_, _, _, h.things, by have := h.lenX; simp at this ⊢, fun j hj => ?_⟩
  rw [Nat.zero_add, icells_get, icells_get]
  have hj' : j < 2 := by simpa using hj
  rcases (by omega : j = 0 ∨ j = 1) with rfl | rfl <;> rfl

set_option maxHeartbeats 800000 in
theorem pair_get {p bt bu many : Nat} {x y : Int} {X : List Int} (w : World) (hs : PairIn w p bt bu 1 (x :: y :: X) many) : Calls Tryd.prog 16 #[.pointer (some ⟨p, 0, none⟩), .int .i64 0] w fun e w' => e = .returned (.tuple #[pv x y, .int .i64 0]) ∧ Below w.heap.size w w' := by
  go_enter Tryd.func16, Tryd.ntmps16
  go_wp2_with ((with_reducible refine wl_alloc43 ?_))
  have hk : Below w.heap.size w (w.alloc (.cells (icells .u64 [0, 0]) 43)) := (Below.refl _ _).alloc (Nat.le_refl _) _
  have hz : (w.alloc (.cells (icells .u64 [0, 0]) 43)).heap[w.heap.size]? = some (.cells (icells .u64 [0, 0]) 43) := heap_alloc_new _ _
  have hs1 := hs.keep hk
  have hr1 := hs1.row
  have c0 := hs1.cell0
  refine (pair_has _ hs1).mono ?_
  rintro e w1 ⟨rfl, rfl⟩
  go_wp2_with (first
    | ((with_reducible refine wl_load43 (b := bt) ?_ hr1 ?_); (exact rfl))
    | ((with_reducible refine wl_store43 (b := w.heap.size) (m := x) (n := y) ?_ ?_ hz ?_ ?_); (exact rfl); (exact rfl); (exact rfl); intro w2 hw2 hW2))
  refine bodyPost_ret (results_cell_tmp rfl _ rfl (RowAt.of_cells hw2) und43 rfl size43) rfl ⟨rfl, hW2.below hk (Nat.le_refl _)⟩

set_option maxHeartbeats 800000 in
theorem pair_none {p bt bu many : Nat} {X : List Int} (w : World) (hs : PairIn w p bt bu 0 X many) : Calls Tryd.prog 16 #[.pointer (some ⟨p, 0, none⟩), .int .i64 0] w fun e w' => e = .returned (.tuple #[pv 0 0, .int .i64 11]) ∧ Below w.heap.size w w' := by
  go_enter Tryd.func16, Tryd.ntmps16
  go_wp2_with ((with_reducible refine wl_alloc43 ?_))
  have hk : Below w.heap.size w (w.alloc (.cells (icells .u64 [0, 0]) 43)) := (Below.refl _ _).alloc (Nat.le_refl _) _
  have hz : (w.alloc (.cells (icells .u64 [0, 0]) 43)).heap[w.heap.size]? = some (.cells (icells .u64 [0, 0]) 43) := heap_alloc_new _ _
  have hs1 := hs.keep hk
  refine (pair_hasnt _ hs1).mono ?_
  rintro e w1 ⟨rfl, rfl⟩
  go_wp2_with (first
    | ((with_reducible refine wl_load43 (b := w.heap.size) ?_ (RowAt.of_cells hz) ?_); (exact rfl))
    | ((with_reducible refine wl_store43 (b := w.heap.size) (m := 0) (n := 0) ?_ ?_ hz ?_ ?_); (exact rfl); (exact rfl); (exact rfl); intro w2 hw2 hW2))
  refine bodyPost_ret (results_cell_tmp rfl _ rfl (RowAt.of_cells hw2) und43 rfl size43) rfl ⟨rfl, hW2.below hk (Nat.le_refl _)⟩

end Go.Proofs.YtghphopbfamclaaDoor
