/- New of a slab of pairs. -/
import Derived.Test.YtghphopbfamclaaDoorR
namespace Go.Proofs.YtghphopbfamclaaDoor
open Go.RowKit

theorem info43 : (Tryd.prog.info? 43).map (fun i => (i.zero, i.size, i.bytes)) = some (some (.agg (icells .u64 [0, 0])), 2, 16) := by kernel_rfl

theorem made43 : madeCells (icells .u64 [0, 0]) 6 = icells .u64 [0, 0, 0, 0, 0, 0] := by kernel_rfl

theorem exec_make_pairs {a : Act} {w : World} {o : Oper} {x : Operand} (ho : o.op = .makeSlice 66 x x) (hx : a.eval x = .int .i64 3) :
    (execOp a.eval o).run Tryd.prog w = .ok (.value (.slice (some ⟨w.heap.size, 0, none⟩) 3 3)) (w.alloc (.cells (icells .u64 [0, 0, 0, 0, 0, 0]) 43)) := by
  obtain ⟨i, h1, h2, h3, h4⟩ := info_parts info43
  have := run_make (P := Tryd.prog) w 66 43 i _ (by kernel_rfl) h1 h2 .i64 .i64 3 3 (by omega) (by omega) (by rw [h4]; omega) (by omega)
  rw [h3] at this
  unfold execOp
  simp only [ho, hx]
  simp only [Sem.run_bind, this, Result.andThen_ok, Sem.run_pure]
  rw [show (Value.agg (icells .u64 [0, 0])).cells = icells .u64 [0, 0] from rfl, show Int.toNat 3 * 2 = 6 from rfl, made43]
  rfl

theorem exec_make_word {a : Act} {w : World} {o : Oper} {x : Operand} (ho : o.op = .makeSlice 23 x x) (hx : a.eval x = .int .i64 1) :
    (execOp a.eval o).run Tryd.prog w = .ok (.value (.slice (some ⟨w.heap.size, 0, none⟩) 1 1)) (w.alloc (.cells (ncells [0]) 22)) :=
  exec_make_words (n := 1) ho hx (by kernel_rfl) (by kernel_rfl) (by decide)

theorem pair_new (w : World) : Calls Tryd.prog 14 #[.int .i64 3] w fun e w' => ∃ p bt bu, e = .returned (.tuple #[.pointer (some ⟨p, 0, none⟩), .int .i64 0]) ∧
    PairIn w' p bt bu 0 [0, 0, 0, 0, 0, 0] 0 ∧ Apart p bt bu ∧ w.heap.size ≤ p ∧ w.heap.size ≤ bt ∧ w.heap.size ≤ bu ∧ Below w.heap.size w w' := by
  go_enter Tryd.func14, Tryd.ntmps14
  go_wp2
  refine wp_region_heldN (n := 11) (S := fun _ => True) rfl (by kernel_rfl) trivial ?_
  refine take_run (j := 0) (v := .int .i64 3) rfl rfl rfl (by kernel_rfl) (by kernel_rfl) (by kernel_rfl) (fun _ _ _ h => h) (fun W _ => exec_move rfl rfl) trivial ?_
  simp only [List.set_cons_zero, List.set_cons_succ]
  refine take_run (j := 2) (v := .int .i64 3) rfl rfl rfl (by kernel_rfl) (by kernel_rfl) (by kernel_rfl) (fun _ _ _ h => h) (fun W _ => exec_move rfl rfl) trivial ?_
  simp only [List.set_cons_zero, List.set_cons_succ]
  refine take_run (j := 3) (v := .int .i64 67) rfl rfl rfl (by kernel_rfl) (by kernel_rfl) (by kernel_rfl) (fun _ _ _ h => h) (fun W _ => by go_simp; rfl) trivial ?_
  simp only [List.set_cons_zero, List.set_cons_succ]
  refine take_run (j := 4) (v := .int .i64 66) rfl rfl rfl (by kernel_rfl) (by kernel_rfl) (by kernel_rfl) (fun _ _ _ h => h) (fun W _ => by go_simp; rfl) trivial ?_
  simp only [List.set_cons_zero, List.set_cons_succ]
  refine take_run (j := 5) (v := .int .i64 1) rfl rfl rfl (by kernel_rfl) (by kernel_rfl) (by kernel_rfl) (fun _ _ _ h => h) (fun W _ => by go_simp; rfl) trivial ?_
  simp only [List.set_cons_zero, List.set_cons_succ]
  refine all_run (rs := [1, 6]) (by kernel_rfl) rfl (fun r hr => ?_)
  simp only [List.mem_cons, List.not_mem_nil, or_false] at hr
  rcases hr with rfl | rfl
  · refine run_val rfl rfl rfl (exec_make_pairs rfl rfl) ⟨trivial, ?_⟩
    simp only [List.set_cons_zero, List.set_cons_succ]
    refine all_run (rs := [6]) (by kernel_rfl) rfl (fun r hr => ?_)
    obtain rfl : r = 6 := by simpa using hr
    refine run_val rfl rfl rfl (exec_make_word rfl rfl) ⟨trivial, ?_⟩
    simp only [List.set_cons_zero, List.set_cons_succ, size_drew, size_alloc1]
    refine take_run (j := 7) (v := .agg #[.slice (some ⟨w.heap.size, 0, none⟩) 3 3, .slice (some ⟨(w.heap.size + 1), 0, none⟩) 1 1, .int .i64 0]) rfl rfl rfl (by kernel_rfl) (by kernel_rfl) (by kernel_rfl) (fun _ _ _ h => h) (fun W _ => by go_simp) trivial ?_
    simp only [List.set_cons_zero, List.set_cons_succ]
    refine all_run (rs := [8]) (by kernel_rfl) rfl (fun r hr => ?_)
    obtain rfl : r = 8 := by simpa using hr
    refine run_val rfl rfl rfl (exec_box (C := #[.slice (some ⟨w.heap.size, 0, none⟩) 3 3, .slice (some ⟨(w.heap.size + 1), 0, none⟩) 1 1, .int .i64 0]) rfl rfl rfl) ⟨trivial, ?_⟩
    simp only [List.set_cons_zero, List.set_cons_succ]
    refine take_run (j := 9) (v := .pointer (some ⟨w.heap.size + 2, 0, none⟩)) rfl rfl rfl (by kernel_rfl) (by kernel_rfl) (by kernel_rfl) (fun _ _ _ h => h) (fun W _ => exec_assign rfl (by simp [Act.eval])) trivial ?_
    simp only [List.set_cons_zero, List.set_cons_succ]
    refine take_run (j := 10) (v := .int .i64 0) rfl rfl rfl (by kernel_rfl) (by kernel_rfl) (by kernel_rfl) (fun _ _ _ h => h) (fun W _ => exec_assign rfl rfl) trivial ?_
    simp only [List.set_cons_zero, List.set_cons_succ]
    refine wpAnyH_done (by kernel_rfl) ?_ _
    go_wp2
    go_ret2
    exact ⟨_, w.heap.size, w.heap.size + 1, rfl, ⟨three2 w _ _ _, three0 w _ _ _, three1 w _ _ _, rfl⟩, ⟨by omega, by omega, by omega⟩, by omega, by omega, by omega, threeB w _ _ _⟩
  · refine run_val rfl rfl rfl (exec_make_word rfl rfl) ⟨trivial, ?_⟩
    simp only [List.set_cons_zero, List.set_cons_succ]
    refine all_run (rs := [1]) (by kernel_rfl) rfl (fun r hr => ?_)
    obtain rfl : r = 1 := by simpa using hr
    refine run_val rfl rfl rfl (exec_make_pairs rfl rfl) ⟨trivial, ?_⟩
    simp only [List.set_cons_zero, List.set_cons_succ, size_drew, size_alloc1]
    refine take_run (j := 7) (v := .agg #[.slice (some ⟨(w.heap.size + 1), 0, none⟩) 3 3, .slice (some ⟨w.heap.size, 0, none⟩) 1 1, .int .i64 0]) rfl rfl rfl (by kernel_rfl) (by kernel_rfl) (by kernel_rfl) (fun _ _ _ h => h) (fun W _ => by go_simp) trivial ?_
    simp only [List.set_cons_zero, List.set_cons_succ]
    refine all_run (rs := [8]) (by kernel_rfl) rfl (fun r hr => ?_)
    obtain rfl : r = 8 := by simpa using hr
    refine run_val rfl rfl rfl (exec_box (C := #[.slice (some ⟨(w.heap.size + 1), 0, none⟩) 3 3, .slice (some ⟨w.heap.size, 0, none⟩) 1 1, .int .i64 0]) rfl rfl rfl) ⟨trivial, ?_⟩
    simp only [List.set_cons_zero, List.set_cons_succ]
    refine take_run (j := 9) (v := .pointer (some ⟨w.heap.size + 2, 0, none⟩)) rfl rfl rfl (by kernel_rfl) (by kernel_rfl) (by kernel_rfl) (fun _ _ _ h => h) (fun W _ => exec_assign rfl (by simp [Act.eval])) trivial ?_
    simp only [List.set_cons_zero, List.set_cons_succ]
    refine take_run (j := 10) (v := .int .i64 0) rfl rfl rfl (by kernel_rfl) (by kernel_rfl) (by kernel_rfl) (fun _ _ _ h => h) (fun W _ => exec_assign rfl rfl) trivial ?_
    simp only [List.set_cons_zero, List.set_cons_succ]
    refine wpAnyH_done (by kernel_rfl) ?_ _
    go_wp2
    go_ret2
    exact ⟨_, w.heap.size + 1, w.heap.size, rfl, ⟨three2 w _ _ _, three1 w _ _ _, three0 w _ _ _, rfl⟩, ⟨by omega, by omega, by omega⟩, by omega, by omega, by omega, threeB w _ _ _⟩

end Go.Proofs.YtghphopbfamclaaDoor
