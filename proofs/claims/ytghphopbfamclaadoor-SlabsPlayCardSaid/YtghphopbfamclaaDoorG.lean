/- New. -/
import Derived.Test.YtghphopbfamclaaDoorF
import Derived.Laws.OwnMore
import Derived.OwnWalk
namespace Go.Proofs.YtghphopbfamclaaDoor
open Go.RowKit

theorem new_less {n : Int} (w : World) (h : n < 1) : Calls Tryd.prog 19 #[.int .i64 n] w fun e w' => e = .returned (.tuple #[.pointer none, .int .i64 1]) ∧ w = w' := by
  go_enter Tryd.func19, Tryd.ntmps19
  go_wp2
  go_ret2
  exact ⟨rfl, rfl⟩

theorem new_more {n : Int} (w : World) (h : 4096 < n) : Calls Tryd.prog 19 #[.int .i64 n] w fun e w' => e = .returned (.tuple #[.pointer none, .int .i64 1]) ∧ w = w' := by
  go_enter Tryd.func19, Tryd.ntmps19
  go_wp2
  go_ret2
  exact ⟨rfl, rfl⟩

section
variable {P : Program} {a : Act} {w : World}
theorem size_drew : w.drew.heap.size = w.heap.size := rfl
theorem size_alloc1 (o : Obj) : (w.alloc o).heap.size = w.heap.size + 1 := by simp

theorem made_ncells (n : Nat) : madeCells #[.int .u64 0] n = ncells (List.replicate n 0) := by
  apply Array.ext'
  rw [toList_madeCells_one]
  simp [ncells, icells, List.map_replicate]

theorem exec_make_words {o : Oper} {x : Operand} {t : TypeId} {n : Nat} (ho : o.op = .makeSlice t x x) (hx : a.eval x = .int .i64 (n : Int)) (ht : P.underlying t = some (.slice 22)) (hi : (P.info? 22).map (fun i => (i.zero, i.size, i.bytes)) = some (some (.int .u64 0), 1, 8)) (hn : n ≤ 4096) :
    (execOp a.eval o).run P w = .ok (.value (.slice (some ⟨w.heap.size, 0, none⟩) n n)) (w.alloc (.cells (ncells (List.replicate n 0)) 22)) := by
  obtain ⟨i, h1, h2, h3, h4⟩ := info_parts hi
  have := run_make (P := P) w t 22 i (.int .u64 0) ht h1 h2 .i64 .i64 (n : Int) (n : Int) (by omega) (by omega) (by rw [h4]; omega) (by omega)
  rw [h3, Int.toNat_natCast, Nat.mul_one] at this
  unfold execOp
  simp only [ho, hx]
  simp only [Sem.run_bind, this, Result.andThen_ok, Sem.run_pure]
  rw [show (Value.int IntKind.u64 0).cells = #[.int .u64 0] from rfl, made_ncells]
end

theorem threeE (w : World) (a b c : Obj) : (((w.drew.alloc a).alloc b).alloc c).heap = ((w.heap.push a).push b).push c := rfl
theorem three0 (w : World) (a b c : Obj) : (((w.drew.alloc a).alloc b).alloc c).heap[w.heap.size]? = some a := by
  rw [threeE, Array.getElem?_push, if_neg (by simp; omega), Array.getElem?_push, if_neg (by simp), Array.getElem?_push, if_pos rfl]
theorem three1 (w : World) (a b c : Obj) : (((w.drew.alloc a).alloc b).alloc c).heap[w.heap.size + 1]? = some b := by
  rw [threeE, Array.getElem?_push, if_neg (by simp), Array.getElem?_push, if_pos (by simp)]
theorem three2 (w : World) (a b c : Obj) : (((w.drew.alloc a).alloc b).alloc c).heap[w.heap.size + 2]? = some c := by
  rw [threeE, Array.getElem?_push, if_pos (by simp)]
theorem threeB (w : World) (a b c : Obj) : Below w.heap.size w (((w.drew.alloc a).alloc b).alloc c) :=
  (((Below.refl w.heap.size w).drew.alloc (by simp) _).alloc (by simp) _).alloc (by simp; omega) _

theorem new_any {room : Nat} (w : World) (h1 : 1 ≤ room) (h2 : room ≤ 4096) : Calls Tryd.prog 19 #[.int .i64 (room : Int)] w fun e w' => ∃ p bt bu, e = .returned (.tuple #[.pointer (some ⟨p, 0, none⟩), .int .i64 0]) ∧
    SlabIn w' p bt bu room (List.replicate ((room + 63) / 64) 0) (List.replicate room 0) 0 ∧ Apart p bt bu ∧ w.heap.size ≤ p ∧ w.heap.size ≤ bt ∧ w.heap.size ≤ bu ∧ Below w.heap.size w w' := by
  have h3 : (1 : Int) ≤ room := by omega
  have h4 : (room : Int) ≤ 4096 := by omega
  go_enter Tryd.func19, Tryd.ntmps19
  go_wp2
  refine wp_region_heldN (n := 11) (S := fun _ => True) rfl (by kernel_rfl) trivial ?_
  refine take_run (j := 0) (v := .int .i64 (room : Int)) rfl rfl rfl (by kernel_rfl) (by kernel_rfl) (by kernel_rfl) (fun _ _ _ h => h) (fun W _ => exec_move rfl rfl) trivial ?_
  simp only [List.set_cons_zero, List.set_cons_succ]
  refine take_run (j := 2) (v := .int .i64 (room : Int)) rfl rfl rfl (by kernel_rfl) (by kernel_rfl) (by kernel_rfl) (fun _ _ _ h => h) (fun W _ => exec_move rfl rfl) trivial ?_
  simp only [List.set_cons_zero, List.set_cons_succ]
  refine take_run (j := 3) (v := .int .i64 ((room + 64 : Nat) : Int)) rfl rfl rfl (by kernel_rfl) (by kernel_rfl) (by kernel_rfl) (fun _ _ _ h => h) (fun W _ => by go_simp; rw [IntKind.wrap_i64]; omega) trivial ?_
  simp only [List.set_cons_zero, List.set_cons_succ]
  refine take_run (j := 4) (v := .int .i64 ((room + 63 : Nat) : Int)) rfl rfl rfl (by kernel_rfl) (by kernel_rfl) (by kernel_rfl) (fun _ _ _ h => h) (fun W _ => by go_simp; rw [IntKind.wrap_i64]; omega) trivial ?_
  simp only [List.set_cons_zero, List.set_cons_succ]
  refine take_run (j := 5) (v := .int .i64 (((room + 63) / 64 : Nat) : Int)) rfl rfl rfl (by kernel_rfl) (by kernel_rfl) (by kernel_rfl) (fun _ _ _ h => h) (fun W _ => by go_simp; rw [IntKind.wrap_i64, Int.tdiv_eq_ediv_of_nonneg (by omega)]; omega) trivial ?_
  simp only [List.set_cons_zero, List.set_cons_succ]
  refine all_run (rs := [1, 6]) (by kernel_rfl) rfl (fun r hr => ?_)
  simp only [List.mem_cons, List.not_mem_nil, or_false] at hr
  rcases hr with rfl | rfl
  · refine run_val rfl rfl rfl (exec_make_words (n := room) rfl rfl (by kernel_rfl) (by kernel_rfl) (by omega)) ⟨trivial, ?_⟩
    simp only [List.set_cons_zero, List.set_cons_succ]
    refine all_run (rs := [6]) (by kernel_rfl) rfl (fun r hr => ?_)
    obtain rfl : r = 6 := by simpa using hr
    refine run_val rfl rfl rfl (exec_make_words (n := (room + 63) / 64) rfl rfl (by kernel_rfl) (by kernel_rfl) (by omega)) ⟨trivial, ?_⟩
    simp only [List.set_cons_zero, List.set_cons_succ, size_drew, size_alloc1]
    refine take_run (j := 7) (v := .agg #[.slice (some ⟨w.heap.size, 0, none⟩) room room, .slice (some ⟨(w.heap.size + 1), 0, none⟩) ((room + 63) / 64) ((room + 63) / 64), .int .i64 0]) rfl rfl rfl (by kernel_rfl) (by kernel_rfl) (by kernel_rfl) (fun _ _ _ h => h) (fun W _ => by go_simp) trivial ?_
    simp only [List.set_cons_zero, List.set_cons_succ]
    refine all_run (rs := [8]) (by kernel_rfl) rfl (fun r hr => ?_)
    obtain rfl : r = 8 := by simpa using hr
    refine run_val rfl rfl rfl (exec_box (C := #[.slice (some ⟨w.heap.size, 0, none⟩) room room, .slice (some ⟨(w.heap.size + 1), 0, none⟩) ((room + 63) / 64) ((room + 63) / 64), .int .i64 0]) rfl rfl rfl) ⟨trivial, ?_⟩
    simp only [List.set_cons_zero, List.set_cons_succ]
    refine take_run (j := 9) (v := .pointer (some ⟨w.heap.size + 2, 0, none⟩)) rfl rfl rfl (by kernel_rfl) (by kernel_rfl) (by kernel_rfl) (fun _ _ _ h => h) (fun W _ => exec_assign rfl (by simp [Act.eval])) trivial ?_
    simp only [List.set_cons_zero, List.set_cons_succ]
    refine take_run (j := 10) (v := .int .i64 0) rfl rfl rfl (by kernel_rfl) (by kernel_rfl) (by kernel_rfl) (fun _ _ _ h => h) (fun W _ => exec_assign rfl rfl) trivial ?_
    simp only [List.set_cons_zero, List.set_cons_succ]
    refine wpAnyH_done (by kernel_rfl) ?_ _
    go_wp2
    go_ret2
    exact ⟨_, w.heap.size, w.heap.size + 1, rfl, ⟨three2 w _ _ _, three0 w _ _ _, three1 w _ _ _, by simp, by simp, by simp, h1, h2⟩, ⟨by omega, by omega, by omega⟩, by omega, by omega, by omega, threeB w _ _ _⟩
  · refine run_val rfl rfl rfl (exec_make_words (n := (room + 63) / 64) rfl rfl (by kernel_rfl) (by kernel_rfl) (by omega)) ⟨trivial, ?_⟩
    simp only [List.set_cons_zero, List.set_cons_succ]
    refine all_run (rs := [1]) (by kernel_rfl) rfl (fun r hr => ?_)
    obtain rfl : r = 1 := by simpa using hr
    refine run_val rfl rfl rfl (exec_make_words (n := room) rfl rfl (by kernel_rfl) (by kernel_rfl) (by omega)) ⟨trivial, ?_⟩
    simp only [List.set_cons_zero, List.set_cons_succ, size_drew, size_alloc1]
    refine take_run (j := 7) (v := .agg #[.slice (some ⟨(w.heap.size + 1), 0, none⟩) room room, .slice (some ⟨w.heap.size, 0, none⟩) ((room + 63) / 64) ((room + 63) / 64), .int .i64 0]) rfl rfl rfl (by kernel_rfl) (by kernel_rfl) (by kernel_rfl) (fun _ _ _ h => h) (fun W _ => by go_simp) trivial ?_
    simp only [List.set_cons_zero, List.set_cons_succ]
    refine all_run (rs := [8]) (by kernel_rfl) rfl (fun r hr => ?_)
    obtain rfl : r = 8 := by simpa using hr
    refine run_val rfl rfl rfl (exec_box (C := #[.slice (some ⟨(w.heap.size + 1), 0, none⟩) room room, .slice (some ⟨w.heap.size, 0, none⟩) ((room + 63) / 64) ((room + 63) / 64), .int .i64 0]) rfl rfl rfl) ⟨trivial, ?_⟩
    simp only [List.set_cons_zero, List.set_cons_succ]
    refine take_run (j := 9) (v := .pointer (some ⟨w.heap.size + 2, 0, none⟩)) rfl rfl rfl (by kernel_rfl) (by kernel_rfl) (by kernel_rfl) (fun _ _ _ h => h) (fun W _ => exec_assign rfl (by simp [Act.eval])) trivial ?_
    simp only [List.set_cons_zero, List.set_cons_succ]
    refine take_run (j := 10) (v := .int .i64 0) rfl rfl rfl (by kernel_rfl) (by kernel_rfl) (by kernel_rfl) (fun _ _ _ h => h) (fun W _ => exec_assign rfl rfl) trivial ?_
    simp only [List.set_cons_zero, List.set_cons_succ]
    refine wpAnyH_done (by kernel_rfl) ?_ _
    go_wp2
    go_ret2
    exact ⟨_, w.heap.size + 1, w.heap.size, rfl, ⟨three2 w _ _ _, three1 w _ _ _, three0 w _ _ _, by simp, by simp, by simp, h1, h2⟩, ⟨by omega, by omega, by omega⟩, by omega, by omega, by omega, threeB w _ _ _⟩

end Go.Proofs.YtghphopbfamclaaDoor
