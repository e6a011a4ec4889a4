/- RecentsNone: a queue that is not there, or that no call made: the walks of Push, Age, Len, Copy over it. -/
import Derived.Test.YtgipohphnegnhaaE
namespace Go.Proofs.Ytgipohphnegnhaa
open Go.RowKit

/-- No queue, or one that no call made. -/
def Void (w : World) (q : Option Addr) : Prop := q = none ∨ ∃ b, q = some ⟨b, 0, none⟩ ∧ w.cell? ⟨b, 4802, none⟩ = some (.int .i64 0)

theorem Void.keep {w w' : World} {q : Option Addr} (h : Void w q) (hb : Below w.heap.size w w') : Void w' q := by
  rcases h with rfl | ⟨b, rfl, h⟩
  · exact .inl rfl
  · exact .inr ⟨b, rfl, (hb.cell (p := ⟨b, 4802, none⟩) (block_lt_of_cell h)).trans h⟩

set_option maxHeartbeats 400000 in
theorem there_void (q : Option Addr) (w : World) (h : Void w q) :
    Calls Try.prog 15 #[.pointer q] w fun e w' => e = .returned (.bool false) ∧ w = w' := by
  rcases h with rfl | ⟨b, rfl, h⟩
  · go_enter Try.func15, Try.ntmps15
    go_wp2
    go_ret
    exact ⟨rfl, rfl⟩
  · go_enter Try.func15, Try.ntmps15
    go_wp2
    go_ret
    exact ⟨rfl, rfl⟩

set_option maxHeartbeats 400000 in
theorem len_void (q : Option Addr) (w : World) (h : Void w q) :
    Calls Try.prog 10 #[.pointer q] w fun e w' => e = .returned (.int .i64 0) ∧ w = w' := by
  go_enter Try.func10, Try.ntmps10
  go_wp2_with (go_at_call 15; refine (there_void _ _ h).mono ?_; rintro e w' ⟨rfl, rfl⟩)
  go_ret
  exact ⟨rfl, rfl⟩

set_option maxHeartbeats 400000 in
theorem copy_void (q : Option Addr) (w : World) (h : Void w q) :
    Calls Try.prog 12 #[.pointer q] w fun e w' => e = .returned (.pointer none) ∧ w = w' := by
  go_enter Try.func12, Try.ntmps12
  go_wp2_with (go_at_call 15; refine (there_void _ _ h).mono ?_; rintro e w' ⟨rfl, rfl⟩)
  go_ret
  exact ⟨rfl, rfl⟩

set_option maxHeartbeats 400000 in
theorem age_void (q : Option Addr) (h : List Int) (w : World) (hq : Void w q) :
    Calls Try.prog 9 #[.pointer q, hv h] w fun e w' => e = .returned (.tuple #[.int .i64 0, .bool false]) ∧ Below w.heap.size w w' := by
  have hq1 : Void (w.alloc (.cells (icells .u8 h) 26)) q := hq.keep ((Below.refl _ _).alloc (Nat.le_refl _) _)
  go_enter Try.func9, Try.ntmps9
  go_wp2_with ((with_reducible refine wl_box26 (h := h) ?_ ?_); (exact rfl))
  go_step3
  go_wp2_with (first
    | ((with_reducible refine wl_box26 (h := h) ?_ ?_); (exact rfl))
    | (go_at_call 15; refine (there_void _ _ hq1).mono ?_; rintro e w' ⟨rfl, rfl⟩))
  rw [Exit.noGoto_ret]
  go_ret2
  exact ⟨rfl, (Below.refl _ _).alloc (Nat.le_refl _) _⟩

set_option maxRecDepth 20000 in
set_option maxHeartbeats 400000 in
theorem push_void (q : Option Addr) (h : List Int) (w : World) (hq : Void w q) :
    Calls Try.prog 7 #[.pointer q, hv h] w fun e w' => e = .returned (.tuple #[hv zeroH, .bool false, .int .i64 2]) ∧ Below w.heap.size w w' := by
  have hb2 : Below w.heap.size w ((w.alloc (.cells (icells .u8 h) 26)).alloc (.cells (icells .u8 zeroH) 26)) := ((Below.refl _ _).alloc (Nat.le_refl _) _).alloc (by simp) _
  have hq2 : Void ((w.alloc (.cells (icells .u8 h) 26)).alloc (.cells (icells .u8 zeroH) 26)) q := hq.keep hb2
  have g1 : ((w.alloc (.cells (icells .u8 h) 26)).alloc (.cells (icells .u8 zeroH) 26)).heap[w.heap.size + 1]? = some (.cells (icells .u8 zeroH) 26) := heap_alloc2_new w _ _
  have r1 := RowAt.of_cells g1
  have HG := Lib.hid g1
  clear g1
  go_enter Try.func7, Try.ntmps7
  go_wp2_with (first
    | ((with_reducible refine wl_box26 (h := h) ?_ ?_); (exact rfl))
    | ((with_reducible refine wl_alloc26 ?_))
    | (go_at_call 15; refine (there_void _ _ hq2).mono ?_; rintro e w' ⟨rfl, rfl⟩)
    | ((with_reducible refine wl_load26 (b := w.heap.size + 1) ?_ r1 zeroH_len ?_); (exact rfl))
    | ((with_reducible refine wl_store26 (b := w.heap.size + 1) (h := zeroH) ?_ ?_ zeroH_len HG.out zeroH_size ?_); (exact rfl); (exact rfl); intro w4 hw4 hW4))
  refine bodyPost_ret (results_cell_tmps2 rfl _ rfl (RowAt.of_cells hw4) hash_u26 rfl hash_s26) rfl ⟨rfl, ?_⟩
  exact hW4.below hb2 (by omega)

theorem build_zero (w : World) : (Instr.build 44 #[]).run Try.prog w = .ok (.agg zQ) w := by kernel_rfl
theorem zQ_made : zQ[4802]? = some (.int .i64 0) := by
  unfold zQ
  rw [List.getElem?_toArray, List.getElem?_append_right (by rw [List.length_replicate]; omega), List.length_replicate]
  rfl

section
variable {ops : Array Oper} {Q : Exit → Act → World → Prop} {a : Act} {w : World} {rest : List Oper} {dst : Option Tmp} {x y : Operand} {ty : TypeId} {pos : String} {after : Array Edge} {h k : List Int}
theorem wl_zero44 (K : wpList Try.prog ops Q rest (a.put dst (.agg zQ)) w) : wpList Try.prog ops Q (⟨dst, .build 44 #[], ty, pos, after, none⟩ :: rest) a w :=
  wpList_run rfl (exec_build (ps := #[]) rfl (by simp) (build_zero w)) K
end

section
variable {l : List Oper} {Q : Exit → Act → World → Prop} {K : Act → World → Prop} {w : World} {a : Act} {j d : Nat} {x y : Operand} {ty : TypeId} {pos : String} {after : Array Edge} {h : List Int} {tmps : List Value} {defers : List Deferred}
theorem rn_alloc26 (hi : l[j]? = some ⟨some d, .alloc 26, ty, pos, after, none⟩) (hk : K ⟨(tmps.set d (.pointer (some ⟨w.heap.size, 0, none⟩))).toArray, defers⟩ (w.alloc (.cells (icells .u8 zeroH) 26))) :
    wpOp Try.prog l.toArray Q j K ⟨tmps.toArray, defers⟩ w :=
  run_val hi rfl rfl (exec_alloc rfl zero26 rfl) hk
theorem rn_store26 {b : Nat} {C : Array Value} (hi : l[j]? = some ⟨none, .store 26 x y, ty, pos, after, none⟩) (hp : a.eval x = .pointer (some ⟨b, 0, none⟩)) (hx : a.eval y = hv h) (hl : h.length = 32) (hg : w.heap[b]? = some (.cells C 26)) (hC : C.size = 32)
    (hk : ∀ w1, w1.heap[b]? = some (.cells (icells .u8 h) 26) → Wrote w w1 b → K a w1) : wpOp Try.prog l.toArray Q j K a w := by
  have hsz : (icells .u8 h).size = C.size := by simp [hl, hC]
  refine run_skip hi rfl rfl (exec_store_sub (A := icells .u8 h) rfl hp hx rfl hg (by omega) (icells_one _ _) (by rw [hsz, hC]; exact hash_s26)) (hk _ ?_ (Wrote.setRow _ _ _))
  rw [splice_whole hsz]
  exact setRow_heap w b C _ 26 _ hg
end
section
variable {ops : Array Oper} {Q : Exit → Act → World → Prop} {a : Act} {w : World} {rest : List Oper} {dst : Option Tmp} {x y : Operand} {ty : TypeId} {pos : String} {after : Array Edge} {h k : List Int}
theorem build26_zero (w : World) : (Instr.build 26 #[]).run Try.prog w = .ok (hv zeroH) w := by kernel_rfl
theorem wl_zero26 (K : wpList Try.prog ops Q rest (a.put dst (hv zeroH)) w) : wpList Try.prog ops Q (⟨dst, .build 26 #[], ty, pos, after, none⟩ :: rest) a w :=
  wpList_run rfl (exec_build (ps := #[]) rfl (by simp) (build26_zero w)) K
theorem wl_neq26 {ty' : TypeId} {c : Bool} (hx : a.eval x = hv h) (hy : a.eval y = hv k) (hl : h.length = 32) (hl' : k.length = 32) (hc : (h == k) = c) (K : wpList Try.prog ops Q rest (a.put dst (.bool (!c))) w) :
    wpList Try.prog ops Q (⟨dst, .binOp .neq 26 x y ty', ty, pos, after, none⟩ :: rest) a w :=
  wpList_run rfl (by rw [← hc]; exact exec_neq_ints rfl hx hy hash_g26 hash_u26 hash_u5 hash_s5 hl hl') K
end

/-- What lies in the law's own blocks in every round. -/
structure NS (w : World) (h : List Int) (W : World) : Prop where
  bel : Below w.heap.size w W
  sz : w.heap.size + 3 ≤ W.heap.size
  box : W.heap[w.heap.size]? = some (.cells (icells .u8 h) 26)
  void : W.heap[w.heap.size + 1]? = some (.cells zQ 44)
  row : W.heap[w.heap.size + 2]? = some (.cells #[.pointer none, .pointer (some ⟨w.heap.size + 1, 0, none⟩)] 23)

theorem NS.keep {w : World} {h : List Int} {W W' : World} (s : NS w h W) (hb : Below W.heap.size W W') : NS w h W' := by
  have hz := s.sz
  exact ⟨s.bel.trans (hb.mono (by omega)), Nat.le_trans hz hb.size, (hb.block _ (by omega)).trans s.box, (hb.block _ (by omega)).trans s.void, (hb.block _ (by omega)).trans s.row⟩
theorem NS.drew {w : World} {h : List Int} {W : World} (s : NS w h W) : NS w h W.drew := ⟨s.bel.drew, s.sz, s.box, s.void, s.row⟩
theorem NS.drewN {w : World} {h : List Int} {W : World} (s : NS w h W) (n : Nat) : NS w h (W.drewN n) := ⟨⟨s.bel.os, s.bel.tape, s.bel.output, s.bel.size, s.bel.block⟩, s.sz, s.box, s.void, s.row⟩
theorem NS.wrote {w : World} {h : List Int} {W W' : World} {b : Nat} (s : NS w h W) (hw : Wrote W W' b) (hb : w.heap.size + 3 ≤ b) : NS w h W' := by
  have hz := s.sz
  exact ⟨hw.below s.bel (by omega), by rw [hw.size]; exact hz, (hw.block _ (by omega)).trans s.box, (hw.block _ (by omega)).trans s.void, (hw.block _ (by omega)).trans s.row⟩

/-- The queue of round i. -/
def nq (w : World) (i : Nat) : Option Addr := if i = 0 then none else some ⟨w.heap.size + 1, 0, none⟩
theorem NS.cell {w : World} {h : List Int} {W : World} (s : NS w h W) {i : Nat} (hi : i < 2) : W.cell? ⟨w.heap.size + 2, i, none⟩ = some (.pointer (nq w i)) := by
  simp only [World.cell?, s.row]
  obtain rfl | rfl : i = 0 ∨ i = 1 := by omega
  · rfl
  · rfl
theorem NS.isVoid {w : World} {h : List Int} {W : World} (s : NS w h W) (i : Nat) : Void W (nq w i) := by
  unfold nq
  split
  · exact .inl rfl
  · refine .inr ⟨_, rfl, ?_⟩
    simp [World.cell?, s.void, zQ_made]

set_option maxRecDepth 20000 in
set_option linter.unusedSimpArgs false in
set_option maxHeartbeats 1000000 in
theorem none_walk (h : List Int) (hl : h.length = 32) (w : World) : Calls Try.prog 5 #[hv h] w fun e w' => e = .returned (.bool true) ∧ Below w.heap.size w w' := by
  go_enter Try.func5, Try.ntmps5
  go_wp2_with (first
    | ((with_reducible refine wl_box26 (h := h) ?_ ?_); (exact rfl))
    | ((with_reducible refine wl_zero44 ?_))
    | ((with_reducible refine wl_box44 (C := zQ) ?_ ?_); (exact rfl)))
  have hs0 : NS w h (((w.alloc (.cells (icells .u8 h) 26)).alloc (.cells zQ 44)).alloc (.cells #[.pointer none, .pointer (some ⟨w.heap.size + 1, 0, none⟩)] 23)) := by
    refine ⟨(((Below.refl _ _).alloc (Nat.le_refl _) _).alloc (by simp) _).alloc (by simp; omega) _, by simp, ?_, ?_, ?_⟩
    · rw [Below.heap_alloc _ _ _ (by simp; omega), heap_alloc2_old]
    · rw [Below.heap_alloc _ _ _ (by simp), heap_alloc2_new]
    · have := heap_alloc_new ((w.alloc (.cells (icells .u8 h) 26)).alloc (.cells zQ 44)) (.cells #[.pointer none, .pointer (some ⟨w.heap.size + 1, 0, none⟩)] 23)
      simpa using this
  go_loopw [4] (fun v4 wr => ∃ i : Nat, i ≤ 2 ∧ v4 = .int .i64 i ∧ NS w h wr) (fun v4 _ => 2 - (intOf v4).toNat)
  case atStart => exact ⟨0, by omega, rfl, hs0⟩
  case round =>
    clear hs0
    obtain ⟨i, hi, rfl, hs⟩ := hrel
    by_cases hlt : i < 2
    · go_wp2_with fail
      have hlt' : (i : Int) < 2 := by omega
      have hS := hs.drew
      refine wp_region_heldN (n := 14) (S := NS w h) rfl (by kernel_rfl) hS ?_
      refine take_run (j := 0) (v := .slice (some ⟨w.heap.size + 1 + 1, 0, none⟩) 2 2) rfl rfl rfl (by kernel_rfl) (by kernel_rfl) (by kernel_rfl) (fun _ _ _ h => h) (fun W hW => exec_move rfl rfl) hS ?_
      simp only [List.set_cons_zero, List.set_cons_succ]
      refine take_run (j := 1) (v := .int .i64 i) rfl rfl rfl (by kernel_rfl) (by kernel_rfl) (by kernel_rfl) (fun _ _ _ h => h) (fun W hW => exec_move rfl rfl) hS ?_
      simp only [List.set_cons_zero, List.set_cons_succ]
      refine take_run (j := 2) (v := .pointer (some ⟨w.heap.size + 2, i, none⟩)) rfl rfl rfl (by kernel_rfl) (by kernel_rfl) (by kernel_rfl) (fun _ _ _ h => h) (fun W hW => by go_simp) hS ?_
      simp only [List.set_cons_zero, List.set_cons_succ]
      refine take_run (j := 3) (v := .pointer (nq w i)) rfl rfl rfl (by kernel_rfl) (by kernel_rfl) (by kernel_rfl) (fun _ _ _ h => h) (fun W hW => exec_load_cell rfl rfl Try.underlying23 rfl (hW.cell hlt)) hS ?_
      simp only [List.set_cons_zero, List.set_cons_succ]
      refine take_run (j := 4) (v := hv h) rfl rfl rfl (by kernel_rfl) (by kernel_rfl) (by kernel_rfl) (fun _ _ _ h => h) (fun W hW => exec_load_sub rfl rfl (RowAt.of_cells hW.box) hash_u26 rfl (by rw [size_icells, hl]; exact hash_s26)) hS ?_
      simp only [List.set_cons_zero, List.set_cons_succ]
      refine all_run (rs := [5, 10]) (by kernel_rfl) rfl (fun r hr => ?_)
      simp only [List.mem_cons, List.not_mem_nil, or_false] at hr
      rcases hr with rfl | rfl
      · refine run_call rfl rfl rfl (exec_call2 rfl rfl rfl Try.func7 (by kernel_rfl) (by kernel_rfl)) (push_void (nq w i) h _ (hS.isVoid i)) ?_
        rintro e w1 ⟨he, hk⟩
        refine ⟨_, he, hS.keep hk, ?_⟩
        simp only [List.set_cons_zero, List.set_cons_succ]
        have hS1 := hS.keep hk
        refine take_run (j := 6) (v := .tuple #[hv zeroH, .bool false, .int .i64 2]) rfl rfl rfl (by kernel_rfl) (by kernel_rfl) (by kernel_rfl) (fun _ _ _ h => h) (fun W hW => exec_move rfl rfl) hS1 ?_
        simp only [List.set_cons_zero, List.set_cons_succ]
        refine take_run (j := 7) (v := hv zeroH) rfl rfl rfl (by kernel_rfl) (by kernel_rfl) (by kernel_rfl) (fun _ _ _ h => h) (fun W hW => exec_extract rfl rfl rfl) hS1 ?_
        simp only [List.set_cons_zero, List.set_cons_succ]
        refine take_run (j := 8) (v := .bool false) rfl rfl rfl (by kernel_rfl) (by kernel_rfl) (by kernel_rfl) (fun _ _ _ h => h) (fun W hW => exec_extract rfl rfl rfl) hS1 ?_
        simp only [List.set_cons_zero, List.set_cons_succ]
        refine take_run (j := 9) (v := .int .i64 2) rfl rfl rfl (by kernel_rfl) (by kernel_rfl) (by kernel_rfl) (fun _ _ _ h => h) (fun W hW => exec_extract rfl rfl rfl) hS1 ?_
        simp only [List.set_cons_zero, List.set_cons_succ]
        refine all_run (rs := [10]) (by kernel_rfl) rfl (fun r hr => ?_)
        obtain rfl : r = 10 := by simpa using hr
        have hS2 := hS1.keep ((Below.refl _ w1).alloc (Nat.le_refl _) (.cells (icells .u8 zeroH) 26))
        refine rn_alloc26 rfl ⟨hS2, ?_⟩
        simp only [List.set_cons_zero, List.set_cons_succ]
        refine all_run (rs := [11]) (by kernel_rfl) rfl (fun r hr => ?_)
        obtain rfl : r = 11 := by simpa using hr
        refine rn_store26 rfl rfl rfl zeroH_len (heap_alloc_new _ _) zeroH_size (fun w3 hw3 hW3 => ?_)
        have hS3 := hS2.wrote hW3 hS1.sz
        refine ⟨hS3, ?_⟩
        refine take_run (j := 12) (v := .bool false) rfl rfl rfl (by kernel_rfl) (by kernel_rfl) (by kernel_rfl) (fun _ _ _ h => h) (fun W hW => exec_assign rfl rfl) hS3 ?_
        simp only [List.set_cons_zero, List.set_cons_succ]
        refine take_run (j := 13) (v := .int .i64 2) rfl rfl rfl (by kernel_rfl) (by kernel_rfl) (by kernel_rfl) (fun _ _ _ h => h) (fun W hW => exec_assign rfl rfl) hS3 ?_
        simp only [List.set_cons_zero, List.set_cons_succ]
        refine wpAnyH_done (by kernel_rfl) ?_ _
        go_wp2_with fail
        have hS4 := hS3.drew
        refine wp_region_heldN (n := 11) (S := NS w h) rfl (by kernel_rfl) hS4 ?_
        refine take_run (j := 0) (v := .slice (some ⟨w.heap.size + 1 + 1, 0, none⟩) 2 2) rfl rfl rfl (by kernel_rfl) (by kernel_rfl) (by kernel_rfl) (fun _ _ _ h => h) (fun W hW => exec_move rfl rfl) hS4 ?_
        simp only [List.set_cons_zero, List.set_cons_succ]
        refine take_run (j := 1) (v := .int .i64 i) rfl rfl rfl (by kernel_rfl) (by kernel_rfl) (by kernel_rfl) (fun _ _ _ h => h) (fun W hW => exec_move rfl rfl) hS4 ?_
        simp only [List.set_cons_zero, List.set_cons_succ]
        refine take_run (j := 2) (v := .pointer (some ⟨w.heap.size + 2, i, none⟩)) rfl rfl rfl (by kernel_rfl) (by kernel_rfl) (by kernel_rfl) (fun _ _ _ h => h) (fun W hW => by go_simp) hS4 ?_
        simp only [List.set_cons_zero, List.set_cons_succ]
        refine take_run (j := 3) (v := .pointer (nq w i)) rfl rfl rfl (by kernel_rfl) (by kernel_rfl) (by kernel_rfl) (fun _ _ _ h => h) (fun W hW => exec_load_cell rfl rfl Try.underlying23 rfl (hW.cell hlt)) hS4 ?_
        simp only [List.set_cons_zero, List.set_cons_succ]
        refine take_run (j := 4) (v := hv h) rfl rfl rfl (by kernel_rfl) (by kernel_rfl) (by kernel_rfl) (fun _ _ _ h => h) (fun W hW => exec_load_sub rfl rfl (RowAt.of_cells hW.box) hash_u26 rfl (by rw [size_icells, hl]; exact hash_s26)) hS4 ?_
        simp only [List.set_cons_zero, List.set_cons_succ]
        refine all_run (rs := [5]) (by kernel_rfl) rfl (fun r hr => ?_)
        obtain rfl : r = 5 := by simpa using hr
        refine run_call rfl rfl rfl (exec_call2 rfl rfl rfl Try.func9 (by kernel_rfl) (by kernel_rfl)) (age_void (nq w i) h _ (hS4.isVoid i)) ?_
        rintro e w5 ⟨he, hk5⟩
        refine ⟨_, he, hS4.keep hk5, ?_⟩
        simp only [List.set_cons_zero, List.set_cons_succ]
        have hS5 := hS4.keep hk5
        refine take_run (j := 6) (v := .tuple #[.int .i64 0, .bool false]) rfl rfl rfl (by kernel_rfl) (by kernel_rfl) (by kernel_rfl) (fun _ _ _ h => h) (fun W hW => exec_move rfl rfl) hS5 ?_
        simp only [List.set_cons_zero, List.set_cons_succ]
        refine take_run (j := 7) (v := .int .i64 0) rfl rfl rfl (by kernel_rfl) (by kernel_rfl) (by kernel_rfl) (fun _ _ _ h => h) (fun W hW => exec_extract rfl rfl rfl) hS5 ?_
        simp only [List.set_cons_zero, List.set_cons_succ]
        refine take_run (j := 8) (v := .bool false) rfl rfl rfl (by kernel_rfl) (by kernel_rfl) (by kernel_rfl) (fun _ _ _ h => h) (fun W hW => exec_extract rfl rfl rfl) hS5 ?_
        simp only [List.set_cons_zero, List.set_cons_succ]
        refine take_run (j := 9) (v := .int .i64 0) rfl rfl rfl (by kernel_rfl) (by kernel_rfl) (by kernel_rfl) (fun _ _ _ h => h) (fun W hW => exec_assign rfl rfl) hS5 ?_
        simp only [List.set_cons_zero, List.set_cons_succ]
        refine take_run (j := 10) (v := .bool false) rfl rfl rfl (by kernel_rfl) (by kernel_rfl) (by kernel_rfl) (fun _ _ _ h => h) (fun W hW => exec_assign rfl rfl) hS5 ?_
        simp only [List.set_cons_zero, List.set_cons_succ]
        refine wpAnyH_done (by kernel_rfl) ?_ _
        have hr5 : RowAt w5 w1.heap.size 0 (icells .u8 zeroH) := .of_cells ((hk5.block _ (by have := hW3.size; simp at this ⊢; omega)).trans hw3)
        have hc5 := hS5.cell hlt
        have hv5 := hS5.isVoid i
        go_wp2_with (first
          | ((with_reducible refine wl_load26 ?_ hr5 zeroH_len ?_); (exact rfl))
          | ((with_reducible refine wl_zero26 ?_))
          | ((with_reducible refine wl_neq26 (h := zeroH) (k := zeroH) (c := true) ?_ ?_ zeroH_len zeroH_len rfl ?_); (exact rfl); (exact rfl))
          | (go_at_call 10; refine (len_void _ _ hv5).mono ?_; rintro e w' ⟨rfl, rfl⟩)
          | (go_at_call 12; refine (copy_void _ _ hv5).mono ?_; rintro e w' ⟨rfl, rfl⟩))
        go_roundw
        case rel => exact ⟨i + 1, by omega, by go_num, hS5⟩
        case measure => simp [intOf]; omega
      · have hS2 := hS.keep ((Below.refl _ wr.drew).alloc (Nat.le_refl _) (.cells (icells .u8 zeroH) 26))
        refine rn_alloc26 rfl ⟨hS2, ?_⟩
        simp only [List.set_cons_zero, List.set_cons_succ]
        refine all_run (rs := [5]) (by kernel_rfl) rfl (fun r hr => ?_)
        obtain rfl : r = 5 := by simpa using hr
        refine run_call rfl rfl rfl (exec_call2 rfl rfl rfl Try.func7 (by kernel_rfl) (by kernel_rfl)) (push_void (nq w i) h _ (hS2.isVoid i)) ?_
        rintro e w1 ⟨he, hk⟩
        refine ⟨_, he, hS2.keep hk, ?_⟩
        simp only [List.set_cons_zero, List.set_cons_succ]
        have hS1 := hS2.keep hk
        refine take_run (j := 6) (v := .tuple #[hv zeroH, .bool false, .int .i64 2]) rfl rfl rfl (by kernel_rfl) (by kernel_rfl) (by kernel_rfl) (fun _ _ _ h => h) (fun W hW => exec_move rfl rfl) hS1 ?_
        simp only [List.set_cons_zero, List.set_cons_succ]
        refine take_run (j := 7) (v := hv zeroH) rfl rfl rfl (by kernel_rfl) (by kernel_rfl) (by kernel_rfl) (fun _ _ _ h => h) (fun W hW => exec_extract rfl rfl rfl) hS1 ?_
        simp only [List.set_cons_zero, List.set_cons_succ]
        refine take_run (j := 8) (v := .bool false) rfl rfl rfl (by kernel_rfl) (by kernel_rfl) (by kernel_rfl) (fun _ _ _ h => h) (fun W hW => exec_extract rfl rfl rfl) hS1 ?_
        simp only [List.set_cons_zero, List.set_cons_succ]
        refine take_run (j := 9) (v := .int .i64 2) rfl rfl rfl (by kernel_rfl) (by kernel_rfl) (by kernel_rfl) (fun _ _ _ h => h) (fun W hW => exec_extract rfl rfl rfl) hS1 ?_
        simp only [List.set_cons_zero, List.set_cons_succ]
        refine all_run (rs := [11]) (by kernel_rfl) rfl (fun r hr => ?_)
        obtain rfl : r = 11 := by simpa using hr
        refine rn_store26 rfl rfl rfl zeroH_len ((hk.block wr.drew.heap.size (by simp)).trans (heap_alloc_new _ _)) zeroH_size (fun w3 hw3 hW3 => ?_)
        have hS3 := hS1.wrote hW3 hS.sz
        refine ⟨hS3, ?_⟩
        refine take_run (j := 12) (v := .bool false) rfl rfl rfl (by kernel_rfl) (by kernel_rfl) (by kernel_rfl) (fun _ _ _ h => h) (fun W hW => exec_assign rfl rfl) hS3 ?_
        simp only [List.set_cons_zero, List.set_cons_succ]
        refine take_run (j := 13) (v := .int .i64 2) rfl rfl rfl (by kernel_rfl) (by kernel_rfl) (by kernel_rfl) (fun _ _ _ h => h) (fun W hW => exec_assign rfl rfl) hS3 ?_
        simp only [List.set_cons_zero, List.set_cons_succ]
        refine wpAnyH_done (by kernel_rfl) ?_ _
        go_wp2_with fail
        have hS4 := hS3.drew
        refine wp_region_heldN (n := 11) (S := NS w h) rfl (by kernel_rfl) hS4 ?_
        refine take_run (j := 0) (v := .slice (some ⟨w.heap.size + 1 + 1, 0, none⟩) 2 2) rfl rfl rfl (by kernel_rfl) (by kernel_rfl) (by kernel_rfl) (fun _ _ _ h => h) (fun W hW => exec_move rfl rfl) hS4 ?_
        simp only [List.set_cons_zero, List.set_cons_succ]
        refine take_run (j := 1) (v := .int .i64 i) rfl rfl rfl (by kernel_rfl) (by kernel_rfl) (by kernel_rfl) (fun _ _ _ h => h) (fun W hW => exec_move rfl rfl) hS4 ?_
        simp only [List.set_cons_zero, List.set_cons_succ]
        refine take_run (j := 2) (v := .pointer (some ⟨w.heap.size + 2, i, none⟩)) rfl rfl rfl (by kernel_rfl) (by kernel_rfl) (by kernel_rfl) (fun _ _ _ h => h) (fun W hW => by go_simp) hS4 ?_
        simp only [List.set_cons_zero, List.set_cons_succ]
        refine take_run (j := 3) (v := .pointer (nq w i)) rfl rfl rfl (by kernel_rfl) (by kernel_rfl) (by kernel_rfl) (fun _ _ _ h => h) (fun W hW => exec_load_cell rfl rfl Try.underlying23 rfl (hW.cell hlt)) hS4 ?_
        simp only [List.set_cons_zero, List.set_cons_succ]
        refine take_run (j := 4) (v := hv h) rfl rfl rfl (by kernel_rfl) (by kernel_rfl) (by kernel_rfl) (fun _ _ _ h => h) (fun W hW => exec_load_sub rfl rfl (RowAt.of_cells hW.box) hash_u26 rfl (by rw [size_icells, hl]; exact hash_s26)) hS4 ?_
        simp only [List.set_cons_zero, List.set_cons_succ]
        refine all_run (rs := [5]) (by kernel_rfl) rfl (fun r hr => ?_)
        obtain rfl : r = 5 := by simpa using hr
        refine run_call rfl rfl rfl (exec_call2 rfl rfl rfl Try.func9 (by kernel_rfl) (by kernel_rfl)) (age_void (nq w i) h _ (hS4.isVoid i)) ?_
        rintro e w5 ⟨he, hk5⟩
        refine ⟨_, he, hS4.keep hk5, ?_⟩
        simp only [List.set_cons_zero, List.set_cons_succ]
        have hS5 := hS4.keep hk5
        refine take_run (j := 6) (v := .tuple #[.int .i64 0, .bool false]) rfl rfl rfl (by kernel_rfl) (by kernel_rfl) (by kernel_rfl) (fun _ _ _ h => h) (fun W hW => exec_move rfl rfl) hS5 ?_
        simp only [List.set_cons_zero, List.set_cons_succ]
        refine take_run (j := 7) (v := .int .i64 0) rfl rfl rfl (by kernel_rfl) (by kernel_rfl) (by kernel_rfl) (fun _ _ _ h => h) (fun W hW => exec_extract rfl rfl rfl) hS5 ?_
        simp only [List.set_cons_zero, List.set_cons_succ]
        refine take_run (j := 8) (v := .bool false) rfl rfl rfl (by kernel_rfl) (by kernel_rfl) (by kernel_rfl) (fun _ _ _ h => h) (fun W hW => exec_extract rfl rfl rfl) hS5 ?_
        simp only [List.set_cons_zero, List.set_cons_succ]
        refine take_run (j := 9) (v := .int .i64 0) rfl rfl rfl (by kernel_rfl) (by kernel_rfl) (by kernel_rfl) (fun _ _ _ h => h) (fun W hW => exec_assign rfl rfl) hS5 ?_
        simp only [List.set_cons_zero, List.set_cons_succ]
        refine take_run (j := 10) (v := .bool false) rfl rfl rfl (by kernel_rfl) (by kernel_rfl) (by kernel_rfl) (fun _ _ _ h => h) (fun W hW => exec_assign rfl rfl) hS5 ?_
        simp only [List.set_cons_zero, List.set_cons_succ]
        refine wpAnyH_done (by kernel_rfl) ?_ _
        have hr5 : RowAt w5 wr.drew.heap.size 0 (icells .u8 zeroH) := .of_cells ((hk5.block _ (by have := hW3.size; have := hk.size; simp at *; omega)).trans hw3)
        have hc5 := hS5.cell hlt
        have hv5 := hS5.isVoid i
        go_wp2_with (first
          | ((with_reducible refine wl_load26 ?_ hr5 zeroH_len ?_); (exact rfl))
          | ((with_reducible refine wl_zero26 ?_))
          | ((with_reducible refine wl_neq26 (h := zeroH) (k := zeroH) (c := true) ?_ ?_ zeroH_len zeroH_len rfl ?_); (exact rfl); (exact rfl))
          | (go_at_call 10; refine (len_void _ _ hv5).mono ?_; rintro e w' ⟨rfl, rfl⟩)
          | (go_at_call 12; refine (copy_void _ _ hv5).mono ?_; rintro e w' ⟨rfl, rfl⟩))
        go_roundw
        case rel => exact ⟨i + 1, by omega, by go_num, hS5⟩
        case measure => simp [intOf]; omega
    · go_wp2_with (go_at_call 11; refine (lives_any _).mono ?_; rintro e w' ⟨rfl, hk⟩)
      go_ret
      exact ⟨rfl, (hs.keep hk).bel⟩

end Go.Proofs.Ytgipohphnegnhaa
