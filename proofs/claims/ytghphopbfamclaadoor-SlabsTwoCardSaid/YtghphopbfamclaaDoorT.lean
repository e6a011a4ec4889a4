/- Put into an empty slab of pairs. -/
import Derived.Test.YtghphopbfamclaaDoorS
namespace Go.Proofs.YtghphopbfamclaaDoor
open Go.RowKit

theorem PairIn.wroteWord {w w' : World} {p bt bu wv many x : Nat} {X : List Int} (h : PairIn w p bt bu wv X many) (ha : Apart p bt bu) (hw : w'.heap[bu]? = some (.cells ((ncells [wv]).setIfInBounds 0 (.int .u64 (x : Int))) 22)) (hW : Wrote w w' bu) : PairIn w' p bt bu x X many :=
  ⟨(hW.block _ (Ne.symm ha.two)).trans h.head, (hW.block _ ha.three).trans h.things, by rw [hw, ncells_set]; rfl, h.lenX⟩
theorem PairIn.wroteMany {w w' : World} {p bt bu wv many m : Nat} {X : List Int} {v1 v2 : Value} (h : PairIn w p bt bu wv X many) (ha : Apart p bt bu) (hw : w'.heap[p]? = some (.cells ((#[.slice (some ⟨bt, 0, none⟩) 3 3, .slice (some ⟨bu, 0, none⟩) 1 1, v1] : Array Value).setIfInBounds 2 v2) 68)) (hv : v2 = .int .i64 (m : Int)) (hW : Wrote w w' p) : PairIn w' p bt bu wv X m :=
  ⟨by rw [hw, hv]; rfl, (hW.block _ ha.one).trans h.things, (hW.block _ ha.two).trans h.used, h.lenX⟩

theorem low_all : Low 18446744073709551615 0 := ⟨by decide +kernel, fun _ h => absurd h (Nat.not_lt_zero _)⟩

set_option maxRecDepth 20000 in
set_option maxHeartbeats 1600000 in
theorem pair_put {p bt bu : Nat} {x y u v : Int} {X : List Int} (w : World) (hs : PairIn w p bt bu 0 (u :: v :: X) 0) (ha : Apart p bt bu) (ht : TabAt w) (hw0 : 0 < w.heap.size) : Calls Tryd.prog 15 #[.pointer (some ⟨p, 0, none⟩), pv x y] w fun e w' =>
    e = .returned (.tuple #[.int .i64 0, .int .i64 0]) ∧ PairIn w' p bt bu 1 (x :: y :: X) 1 ∧ Moved w w' p bt bu := by
  have q := q66
  go_enter Tryd.func15, Tryd.ntmps15
  go_wp2_with ((with_reducible refine wl_box43 (m := x) (n := y) ?_ ?_); (exact rfl))
  have hk : Below w.heap.size w (w.alloc (.cells (icells .u64 [x, y]) 43)) := (Below.refl _ _).alloc (Nat.le_refl _) _
  have hz : (w.alloc (.cells (icells .u64 [x, y]) 43)).heap[w.heap.size]? = some (.cells (icells .u64 [x, y]) 43) := heap_alloc_new _ _
  have hs1 := hs.keep hk
  have ht1 : TabAt (w.alloc (.cells (icells .u64 [x, y]) 43)) := ht.of_block (hk.block 0 hw0)
  have hlts : p < w.heap.size ∧ bt < w.heap.size ∧ bu < w.heap.size := ⟨(Array.getElem?_eq_some_iff.1 hs.head).1, (Array.getElem?_eq_some_iff.1 hs.things).1, (Array.getElem?_eq_some_iff.1 hs.used).1⟩
  generalize w.alloc (.cells (icells .u64 [x, y]) 43) = w1 at hk hz hs1 ht1
  have h0 := hs1.cell0
  have h2 := hs1.cell2
  go_step3
  go_wp2
  refine wp_region_quiet_lit (by kernel_rfl) (by kernel_rfl) ?_
  repeat quiet_step (fail)
  refine wpQuiet_nil ?_
  intro wq hwq
  have hT : Moved w wq p bt bu := by obtain ⟨k, rfl⟩ := hwq; exact ⟨hk.os, hk.tape, hk.output, hk.size, fun i hi _ _ _ => hk.block i hi⟩
  have hS : PairIn wq p bt bu 0 (u :: v :: X) 0 := by obtain ⟨k, rfl⟩ := hwq; exact ⟨hs1.head, hs1.things, hs1.used, hs1.lenX⟩
  have hzq : wq.heap[w.heap.size]? = some (.cells (icells .u64 [x, y]) 43) := by obtain ⟨k, rfl⟩ := hwq; exact hz
  have htab : TabAt wq := by obtain ⟨k, rfl⟩ := hwq; exact ht1.of_block rfl
  clear hwq h0 h2 hz hs1 ht1 hk w1
  have c1 := hS.cell1
  have c2 := hS.word
  go_wp2
  go_step3
  go_wp2
  go_loopw [4, 6, 7, 8, 35] (fun v4 v6 v7 v8 v35 wr => v35 = .int .i64 0 ∧ v4 = .int .i64 0 ∧ wr = wq) (fun _ _ _ _ _ _ => 0)
  case atStart => exact ⟨rfl, rfl, rfl⟩
  case round =>
    obtain ⟨rfl, rfl, rfl⟩ := hrel
    obtain ⟨z, hz0⟩ : ∃ z, 18446744073709551615 - 0 = z := ⟨_, rfl⟩
    have hz := @exec_xor_to Tryd.prog (.tmp 40) 22 _ _ hz0
    have hl : Low z 0 := by rw [← hz0]; exact low_all
    have hz1 : z < 18446744073709551616 := by omega
    clear hz0
    go_wp2_with ((with_reducible refine wpList_run (v := .int .u64 (z : Int)) ?_ (hz ?_ ?_ (by decide)) ?_); (exact rfl); (exact rfl); (exact rfl))
    refine (tz_any hz1 (by decide) hl _ htab).mono ?_
    rintro e w1 ⟨rfl, rfl⟩
    go_wp2
    have hs3 := hS.drew
    have d1 := hs3.cell1
    have d2 := hs3.word
    clear c1 c2 hl hz hz1
    have e1 : IntKind.i64.wrap (0 : Int) = 0 := rfl
    have e2 : (0 : Nat) < 1 := by decide
    refine wp_region_tail 13 (by kernel_rfl) (by kernel_rfl) ?_
    simp only [List.take_succ_cons, List.take_zero, List.drop_succ_cons, List.drop_zero]
    repeat (first
      | ((with_reducible refine wpStill_run (v := .pointer (some ⟨bu, 0 + 0, none⟩)) ?_ (exec_index_slice (t := 23) (e := 22) (k := .i64) (n := 1) (c := 1) (x := .tmp 53) (i := .tmp 55) ?_ ?_ ?_ ?_ ?_ e2) ?_); (exact rfl); (exact rfl); (exact rfl); (exact rfl); (kernel_rfl); (kernel_rfl); rw [Nat.zero_add])
      | ((with_reducible refine wpStill_run (v := .int .u64 ((2 ^ 0 : Nat) : Int)) ?_ (exec_shl_one (t := 22) (y := .tmp 59) ?_ ?_ (by decide)) ?_); (exact rfl); (exact rfl); (exact rfl))
      | ((with_reducible refine wpStill_run (v := .int .u64 ((0 ||| 2 ^ 0 : Nat) : Int)) ?_ (exec_or_nat (t := 22) (t' := 22) (x := .tmp 57) (y := .tmp 60) ?_ ?_ ?_ (by decide) (by decide)) ?_); (exact rfl); (exact rfl); (exact rfl); (exact rfl))
      | still_step)
    refine wpStill_nil ?_
    refine wl_store1 (ty := 22) (p := .tmp 62) (x := .tmp 61) (b := bu) (j := 0) (v := .int .u64 ((0 ||| 2 ^ 0 : Nat) : Int)) rfl rfl rfl rfl rfl rfl rfl (by kernel_rfl) hs3.used (by rw [ncells_size]; exact e2) ?_
    intro w4 hw4 hW4
    have hs4 := hs3.wroteWord ha hw4 hW4
    have ho4 := hT.drew.wrote hW4 (.inr (.inr rfl))
    have hz4 : w4.drew.heap[w.heap.size]? = some (.cells (icells .u64 [x, y]) 43) := (hW4.block _ (by omega)).trans hzq
    have hs5 := hs4.drew
    have f0 := hs5.cell0
    clear d1 d2 hs3 hS hzq
    go_wp2
    refine wp_region_tail 7 (by kernel_rfl) (by kernel_rfl) ?_
    simp only [List.take_succ_cons, List.take_zero, List.drop_succ_cons, List.drop_zero]
    repeat (first | ((with_reducible refine wst_load43 (b := w.heap.size) ?_ (RowAt.of_cells hz4) ?_); (exact rfl)) | still_step)
    refine wpStill_nil ?_
    refine wl_store43at (b := bt) (m := x) (n := y) rfl rfl hs5.things ?_
    intro w6 hw6 hW6
    have hs6 := hs5.wroteThings ha hw6 (by have := hs.lenX; simpa using this) hW6
    have g2 := hs6.cell2
    have hh6 := hs6.head
    have ho6 := ho4.drew.wrote hW6 (.inr (.inl rfl))
    clear f0 hs5 hz4 hs4
    go_wp2_with ((with_reducible refine wl_store1 (ty := 3) (p := .tmp 76) (x := .tmp 74) (b := p) (j := 2) (v := .int .i64 1) ?_ ?_ ?_ ?_ ?_ ?_ ?_ ?_ hh6 ?_ ?_); (exact rfl); (exact rfl); (exact rfl); (exact rfl); (exact rfl); (exact rfl); (exact rfl); (kernel_rfl); (exact (by decide : 2 < 3)); intro w7 hw7 hW7)
    rw [Exit.noGoto_ret]
    go_ret2
    exact ⟨rfl, hs6.wroteMany ha hw7 rfl hW7, ho6.wrote hW7 (.inl rfl)⟩

end Go.Proofs.YtghphopbfamclaaDoor
