/- Walks over the queue of recent hashes: Push. -/
import Derived.Test.YtgipohphnegnhaaC
namespace Go.Proofs.Ytgipohphnegnhaa
open Go.RowKit

/-- The queue behind a hash that was not there. -/
def QS.push (s : QS) (h : List Int) : QS :=
  { R := fun i => if i = s.nx then h else s.R i, nx := (s.nx + 1) % 150, mn := if s.mn = 150 then 150 else s.mn + 1 }

theorem QS.push_ok {s : QS} (hs : s.ok) {h : List Int} (hl : h.length = 32) : (s.push h).ok := by
  have h1 := hs.mn
  refine ⟨Nat.mod_lt _ (by decide), ?_, fun i hi => ?_⟩
  · show (if s.mn = 150 then 150 else s.mn + 1) ≤ 150
    split <;> omega
  · show (if i = s.nx then h else s.R i).length = 32
    split
    · exact hl
    · exact hs.len i hi

set_option maxHeartbeats 400000 in
theorem push_there (b : Nat) (s : QS) (hs : s.ok) (h : List Int) (hl : h.length = 32) (w : World) (hq : QAt w b s) (k : Nat) (hk : ageOf s.list h = some k) :
    Calls Try.prog 7 #[.pointer (some ⟨b, 0, none⟩), hv h] w fun e w' => e = .returned (.tuple #[hv zeroH, .bool false, .int .i64 12]) ∧ QAt w' b s ∧ Only w w' b := by
  have hage : ∀ W, QAt W b s → Calls Try.prog 9 #[.pointer (some ⟨b, 0, none⟩), hv h] W fun e w' => e = .returned (.tuple #[.int .i64 (k : Int), .bool true]) ∧ Below W.heap.size W w' := fun W hW =>
    (age_any b s hs h hl W hW).mono fun e w' ⟨h1, h2⟩ => ⟨by rw [h1]; unfold ageVal; rw [hk]; rfl, h2⟩
  have HA := Lib.hid hage
  clear hage hk
  obtain ⟨w2, hw2⟩ : ∃ w2, w2 = (w.alloc (.cells (icells .u8 h) 26)).alloc (.cells (icells .u8 zeroH) 26) := ⟨_, rfl⟩
  have hq2 : QAt w2 b s := by
    rw [hw2]
    exact (hq.of_block (Below.heap_alloc _ _ _ hq.lt)).of_block (Below.heap_alloc _ _ _ (by have := hq.lt; simp; omega))
  have hb2 : Below w.heap.size w w2 := by rw [hw2]; exact ((Below.refl _ _).alloc (Nat.le_refl _) _).alloc (by simp) _
  have g0 : w2.heap[w.heap.size]? = some (.cells (icells .u8 h) 26) := by rw [hw2]; exact heap_alloc2_old w _ _
  have g1 : w2.heap[w.heap.size + 1]? = some (.cells (icells .u8 zeroH) 26) := by rw [hw2]; exact heap_alloc2_new w _ _
  have HW := Lib.hid hw2
  clear hw2
  have c1 := hq2.made
  go_enter Try.func7, Try.ntmps7
  go_wp2_with (first
    | ((with_reducible refine wl_box26 (h := h) ?_ ?_); (exact rfl))
    | ((with_reducible refine wl_alloc26 ?_)))
  rw [← HW.out]
  refine (there_any _ _ c1).mono ?_
  rintro e w' ⟨rfl, rfl⟩
  go_wp2_with (first
    | ((with_reducible refine wl_load26 (b := w.heap.size) ?_ (RowAt.of_cells g0) hl ?_); (exact rfl)))
  refine (HA.out _ hq2).mono ?_
  rintro e w3 ⟨rfl, hb3⟩
  have hq3 : QAt w3 b s := hq2.of_block (hb3.block _ hq2.lt)
  have l1 : w.heap.size + 1 < w2.heap.size := (Array.getElem?_eq_some_iff.1 g1).1
  have g3 : w3.heap[w.heap.size + 1]? = some (.cells (icells .u8 zeroH) 26) := (hb3.block _ l1).trans g1
  clear g0
  go_wp2_with (first
    | ((with_reducible refine wl_load26 (b := w.heap.size + 1) ?_ (RowAt.of_cells g3) zeroH_len ?_); (exact rfl))
    | ((with_reducible refine wl_store26 (b := w.heap.size + 1) (h := zeroH) ?_ ?_ zeroH_len g3 zeroH_size ?_); (exact rfl); (exact rfl); intro w4 hw4 hW4))
  refine bodyPost_ret (results_cell_tmps2 rfl _ rfl (RowAt.of_cells hw4) hash_u26 rfl hash_s26) rfl ⟨rfl, ?_, ?_⟩
  · exact hq3.of_block (hW4.block _ (by have := hq.lt; omega))
  · exact ((Only.of_below hb2).below hb3).wrote hW4 (.inr (by omega))

set_option maxRecDepth 20000 in
set_option maxHeartbeats 400000 in
theorem push_room (b : Nat) (s : QS) (hs : s.ok) (h : List Int) (hl : h.length = 32) (w : World) (hq : QAt w b s) (hk : ageOf s.list h = none) (hm : s.mn < 150) :
    Calls Try.prog 7 #[.pointer (some ⟨b, 0, none⟩), hv h] w fun e w' => e = .returned (.tuple #[hv zeroH, .bool false, .int .i64 0]) ∧ QAt w' b (s.push h) ∧ Only w w' b := by
  have hage : ∀ W, QAt W b s → Calls Try.prog 9 #[.pointer (some ⟨b, 0, none⟩), hv h] W fun e w' => e = .returned (.tuple #[.int .i64 0, .bool false]) ∧ Below W.heap.size W w' := fun W hW =>
    (age_any b s hs h hl W hW).mono fun e w' ⟨h1, h2⟩ => ⟨by rw [h1]; unfold ageVal; rw [hk]; rfl, h2⟩
  have HA := Lib.hid hage
  clear hage hk
  obtain ⟨w2, hw2⟩ : ∃ w2, w2 = (w.alloc (.cells (icells .u8 h) 26)).alloc (.cells (icells .u8 zeroH) 26) := ⟨_, rfl⟩
  have hq2 : QAt w2 b s := by
    rw [hw2]
    exact (hq.of_block (Below.heap_alloc _ _ _ hq.lt)).of_block (Below.heap_alloc _ _ _ (by have := hq.lt; simp; omega))
  have hb2 : Below w.heap.size w w2 := by rw [hw2]; exact ((Below.refl _ _).alloc (Nat.le_refl _) _).alloc (by simp) _
  have g0 : w2.heap[w.heap.size]? = some (.cells (icells .u8 h) 26) := by rw [hw2]; exact heap_alloc2_old w _ _
  have g1 : w2.heap[w.heap.size + 1]? = some (.cells (icells .u8 zeroH) 26) := by rw [hw2]; exact heap_alloc2_new w _ _
  have HW := Lib.hid hw2
  clear hw2
  have c1 := hq2.made
  go_enter Try.func7, Try.ntmps7
  go_wp2_with (first
    | ((with_reducible refine wl_box26 (h := h) ?_ ?_); (exact rfl))
    | ((with_reducible refine wl_alloc26 ?_)))
  rw [← HW.out]
  refine (there_any _ _ c1).mono ?_
  rintro e w' ⟨rfl, rfl⟩
  go_wp2_with (first
    | ((with_reducible refine wl_load26 (b := w.heap.size) ?_ (RowAt.of_cells g0) hl ?_); (exact rfl)))
  refine (HA.out _ hq2).mono ?_
  rintro e w3 ⟨rfl, hb3⟩
  have hq3 : QAt w3 b s := hq2.of_block (hb3.block _ hq2.lt)
  have l1 : w.heap.size + 1 < w2.heap.size := (Array.getElem?_eq_some_iff.1 g1).1
  have g3 : w3.heap[w.heap.size + 1]? = some (.cells (icells .u8 zeroH) 26) := (hb3.block _ l1).trans g1
  have l0 : w.heap.size < w2.heap.size := (Array.getElem?_eq_some_iff.1 g0).1
  have g4 : w3.heap[w.heap.size]? = some (.cells (icells .u8 h) 26) := (hb3.block _ l0).trans g0
  clear g0 g1
  have hlt := hq.lt
  have hnx := hs.nx
  have c2 := hq3.mn
  have c3 := hq3.nx
  have t1 : ((s.mn : Int) == 150) = false := by simp; omega
  go_wp2_with ((with_reducible refine wl_store_mn (s.mn + 1) ?_ ?_ hq3 ?_); (exact rfl); (exact congrArg (Value.int .i64) (by omega)); intro w4 hq4 hW4)
  have b1 : w.heap.size ≠ b := by omega
  have b2 : w.heap.size + 1 ≠ b := by omega
  have g5 : w4.drew.heap[w.heap.size]? = some (.cells (icells .u8 h) 26) := (hW4.block _ b1).trans g4
  have hq5 : QAt w4.drew b { s with mn := s.mn + 1 } := hq4.of_block rfl
  have c4 : w4.cell? ⟨b, 4800, none⟩ = some (.int .i64 s.nx) := hq4.nx
  have r5 := RowAt.of_cells g5
  clear c1 c2 c3 t1 g4 g5
  have hnx2 : (s.nx : Int) < 150 := by omega
  refine wp_region_tail 9 (by kernel_rfl) (by kernel_rfl) ?_
  simp only [List.take_succ_cons, List.take_zero, List.drop_succ_cons, List.drop_zero]
  repeat (first | ((with_reducible refine wst_load26 (b := w.heap.size) ?_ r5 hl ?_); (exact rfl)) | still_step)
  refine wpStill_nil ?_
  refine wl_store_ring (p := s.nx) rfl hnx rfl hl hq5 ?_
  intro w6 hq6 hW6
  have c6 : w6.cell? ⟨b, 4800, none⟩ = some (.int .i64 s.nx) := hq6.nx
  have g6 : w6.heap[w.heap.size + 1]? = some (.cells (icells .u8 zeroH) 26) := (hW6.block _ b2).trans ((hW4.block _ b2).trans g3)
  have o6 : Only w w6 b := ((((Only.of_below hb2).below hb3).wrote hW4 (.inl rfl)).drew).wrote hW6 (.inl rfl)
  clear c4 r5 hq4 hq5 g3 hq3 hq2
  have hnx0 : (0 : Int) ≤ (s.nx : Int) + 1 := by omega
  go_wp2_with (first
    | ((with_reducible refine wl_store_nx ((s.nx + 1) % 150) ?_ ?_ hq6 ?_); (exact rfl); (exact congrArg (Value.int .i64) (by omega)); intro w7 hq7 hW7; have g7 := (hW7.block _ b2).trans g6)
    | ((with_reducible refine wl_load26 (b := w.heap.size + 1) ?_ (RowAt.of_cells g7) zeroH_len ?_); (exact rfl))
    | ((with_reducible refine wl_store26 (b := w.heap.size + 1) (h := zeroH) ?_ ?_ zeroH_len g7 zeroH_size ?_); (exact rfl); (exact rfl); intro w8 hw8 hW8))
  refine bodyPost_ret (results_cell_tmps2 rfl _ rfl (RowAt.of_cells hw8) hash_u26 rfl hash_s26) rfl ⟨rfl, ?_, ?_⟩
  · have hq8 := hq7.of_block (hW8.block b (fun e => b2 e.symm))
    have e : s.push h = { R := fun i => if i = s.nx then h else s.R i, nx := (s.nx + 1) % 150, mn := s.mn + 1 } := by
      unfold QS.push; rw [if_neg (by omega)]
    rw [e]; exact hq8
  · exact (o6.wrote hW7 (.inl rfl)).wrote hW8 (.inr (by omega))
set_option maxRecDepth 20000 in
set_option maxHeartbeats 400000 in
theorem push_full (b : Nat) (s : QS) (hs : s.ok) (h : List Int) (hl : h.length = 32) (w : World) (hq : QAt w b s) (hk : ageOf s.list h = none) (hm : s.mn = 150) :
    Calls Try.prog 7 #[.pointer (some ⟨b, 0, none⟩), hv h] w fun e w' => e = .returned (.tuple #[hv (s.R s.nx), .bool true, .int .i64 0]) ∧ QAt w' b (s.push h) ∧ Only w w' b := by
  have hage : ∀ W, QAt W b s → Calls Try.prog 9 #[.pointer (some ⟨b, 0, none⟩), hv h] W fun e w' => e = .returned (.tuple #[.int .i64 0, .bool false]) ∧ Below W.heap.size W w' := fun W hW =>
    (age_any b s hs h hl W hW).mono fun e w' ⟨h1, h2⟩ => ⟨by rw [h1]; unfold ageVal; rw [hk]; rfl, h2⟩
  have HA := Lib.hid hage
  clear hage hk
  obtain ⟨w2, hw2⟩ : ∃ w2, w2 = (w.alloc (.cells (icells .u8 h) 26)).alloc (.cells (icells .u8 zeroH) 26) := ⟨_, rfl⟩
  have hq2 : QAt w2 b s := by
    rw [hw2]
    exact (hq.of_block (Below.heap_alloc _ _ _ hq.lt)).of_block (Below.heap_alloc _ _ _ (by have := hq.lt; simp; omega))
  have hb2 : Below w.heap.size w w2 := by rw [hw2]; exact ((Below.refl _ _).alloc (Nat.le_refl _) _).alloc (by simp) _
  have g0 : w2.heap[w.heap.size]? = some (.cells (icells .u8 h) 26) := by rw [hw2]; exact heap_alloc2_old w _ _
  have g1 : w2.heap[w.heap.size + 1]? = some (.cells (icells .u8 zeroH) 26) := by rw [hw2]; exact heap_alloc2_new w _ _
  have HW := Lib.hid hw2
  clear hw2
  have c1 := hq2.made
  go_enter Try.func7, Try.ntmps7
  go_wp2_with (first
    | ((with_reducible refine wl_box26 (h := h) ?_ ?_); (exact rfl))
    | ((with_reducible refine wl_alloc26 ?_)))
  rw [← HW.out]
  refine (there_any _ _ c1).mono ?_
  rintro e w' ⟨rfl, rfl⟩
  go_wp2_with (first
    | ((with_reducible refine wl_load26 (b := w.heap.size) ?_ (RowAt.of_cells g0) hl ?_); (exact rfl)))
  refine (HA.out _ hq2).mono ?_
  rintro e w3 ⟨rfl, hb3⟩
  have hq3 : QAt w3 b s := hq2.of_block (hb3.block _ hq2.lt)
  have l1 : w.heap.size + 1 < w2.heap.size := (Array.getElem?_eq_some_iff.1 g1).1
  have g3 : w3.heap[w.heap.size + 1]? = some (.cells (icells .u8 zeroH) 26) := (hb3.block _ l1).trans g1
  have l0 : w.heap.size < w2.heap.size := (Array.getElem?_eq_some_iff.1 g0).1
  have g4 : w3.heap[w.heap.size]? = some (.cells (icells .u8 h) 26) := (hb3.block _ l0).trans g0
  clear g0 g1
  have hlt := hq.lt
  have hnx := hs.nx
  have c2 := hq3.mn
  have c3 := hq3.nx
  have t1 : ((s.mn : Int) == 150) = true := by simp; omega
  have HM := Lib.hid hm
  clear hm
  have b1 : w.heap.size ≠ b := by omega
  have b2 : w.heap.size + 1 ≠ b := by omega
  have hnx2 : (s.nx : Int) < 150 := by omega
  have hln := hs.len _ hnx
  have hsz9 : (icells .u8 (s.R s.nx)).size = 32 := by simp [hln]
  have r3 : RowAt w3.drew b (s.nx * 32) (icells .u8 (s.R s.nx)) := (hq3.row hs hnx).of_block rfl
  go_wp2_with fail
  refine wp_region_tail 9 (by kernel_rfl) (by kernel_rfl) ?_
  simp only [List.take_succ_cons, List.take_zero, List.drop_succ_cons, List.drop_zero]
  repeat (first | ((with_reducible refine wst_load26 (b := b) ?_ r3 hln ?_); (exact rfl)) | still_step)
  refine wpStill_nil ?_
  refine wl_store26 (b := w.heap.size + 1) (h := s.R s.nx) rfl rfl hln g3 zeroH_size ?_
  intro w4 g9 hW4
  have hq4 : QAt w4 b s := hq3.of_block (hW4.block b (fun e => b2 e.symm))
  have hq5 : QAt w4.drew b s := hq4.of_block rfl
  have c4 := hq4.nx
  have g5 : w4.drew.heap[w.heap.size]? = some (.cells (icells .u8 h) 26) := (hW4.block _ (by omega)).trans g4
  have r5 := RowAt.of_cells g5
  clear c1 c2 c3 t1 g4 g5 r3
  go_wp2
  refine wp_region_tail 9 (by kernel_rfl) (by kernel_rfl) ?_
  simp only [List.take_succ_cons, List.take_zero, List.drop_succ_cons, List.drop_zero]
  repeat (first | ((with_reducible refine wst_load26 (b := w.heap.size) ?_ r5 hl ?_); (exact rfl)) | still_step)
  refine wpStill_nil ?_
  refine wl_store_ring (p := s.nx) rfl hnx rfl hl hq5 ?_
  intro w6 hq6 hW6
  have c6 : w6.cell? ⟨b, 4800, none⟩ = some (.int .i64 s.nx) := hq6.nx
  have g6 : w6.heap[w.heap.size + 1]? = some (.cells (icells .u8 (s.R s.nx)) 26) := (hW6.block _ b2).trans g9
  have o6 : Only w w6 b := ((((Only.of_below hb2).below hb3).drew.wrote hW4 (.inr (by omega))).drew).wrote hW6 (.inl rfl)
  clear c4 r5 hq4 hq5 g3 g9 hq3 hq2
  have hnx0 : (0 : Int) ≤ (s.nx : Int) + 1 := by omega
  go_wp2_with (first
    | ((with_reducible refine wl_store_nx ((s.nx + 1) % 150) ?_ ?_ hq6 ?_); (exact rfl); (exact congrArg (Value.int .i64) (by omega)); intro w7 hq7 hW7; have g7 := (hW7.block _ b2).trans g6)
    | ((with_reducible refine wl_load26 (b := w.heap.size + 1) ?_ (RowAt.of_cells g7) hln ?_); (exact rfl))
    | ((with_reducible refine wl_store26 (b := w.heap.size + 1) (h := s.R s.nx) ?_ ?_ hln g7 hsz9 ?_); (exact rfl); (exact rfl); intro w8 hw8 hW8))
  refine bodyPost_ret (results_cell_tmps2 rfl _ rfl (RowAt.of_cells hw8) hash_u26 rfl (by rw [hsz9]; exact hash_s26)) rfl ⟨rfl, ?_, ?_⟩
  · have hq8 := hq7.of_block (hW8.block b (fun e => b2 e.symm))
    have e : s.push h = { R := fun i => if i = s.nx then h else s.R i, nx := (s.nx + 1) % 150, mn := s.mn } := by
      unfold QS.push; rw [if_pos HM.out, HM.out]
    rw [e]; exact hq8
  · exact (o6.wrote hW7 (.inl rfl)).wrote hW8 (.inr (by omega))
end Go.Proofs.Ytgipohphnegnhaa
