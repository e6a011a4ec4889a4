/- SlabsVoid: the walk. -/
import Derived.Test.YtghphopbfamclaaDoorK
namespace Go.Proofs.YtghphopbfamclaaDoor
open Go.RowKit

set_option maxHeartbeats 800000 in
theorem numbers_void (p : Nat) (w : World) (hv : VoidAt w p) : Calls Tryd.prog 12 #[.pointer (some ⟨p, 0, none⟩)] w fun e w' => ∃ g, e = .returned (.slice (some ⟨g, 0, none⟩) 0 0) ∧ Below w.heap.size w w' := by
  have c2 := hv.cell2
  have hlt : p < w.heap.size := (Array.getElem?_eq_some_iff.1 hv).1
  go_enter Tryd.func12, Tryd.ntmps12
  go_wp2_with ((with_reducible refine wl_make_out (l := .const (.int .i64 0)) (c := .tmp 11) (n := 0) ?_ ?_ ?_ ?_ (Nat.zero_le _) ?_); (exact rfl); (exact rfl); (exact rfl); (exact rfl); intro w1 ho1 hg1; have hb1 := below_of_grown hg1; have c1 := VoidAt.cell1 (show VoidAt w1 p from (hb1.block _ hlt).trans hv))
  go_loopw [3, 4, 5, 18] (fun v3 v4 v5 v18 wr => v18 = .int .i64 0 ∧ v3 = .slice (some ⟨w.heap.size, 0, none⟩) 0 0 ∧ wr = w1) (fun _ _ _ _ _ => 0)
  case atStart => exact ⟨rfl, rfl, rfl⟩
  case round =>
    obtain ⟨rfl, rfl, rfl⟩ := hrel
    go_wp2
    go_ret
    exact ⟨_, rfl, hb1⟩

/-- The memory of SlabsVoid. -/
structure VS (w wr : World) : Prop where
  below : Below w.heap.size w wr
  void : VoidAt wr w.heap.size
  row : wr.heap[w.heap.size + 1]? = some (.cells #[.pointer none, .pointer (some ⟨w.heap.size, 0, none⟩)] 26)

theorem VS.keep {w wr w' : World} (h : VS w wr) (hb : Below wr.heap.size wr w') : VS w w' :=
  ⟨h.below.trans (hb.mono h.below.size), (hb.block _ (Array.getElem?_eq_some_iff.1 h.void).1).trans h.void, (hb.block _ (Array.getElem?_eq_some_iff.1 h.row).1).trans h.row⟩
theorem VS.c0 {w wr : World} (h : VS w wr) : wr.cell? ⟨w.heap.size + 1, 0, none⟩ = some (.pointer none) := by
  simp only [World.cell?, h.row]; rfl
theorem VS.c1 {w wr : World} (h : VS w wr) : wr.cell? ⟨w.heap.size + 1, 1, none⟩ = some (.pointer (some ⟨w.heap.size, 0, none⟩)) := by
  simp only [World.cell?, h.row]; rfl

theorem wl_alloc25 {ops : Array Oper} {Q : Exit → Act → World → Prop} {a : Act} {w : World} {rest : List Oper} {o : Oper} (hg : o.guard = none) (ho : o.op = .alloc 25)
    (hK : wpList Tryd.prog ops Q rest (a.put o.dst (.pointer (some ⟨w.heap.size, 0, none⟩))) (w.alloc (.cells #[.slice none 0 0, .slice none 0 0, .int .i64 0] 25))) : wpList Tryd.prog ops Q (o :: rest) a w :=
  wpList_run hg (exec_alloc (z := .agg #[.slice none 0 0, .slice none 0 0, .int .i64 0]) ho (by kernel_rfl) rfl) hK

set_option maxRecDepth 40000 in
set_option maxHeartbeats 1600000 in
theorem void_walk (n : Int) (x : Nat) (w : World) (ht : TabAt w) (hp : 0 < w.heap.size) :
    Calls Tryd.prog 3 #[.int .i64 n, .int .u64 (x : Int)] w fun e w' => e = .returned (.bool true) ∧ Below w.heap.size w w' := by
  go_enter Tryd.func3, Tryd.ntmps3
  go_wp2_with ((with_reducible refine wl_alloc25 ?_ ?_ ?_); (exact rfl); (exact rfl))
  have hvs : VS w ((w.alloc (.cells #[.slice none 0 0, .slice none 0 0, .int .i64 0] 25)).alloc (.cells #[.pointer none, .pointer (some ⟨w.heap.size, 0, none⟩)] 26)) := by
    refine ⟨((Below.refl _ _).alloc (Nat.le_refl _) _).alloc (by simp) _, ?_, ?_⟩
    · unfold VoidAt
      rw [Below.heap_alloc _ _ _ (by simp)]
      exact heap_alloc_new _ _
    · have := heap_alloc_new (w.alloc (.cells #[.slice none 0 0, .slice none 0 0, .int .i64 0] 25)) (.cells #[.pointer none, .pointer (some ⟨w.heap.size, 0, none⟩)] 26)
      simpa using this
  go_loopw [4, 7] (fun v4 v7 wr => ∃ i : Nat, i ≤ 2 ∧ v7 = .int .i64 i ∧ v4 = .bool false ∧ VS w wr) (fun _ v7 _ => 2 - (intOf v7).toNat)
  case atStart => exact ⟨0, by omega, rfl, rfl, hvs⟩
  case round =>
    clear hvs
    obtain ⟨i, hi, rfl, rfl, hs⟩ := hrel
    have hv := hs.void
    have c0 := hs.c0
    have c1 := hs.c1
    rcases (by omega : i = 0 ∨ i = 1 ∨ i = 2) with rfl | rfl | rfl
    · go_wp2_with fail
      refine (put_nil x _).mono ?_
      rintro e w1 ⟨rfl, rfl⟩
      go_wp2_with fail
      refine (get_nil n _).mono ?_
      rintro e w1 ⟨rfl, rfl⟩
      go_wp2_with fail
      refine (set_nil n x _).mono ?_
      rintro e w1 ⟨rfl, rfl⟩
      go_wp2_with fail
      refine (free_nil n _).mono ?_
      rintro e w1 ⟨rfl, rfl⟩
      go_wp2_with fail
      refine (len_nil  _).mono ?_
      rintro e w1 ⟨rfl, rfl⟩
      go_wp2_with fail
      refine (numbers_nil  _).mono ?_
      rintro e w1 ⟨rfl, rfl⟩
      go_wp2
      go_roundw
      case rel => exact ⟨1, by omega, rfl, rfl, hs⟩
      case measure => simp [intOf]
    · go_wp2_with fail
      refine (put_void w.heap.size x _ hv).mono ?_
      rintro e w1 ⟨rfl, rfl⟩
      go_wp2_with fail
      refine (get_void w.heap.size n _ hv).mono ?_
      rintro e w1 ⟨rfl, rfl⟩
      go_wp2_with fail
      refine (set_void w.heap.size n x _ hv).mono ?_
      rintro e w1 ⟨rfl, rfl⟩
      go_wp2_with fail
      refine (free_void w.heap.size n _ hv).mono ?_
      rintro e w1 ⟨rfl, rfl⟩
      go_wp2_with fail
      refine (len_void w.heap.size _ hv).mono ?_
      rintro e w1 ⟨rfl, rfl⟩
      go_wp2_with fail
      refine (numbers_void w.heap.size _ hv).mono ?_
      rintro e w1 ⟨g, rfl, hb1⟩
      go_wp2
      go_roundw
      case rel => exact ⟨2, by omega, rfl, rfl, hs.keep hb1⟩
      case measure => simp [intOf]
    · go_wp2_with fail
      refine (lives_any wr (ht.of_block (hs.below.block 0 hp)) (Nat.lt_of_lt_of_le hp hs.below.size)).mono ?_
      rintro e w1 ⟨rfl, hb1⟩
      go_wp2
      go_ret
      exact ⟨rfl, hs.below.trans (hb1.mono hs.below.size)⟩

end Go.Proofs.YtghphopbfamclaaDoor
