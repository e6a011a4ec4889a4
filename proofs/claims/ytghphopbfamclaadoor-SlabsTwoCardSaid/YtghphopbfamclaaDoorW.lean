/- SlabsTwo: the walk. -/
import Derived.Test.YtghphopbfamclaaDoorU
namespace Go.Proofs.YtghphopbfamclaaDoor
open Go.RowKit

section
variable {ops : Array Oper} {Q : Exit → Act → World → Prop} {a : Act} {w : World} {rest : List Oper} {dst : Option Nat} {x y : Operand} {ty ty' : TypeId} {pos : String} {after : Array Edge} {g : Option (Nat × Bool)} {m n : Int}

/-- A guarded operation that is carried out. -/
theorem wpList_runG {o : Oper} {v : Value} {w' : World} (hw : Region.wanted o (yielded ops a.tmps) = true) (hr : (execOp a.eval o).run Tryd.prog w = .ok (.value v) w') (h : wpList Tryd.prog ops Q rest (a.put o.dst v) w') : wpList Tryd.prog ops Q (o :: rest) a w :=
  wpList_step fun K hK => by rw [if_pos hw]; unfold Oper.wp; rw [hr]; exact hK _ _ h
theorem wl_load43G {b off : Nat} (hw : Region.wanted ⟨dst, .load 43 x, ty, pos, after, g⟩ (yielded ops a.tmps) = true) (hx : a.eval x = .pointer (some ⟨b, off, none⟩)) (hr : RowAt w b off (icells .u64 [m, n])) (K : wpList Tryd.prog ops Q rest (a.put dst (pv m n)) w) :
    wpList Tryd.prog ops Q (⟨dst, .load 43 x, ty, pos, after, g⟩ :: rest) a w :=
  wpList_runG hw (exec_load_sub rfl hx hr und43 rfl size43) K

theorem exec_neq43 {o : Oper} (ho : o.op = .binOp .neq 43 x y ty) (hx : a.eval x = pv m n) (hy : a.eval y = pv m n) : (execOp a.eval o).run Tryd.prog w = .ok (.value (.bool false)) w := by
  have := exec_neq_ints (P := Tryd.prog) (w := w) (l := [m, n]) (m := [m, n]) (k' := .u64) (e := 22) ho hx hy (by kernel_rfl) und43 (by kernel_rfl) (by kernel_rfl) rfl rfl
  simpa using this
theorem exec_eql43 {o : Oper} (ho : o.op = .binOp .eql 43 x y ty) (hx : a.eval x = pv m n) (hy : a.eval y = pv m n) : (execOp a.eval o).run Tryd.prog w = .ok (.value (.bool true)) w := by
  have := exec_eql_ints (P := Tryd.prog) (w := w) (l := [m, n]) (m := [m, n]) (k' := .u64) (e := 22) ho hx hy (by kernel_rfl) und43 (by kernel_rfl) (by kernel_rfl) rfl rfl
  simpa using this
end

set_option maxRecDepth 40000 in
set_option maxHeartbeats 3200000 in
theorem two_walk {x y : Nat} (w : World) (ht : TabAt w) (hp : 0 < w.heap.size) :
    Calls Tryd.prog 4 #[.int .u64 (x : Int), .int .u64 (y : Int)] w fun e w' => e = .returned (.bool true) ∧ Below w.heap.size w w' := by
  go_enter Tryd.func4, Tryd.ntmps4
  go_wp2_with fail
  refine (pair_new w).mono ?_
  rintro e w1 ⟨p, bt, bu, rfl, h1, ha1, q1, q2, q3, hb1⟩
  go_wp2_with fail
  refine (pair_new w1).mono ?_
  rintro e w2 ⟨p2, bt2, bu2, rfl, h2, ha2, r1, r2, r3, hb2⟩
  have hl1 := h1.lts
  have hT : Twin w w2 p bt bu p2 bt2 bu2 0 [0, 0, 0, 0, 0, 0] 0 :=
    ⟨h1.keep hb2, h2, ha1, hb1.trans (hb2.mono hb1.size), q1, q2, q3, fun k hk => by
      have := hb1.size
      rcases hk with rfl | rfl | rfl <;> refine ⟨?_, ?_, ?_, ?_⟩ <;> omega, ht, hp⟩
  have hl2 := hT.one.lts
  have hl3 := hT.two.lts
  clear h1 ha1 hb1 h2 ha2 hb2 hl1 r1 r2 r3 q1 q2 q3
  have hk3 : Below w2.heap.size w2 (w2.alloc (.cells (icells .u64 [0, 0]) 43)) := (Below.refl _ _).alloc (Nat.le_refl _) _
  have hz3 : (w2.alloc (.cells (icells .u64 [0, 0]) 43)).heap[w2.heap.size]? = some (.cells (icells .u64 [0, 0]) 43) := heap_alloc_new _ _
  go_wp2_with (first
    | ((with_reducible refine wl_alloc43 ?_))
    | ((with_reducible refine wl_store43 (b := w2.heap.size) (m := (x : Int)) (n := (y : Int)) ?_ ?_ hz3 ?_ ?_); (exact rfl); (exact rfl); (exact rfl); intro w3 hw3 hW3)
    | ((with_reducible refine wl_load43 (b := w2.heap.size) ?_ (RowAt.of_cells hw3) ?_); (exact rfl)))
  have hT3 : Twin w w3 p bt bu p2 bt2 bu2 0 [0, 0, 0, 0, 0, 0] 0 := (hT.keep hk3).wrote hW3 ⟨by omega, by omega, by omega⟩ ⟨by omega, by omega, by omega⟩ hT.below.size
  have hs3 : w3.heap.size = w2.heap.size + 1 := by rw [hW3.size]; simp
  have hsz := hT.below.size
  generalize w2.heap.size = tb at *
  clear hT hk3 hz3 hW3
  refine (pair_put w3 hT3.one hT3.a1 hT3.tabAt (by omega)).mono ?_
  rintro e w4 ⟨rfl, h4, hm4⟩
  have hT4 := hT3.moved h4 hm4
  have hw4 : w4.heap[tb]? = some (.cells (icells .u64 [(x : Int), (y : Int)]) 43) := (hm4.block tb (by omega) (by omega) (by omega) (by omega)).trans hw3
  clear hT3 hw3 h4 hm4
  have c4 : w4.cell? ⟨tb, 0, none⟩ = some (.int .u64 (x : Int)) := by simp only [World.cell?, hw4]; rfl
  obtain ⟨z, hz⟩ : ∃ z : Nat, IntKind.u64.wrap ((x : Int) + 1) = z := ⟨((x + 1) % 18446744073709551616), by rw [IntKind.wrap_u64]; omega⟩
  go_wp2_with ((with_reducible refine wl_store1 (ty := 22) (p := .tmp 43) (x := .tmp 42) (b := tb) (j := 0) (v := .int .u64 (z : Int)) ?_ ?_ ?_ ?_ ?_ ?_ ?_ ?_ hw4 ?_ ?_); (exact rfl); (exact rfl); (exact rfl); (exact rfl); (exact rfl); (exact rfl); (exact rfl); (kernel_rfl); (exact (by decide : 0 < 2)); intro w5 hw5 hW5)
  have hT5 := hT4.wrote hW5 ⟨by omega, by omega, by omega⟩ ⟨by omega, by omega, by omega⟩ hsz
  have hw5' : w5.heap[tb]? = some (.cells (icells .u64 [(z : Int), (y : Int)]) 43) := hw5
  clear hT4 hw4 c4 hw5 hW5
  refine (pair_get w5 hT5.one).mono ?_
  rintro e w6 ⟨rfl, hb6⟩
  have hT6 := hT5.keep hb6
  have hw6 := (hb6.block tb (Array.getElem?_eq_some_iff.1 hw5').1).trans hw5'
  have hl6 : tb < w6.heap.size := (Array.getElem?_eq_some_iff.1 hw6).1
  have hk7 : Below w6.heap.size w6 (w6.alloc (.cells (icells .u64 [0, 0]) 43)) := (Below.refl _ _).alloc (Nat.le_refl _) _
  have hz7 : (w6.alloc (.cells (icells .u64 [0, 0]) 43)).heap[w6.heap.size]? = some (.cells (icells .u64 [0, 0]) 43) := heap_alloc_new _ _
  have hT6' := hT6.keep hk7
  have hw6' := (hk7.block tb hl6).trans hw6
  clear hT5 hw5' hb6 hT6
  go_wp2_with (first
    | ((with_reducible refine wl_alloc43 ?_))
    | ((with_reducible refine wl_store43 (b := w6.heap.size) (m := (x : Int)) (n := (y : Int)) ?_ ?_ hz7 ?_ ?_); (exact rfl); (exact rfl); (exact rfl); intro w7 hw7 hW7)
    | ((with_reducible refine wl_load43G (b := w6.heap.size) ?_ ?_ (RowAt.of_cells hw7) ?_); (kernel_rfl); (exact rfl))
    | ((with_reducible refine wpList_runG (v := .bool false) ?_ (exec_neq43 (m := (x : Int)) (n := (y : Int)) (x := .tmp 57) (y := .tmp 60) (ty := 43) ?_ ?_ ?_) ?_); (kernel_rfl); (exact rfl); (exact rfl); (exact rfl)))
  have hT7 := hT6'.wrote hW7 ⟨by omega, by omega, by omega⟩ ⟨by omega, by omega, by omega⟩ (by omega)
  have hw7t := (hW7.block tb (by omega)).trans hw6'
  refine (pair_len w7 hT7.two).mono ?_
  rintro e w8 ⟨rfl, rfl⟩
  generalize hub : w6.heap.size = ub at *
  have hub1 : ub < w7.heap.size := (Array.getElem?_eq_some_iff.1 hw7).1
  clear hT6' hw6' hz7 hk7 hW7 hw6
  go_wp2_with ((with_reducible refine wl_load43 (b := tb) ?_ (RowAt.of_cells hw7t) ?_); (exact rfl))
  refine (pair_set w7 hT7.one hT7.a1).mono ?_
  rintro e w8 ⟨rfl, h8, hm8⟩
  have hT8 := hT7.moved h8 hm8
  have hl7 := hT7.one.lts
  have g8t := (hm8.block tb (by omega) (by omega) (by omega) (by omega)).trans hw7t
  have g8u := (hm8.block ub hub1 (by omega) (by omega) (by omega)).trans hw7
  clear hT7 hw7t hw7 h8 hm8 hl7
  go_wp2_with fail
  refine (pair_get w8 hT8.one).mono ?_
  rintro e w9 ⟨rfl, hb9⟩
  have hT9 := hT8.keep hb9
  have g9t := (hb9.block tb (Array.getElem?_eq_some_iff.1 g8t).1).trans g8t
  have g9u := (hb9.block ub (Array.getElem?_eq_some_iff.1 g8u).1).trans g8u
  clear hT8 hb9 g8t g8u
  go_wp2_with ((with_reducible refine wl_store43 (b := ub) (m := (z : Int)) (n := (y : Int)) ?_ ?_ g9u ?_ ?_); (exact rfl); (exact rfl); (exact rfl); intro w10 hw10 hW10)
  have hT10 := hT9.wrote hW10 ⟨by omega, by omega, by omega⟩ ⟨by omega, by omega, by omega⟩ (by omega)
  have g10t := (hW10.block tb (by omega)).trans g9t
  clear hT9 g9t g9u hW10
  refine (pair_none w10 hT10.two).mono ?_
  rintro e w11 ⟨rfl, hb11⟩
  have hT11 := hT10.keep hb11
  have g11t := (hb11.block tb (Array.getElem?_eq_some_iff.1 g10t).1).trans g10t
  have g11u := (hb11.block ub (Array.getElem?_eq_some_iff.1 hw10).1).trans hw10
  clear hT10 hb11 g10t hw10
  have hk12 : Below w11.heap.size w11 (w11.alloc (.cells (icells .u64 [0, 0]) 43)) := (Below.refl _ _).alloc (Nat.le_refl _) _
  have hz12 : (w11.alloc (.cells (icells .u64 [0, 0]) 43)).heap[w11.heap.size]? = some (.cells (icells .u64 [0, 0]) 43) := heap_alloc_new _ _
  have hl11t := (Array.getElem?_eq_some_iff.1 g11t).1
  have hl11u := (Array.getElem?_eq_some_iff.1 g11u).1
  go_wp2_with (first
    | ((with_reducible refine wl_alloc43 ?_))
    | ((with_reducible refine wl_store43 (b := w11.heap.size) (m := 0) (n := 0) ?_ ?_ hz12 ?_ ?_); (exact rfl); (exact rfl); (exact rfl); intro w12 hw12 hW12; have g12t := (hW12.block tb (by omega)).trans ((hk12.block tb hl11t).trans g11t); have g12u := (hW12.block ub (by omega)).trans ((hk12.block ub hl11u).trans g11u))
    | ((with_reducible refine wl_load43G (b := ub) ?_ ?_ (RowAt.of_cells g12u) ?_); (kernel_rfl); (exact rfl))
    | ((with_reducible refine wl_load43G (b := tb) ?_ ?_ (RowAt.of_cells g12t) ?_); (kernel_rfl); (exact rfl))
    | ((with_reducible refine wpList_runG (v := .bool true) ?_ (exec_eql43 (m := (z : Int)) (n := (y : Int)) (x := .tmp 87) (y := .tmp 88) (ty := 43) ?_ ?_ ?_) ?_); (kernel_rfl); (exact rfl); (exact rfl); (exact rfl)))
  have hB12 : Below w.heap.size w w12 := hW12.below ((hT11.below).trans (hk12.mono hT11.below.size)) hT11.below.size
  refine (lives_any w12 (ht.of_block (hB12.block 0 hp)) (Nat.lt_of_lt_of_le hp hB12.size)).mono ?_
  rintro e w13 ⟨rfl, hb13⟩
  have hB13 := hB12.trans (hb13.mono hB12.size)
  clear hT11 hk12 hz12 hW12 hB12 hb13 g12t g12u
  go_wp2
  go_ret
  exact ⟨rfl, hB13⟩

end Go.Proofs.YtghphopbfamclaaDoor
