/- The chapter's answers: lives. -/
import Derived.Test.YtkmgfaohppkglaaDoorFf
set_option linter.unusedVariables false
namespace Go.Proofs.YtkmgfaohppkglaaDoor
open Go.RowKit

theorem wt1 : wt 6 4611686018427387904 = 4613937818241073152 := by kernel_rfl
theorem wt2 : wt 0 0 = infR := by kernel_rfl
theorem wt3 : wt 7 nanW = infR := by kernel_rfl
theorem wt4 : wt 7 infR = 0 := by kernel_rfl
theorem wt5 : wt 0 4616189618054758400 = 0 := by kernel_rfl
theorem sh1 : shorter 4607182418800017408 4611686018427387904 = true := by kernel_rfl
theorem sh2 : shorter 0 9223372036854775808 = false := by kernel_rfl
theorem sh3 : shorter 4617315517961601024 nanW = true := by kernel_rfl
theorem sh4 : shorter nanW infR = false := by kernel_rfl
theorem pk1 : pickTo 6 [4607182418800017408, 4617315517961601024, 4617315517961601024] 64 = (1, true) := by kernel_rfl
theorem pk2 : pickTo 1 [] 64 = (0, false) := by kernel_rfl
theorem pk3 : pickTo 5 [nanW, 4621256167635550208, infR] 64 = (2, true) := by kernel_rfl
theorem ne1 : (FloatKind.f64.format.order 4613937818241073152 4613937818241073152 != some Ordering.eq) = false := by kernel_rfl
theorem ne2 : (FloatKind.f64.format.order infR infR != some Ordering.eq) = false := by kernel_rfl
theorem ne3 : (FloatKind.f64.format.order 0 0 != some Ordering.eq) = false := by kernel_rfl

theorem three_floats (w : World) (x y z : Nat) (t : TypeId) : FloatsAt (w.alloc (.cells #[.float .f64 x, .float .f64 y, .float .f64 z] t)) (some ⟨w.heap.size, 0, none⟩) [x, y, z] := by
  intro j hj
  refine ⟨w.heap.size, 0, rfl, by simp, ?_⟩
  have h := heap_alloc_new w (.cells #[.float .f64 x, .float .f64 y, .float .f64 z] t)
  simp only [World.cell?, h]
  have hj' : j < 3 := hj
  rcases (by omega : j = 0 ∨ j = 1 ∨ j = 2) with rfl | rfl | rfl <;> rfl

theorem pick_c {mask : Nat} {x y z : Nat} {wk : Nat} {ok : Bool} (w : World) (ht : TabAt w) (hp : 1 < w.heap.size) (hm : mask < 18446744073709551616) (h : pickTo mask [x, y, z] 64 = (wk, ok)) :
    Calls Tryd.prog 14 #[.int .u64 (mask : Int), .slice (some ⟨w.heap.size, 0, none⟩) 3 3] (w.alloc (.cells #[.float .f64 x, .float .f64 y, .float .f64 z] 23)) fun e w' => e = .returned (.tuple #[.int .i64 (wk : Int), .bool ok]) ∧ Below w.heap.size w w' := by
  have hb : Below w.heap.size w (w.alloc (.cells #[.float .f64 x, .float .f64 y, .float .f64 z] 23)) := (Below.refl _ _).alloc (Nat.le_refl _) _
  have := pick_any (mask := mask) (F := [x, y, z]) (cap := 3) (w.alloc (.cells #[.float .f64 x, .float .f64 y, .float .f64 z] 23)) hm (ht.keep hb hp) (by rw [World.size_alloc]; omega) (three_floats w x y z 23)
  rw [h] at this
  exact this.mono fun e w' ⟨h1, h2⟩ => ⟨h1, hb.trans (h2.mono (by simp))⟩

set_option maxRecDepth 40000 in
set_option maxHeartbeats 1600000 in
theorem lives_any (w : World) (ht : TabAt w) (hp : 1 < w.heap.size) : Calls Tryd.prog 13 #[] w fun e w' => e = .returned (.bool true) ∧ Below w.heap.size w w' := by
  have n1 := ne1
  have n2 := ne2
  have n3 := ne3
  have a1 := wait_any (a := 4611686018427387904) (c := 6) (by decide) w
  have a2 := wait_any (a := 0) (c := 0) (by decide) w
  have a3 := wait_any (a := nanW) (c := 7) (by decide) w
  have a4 := wait_any (a := infR) (c := 7) (by decide) w
  have a5 := wait_any (a := 4616189618054758400) (c := 0) (by decide) w
  rw [wt1] at a1
  rw [wt2] at a2
  rw [wt3] at a3
  rw [wt4] at a4
  rw [wt5] at a5
  go_enter Tryd.func13, Tryd.ntmps13
  go_wp2_with fail
  refine (nan_any w).mono ?_
  rintro e w1 ⟨rfl, rfl⟩
  go_wp2_with fail
  refine (inf_any w).mono ?_
  rintro e w1 ⟨rfl, rfl⟩
  go_wp2_with fail
  refine a1.mono ?_
  rintro e w1 ⟨rfl, rfl⟩
  go_wp2_with fail
  refine a2.mono ?_
  rintro e w1 ⟨rfl, rfl⟩
  go_wp2_with fail
  refine a3.mono ?_
  rintro e w1 ⟨rfl, rfl⟩
  go_wp2_with fail
  refine a4.mono ?_
  rintro e w1 ⟨rfl, rfl⟩
  go_wp2_with fail
  refine a5.mono ?_
  rintro e w1 ⟨rfl, rfl⟩
  clear a1 a2 a3 a4 a5
  go_wp2_with fail
  refine (shorter_any _ _ w).mono ?_
  rw [sh1]
  rintro e w1 ⟨rfl, rfl⟩
  go_wp2_with fail
  refine (copysign_any w).mono ?_
  rintro e w1 ⟨rfl, rfl⟩
  go_wp2_with fail
  refine (shorter_any _ _ w).mono ?_
  rw [sh2]
  rintro e w1 ⟨rfl, rfl⟩
  go_wp2_with fail
  refine (shorter_any _ _ w).mono ?_
  rw [sh3]
  rintro e w1 ⟨rfl, rfl⟩
  go_wp2_with fail
  refine (shorter_any _ _ w).mono ?_
  rw [sh4]
  rintro e w1 ⟨rfl, rfl⟩
  go_wp2_with fail
  refine (pick_c (mask := 6) w ht hp (by decide) pk1).mono ?_
  rintro e w1 ⟨rfl, hb1⟩
  have t1 := ht.keep hb1 hp
  have p1 : 1 < w1.heap.size := Nat.lt_of_lt_of_le hp hb1.size
  go_wp2_with fail
  have hpk := pick_any (mask := 1) (ao := none) (F := []) (cap := 0) w1 (by decide) t1 p1 (fun j hj => absurd hj (Nat.not_lt_zero _))
  rw [pk2] at hpk
  refine hpk.mono ?_
  rintro e w2 ⟨rfl, hb2⟩
  have t2 := t1.keep hb2 p1
  have p2 : 1 < w2.heap.size := Nat.lt_of_lt_of_le p1 hb2.size
  have hb12 := hb1.trans (hb2.mono hb1.size)
  clear hpk hb1 hb2 t1 p1
  go_wp2_with fail
  refine (pick_c (mask := 5) w2 t2 p2 (by decide) pk3).mono ?_
  rintro e w3 ⟨rfl, hb3⟩
  have hb13 := hb12.trans (hb3.mono hb12.size)
  clear hb12 hb3 t2 p2
  go_wp2
  go_ret
  exact ⟨rfl, hb13⟩

end Go.Proofs.YtkmgfaohppkglaaDoor
