/- Free. -/
import Derived.Test.YtghphopbfamclaaDoorD
namespace Go.Proofs.YtghphopbfamclaaDoor
open Go.RowKit

set_option maxHeartbeats 400000 in
theorem free_nil (n : Int) (w : World) : Calls Tryd.prog 10 #[.pointer none, .int .i64 n] w fun e w' => e = .returned (.int .i64 2) ∧ w = w' := by
  go_enter Tryd.func10, Tryd.ntmps10
  go_wp2_with fail
  refine (has_nil n w).mono ?_
  rintro e w1 ⟨rfl, rfl⟩
  go_wp2
  go_ret
  exact ⟨rfl, rfl⟩

set_option maxHeartbeats 400000 in
theorem free_void (p : Nat) (n : Int) (w : World) (hv : VoidAt w p) : Calls Tryd.prog 10 #[.pointer (some ⟨p, 0, none⟩), .int .i64 n] w fun e w' => e = .returned (.int .i64 2) ∧ w = w' := by
  go_enter Tryd.func10, Tryd.ntmps10
  go_wp2_with fail
  refine (has_void p n w hv).mono ?_
  rintro e w1 ⟨rfl, rfl⟩
  go_wp2
  go_ret
  exact ⟨rfl, rfl⟩

set_option maxHeartbeats 400000 in
theorem free_none {p bt bu room many : Nat} {ws X : List Nat} (n : Int) (w : World) (hs : SlabIn w p bt bu room ws X many) (hn : hasN room ws n = false) :
    Calls Tryd.prog 10 #[.pointer (some ⟨p, 0, none⟩), .int .i64 n] w fun e w' => e = .returned (.int .i64 11) ∧ w = w' := by
  go_enter Tryd.func10, Tryd.ntmps10
  go_wp2_with fail
  refine (has_any n w hs).mono ?_
  rw [hn]
  rintro e w1 ⟨rfl, rfl⟩
  go_wp2
  go_ret
  exact ⟨rfl, rfl⟩

theorem ones_xor {m : Nat} (hm : m < 18446744073709551616) : 18446744073709551615 ^^^ m = 18446744073709551615 - m := by
  apply Nat.eq_of_testBit_eq
  intro j
  have h1 : (18446744073709551615 - m) = 2 ^ 64 - (m + 1) := by omega
  have h2 : (18446744073709551615 : Nat) = 2 ^ 64 - 1 := rfl
  rw [h1, Nat.testBit_two_pow_sub_succ hm, Nat.testBit_xor, h2, Nat.testBit_two_pow_sub_one]
  by_cases hj : j < 64
  · simp [hj]
  · have : m.testBit j = false := Nat.testBit_lt_two_pow (Nat.lt_of_lt_of_le hm (Nat.pow_le_pow_right (n := 2) (i := 64) (by decide) (by omega)))
    simp [hj, this]

section
variable {P : Program} {a : Act} {w : World}
theorem exec_shl_one {o : Oper} {y : Operand} {t r : Nat} (ho : o.op = .binOp .shl t (.const (.int .u64 1)) y 3) (hy : a.eval y = .int .i64 (r : Int)) (hr : r < 64) : (execOp a.eval o).run P w = .ok (.value (.int .u64 ((2 ^ r : Nat) : Int))) w := by
  have hc : a.eval (.const (.int .u64 1)) = .int .u64 1 := rfl
  have h2 : 2 ^ r < 2 ^ 64 := Nat.pow_lt_pow_right (by decide) hr
  have hw : IntKind.u64.wrap (((2 ^ r : Nat) : Int)) = ((2 ^ r : Nat) : Int) := by
    rw [IntKind.wrap_u64]
    generalize 2 ^ r = q at h2
    omega
  have h1 : (((2 ^ r : Nat) : Int)) = 2 ^ r := by push_cast; rfl
  rw [h1] at hw ⊢
  unfold execOp
  simp only [ho, hc, hy]
  simp [go_sem, hw]
theorem exec_or_nat {o : Oper} {x y : Operand} {t t' m n : Nat} (ho : o.op = .binOp .or t x y t') (hx : a.eval x = .int .u64 (m : Int)) (hy : a.eval y = .int .u64 (n : Int)) (hm : m < 18446744073709551616) (hn : n < 18446744073709551616) : (execOp a.eval o).run P w = .ok (.value (.int .u64 ((m ||| n : Nat) : Int))) w := by
  unfold execOp
  simp only [ho, hx, hy]
  simp [go_sem, u64_or_nat m n hm hn]
theorem exec_andNot_nat {o : Oper} {x y : Operand} {t t' m n : Nat} (ho : o.op = .binOp .andNot t x y t') (hx : a.eval x = .int .u64 (m : Int)) (hy : a.eval y = .int .u64 (n : Int)) (hm : m < 18446744073709551616) (hn : n < 18446744073709551616) : (execOp a.eval o).run P w = .ok (.value (.int .u64 ((m &&& (18446744073709551615 - n) : Nat) : Int))) w := by
  unfold execOp
  simp only [ho, hx, hy]
  simp [go_sem, u64_andNot_nat m n hm hn]
theorem exec_xor_ones {o : Oper} {x : Operand} {t m : Nat} (ho : o.op = .unOp .xor t x) (hx : a.eval x = .int .u64 (m : Int)) (hm : m < 18446744073709551616) : (execOp a.eval o).run P w = .ok (.value (.int .u64 ((18446744073709551615 - m : Nat) : Int))) w := by
  unfold execOp
  simp only [ho, hx]
  have h1 : bits BinOp.xor .u64 18446744073709551615 (m : Int) = ((18446744073709551615 - m : Nat) : Int) := by
    have := u64_xor_nat 18446744073709551615 m (by decide) hm
    rw [ones_xor hm] at this
    exact this
  have h2 : (if IntKind.u64.signed = true then -1 else IntKind.u64.max) = 18446744073709551615 := by decide
  simp [go_sem, h2, h1]
end

/-- A word without a bit. -/
def offBit (x k : Nat) : Nat := x &&& (18446744073709551615 - 2 ^ k)
theorem offBit_lt {x k : Nat} (hx : x < 18446744073709551616) : offBit x k < 18446744073709551616 := Nat.lt_of_le_of_lt Nat.and_le_left hx

set_option maxHeartbeats 800000 in
theorem free_some {p bt bu room many n : Nat} {ws X : List Nat} (w : World) (hs : SlabIn w p bt bu room ws X (many + 1)) (ha : Apart p bt bu) (hn : hasN room ws (n : Int) = true) (hmany : many < 4096) :
    Calls Tryd.prog 10 #[.pointer (some ⟨p, 0, none⟩), .int .i64 (n : Int)] w fun e w' => e = .returned (.int .i64 0) ∧ SlabIn w' p bt bu room (ws.set (n / 64) (offBit (ws.getD (n / 64) 0) (n % 64))) (X.set n 0) many ∧ Turned w w' p bt bu := by
  obtain ⟨m, h1, h2, h3⟩ := hasN_true hn
  obtain rfl : n = m := by omega
  have h0 := hs.cell0
  have hr := hs.most
  have hw : n / 64 < ws.length := by rw [hs.lenW]; omega
  go_enter Tryd.func10, Tryd.ntmps10
  go_wp2_with fail
  refine (has_any n w hs).mono ?_
  rw [hn]
  rintro e w1 ⟨rfl, rfl⟩
  go_wp2_with ((with_reducible refine wl_store1 (ty := 22) (p := .tmp 18) (x := .tmp 17) (b := bt) (j := n) (v := .int .u64 ((0 : Nat) : Int)) ?_ ?_ ?_ ?_ ?_ ?_ ?_ ?_ hs.things ?_ ?_); (exact rfl); (exact rfl); (exact rfl); (exact rfl); (exact rfl); (exact rfl); (exact rfl); (kernel_rfl); (rw [ncells_size, hs.lenX]; exact h2); intro w2 hw2 hW2)
  have hs2 := hs.set ha hw2 hW2
  have hs3 := hs2.drew
  have c1 := hs3.cell1
  have c2 := ncells_at hs3.used hw
  have hx : ws.getD (n / 64) 0 < 18446744073709551616 := by
    rw [List.getD_eq_getElem?_getD, List.getElem?_eq_getElem hw]
    exact hs.small _ (List.getElem_mem _)
  generalize hxx : ws.getD (n / 64) 0 = x at c2 hx
  have e1 : IntKind.i64.wrap ((n : Int) / 64) = ((n / 64 : Nat) : Int) := by rw [IntKind.wrap_i64]; omega
  have e2 : Int.tmod (n : Int) 64 = ((n % 64 : Nat) : Int) := by rw [Int.tmod_eq_emod_of_nonneg (by omega)]; omega
  have hk : n / 64 < (room + 63) / 64 := by omega
  have hk2 : n % 64 < 64 := by omega
  generalize hqq : n / 64 = q at e1 c2 hw hk hxx
  generalize hrr : n % 64 = r at e2 hk2
  have hk3 : 2 ^ r < 2 ^ 64 := Nat.pow_lt_pow_right (by decide) hk2
  replace hk3 : 2 ^ r < 18446744073709551616 := hk3
  refine wp_region_tail 13 (by kernel_rfl) (by kernel_rfl) ?_
  simp only [List.take_succ_cons, List.take_zero, List.drop_succ_cons, List.drop_zero]
  repeat (first
    | ((with_reducible refine wpStill_run (v := .pointer (some ⟨bu, 0 + q, none⟩)) ?_ (exec_index_slice (t := 23) (e := 22) (k := .i64) (n := (room + 63) / 64) (c := (room + 63) / 64) (x := .tmp 22) (i := .tmp 24) ?_ ?_ ?_ ?_ ?_ hk) ?_); (exact rfl); (exact rfl); (exact rfl); (exact rfl); (kernel_rfl); (kernel_rfl); rw [Nat.zero_add])
    | ((with_reducible refine wpStill_run (v := .int .u64 ((2 ^ r : Nat) : Int)) ?_ (exec_shl_one (t := 22) (y := .tmp 28) ?_ ?_ hk2) ?_); (exact rfl); (exact rfl); (exact rfl))
    | ((with_reducible refine wpStill_run (v := .int .u64 ((x &&& (18446744073709551615 - 2 ^ r) : Nat) : Int)) ?_ (exec_andNot_nat (t := 22) (t' := 22) (x := .tmp 26) (y := .tmp 29) ?_ ?_ ?_ hx hk3) ?_); (exact rfl); (exact rfl); (exact rfl); (exact rfl))
    | still_step)
  refine wpStill_nil ?_
  refine wl_store1 (ty := 22) (p := .tmp 31) (x := .tmp 30) (b := bu) (j := q) (v := .int .u64 ((x &&& (18446744073709551615 - 2 ^ r) : Nat) : Int)) rfl rfl rfl rfl rfl rfl rfl (by kernel_rfl) hs3.used (by rw [ncells_size]; exact hw) ?_
  intro w4 hw4 hW4
  have hs4 := hs3.word ha hw4 hW4 (offBit_lt hx)
  have c3 := hs4.cell2
  have hz : (many : Int) < 4096 := by omega
  have ho4 := (((Turned.refl w p bt bu).wrote hW2 (.inr (.inl rfl))).drew).wrote hW4 (.inr (.inr rfl))
  have hh4 := hs4.head
  go_wp2_with ((with_reducible refine wl_store1 (ty := 3) (p := .tmp 38) (x := .tmp 36) (b := p) (j := 2) (v := .int .i64 (many : Int)) ?_ ?_ ?_ ?_ ?_ ?_ ?_ ?_ hh4 ?_ ?_); (exact rfl); (exact rfl); (exact rfl); (exact rfl); (exact congrArg (Value.int .i64) (by omega)); (exact rfl); (exact rfl); (kernel_rfl); (exact (by decide : 2 < 3)); intro w5 hw5 hW5)
  go_ret
  subst hxx hqq hrr
  exact ⟨rfl, hs4.many ha hw5 rfl hW5, ho4.wrote hW5 (.inl rfl)⟩

end Go.Proofs.YtghphopbfamclaaDoor
