/- Put. -/
import Derived.Test.YtghphopbfamclaaDoorE
namespace Go.Proofs.YtghphopbfamclaaDoor
open Go.RowKit

set_option maxRecDepth 20000 in
set_option maxHeartbeats 400000 in
theorem put_nil (x : Nat) (w : World) : Calls Tryd.prog 7 #[.pointer none, .int .u64 (x : Int)] w fun e w' => e = .returned (.tuple #[.int .i64 0, .int .i64 2]) ∧ w = w' := by
  have q := q23
  go_enter Tryd.func7, Tryd.ntmps7
  go_wp2
  go_step3
  go_wp2
  rw [Exit.noGoto_ret]
  go_ret2
  exact ⟨rfl, rfl⟩

set_option maxRecDepth 20000 in
set_option maxHeartbeats 400000 in
theorem put_void (p x : Nat) (w : World) (hv : VoidAt w p) : Calls Tryd.prog 7 #[.pointer (some ⟨p, 0, none⟩), .int .u64 (x : Int)] w fun e w' => e = .returned (.tuple #[.int .i64 0, .int .i64 2]) ∧ w = w' := by
  have h0 := hv.cell0
  have q := q23
  go_enter Tryd.func7, Tryd.ntmps7
  go_wp2
  go_step3
  go_wp2
  rw [Exit.noGoto_ret]
  go_ret2
  exact ⟨rfl, rfl⟩

set_option maxRecDepth 20000 in
set_option maxHeartbeats 400000 in
theorem put_full {p bt bu room many : Nat} {ws X : List Nat} (x : Nat) (w : World) (hs : SlabIn w p bt bu room ws X many) (hm : many = room) :
    Calls Tryd.prog 7 #[.pointer (some ⟨p, 0, none⟩), .int .u64 (x : Int)] w fun e w' => e = .returned (.tuple #[.int .i64 0, .int .i64 3]) ∧ SlabIn w' p bt bu room ws X many ∧ Turned w w' p bt bu := by
  have h0 := hs.cell0
  have h2 := hs.cell2
  have hr := hs.most
  have q := q23
  go_enter Tryd.func7, Tryd.ntmps7
  go_wp2
  go_step3
  go_wp2
  refine wp_region_quiet_lit (by kernel_rfl) (by kernel_rfl) ?_
  repeat quiet_step (fail)
  refine wpQuiet_nil ?_
  intro wq hwq
  have hT : Turned w wq p bt bu := by obtain ⟨k, rfl⟩ := hwq; exact ⟨rfl, rfl, rfl, rfl, fun _ _ _ _ => rfl⟩
  have hS : SlabIn wq p bt bu room ws X many := by obtain ⟨k, rfl⟩ := hwq; exact ⟨hs.head, hs.things, hs.used, hs.lenX, hs.lenW, hs.small, hs.least, hs.most⟩
  clear hwq h0 h2
  go_wp2
  rw [Exit.noGoto_ret]
  go_ret2
  exact ⟨rfl, hS, hT⟩

theorem onBit_lt {x k : Nat} (hx : x < 18446744073709551616) (hk : k < 64) : x ||| 2 ^ k < 18446744073709551616 := by
  have h2 : 2 ^ k < 2 ^ 64 := Nat.pow_lt_pow_right (by decide) hk
  exact Nat.or_lt_two_pow (n := 64) hx h2

theorem exec_xor_zero {P : Program} {x : Operand} {t m : Nat} (h0 : 18446744073709551615 - m = 0) {a : Act} {w : World} {o : Oper} (ho : o.op = .unOp .xor t x) (hx : a.eval x = .int .u64 (m : Int)) (hm : m < 18446744073709551616) : (execOp a.eval o).run P w = .ok (.value (.int .u64 0)) w := by
  have := exec_xor_ones (P := P) (w := w) ho hx hm
  rw [h0] at this
  exact this

theorem exec_xor_to {P : Program} {x : Operand} {t m z : Nat} (h0 : 18446744073709551615 - m = z) {a : Act} {w : World} {o : Oper} (ho : o.op = .unOp .xor t x) (hx : a.eval x = .int .u64 (m : Int)) (hm : m < 18446744073709551616) : (execOp a.eval o).run P w = .ok (.value (.int .u64 (z : Int))) w := by
  have := exec_xor_ones (P := P) (w := w) ho hx hm
  rw [h0] at this
  exact this

theorem getD_word {ws : List Nat} {i : Nat} (h : ∀ x ∈ ws, x < 18446744073709551616) : ws.getD i 0 < 18446744073709551616 := by
  rw [List.getD_eq_getElem?_getD]
  by_cases hi : i < ws.length
  · rw [List.getElem?_eq_getElem hi]; exact h _ (List.getElem_mem _)
  · rw [List.getElem?_eq_none (by omega)]; exact (by decide : (0 : Nat) < 18446744073709551616)

theorem word_ones {ws : List Nat} {i n : Nat} (h : ∀ x ∈ ws, x < 18446744073709551616) (hi : i < n / 64) (hset : ∀ j, j < n → bitOf ws j = true) : 18446744073709551615 - ws.getD i 0 = 0 := by
  have hx := getD_word (i := i) h
  have : ws.getD i 0 = 2 ^ 64 - 1 := by
    apply Nat.eq_of_testBit_eq
    intro j
    rw [Nat.testBit_two_pow_sub_one]
    by_cases hj : j < 64
    · have h1 := hset (64 * i + j) (by omega)
      unfold bitOf at h1
      rw [show (64 * i + j) / 64 = i by omega, show (64 * i + j) % 64 = j by omega] at h1
      rw [h1]; simp [hj]
    · rw [Nat.testBit_lt_two_pow (Nat.lt_of_lt_of_le hx (Nat.pow_le_pow_right (n := 2) (i := 64) (by decide) (by omega)))]
      simp [hj]
  rw [this]

theorem word_low {ws : List Nat} {n : Nat} (h : ∀ x ∈ ws, x < 18446744073709551616) (hset : ∀ j, j < n → bitOf ws j = true) (hun : bitOf ws n = false) : Low (18446744073709551615 - ws.getD (n / 64) 0) (n % 64) := by
  have hx := getD_word (i := n / 64) h
  have e : 18446744073709551615 - ws.getD (n / 64) 0 = 2 ^ 64 - (ws.getD (n / 64) 0 + 1) := by omega
  rw [e]
  refine ⟨?_, fun j hj => ?_⟩
  · rw [Nat.testBit_two_pow_sub_succ hx]
    unfold bitOf at hun
    rw [hun]
    simp
    omega
  · rw [Nat.testBit_two_pow_sub_succ hx]
    have h1 := hset (64 * (n / 64) + j) (by omega)
    unfold bitOf at h1
    rw [show (64 * (n / 64) + j) / 64 = n / 64 by omega, show (64 * (n / 64) + j) % 64 = j by omega] at h1
    rw [h1]; simp

set_option maxRecDepth 20000 in
set_option maxHeartbeats 400000 in
theorem put_room {p bt bu room many n : Nat} {ws X : List Nat} (x : Nat) (w : World) (hs : SlabIn w p bt bu room ws X many) (ha : Apart p bt bu) (ht : TabAt w) (hp0 : 0 < p) (hbt0 : 0 < bt) (hbu0 : 0 < bu) (hm : many < room) (hn : n < room) (hset : ∀ j, j < n → bitOf ws j = true) (hun : bitOf ws n = false) :
    Calls Tryd.prog 7 #[.pointer (some ⟨p, 0, none⟩), .int .u64 (x : Int)] w fun e w' => e = .returned (.tuple #[.int .i64 (n : Int), .int .i64 0]) ∧
      SlabIn w' p bt bu room (ws.set (n / 64) (ws.getD (n / 64) 0 ||| 2 ^ (n % 64))) (X.set n x) (many + 1) ∧ Turned w w' p bt bu := by
  have h0 := hs.cell0
  have hr := hs.most
  have q := q23
  have h2 := hs.cell2
  have h1 := hs.cell1
  have hne : ((many : Int) == (room : Int)) = false := by simp; omega
  have hen : (n : Int) / 64 * 64 + (n : Int) % 64 = n := by omega
  go_enter Tryd.func7, Tryd.ntmps7
  go_wp2
  go_step3
  go_wp2
  refine wp_region_quiet_lit (by kernel_rfl) (by kernel_rfl) ?_
  repeat quiet_step (fail)
  refine wpQuiet_nil ?_
  intro wq hwq
  have hT : Turned w wq p bt bu := by obtain ⟨k, rfl⟩ := hwq; exact ⟨rfl, rfl, rfl, rfl, fun _ _ _ _ => rfl⟩
  have hS : SlabIn wq p bt bu room ws X many := by obtain ⟨k, rfl⟩ := hwq; exact ⟨hs.head, hs.things, hs.used, hs.lenX, hs.lenW, hs.small, hs.least, hs.most⟩
  clear hwq h0 h1 h2
  have htab : TabAt wq := ht.of_block (hT.block 0 (by omega) (by omega) (by omega))
  have c1 := hS.cell1
  go_wp2
  go_step3
  go_wp2
  go_loopw [4, 6, 7, 8, 35] (fun v4 v6 v7 v8 v35 wr => ∃ i : Nat, i ≤ n / 64 ∧ v35 = .int .i64 i ∧ v4 = .int .i64 0 ∧ wr = wq) (fun _ _ _ _ v35 _ => n / 64 - (intOf v35).toNat)
  case atStart => exact ⟨0, Nat.zero_le _, rfl, rfl, rfl⟩
  case round =>
    obtain ⟨i, hi, rfl, rfl, rfl⟩ := hrel
    have hx := getD_word (i := i) hS.small
    have hiw : i < (room + 63) / 64 := by omega
    have c2 := ncells_at hS.used (j := i) (by rw [hS.lenW]; exact hiw)
    have e0 : (i : Int) < ((room : Int) + 63) / 64 := by omega
    by_cases hlt : i < n / 64
    · have hz := @exec_xor_zero Tryd.prog (.tmp 40) 22 _ (word_ones hS.small hlt hset)
      generalize ws.getD i 0 = y at hx c2 hz
      go_wp2_with ((with_reducible refine wpList_run (v := .int .u64 0) ?_ (hz ?_ ?_ hx) ?_); (exact rfl); (exact rfl); (exact rfl))
      refine (tz_zero _).mono ?_
      rintro e w1 ⟨rfl, rfl⟩
      go_wp2
      go_roundw
      case rel => exact ⟨i + 1, by omega, by simp, rfl, trivial⟩
      case measure => simp [intOf]; omega
    · obtain rfl : n / 64 = i := by omega
      have hl := word_low hS.small hset hun
      obtain ⟨z, hz0⟩ : ∃ z, 18446744073709551615 - ws.getD (n / 64) 0 = z := ⟨_, rfl⟩
      have hz := @exec_xor_to Tryd.prog (.tmp 40) 22 _ _ hz0
      have hz1 : z < 18446744073709551616 := by omega
      rw [hz0] at hl
      clear hz0
      generalize hyy : ws.getD (n / 64) 0 = y at hx c2 hz
      go_wp2_with ((with_reducible refine wpList_run (v := .int .u64 (z : Int)) ?_ (hz ?_ ?_ hx) ?_); (exact rfl); (exact rfl); (exact rfl))
      refine (tz_any hz1 (Nat.mod_lt _ (by decide)) hl _ htab).mono ?_
      rintro e w1 ⟨rfl, rfl⟩
      go_wp2
      have hs3 := hS.drew
      have d1 := hs3.cell1
      have d2 := ncells_at hs3.used (j := n / 64) (by rw [hs3.lenW]; exact hiw)
      have hw : n / 64 < ws.length := by rw [hs3.lenW]; exact hiw
      rw [hyy] at d2
      have e1 : IntKind.i64.wrap ((n : Int) / 64) = ((n / 64 : Nat) : Int) := by rw [IntKind.wrap_i64]; omega
      have e2 : Int.tmod (n : Int) 64 = ((n % 64 : Nat) : Int) := by rw [Int.tmod_eq_emod_of_nonneg (by omega)]; omega
      have hk2 : n % 64 < 64 := by omega
      clear c1 c2 e0 hl hz hz1 hen hset hun
      generalize hqq : n / 64 = q at e1 d2 hiw hw hyy
      generalize hrr : n % 64 = r at e2 hk2
      have hk3 : 2 ^ r < 2 ^ 64 := Nat.pow_lt_pow_right (by decide) hk2
      replace hk3 : 2 ^ r < 18446744073709551616 := hk3
      refine wp_region_tail 13 (by kernel_rfl) (by kernel_rfl) ?_
      simp only [List.take_succ_cons, List.take_zero, List.drop_succ_cons, List.drop_zero]
      repeat (first
        | ((with_reducible refine wpStill_run (v := .pointer (some ⟨bu, 0 + q, none⟩)) ?_ (exec_index_slice (t := 23) (e := 22) (k := .i64) (n := (room + 63) / 64) (c := (room + 63) / 64) (x := .tmp 53) (i := .tmp 55) ?_ ?_ ?_ ?_ ?_ hiw) ?_); (exact rfl); (exact rfl); (exact rfl); (exact rfl); (kernel_rfl); (kernel_rfl); rw [Nat.zero_add])
        | ((with_reducible refine wpStill_run (v := .int .u64 ((2 ^ r : Nat) : Int)) ?_ (exec_shl_one (t := 22) (y := .tmp 59) ?_ ?_ hk2) ?_); (exact rfl); (exact rfl); (exact rfl))
        | ((with_reducible refine wpStill_run (v := .int .u64 ((y ||| 2 ^ r : Nat) : Int)) ?_ (exec_or_nat (t := 22) (t' := 22) (x := .tmp 57) (y := .tmp 60) ?_ ?_ ?_ hx hk3) ?_); (exact rfl); (exact rfl); (exact rfl); (exact rfl))
        | still_step)
      refine wpStill_nil ?_
      refine wl_store1 (ty := 22) (p := .tmp 62) (x := .tmp 61) (b := bu) (j := q) (v := .int .u64 ((y ||| 2 ^ r : Nat) : Int)) rfl rfl rfl rfl rfl rfl rfl (by kernel_rfl) hs3.used (by rw [ncells_size]; exact hw) ?_
      intro w4 hw4 hW4
      have hs4 := hs3.word ha hw4 hW4 (onBit_lt hx hk2)
      have f0 := hs4.cell0
      have ho4 := hT.drew.wrote hW4 (.inr (.inr rfl))
      have hms : (many : Int) < 4096 := by omega
      go_wp2_with (first
        | ((with_reducible refine wl_store1 (ty := 22) (p := .tmp 69) (x := .tmp 68) (b := bt) (j := n) (v := .int .u64 (x : Int)) ?_ ?_ ?_ ?_ ?_ ?_ ?_ ?_ hs4.things ?_ ?_); (exact rfl); (exact rfl); (exact rfl); (exact rfl); (exact rfl); (exact rfl); (exact rfl); (kernel_rfl); (rw [ncells_size, hs4.lenX]; exact hn); intro w5 hw5 hW5; have hs5 := hs4.set ha hw5 hW5; have g2 := hs5.cell2; have hh5 := hs5.head)
        | ((with_reducible refine wl_store1 (ty := 3) (p := .tmp 76) (x := .tmp 74) (b := p) (j := 2) (v := .int .i64 ((many + 1 : Nat) : Int)) ?_ ?_ ?_ ?_ ?_ ?_ ?_ ?_ hh5 ?_ ?_); (exact rfl); (exact rfl); (exact rfl); (exact rfl); (exact congrArg (Value.int .i64) (by omega)); (exact rfl); (exact rfl); (kernel_rfl); (exact (by decide : 2 < 3)); intro w6 hw6 hW6))
      rw [Exit.noGoto_ret]
      go_ret2
      subst hyy hqq hrr
      exact ⟨rfl, hs5.many ha hw6 rfl hW6, (ho4.wrote hW5 (.inr (.inl rfl))).wrote hW6 (.inl rfl)⟩

end Go.Proofs.YtghphopbfamclaaDoor
