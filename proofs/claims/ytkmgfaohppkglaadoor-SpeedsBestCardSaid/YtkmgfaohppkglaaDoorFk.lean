/- SpeedsBest: the plain law and the walk. -/
import Derived.Test.YtkmgfaohppkglaaDoorFj
import Derived.Laws.BitsAllLaws
set_option linter.unusedVariables false
namespace Go.Proofs.YtkmgfaohppkglaaDoor
open Go.RowKit

def anyTo (mask : Nat) (F : List Nat) : Nat → Bool
  | 0 => false
  | k + 1 => anyTo mask F k || may mask F k

theorem anyTo_iff {mask : Nat} {F : List Nat} : ∀ {k}, anyTo mask F k = true ↔ ∃ j, j < k ∧ may mask F j = true
  | 0 => by simp [anyTo]
  | k + 1 => by
    rw [anyTo, Bool.or_eq_true, anyTo_iff]
    constructor
    · rintro (⟨j, h1, h2⟩ | h)
      · exact ⟨j, by omega, h2⟩
      · exact ⟨k, by omega, h⟩
    · rintro ⟨j, h1, h2⟩
      by_cases e : j = k
      · subst e; exact .inr h2
      · exact .inl ⟨j, by omega, h2⟩

theorem anyTo_pick (mask : Nat) (F : List Nat) : anyTo mask F (min 64 F.length) = (pickTo mask F 64).2 := by
  obtain ⟨h1, h2⟩ := pickTo_spec mask F 64
  cases hok : (pickTo mask F 64).2 with
  | false =>
    rw [Bool.eq_false_iff, ne_eq, anyTo_iff]
    rintro ⟨j, hj, hm⟩
    rw [(h1 hok).2 j (by omega)] at hm
    cases hm
  | true =>
    obtain ⟨q1, q2, _, _⟩ := h2 hok
    rw [anyTo_iff]
    refine ⟨_, ?_, q2⟩
    unfold may at q2
    simp only [Bool.and_eq_true, decide_eq_true_eq] at q2
    omega

theorem may_xor {mask : Nat} {F : List Nat} {q k : Nat} (h : k ≠ q) : may (mask ^^^ 2 ^ q) F k = may mask F k := by
  unfold may
  have e : decide (q = k) = false := decide_eq_false (fun e => h e.symm)
  rw [Nat.testBit_xor, Nat.testBit_two_pow, e, Bool.xor_false]

/-- One bit turned: the second choice. -/
theorem best_two {mask : Nat} {F : List Nat} {q : Nat} (h1 : (pickTo mask F 64).2 = true) (h2 : (pickTo (mask ^^^ 2 ^ q) F 64).2 = true) (hn : (pickTo mask F 64).1 ≠ q) (hm : (pickTo (mask ^^^ 2 ^ q) F 64).1 ≠ q) :
    (pickTo (mask ^^^ 2 ^ q) F 64).1 = (pickTo mask F 64).1 := by
  obtain ⟨a1, a2, a3, a4⟩ := (pickTo_spec mask F 64).2 h1
  obtain ⟨b1, b2, b3, b4⟩ := (pickTo_spec (mask ^^^ 2 ^ q) F 64).2 h2
  generalize (pickTo mask F 64).1 = n at *
  generalize (pickTo (mask ^^^ 2 ^ q) F 64).1 = m at *
  have hm1 : may mask F m = true := by rw [← may_xor hm]; exact b2
  have hn1 : may (mask ^^^ 2 ^ q) F n = true := by rw [may_xor hn]; exact a2
  rcases Nat.lt_trichotomy m n with h | h | h
  · have e1 := a4 m h hm1
    rw [b3 n a1 hn1] at e1
    cases e1
  · exact h
  · have e1 := b4 n h hn1
    rw [a3 m b1 hm1] at e1
    cases e1

/-- The bit was on: the second is the first or the first had that bit. -/
theorem best_on {mask : Nat} {F : List Nat} {q : Nat} (hq : mask.testBit q = true) (h1 : (pickTo mask F 64).2 = true) (h2 : (pickTo (mask ^^^ 2 ^ q) F 64).2 = true) (hn : (pickTo mask F 64).1 ≠ q) :
    (pickTo (mask ^^^ 2 ^ q) F 64).1 = (pickTo mask F 64).1 := by
  refine best_two h1 h2 hn fun e => ?_
  obtain ⟨b1, b2, b3, b4⟩ := (pickTo_spec (mask ^^^ 2 ^ q) F 64).2 h2
  rw [e] at b2
  unfold may at b2
  rw [Nat.testBit_xor, Nat.testBit_two_pow, hq] at b2
  simp at b2
/-- The bit was off: the second is the first or the new one. -/
theorem best_off {mask : Nat} {F : List Nat} {q : Nat} (hq : mask.testBit q = false) (h1 : (pickTo mask F 64).2 = true) (h2 : (pickTo (mask ^^^ 2 ^ q) F 64).2 = true) (hm : (pickTo (mask ^^^ 2 ^ q) F 64).1 ≠ q) :
    (pickTo (mask ^^^ 2 ^ q) F 64).1 = (pickTo mask F 64).1 := by
  refine best_two h1 h2 (fun e => ?_) hm
  obtain ⟨b1, b2, b3, b4⟩ := (pickTo_spec mask F 64).2 h1
  rw [e] at b2
  unfold may at b2
  rw [hq] at b2
  simp at b2

theorem shr_and_one {x n : Nat} (hx : x < 18446744073709551616) : (bits BinOp.and .u64 ((x : Int) / 2 ^ n) 1 == 0) = !x.testBit n := by
  have e1 : (x : Int) / 2 ^ n = ((x / 2 ^ n : Nat) : Int) := by push_cast; rfl
  have h1 : x / 2 ^ n < 18446744073709551616 := Nat.lt_of_le_of_lt (Nat.div_le_self _ _) hx
  have e2 : bits BinOp.and .u64 ((x : Int) / 2 ^ n) 1 = ((x / 2 ^ n &&& 1 : Nat) : Int) := by
    rw [e1]
    exact u64_and_nat _ 1 h1 (by decide)
  rw [e2, Nat.and_one_is_mod, Nat.testBit_eq_decide_div_mod_eq]
  generalize x / 2 ^ n = q
  rcases Nat.mod_two_eq_zero_or_one q with h | h <;> simp [h]

theorem and_pow {x q : Nat} (hx : x < 18446744073709551616) (hq : q < 64) : (bits BinOp.and .u64 (x : Int) ((2 ^ q : Nat) : Int) == 0) = !x.testBit q := by
  have h2 : 2 ^ q < 2 ^ 64 := Nat.pow_lt_pow_right (by decide) hq
  rw [u64_and_nat _ _ hx (by exact h2)]
  cases hb : x.testBit q with
  | true =>
    have hn : x &&& 2 ^ q ≠ 0 := fun e => by
      have h := congrArg (fun z => z.testBit q) e
      simp [Nat.testBit_and, hb] at h
    generalize x &&& 2 ^ q = z at hn
    simp; omega
  | false =>
    have hn : x &&& 2 ^ q = 0 := Nat.eq_of_testBit_eq fun k => by
      rw [Nat.testBit_and, Nat.testBit_two_pow, Nat.zero_testBit]
      by_cases e : q = k
      · subst e; rw [hb]; rfl
      · rw [decide_eq_false e, Bool.and_false]
    rw [hn]; rfl

theorem exec_shl_one8 {P : Program} {a : Act} {w : World} {o : Oper} {y : Operand} {t r : Nat} (ho : o.op = .binOp .shl t (.const (.int .u64 1)) y 5) (hy : a.eval y = .int .u8 (r : Int)) (hr : r < 64) : (execOp a.eval o).run P w = .ok (.value (.int .u64 ((2 ^ r : Nat) : Int))) w := by
  have hc : a.eval (.const (.int .u64 1)) = .int .u64 1 := rfl
  have h2 : 2 ^ r < 2 ^ 64 := Nat.pow_lt_pow_right (by decide) hr
  have hw : IntKind.u64.wrap (((2 ^ r : Nat) : Int)) = ((2 ^ r : Nat) : Int) := by
    rw [IntKind.wrap_u64]
    generalize 2 ^ r = q at h2
    omega
  have h1 : (((2 ^ r : Nat) : Int)) = 2 ^ r := by push_cast; rfl
  rw [h1] at hw ⊢
  unfold execOp
  simp only [ho, hc, hy]
  simp [go_sem, hw]

set_option maxHeartbeats 800000 in
theorem best_great {mask m c r : Nat} {ao : Option Addr} (w : World) (ht : TabAt w) (hm : 80 < m) (hm2 : m ≤ maxLen) :
    Calls Tryd.prog 7 #[.int .u64 (mask : Int), .slice ao m c, .int .u8 (r : Int)] w fun e w' => e = .returned (.bool true) ∧ Below w.heap.size w w' := by
  unfold maxLen at hm2
  have hm' : (m : Int) > 80 := by omega
  have hl := lives_any w ht ht.lt
  go_enter Tryd.func7, Tryd.ntmps7
  go_wp2_with fail
  refine hl.mono ?_
  rintro e w1 ⟨rfl, hb⟩
  clear hl
  go_wp2
  go_ret
  exact ⟨rfl, hb⟩
end Go.Proofs.YtkmgfaohppkglaaDoor
