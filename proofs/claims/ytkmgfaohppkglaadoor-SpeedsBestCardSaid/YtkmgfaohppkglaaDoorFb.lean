/- The small functions on floats: Inf, NaN, IsNaN, Copysign; same, Wait, Shorter of the program's, of the chapter's. -/
import Derived.Test.YtkmgfaohppkglaaDoorA
import Derived.Test.YtkmgfaohppkglaaDoorFq
import Derived.Laws.Externs
namespace Go.Proofs.YtkmgfaohppkglaaDoor
open Go.RowKit

theorem bits_from (n : Int) (w : World) : (callFunc 21 #[.int .u64 n]).run Tryd.prog w = .ok (.value (.float .f64 n.toNat)) w := by
  have := run_callFunc_extern (P := Tryd.prog) (f := 21) (e := Extern.MathFloatBits.float64frombits) Tryd.func21 (by kernel_rfl) (by kernel_rfl) (by kernel_rfl) (by kernel_rfl) #[.int .u64 n] w
  exact this
theorem bits_of (n : Nat) (w : World) : (callFunc 22 #[.float .f64 n]).run Tryd.prog w = .ok (.value (.int .u64 (n : Int))) w := by
  have := run_callFunc_extern (P := Tryd.prog) (f := 22) (e := Extern.MathFloatBits.float64bits) Tryd.func22 (by kernel_rfl) (by kernel_rfl) (by kernel_rfl) (by kernel_rfl) #[.float .f64 n] w
  exact this

theorem neq_self (a : Nat) : (FloatKind.f64.format.order a a != some Ordering.eq) = isNo a := by
  have h := eq_self a
  unfold eq ord at h
  rw [bne, h, Bool.not_not]

/-- No number, as NaN gives it. -/
def nanW : Nat := 9221120237041090561

set_option maxHeartbeats 400000 in
theorem inf_any (w : World) : Calls Tryd.prog 16 #[.int .i64 1] w fun e w' => e = .returned (.float .f64 infR) ∧ w = w' := by
  have h := bits_from
  go_enter Tryd.func16, Tryd.ntmps16
  go_wp2
  go_ret
  exact ⟨rfl, rfl⟩

set_option maxHeartbeats 400000 in
theorem nan_any (w : World) : Calls Tryd.prog 18 #[] w fun e w' => e = .returned (.float .f64 nanW) ∧ w = w' := by
  have h := bits_from
  go_enter Tryd.func18, Tryd.ntmps18
  go_wp2
  go_ret
  exact ⟨rfl, rfl⟩

set_option maxHeartbeats 400000 in
theorem isNaN_any (a : Nat) (w : World) : Calls Tryd.prog 17 #[.float .f64 a] w fun e w' => e = .returned (.bool (isNo a)) ∧ w = w' := by
  have h := neq_self a
  go_enter Tryd.func17, Tryd.ntmps17
  go_wp2
  go_ret
  exact ⟨rfl, rfl⟩

set_option maxHeartbeats 400000 in
theorem copysign_any (w : World) : Calls Tryd.prog 19 #[.float .f64 0, .float .f64 13830554455654793216] w fun e w' => e = .returned (.float .f64 9223372036854775808) ∧ w = w' := by
  have h := bits_from
  have h2 := bits_of
  go_enter Tryd.func19, Tryd.ntmps19
  go_wp2
  go_ret
  exact ⟨rfl, rfl⟩

set_option maxHeartbeats 400000 in
theorem wait_pos {a c : Nat} (hc : c < 18446744073709551616) (h : pos a = true) (w : World) : Calls Tryd.prog 9 #[.int .u64 (c : Int), .float .f64 a] w fun e w' => e = .returned (.float .f64 (wt c a)) ∧ w = w' := by
  have hp : (FloatKind.f64.format.order a 0 == some Ordering.gt) = true := h
  have hd := fun w => run_float_arith (P := Tryd.prog) w .quo 23 .f64 (floatOfInt .f64 (c : Int)) a (wt c a) (by rw [floatOfInt_nat]; exact div_some hc h)
  clear h
  go_enter Tryd.func9, Tryd.ntmps9
  go_wp2
  go_ret
  exact ⟨rfl, rfl⟩
set_option maxHeartbeats 400000 in
theorem wait_neg {a c : Nat} (h : pos a = false) (w : World) : Calls Tryd.prog 9 #[.int .u64 (c : Int), .float .f64 a] w fun e w' => e = .returned (.float .f64 (wt c a)) ∧ w = w' := by
  have hp : (FloatKind.f64.format.order a 0 == some Ordering.gt) = false := h
  rw [wt_neg c h]
  clear h
  go_enter Tryd.func9, Tryd.ntmps9
  go_wp2_with fail
  refine (inf_any w).mono ?_
  rintro e w1 ⟨rfl, rfl⟩
  go_wp2
  go_ret
  exact ⟨rfl, rfl⟩
theorem wait_any {a c : Nat} (hc : c < 18446744073709551616) (w : World) : Calls Tryd.prog 9 #[.int .u64 (c : Int), .float .f64 a] w fun e w' => e = .returned (.float .f64 (wt c a)) ∧ w = w' := by
  cases h : pos a with
  | true => exact wait_pos hc h w
  | false => exact wait_neg h w

set_option maxHeartbeats 400000 in
theorem rwait_pos {a c : Nat} (hc : c < 18446744073709551616) (h : pos a = true) (w : World) : Calls Tryd.prog 10 #[.int .u64 (c : Int), .float .f64 a] w fun e w' => e = .returned (.float .f64 (wt c a)) ∧ w = w' := by
  have hp : (FloatKind.f64.format.order a 0 == some Ordering.gt) = true := h
  have hd := fun w => run_float_arith (P := Tryd.prog) w .quo 23 .f64 (floatOfInt .f64 (c : Int)) a (wt c a) (by rw [floatOfInt_nat]; exact div_some hc h)
  clear h
  go_enter Tryd.func10, Tryd.ntmps10
  go_wp2
  go_ret
  exact ⟨rfl, rfl⟩
set_option maxHeartbeats 400000 in
theorem rwait_neg {a c : Nat} (h : pos a = false) (w : World) : Calls Tryd.prog 10 #[.int .u64 (c : Int), .float .f64 a] w fun e w' => e = .returned (.float .f64 (wt c a)) ∧ w = w' := by
  have hp : (FloatKind.f64.format.order a 0 == some Ordering.gt) = false := h
  rw [wt_neg c h]
  clear h
  go_enter Tryd.func10, Tryd.ntmps10
  go_wp2_with fail
  refine (inf_any w).mono ?_
  rintro e w1 ⟨rfl, rfl⟩
  go_wp2
  go_ret
  exact ⟨rfl, rfl⟩
theorem rwait_any {a c : Nat} (hc : c < 18446744073709551616) (w : World) : Calls Tryd.prog 10 #[.int .u64 (c : Int), .float .f64 a] w fun e w' => e = .returned (.float .f64 (wt c a)) ∧ w = w' := by
  cases h : pos a with
  | true => exact rwait_pos hc h w
  | false => exact rwait_neg h w

set_option maxHeartbeats 800000 in
theorem same_any (a b : Nat) (w : World) : Calls Tryd.prog 8 #[.float .f64 a, .float .f64 b] w fun e w' => e = .returned (.bool (sameF a b)) ∧ w = w' := by
  have ha := neq_self a
  have hb := neq_self b
  have he : (FloatKind.f64.format.order a b == some Ordering.eq) = eq a b := rfl
  unfold sameF
  cases h1 : eq a b <;> cases h2 : isNo a <;> cases h3 : isNo b <;> rw [h1] at he <;> rw [h2] at ha <;> rw [h3] at hb <;> clear h1 h2 h3
  all_goals
    go_enter Tryd.func8, Tryd.ntmps8
    go_wp2
    go_ret
    exact ⟨rfl, rfl⟩

set_option maxHeartbeats 800000 in
theorem shorter_any (a b : Nat) (w : World) : Calls Tryd.prog 11 #[.float .f64 a, .float .f64 b] w fun e w' => e = .returned (.bool (shorter a b)) ∧ w = w' := by
  have he : (FloatKind.f64.format.order a b == some Ordering.lt) = lt a b := rfl
  have ca := isNaN_any a w
  have cb := isNaN_any b w
  unfold shorter
  cases h1 : lt a b <;> cases h2 : isNo a <;> cases h3 : isNo b <;> rw [h1] at he <;> rw [h2] at ca <;> rw [h3] at cb <;> clear h1 h2 h3
  all_goals
    go_enter Tryd.func11, Tryd.ntmps11
    go_wp2_with (first
      | (go_at_call 17; refine cb.mono ?_; clear cb; rintro e w1 ⟨rfl, rfl⟩)
      | (go_at_call 17; refine ca.mono ?_; clear ca; rintro e w1 ⟨rfl, rfl⟩))
    go_ret
    exact ⟨rfl, rfl⟩

theorem rshorter_eq (a b : Nat) : shorter a b = if isNo a then false else if isNo b then true else lt a b := by
  unfold shorter
  cases ha : isNo a with
  | true =>
    have : lt a b = false := by rw [Bool.eq_false_iff, ne_eq, lt_iff, ha]; simp
    rw [this]; cases isNo b <;> rfl
  | false => cases isNo b <;> simp

set_option maxHeartbeats 800000 in
theorem rshorter_any (a b : Nat) (w : World) : Calls Tryd.prog 12 #[.float .f64 a, .float .f64 b] w fun e w' => e = .returned (.bool (shorter a b)) ∧ w = w' := by
  have he : (FloatKind.f64.format.order a b == some Ordering.lt) = lt a b := rfl
  have ha := neq_self a
  have hb := neq_self b
  rw [rshorter_eq]
  cases h2 : isNo a <;> cases h3 : isNo b <;> rw [h2] at ha <;> rw [h3] at hb <;> clear h2 h3
  all_goals
    go_enter Tryd.func12, Tryd.ntmps12
    go_wp2
    go_ret
    exact ⟨rfl, rfl⟩

end Go.Proofs.YtkmgfaohppkglaaDoor
