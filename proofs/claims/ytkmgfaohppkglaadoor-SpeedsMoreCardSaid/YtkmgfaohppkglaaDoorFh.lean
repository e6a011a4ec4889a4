/- The walks of SpeedsWait, SpeedsOrder, SpeedsMore. -/
import Derived.Test.YtkmgfaohppkglaaDoorFg
set_option linter.unusedVariables false
namespace Go.Proofs.YtkmgfaohppkglaaDoor
open Go.RowKit

set_option maxHeartbeats 1600000 in
theorem wait_walk {c a b : Nat} (w : World) (ht : TabAt w) (hc : c < 18446744073709551616) :
    Calls Tryd.prog 3 #[.int .u64 (c : Int), .float .f64 a, .float .f64 b] w fun e w' => e = .returned (.bool true) ∧ Below w.heap.size w w' := by
  have hl := lives_any w ht ht.lt
  have h1 := wait_any (a := a) hc w
  have h2 := rwait_any (a := a) hc w
  have h3 := same_any (wt c a) (wt c a) w
  rw [sameF_self] at h3
  have h4 := shorter_any a b w
  have h5 := rshorter_any a b w
  clear hc
  go_enter Tryd.func3, Tryd.ntmps3
  go_wp2_with fail
  refine h1.mono ?_
  rintro e w1 ⟨rfl, rfl⟩
  go_wp2_with fail
  refine h2.mono ?_
  rintro e w1 ⟨rfl, rfl⟩
  go_wp2_with fail
  refine h3.mono ?_
  rintro e w1 ⟨rfl, rfl⟩
  go_wp2_with fail
  refine h4.mono ?_
  rintro e w1 ⟨rfl, rfl⟩
  go_wp2_with fail
  refine h5.mono ?_
  rintro e w1 ⟨rfl, rfl⟩
  clear h1 h2 h3 h4 h5
  go_wp2_with fail
  refine hl.mono ?_
  rintro e w1 ⟨rfl, hb⟩
  clear hl
  go_wp2
  go_ret
  exact ⟨rfl, hb⟩

set_option maxHeartbeats 1600000 in
theorem order_yes {a b c : Nat} (w : World) (ht : TabAt w) (hx : shorter a b = true) :
    Calls Tryd.prog 5 #[.float .f64 a, .float .f64 b, .float .f64 c] w fun e w' => e = .returned (.bool true) ∧ Below w.heap.size w w' := by
  have hl := lives_any w ht ht.lt
  have h1 := shorter_any a b w
  have h2 := shorter_any b a w
  have h3 := shorter_any a a w
  have h4 := shorter_any b c w
  have h5 := shorter_any a c w
  have hac : shorter b c = true → shorter a c = true := shorter_trans hx
  rw [shorter_asymm hx] at h2
  rw [shorter_self] at h3
  rw [hx] at h1
  clear hx
  cases hbc : shorter b c with
  | true =>
    rw [hac hbc] at h5
    rw [hbc] at h4
    clear hac hbc
    go_enter Tryd.func5, Tryd.ntmps5
    go_wp2_with fail
    refine h1.mono ?_
    rintro e w1 ⟨rfl, rfl⟩
    go_wp2_with fail
    refine h2.mono ?_
    rintro e w1 ⟨rfl, rfl⟩
    go_wp2_with fail
    refine h3.mono ?_
    rintro e w1 ⟨rfl, rfl⟩
    go_wp2_with fail
    refine h4.mono ?_
    rintro e w1 ⟨rfl, rfl⟩
    go_wp2_with fail
    refine h5.mono ?_
    rintro e w1 ⟨rfl, rfl⟩
    clear h1 h2 h3 h4 h5
    go_wp2_with fail
    refine hl.mono ?_
    rintro e w1 ⟨rfl, hb⟩
    clear hl
    go_wp2
    go_ret
    exact ⟨rfl, hb⟩
  | false =>
    rw [hbc] at h4
    clear hac hbc h5
    go_enter Tryd.func5, Tryd.ntmps5
    go_wp2_with fail
    refine h1.mono ?_
    rintro e w1 ⟨rfl, rfl⟩
    go_wp2_with fail
    refine h2.mono ?_
    rintro e w1 ⟨rfl, rfl⟩
    go_wp2_with fail
    refine h3.mono ?_
    rintro e w1 ⟨rfl, rfl⟩
    go_wp2_with fail
    refine h4.mono ?_
    rintro e w1 ⟨rfl, rfl⟩
    clear h1 h2 h3 h4
    go_wp2_with fail
    refine hl.mono ?_
    rintro e w1 ⟨rfl, hb⟩
    clear hl
    go_wp2
    go_ret
    exact ⟨rfl, hb⟩

set_option maxHeartbeats 1600000 in
theorem order_no {a b c : Nat} (w : World) (ht : TabAt w) (hx : shorter a b = false) (hy : shorter b a = true) :
    Calls Tryd.prog 5 #[.float .f64 a, .float .f64 b, .float .f64 c] w fun e w' => e = .returned (.bool true) ∧ Below w.heap.size w w' := by
  have hl := lives_any w ht ht.lt
  have h1 := shorter_any a b w
  have h2 := shorter_any b a w
  have h3 := shorter_any a a w
  rw [hy] at h2
  rw [shorter_self] at h3
  rw [hx] at h1
  clear hx hy
  go_enter Tryd.func5, Tryd.ntmps5
  go_wp2_with fail
  refine h1.mono ?_
  rintro e w1 ⟨rfl, rfl⟩
  go_wp2_with fail
  refine h2.mono ?_
  rintro e w1 ⟨rfl, rfl⟩
  go_wp2_with fail
  refine h3.mono ?_
  rintro e w1 ⟨rfl, rfl⟩
  clear h1 h2 h3
  go_wp2_with fail
  refine hl.mono ?_
  rintro e w1 ⟨rfl, hb⟩
  clear hl
  go_wp2
  go_ret
  exact ⟨rfl, hb⟩

set_option maxHeartbeats 1600000 in
theorem order_same {a b c : Nat} (w : World) (ht : TabAt w) (hx : shorter a b = false) (hy : shorter b a = false) :
    Calls Tryd.prog 5 #[.float .f64 a, .float .f64 b, .float .f64 c] w fun e w' => e = .returned (.bool true) ∧ Below w.heap.size w w' := by
  have hl := lives_any w ht ht.lt
  have h1 := shorter_any a b w
  have h2 := shorter_any b a w
  have h3 := shorter_any a a w
  have h4 := same_any a b w
  have h5 := shorter_any a c w
  have h6 := shorter_any b c w
  have hs := same_of_neither hx hy
  rw [(shorter_congr hs).1] at h5
  rw [hs] at h4
  rw [hy] at h2
  rw [shorter_self] at h3
  rw [hx] at h1
  clear hx hy hs
  generalize shorter b c = z at h5 h6
  go_enter Tryd.func5, Tryd.ntmps5
  go_wp2_with fail
  refine h1.mono ?_
  rintro e w1 ⟨rfl, rfl⟩
  go_wp2_with fail
  refine h2.mono ?_
  rintro e w1 ⟨rfl, rfl⟩
  go_wp2_with fail
  refine h3.mono ?_
  rintro e w1 ⟨rfl, rfl⟩
  go_wp2_with fail
  refine h4.mono ?_
  rintro e w1 ⟨rfl, rfl⟩
  go_wp2_with fail
  refine h5.mono ?_
  rintro e w1 ⟨rfl, rfl⟩
  go_wp2_with fail
  refine h6.mono ?_
  rintro e w1 ⟨rfl, rfl⟩
  clear h1 h2 h3 h4 h5 h6
  go_wp2_with fail
  refine hl.mono ?_
  rintro e w1 ⟨rfl, hb⟩
  clear hl
  go_wp2
  go_ret
  exact ⟨rfl, hb⟩

theorem order_walk {a b c : Nat} (w : World) (ht : TabAt w) : Calls Tryd.prog 5 #[.float .f64 a, .float .f64 b, .float .f64 c] w fun e w' => e = .returned (.bool true) ∧ Below w.heap.size w w' := by
  cases hx : shorter a b with
  | true => exact order_yes w ht hx
  | false =>
    cases hy : shorter b a with
    | true => exact order_no w ht hx hy
    | false => exact order_same w ht hx hy

theorem ge_zero {x : Nat} (h : x ≤ infR) : (FloatKind.f64.format.order x 0 == some Ordering.gt || FloatKind.f64.format.order x 0 == some Ordering.eq) = true := by
  have h1 : (FloatKind.f64.format.order x 0 == some Ordering.gt) = lt 0 x := ord_swap (a := x) (b := 0)
  have h2 : (FloatKind.f64.format.order x 0 == some Ordering.eq) = eq x 0 := rfl
  rw [h1, h2, lt_rung (by decide) h, eq_rung h (by decide)]
  simp
  omega
theorem gt_rung {x y : Nat} (hx : x ≤ infR) (hy : y ≤ infR) (h : x ≤ y) : (FloatKind.f64.format.order x y == some Ordering.gt) = false := by
  have h1 : (FloatKind.f64.format.order x y == some Ordering.gt) = lt y x := ord_swap (a := x) (b := y)
  rw [h1, lt_rung hy hx]
  simp; omega
theorem nlt_rung {x y : Nat} (hx : x ≤ infR) (hy : y ≤ infR) (h : y ≤ x) : (FloatKind.f64.format.order x y == some Ordering.lt) = false := by
  have h1 : (FloatKind.f64.format.order x y == some Ordering.lt) = lt x y := rfl
  rw [h1, lt_rung hx hy]
  simp; omega
theorem le_rung {x y : Nat} (hx : x ≤ infR) (hy : y ≤ infR) (h : x ≤ y) : (FloatKind.f64.format.order x y == some Ordering.lt || FloatKind.f64.format.order x y == some Ordering.eq) = true := by
  have h1 : (FloatKind.f64.format.order x y == some Ordering.lt) = lt x y := rfl
  have h2 : (FloatKind.f64.format.order x y == some Ordering.eq) = eq x y := rfl
  rw [h1, h2, lt_rung hx hy, eq_rung hx hy]
  simp
  omega

set_option maxHeartbeats 3200000 in
theorem more_walk {a b s t : Nat} (w : World) (ht : TabAt w) (ha : a < 18446744073709551616) (hb : b < 18446744073709551616) :
    Calls Tryd.prog 6 #[.int .u64 (a : Int), .int .u64 (b : Int), .agg #[.float .f64 s, .float .f64 t]] w fun e w' => e = .returned (.bool true) ∧ Below w.heap.size w w' := by
  have hb1 : Below w.heap.size w (w.alloc (.cells #[.float .f64 s, .float .f64 t] 33)) := (Below.refl _ _).alloc (Nat.le_refl _) _
  have ht1 := ht.keep hb1 ht.lt
  have hl := lives_any _ ht1 ht1.lt
  have h1 := wait_any (a := s) ha (w.alloc (.cells #[.float .f64 s, .float .f64 t] 33))
  have h2 := wait_any (a := s) hb (w.alloc (.cells #[.float .f64 s, .float .f64 t] 33))
  have h3 := wait_any (a := t) ha (w.alloc (.cells #[.float .f64 s, .float .f64 t] 33))
  have hx := wt_le (a := s) ha
  have hy := wt_le (a := s) hb
  have hz := wt_le (a := t) ha
  have g1 := ge_zero hx
  have g2 := ge_zero hy
  have hps : (FloatKind.f64.format.order s 0 == some Ordering.gt) = pos s := rfl
  have hts : (FloatKind.f64.format.order t s == some Ordering.gt) = lt s t := ord_swap (a := t) (b := s)
  have hanti := wt_anti (a := s) (b := t) ha
  have m1 : a ≤ b → wt a s ≤ wt b s := wt_mono hb
  have m2 : b ≤ a → wt b s ≤ wt a s := wt_mono ha
  have hle := @le_rung (wt a t) (wt a s) hz hx
  have hgt := @gt_rung (wt a s) (wt b s) hx hy
  have hnl := @nlt_rung (wt a s) (wt b s) hx hy
  generalize wt a s = x at *
  generalize wt b s = y at *
  generalize wt a t = z at *
  have k0 : pos s = true → lt s t = true → (FloatKind.f64.format.order z x == some Ordering.lt || FloatKind.f64.format.order z x == some Ordering.eq) = true := fun p q => hle (hanti p q)
  have kk : ((a : Int) ≤ b ∧ ¬ (a : Int) ≥ b ∧ (FloatKind.f64.format.order x y == some Ordering.gt) = false) ∨ ((a : Int) ≤ b ∧ (a : Int) ≥ b ∧ (FloatKind.f64.format.order x y == some Ordering.gt) = false ∧ (FloatKind.f64.format.order x y == some Ordering.lt) = false) ∨ (¬ (a : Int) ≤ b ∧ (a : Int) ≥ b ∧ (FloatKind.f64.format.order x y == some Ordering.lt) = false) := by
    rcases Nat.lt_trichotomy a b with hab | hab | hab
    · exact .inl ⟨by omega, by omega, hgt (m1 (Nat.le_of_lt hab))⟩
    · exact .inr (.inl ⟨by omega, by omega, hgt (m1 (Nat.le_of_eq hab)), hnl (m2 (Nat.le_of_eq hab.symm))⟩)
    · exact .inr (.inr ⟨by omega, by omega, hnl (m2 (Nat.le_of_lt hab))⟩)
  clear hle hgt hnl m1 m2 hanti hx hy hz ha hb
  cases hp : pos s <;> cases hq : lt s t <;> rw [hp] at hps k0 <;> rw [hq] at hts k0 <;> simp only [Bool.false_eq_true, false_implies, true_implies] at k0 <;> rcases kk with ⟨q1, q2, q3⟩ | ⟨q1, q2, q3, q4⟩ | ⟨q1, q2, q3⟩ <;> clear hp hq
  all_goals
    go_enter Tryd.func6, Tryd.ntmps6
    go_wp2_with fail
    refine h1.mono ?_
    rintro e w1 ⟨rfl, rfl⟩
    go_wp2_with fail
    refine h2.mono ?_
    rintro e w1 ⟨rfl, rfl⟩
    go_wp2_with fail
    refine h3.mono ?_
    rintro e w1 ⟨rfl, rfl⟩
    clear h1 h2 h3
    go_wp2_with fail
    refine hl.mono ?_
    rintro e w1 ⟨rfl, hb2⟩
    clear hl
    go_wp2
    go_ret
    exact ⟨rfl, hb1.trans (hb2.mono (by simp))⟩

end Go.Proofs.YtkmgfaohppkglaaDoor
