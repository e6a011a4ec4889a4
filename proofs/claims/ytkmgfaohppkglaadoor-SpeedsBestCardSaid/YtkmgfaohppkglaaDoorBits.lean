/- Plain laws on the bits of a word of 64: the lowest bit that is set, what x - 1 does to it, and the table by which it is looked up. -/
import Derived.Test.YtkmgfaohppkglaaDoorOps
namespace Go.Proofs.YtkmgfaohppkglaaDoor

/-- k is the lowest bit of x that is set. -/
structure Low (x k : Nat) : Prop where
  set : x.testBit k = true
  min : ∀ j, j < k → x.testBit j = false

theorem Low.form {x k : Nat} (h : Low x k) : ∃ m, x = 2 ^ k * (2 * m + 1) := by
  have h0 : x % 2 ^ k = 0 := by
    apply Nat.eq_of_testBit_eq
    intro j
    rw [Nat.testBit_mod_two_pow, Nat.zero_testBit]
    by_cases hj : j < k
    · rw [h.min j hj]; simp
    · simp [hj]
  have h1 : x = 2 ^ k * (x / 2 ^ k) := (Nat.mul_div_cancel' (Nat.dvd_of_mod_eq_zero h0)).symm
  have h2 : (x / 2 ^ k) % 2 = 1 := by
    have := h.set
    rw [Nat.testBit_eq_decide_div_mod_eq] at this
    simpa using this
  exact ⟨x / 2 ^ k / 2, by
    have : 2 * (x / 2 ^ k / 2) + 1 = x / 2 ^ k := by omega
    rw [this]; exact h1⟩

theorem Low.pred {x k : Nat} (h : Low x k) (j : Nat) : (x - 1).testBit j = if j < k then true else if j = k then false else x.testBit j := by
  obtain ⟨m, hm⟩ := h.form
  have hp : 0 < 2 ^ k := Nat.two_pow_pos k
  have e : x - 1 = 2 ^ k * (2 * m) + (2 ^ k - 1) := by
    rw [hm, Nat.mul_add]
    omega
  have hx : x = 2 ^ k * (2 * m + 1) + 0 := by rw [Nat.add_zero]; exact hm
  rw [e, Nat.testBit_two_pow_mul_add _ (by omega)]
  by_cases h1 : j < k
  · rw [if_pos h1, if_pos h1, Nat.testBit_two_pow_sub_one]; simpa using h1
  · rw [if_neg h1, if_neg h1]
    by_cases h2 : j = k
    · rw [if_pos h2, h2, Nat.sub_self]
      simp
    · rw [if_neg h2]
      obtain ⟨s, rfl⟩ : ∃ s, j = k + (s + 1) := ⟨j - k - 1, by omega⟩
      rw [hx, Nat.testBit_two_pow_mul_add _ hp, if_neg (by omega), Nat.add_sub_cancel_left]
      rw [Nat.testBit_succ, Nat.testBit_succ]
      congr 1
      omega

theorem Low.pos {x k : Nat} (h : Low x k) : 0 < x := by
  rcases Nat.eq_zero_or_pos x with rfl | h0
  · have := h.set; simp at this
  · exact h0

/-- x &&& -x is the lowest bit alone. -/
theorem Low.lowest {x k : Nat} (h : Low x k) (hx : x < 2 ^ 64) : x &&& (2 ^ 64 - x) = 2 ^ k := by
  have hp := h.pos
  have hk : k < 64 := by
    by_cases hk : k < 64
    · exact hk
    · have := Nat.testBit_lt_two_pow (Nat.lt_of_lt_of_le hx (Nat.pow_le_pow_right (by decide) (Nat.le_of_not_lt hk)))
      rw [h.set] at this; cases this
  apply Nat.eq_of_testBit_eq
  intro j
  have e : 2 ^ 64 - x = 2 ^ 64 - ((x - 1) + 1) := by rw [Nat.sub_add_cancel hp]
  rw [Nat.testBit_and, e, Nat.testBit_two_pow_sub_succ (by omega), h.pred, Nat.testBit_two_pow]
  by_cases h1 : j < k
  · rw [h.min j h1]; simp; omega
  · by_cases h2 : j = k
    · subst h2; simp [h.set, hk]
    · rw [if_neg h1, if_neg h2]
      cases x.testBit j <;> simp <;> omega

/-- x &&& (x - 1) is x without its lowest bit. -/
theorem Low.clear {x k : Nat} (h : Low x k) (j : Nat) : (x &&& (x - 1)).testBit j = (x.testBit j && decide (j ≠ k)) := by
  rw [Nat.testBit_and, h.pred]
  by_cases h1 : j < k
  · rw [h.min j h1]; simp
  · by_cases h2 : j = k
    · subst h2; simp
    · rw [if_neg h1, if_neg h2]; simp [h2]

theorem low_exists {x : Nat} (hx : 0 < x) (hlt : x < 2 ^ 64) : ∃ k, k < 64 ∧ Low x k := by
  have hex : ∃ k, x.testBit k = true := by
    rcases Nat.exists_testBit_of_ne_zero (Nat.pos_iff_ne_zero.1 hx) with ⟨k, hk⟩
    exact ⟨k, hk⟩
  have hmin : ∀ n, (∃ k, k < n ∧ x.testBit k = true) → ∃ k, k < n ∧ Low x k := by
    intro n
    induction n with
    | zero => rintro ⟨k, hk, _⟩; omega
    | succ n ih =>
      rintro ⟨k, hk, hs⟩
      by_cases h : ∃ k, k < n ∧ x.testBit k = true
      · obtain ⟨q, h1, h2⟩ := ih h
        exact ⟨q, by omega, h2⟩
      · refine ⟨n, by omega, ?_, fun j hj => ?_⟩
        · have : k = n := by
            by_cases e : k < n
            · exact absurd ⟨k, e, hs⟩ h
            · omega
          rw [← this]; exact hs
        · cases hb : x.testBit j with
          | false => rfl
          | true => exact absurd ⟨j, hj, hb⟩ h
  obtain ⟨k, hk⟩ := hex
  refine hmin 64 ⟨k, ?_, hk⟩
  by_cases h : k < 64
  · exact h
  · have := Nat.testBit_lt_two_pow (Nat.lt_of_lt_of_le hlt (Nat.pow_le_pow_right (by decide) (Nat.le_of_not_lt h)))
    rw [hk] at this; cases this

/-- The table of the library's TrailingZeros64. -/
def tab : List Int := [0, 1, 56, 2, 57, 49, 28, 3, 61, 58, 42, 50, 38, 29, 17, 4, 62, 47, 59, 36, 45, 43, 51, 22, 53, 39, 33, 30, 24, 18, 12, 5, 63, 55, 48, 27, 60, 41, 37, 16, 46, 35, 44, 21, 52, 32, 23, 11, 54, 26, 40, 15, 34, 20, 31, 10, 25, 14, 19, 9, 13, 8, 7, 6]

theorem tab_law : ∀ k : Nat, k < 64 → 2 ^ k * 285870213051353865 % 18446744073709551616 / 288230376151711744 < 64 ∧ tab.getD (2 ^ k * 285870213051353865 % 18446744073709551616 / 288230376151711744) 0 = (k : Int) := by
  decide +kernel

end Go.Proofs.YtkmgfaohppkglaaDoor
