/- Rounding: a word nearest to a number is monotone in it; so are quotients. Plain laws, no program. -/
import Derived.Test.YtkmgfaohppkglaaDoorFa
namespace Go.Proofs.YtkmgfaohppkglaaDoor
open Ieee

/-- N / D as a whole number: the nearest, of two the even one. -/
def re (N D : Nat) : Nat := N / D + (decide (D < 2 * (N % D)) || (decide (D = 2 * (N % D)) && decide (N / D % 2 = 1))).toNat

theorem re_iff {N D k : Nat} (hD : 0 < D) : k + 1 ≤ re N D ↔ (2 * k + 1) * D < 2 * N ∨ (2 * N = (2 * k + 1) * D ∧ k % 2 = 1) := by
  have hN := Nat.div_add_mod N D
  have hr := Nat.mod_lt N hD
  unfold re
  generalize hq : N / D = q at *
  generalize N % D = r at *
  have e1 : (2 * k + 1) * D = 2 * (k * D) + D := by rw [Nat.add_mul, Nat.mul_assoc, Nat.one_mul]
  have e2 : D * q = q * D := Nat.mul_comm _ _
  rw [e1]
  rcases Nat.lt_trichotomy q k with h | h | h
  · have : (q + 1) * D ≤ k * D := Nat.mul_le_mul_right _ h
    rw [Nat.add_mul] at this
    have h2 : (decide (D < 2 * r) || (decide (D = 2 * r) && decide (q % 2 = 1))).toNat ≤ 1 := Bool.toNat_le _
    constructor
    · intro h3; omega
    · intro h3; omega
  · subst h
    by_cases c1 : D < 2 * r
    · simp [c1]; left; omega
    · by_cases c2 : D = 2 * r
      · by_cases c3 : q % 2 = 1
        · simp [← c2, c3]; omega
        · simp [← c2, c3]; omega
      · simp [c1, c2]; omega
  · have : (k + 1) * D ≤ q * D := Nat.mul_le_mul_right _ h
    rw [Nat.add_mul] at this
    constructor
    · intro _; left; omega
    · intro _; omega

theorem eq_of_thresholds {a b : Nat} (h : ∀ k, k + 1 ≤ a ↔ k + 1 ≤ b) : a = b := by
  apply Nat.le_antisymm
  · cases a with
    | zero => omega
    | succ a => exact (h a).1 (Nat.le_refl _)
  · cases b with
    | zero => omega
    | succ b => exact (h b).2 (Nat.le_refl _)

theorem re_mono {N1 D1 N2 D2 : Nat} (h1 : 0 < D1) (h2 : 0 < D2) (h : N1 * D2 ≤ N2 * D1) : re N1 D1 ≤ re N2 D2 := by
  cases hk : re N1 D1 with
  | zero => omega
  | succ k =>
    have h3 := (re_iff h1).1 (Nat.le_of_eq hk.symm)
    refine (re_iff h2).2 ?_
    -- (2k+1) D1 ? 2 N1, N1 D2 ≤ N2 D1
    have e1 : (2 * k + 1) * D1 * D2 = (2 * k + 1) * D2 * D1 := by rw [Nat.mul_assoc, Nat.mul_comm D1 D2, ← Nat.mul_assoc]
    have e2 : 2 * N1 * D2 ≤ 2 * N2 * D1 := by rw [Nat.mul_assoc, Nat.mul_assoc]; exact Nat.mul_le_mul_left _ h
    rcases h3 with h3 | ⟨h3, h4⟩
    · left
      have h5 : (2 * k + 1) * D1 * D2 < 2 * N1 * D2 := Nat.mul_lt_mul_of_pos_right h3 h2
      rw [e1] at h5
      exact Nat.lt_of_mul_lt_mul_right (Nat.lt_of_lt_of_le h5 e2)
    · have h5 : (2 * k + 1) * D2 * D1 ≤ 2 * N2 * D1 := by rw [← e1, ← h3]; exact e2
      have h6 := Nat.le_of_mul_le_mul_right h5 h1
      rcases Nat.lt_or_eq_of_le h6 with h7 | h7
      · exact .inl h7
      · exact .inr ⟨h7.symm, h4⟩

theorem re_scale {N D c : Nat} (hD : 0 < D) (hc : 0 < c) : re (N * c) (D * c) = re N D := by
  apply Nat.le_antisymm
  · exact re_mono (Nat.mul_pos hD hc) hD (Nat.le_of_eq (by rw [Nat.mul_assoc, Nat.mul_comm c D]))
  · exact re_mono hD (Nat.mul_pos hD hc) (Nat.le_of_eq (by rw [Nat.mul_assoc N c D, Nat.mul_comm c D]))

theorem re_le {N D k : Nat} (hD : 0 < D) (h : N ≤ k * D) : re N D ≤ k := by
  have := re_mono (N1 := N) (D1 := D) (N2 := k) (D2 := 1) hD (by decide) (by omega)
  have e : re k 1 = k := by unfold re; simp [Nat.mod_one]
  omega
theorem le_re {N D k : Nat} (hD : 0 < D) (h : k * D ≤ N) : k ≤ re N D := by
  have := re_mono (N1 := k) (D1 := 1) (N2 := N) (D2 := D) (by decide) hD (by omega)
  have e : re k 1 = k := by unfold re; simp [Nat.mod_one]
  omega

/-- The rung nearest to N / D units. -/
def Rnd (N D r : Nat) : Prop := ∃ t, (t = 0 ∨ 2 ^ (52 + t) * D ≤ N) ∧ N < 2 ^ (53 + t) * D ∧ r = t * 2 ^ 52 + re N (D * 2 ^ t)

theorem Rnd.mono {N1 D1 r1 N2 D2 r2 : Nat} (hD1 : 0 < D1) (hD2 : 0 < D2) (h1 : Rnd N1 D1 r1) (h2 : Rnd N2 D2 r2) (h : N1 * D2 ≤ N2 * D1) : r1 ≤ r2 := by
  obtain ⟨t1, a1, b1, rfl⟩ := h1
  obtain ⟨t2, a2, b2, rfl⟩ := h2
  have p1 : 0 < D1 * 2 ^ t1 := Nat.mul_pos hD1 (Nat.two_pow_pos _)
  have p2 : 0 < D2 * 2 ^ t2 := Nat.mul_pos hD2 (Nat.two_pow_pos _)
  rcases Nat.lt_trichotomy t1 t2 with ht | ht | ht
  · -- N1/D1 rounds to at most 2^53 of its own units, N2/D2 to at least 2^52
    have c1 : re N1 (D1 * 2 ^ t1) ≤ 2 ^ 53 := re_le p1 (by
      have : 2 ^ 53 * (D1 * 2 ^ t1) = 2 ^ (53 + t1) * D1 := by rw [Nat.pow_add, Nat.mul_comm D1, Nat.mul_assoc]
      omega)
    have c2 : 2 ^ 52 ≤ re N2 (D2 * 2 ^ t2) := le_re p2 (by
      have : 2 ^ 52 * (D2 * 2 ^ t2) = 2 ^ (52 + t2) * D2 := by rw [Nat.pow_add, Nat.mul_comm D2, Nat.mul_assoc]
      rcases a2 with a2 | a2
      · omega
      · omega)
    have c3 : (t1 + 1) * 2 ^ 52 ≤ t2 * 2 ^ 52 := Nat.mul_le_mul_right _ ht
    have e53 : (2 : Nat) ^ 53 = 2 * 2 ^ 52 := by decide
    omega
  · subst ht
    have := re_mono p1 p2 (by
      rw [← Nat.mul_assoc, ← Nat.mul_assoc]
      exact Nat.mul_le_mul_right _ h)
    omega
  · -- the greater binade lies below: not so
    exfalso
    rcases a1 with a1 | a1
    · omega
    · have q1 : 2 ^ (52 + t1) * D1 * D2 ≤ N1 * D2 := Nat.mul_le_mul_right _ a1
      have q2 : N2 * D1 < 2 ^ (53 + t2) * D2 * D1 := Nat.mul_lt_mul_of_pos_right b2 hD1
      have q3 : 2 ^ (53 + t2) ≤ 2 ^ (52 + t1) := Nat.pow_le_pow_right (by decide) (by omega)
      have q4 : 2 ^ (53 + t2) * D2 * D1 ≤ 2 ^ (52 + t1) * D1 * D2 := by
        rw [Nat.mul_assoc, Nat.mul_assoc, Nat.mul_comm D2 D1]
        exact Nat.mul_le_mul_right _ q3
      omega

theorem Rnd.scale {N D r c : Nat} (hD : 0 < D) (hc : 0 < c) (h : Rnd N D r) : Rnd (N * c) (D * c) r := by
  obtain ⟨t, a, b, rfl⟩ := h
  refine ⟨t, ?_, ?_, ?_⟩
  · rcases a with a | a
    · exact .inl a
    · right; rw [← Nat.mul_assoc]; exact Nat.mul_le_mul_right _ a
  · rw [← Nat.mul_assoc]; exact Nat.mul_lt_mul_of_pos_right b hc
  · rw [Nat.mul_right_comm, re_scale (Nat.mul_pos hD (Nat.two_pow_pos _)) hc]

theorem Rnd.unscale {N D r c : Nat} (hD : 0 < D) (hc : 0 < c) (h : Rnd (N * c) (D * c) r) : Rnd N D r := by
  obtain ⟨t, a, b, rfl⟩ := h
  refine ⟨t, ?_, ?_, ?_⟩
  · rcases a with a | a
    · exact .inl a
    · right; rw [← Nat.mul_assoc] at a; exact Nat.le_of_mul_le_mul_right a hc
  · rw [← Nat.mul_assoc] at b; exact Nat.lt_of_mul_lt_mul_right b
  · rw [Nat.mul_right_comm, re_scale (Nat.mul_pos hD (Nat.two_pow_pos _)) hc]

/-- The model's cut is the nearest whole number. -/
theorem cut_eq (n drop : Nat) : Toward.even.cut false n drop = re n (2 ^ drop) := by
  have key : ∀ g, Toward.even.cut false n g = n / (1 <<< min g (n.log2 + 2)) + (decide (1 <<< min g (n.log2 + 2) < 2 * (n % (1 <<< min g (n.log2 + 2)))) || (1 <<< min g (n.log2 + 2) == 2 * (n % (1 <<< min g (n.log2 + 2))) && n / (1 <<< min g (n.log2 + 2)) % 2 == 1)).toNat := fun g => rfl
  rw [key]
  by_cases h : drop ≤ n.log2 + 2
  · rw [Nat.min_eq_left h, Nat.one_shiftLeft]
    unfold re
    rfl
  · rw [Nat.min_eq_right (by omega), Nat.one_shiftLeft]
    have hn : n < 2 ^ (n.log2 + 1) := Nat.lt_log2_self
    have h2 : 2 ^ (n.log2 + 2) = 2 * 2 ^ (n.log2 + 1) := by rw [Nat.pow_succ, Nat.mul_comm]
    have h3 : 2 ^ (n.log2 + 2) ≤ 2 ^ drop := Nat.pow_le_pow_right (by decide) (by omega)
    have e1 : n / 2 ^ (n.log2 + 2) = 0 := Nat.div_eq_of_lt (by omega)
    have e2 : n % 2 ^ (n.log2 + 2) = n := Nat.mod_eq_of_lt (by omega)
    have e3 : re n (2 ^ drop) = 0 := by
      have : ¬ (0 + 1 ≤ re n (2 ^ drop)) := by
        rw [re_iff (Nat.two_pow_pos _)]
        omega
      omega
    rw [e1, e2, e3]
    have e4 : decide (2 ^ (n.log2 + 2) < 2 * n) = false := by rw [decide_eq_false]; omega
    rw [e4]
    simp

theorem least_eq : double.leastPlace = -1074 := by decide
theorem inf_eq : double.infRung = 2047 * 2 ^ 52 := by decide

/-- The word nearest to a number above 0. -/
theorem nearest_rnd {mag : Nat} (h0 : 0 < mag) (place : Int) : ∃ r, Rnd (mag * 2 ^ (place - double.leastPlace).toNat) (2 ^ (double.leastPlace - place).toNat) r ∧ double.nearest false mag place = min r double.infRung := by
  have hlo : 2 ^ mag.log2 ≤ mag := Nat.log2_self_le (by omega)
  have hhi : mag < 2 ^ (mag.log2 + 1) := Nat.lt_log2_self
  have hfb : (double.fractionBits : Int) = 52 := rfl
  have hbin : double.binade = 2 ^ 52 := rfl
  have hne : double.nearest false mag place = min ((max (place + mag.log2 - double.fractionBits) double.leastPlace - double.leastPlace).toNat * double.binade + Toward.even.cut false (mag <<< (place - max (place + mag.log2 - double.fractionBits) double.leastPlace).toNat) (max (place + mag.log2 - double.fractionBits) double.leastPlace - place).toNat) double.infRung := by
    unfold Format.nearest
    rw [if_neg (by omega)]
    simp only [Format.word, Bool.false_eq_true, if_false]
  rw [hne, hfb, hbin]
  generalize hl : max (place + (mag.log2 : Int) - 52) double.leastPlace = last
  have hl1 : double.leastPlace ≤ last := by omega
  have hl2 : place + (mag.log2 : Int) - 52 ≤ last := by omega
  have hl3 : last = double.leastPlace ∨ last = place + (mag.log2 : Int) - 52 := by omega
  generalize double.leastPlace = L at *
  refine ⟨_, ⟨(last - L).toNat, ?_, ?_, rfl⟩, ?_⟩
  · rcases hl3 with h | h
    · left; omega
    · by_cases ht : (last - L).toNat = 0
      · exact .inl ht
      · right
        rw [← Nat.pow_add]
        have : 52 + (last - L).toNat + (L - place).toNat = mag.log2 + (place - L).toNat := by omega
        rw [this, Nat.pow_add]
        exact Nat.mul_le_mul_right _ hlo
  · rw [← Nat.pow_add]
    have h1 : mag * 2 ^ (place - L).toNat < 2 ^ (mag.log2 + 1) * 2 ^ (place - L).toNat := Nat.mul_lt_mul_of_pos_right hhi (Nat.two_pow_pos _)
    rw [← Nat.pow_add] at h1
    exact Nat.lt_of_lt_of_le h1 (Nat.pow_le_pow_right (by decide) (by omega))
  · rw [cut_eq]
    congr 2
    rw [Nat.shiftLeft_eq]
    -- both sides are the same fraction
    apply Nat.le_antisymm
    all_goals
      refine re_mono (by first | exact Nat.two_pow_pos _ | exact Nat.mul_pos (Nat.two_pow_pos _) (Nat.two_pow_pos _)) (by first | exact Nat.two_pow_pos _ | exact Nat.mul_pos (Nat.two_pow_pos _) (Nat.two_pow_pos _)) (Nat.le_of_eq ?_)
      rw [Nat.mul_assoc, Nat.mul_assoc, ← Nat.pow_add, ← Nat.pow_add]
      first
        | (rw [← Nat.pow_add]; congr 2; omega)
        | (congr 2; omega)

/-- A quotient, with one digit for what is left over, rounds as the exact one. -/
theorem sticky_rnd {M n A B r : Nat} (hn : 0 < n) (hQ : 2 ^ 53 ≤ M / n) (h : Rnd ((2 * (M / n) + (M % n != 0).toNat) * 2 ^ A) (2 ^ B) r) : Rnd (2 * M * 2 ^ A) (n * 2 ^ B) r := by
  obtain ⟨t, a, b, rfl⟩ := h
  have hM := Nat.div_add_mod M n
  have hr := Nat.mod_lt M hn
  generalize hq : M / n = Q at *
  generalize hs : (M % n != 0).toNat = st at *
  have hst : st ≤ 1 := by rw [← hs]; exact Bool.toNat_le _
  have hst0 : st = 0 ↔ M % n = 0 := by rw [← hs]; by_cases h : M % n = 0 <;> simp [h]
  generalize M % n = x at *
  rw [← Nat.pow_add] at b
  have hd : A + 2 ≤ t + B := by
    by_cases hc : A + 2 ≤ t + B
    · exact hc
    · exfalso
      have h0 : (2 : Nat) ^ 54 = 2 * 2 ^ 53 := by decide
      have h1 : 2 ^ 54 * 2 ^ A ≤ (2 * Q + st) * 2 ^ A := Nat.mul_le_mul_right _ (by omega)
      rw [← Nat.pow_add] at h1
      have h2 : 2 ^ (53 + t + B) ≤ 2 ^ (54 + A) := Nat.pow_le_pow_right (by decide) (by omega)
      omega
  obtain ⟨d, hdd⟩ : ∃ d, t + B = A + (d + 2) := ⟨t + B - A - 2, by omega⟩
  -- in units of 2^A
  have b' : 2 * Q + st < 2 ^ (53 + (d + 2)) := by
    rw [show 53 + t + B = 53 + (d + 2) + A by omega, Nat.pow_add] at b
    exact Nat.lt_of_mul_lt_mul_right b
  have hMn : M = n * Q + x := hM.symm
  refine ⟨t, ?_, ?_, ?_⟩
  · rcases a with a | a
    · exact .inl a
    · right
      rw [← Nat.pow_add, show 52 + t + B = 52 + (d + 2) + A by omega, Nat.pow_add] at a
      have a' := Nat.le_of_mul_le_mul_right a (Nat.two_pow_pos A)
      have e : (2 : Nat) ^ (52 + (d + 2)) = 2 * 2 ^ (53 + d) := by rw [show 52 + (d + 2) = (53 + d) + 1 by omega, Nat.pow_succ, Nat.mul_comm]
      have hQ2 : 2 ^ (53 + d) ≤ Q := by omega
      have h5 : n * 2 ^ (53 + d) ≤ M := by
        rw [hMn]; exact Nat.le_trans (Nat.mul_le_mul_left _ hQ2) (Nat.le_add_right _ _)
      have e3 : 2 ^ (52 + t) * (n * 2 ^ B) = 2 * (n * 2 ^ (53 + d)) * 2 ^ A := by
        rw [Nat.mul_left_comm, ← Nat.pow_add, show 52 + t + B = 52 + (d + 2) + A by omega, Nat.pow_add, e, Nat.mul_left_comm 2 n]
        simp only [Nat.mul_assoc]
      rw [e3]
      exact Nat.mul_le_mul_right _ (Nat.mul_le_mul_left _ h5)
  · have e : (2 : Nat) ^ (53 + (d + 2)) = 2 * 2 ^ (54 + d) := by rw [show 53 + (d + 2) = (54 + d) + 1 by omega, Nat.pow_succ, Nat.mul_comm]
    have hQ2 : Q + 1 ≤ 2 ^ (54 + d) := by omega
    have h5 : M < n * 2 ^ (54 + d) := by
      have h6 : n * (Q + 1) ≤ n * 2 ^ (54 + d) := Nat.mul_le_mul_left _ hQ2
      rw [Nat.mul_add] at h6
      omega
    have e3 : 2 ^ (53 + t) * (n * 2 ^ B) = 2 * (n * 2 ^ (54 + d)) * 2 ^ A := by
      rw [Nat.mul_left_comm, ← Nat.pow_add, show 53 + t + B = 53 + (d + 2) + A by omega, Nat.pow_add, e, Nat.mul_left_comm 2 n]
      simp only [Nat.mul_assoc]
    rw [e3]
    exact Nat.mul_lt_mul_of_pos_right (by omega) (Nat.two_pow_pos _)
  · congr 1
    have s1 : re ((2 * Q + st) * 2 ^ A) (2 ^ B * 2 ^ t) = re (2 * Q + st) (2 ^ (d + 2)) := by
      rw [← Nat.pow_add, show B + t = d + 2 + A by omega, Nat.pow_add]
      exact re_scale (Nat.two_pow_pos _) (Nat.two_pow_pos _)
    have s2 : re (2 * M * 2 ^ A) (n * 2 ^ B * 2 ^ t) = re (2 * M) (n * 2 ^ (d + 2)) := by
      rw [Nat.mul_assoc n, ← Nat.pow_add, show B + t = d + 2 + A by omega, Nat.pow_add, ← Nat.mul_assoc]
      exact re_scale (Nat.mul_pos hn (Nat.two_pow_pos _)) (Nat.two_pow_pos _)
    rw [s1, s2]
    apply eq_of_thresholds
    intro k
    rw [re_iff (Nat.two_pow_pos _), re_iff (Nat.mul_pos hn (Nat.two_pow_pos _))]
    -- g: the threshold
    generalize hg : (2 * k + 1) * 2 ^ d = g
    have g1 : (2 * k + 1) * 2 ^ (d + 2) = 2 * (2 * g) := by
      rw [← hg, Nat.pow_succ, Nat.pow_succ, ← Nat.mul_assoc, ← Nat.mul_assoc]; omega
    have g2 : (2 * k + 1) * (n * 2 ^ (d + 2)) = 2 * (2 * (n * g)) := by
      rw [Nat.mul_left_comm, g1, Nat.mul_left_comm, Nat.mul_left_comm n 2]
    rw [g1, g2, hMn]
    have hlt : g < Q → n * g + n ≤ n * Q := fun h => by
      have := Nat.mul_le_mul_left n (show g + 1 ≤ Q from h)
      rwa [Nat.mul_add, Nat.mul_one] at this
    have hgt : Q < g → n * Q + n ≤ n * g := fun h => by
      have := Nat.mul_le_mul_left n (show Q + 1 ≤ g from h)
      rwa [Nat.mul_add, Nat.mul_one] at this
    rcases Nat.lt_trichotomy g Q with h | h | h
    · have := hlt h
      constructor
      · intro _; left; omega
      · intro _; left; omega
    · subst h
      by_cases hx : x = 0
      · have := hst0.2 hx
        omega
      · have : st ≠ 0 := fun e => hx (hst0.1 e)
        constructor
        · intro _; left; omega
        · intro _; left; omega
    · have := hgt h
      constructor
      · intro _; omega
      · intro _; omega

end Go.Proofs.YtkmgfaohppkglaaDoor
