/- What a wait is: a rung, and how waits stand to each other. Plain laws, no program. -/
import Derived.Test.YtkmgfaohppkglaaDoorFr
namespace Go.Proofs.YtkmgfaohppkglaaDoor
open Ieee

/-- The value of a rung, in units of the least number. -/
def vr (r : Nat) : Nat := if r < 2 ^ 52 then r else (2 ^ 52 + r % 2 ^ 52) * 2 ^ (r / 2 ^ 52 - 1)

theorem vr_mono {r s : Nat} (h : r < s) : vr r < vr s := by
  unfold vr
  have hr := Nat.mod_lt r (Nat.two_pow_pos 52)
  have hs := Nat.mod_lt s (Nat.two_pow_pos 52)
  have er := Nat.div_add_mod r (2 ^ 52)
  have es := Nat.div_add_mod s (2 ^ 52)
  generalize r / 2 ^ 52 = q at *
  generalize s / 2 ^ 52 = p at *
  generalize r % 2 ^ 52 = x at *
  generalize s % 2 ^ 52 = y at *
  have hc : (2 : Nat) ^ 52 = 4503599627370496 := by decide
  by_cases h1 : r < 2 ^ 52
  · rw [if_pos h1]
    by_cases h2 : s < 2 ^ 52
    · rw [if_pos h2]; exact h
    · rw [if_neg h2]
      have : 2 ^ 52 + y ≤ (2 ^ 52 + y) * 2 ^ (p - 1) := Nat.le_mul_of_pos_right _ (Nat.two_pow_pos _)
      omega
  · have h2 : ¬ s < 2 ^ 52 := by omega
    rw [if_neg h1, if_neg h2]
    have hq : 1 ≤ q := by
      rcases Nat.eq_zero_or_pos q with e | e
      · subst e; omega
      · exact e
    by_cases hqp : q = p
    · subst hqp
      exact Nat.mul_lt_mul_of_pos_right (by omega) (Nat.two_pow_pos _)
    · have hlt : q < p := by
        by_cases hl : q < p
        · exact hl
        · exfalso
          have : p + 1 ≤ q := by omega
          have h3 : 2 ^ 52 * (p + 1) ≤ 2 ^ 52 * q := Nat.mul_le_mul_left _ this
          rw [Nat.mul_add] at h3
          omega
      have a1 : (2 ^ 52 + x) * 2 ^ (q - 1) < 2 ^ 53 * 2 ^ (q - 1) := Nat.mul_lt_mul_of_pos_right (by
        have e53 : (2 : Nat) ^ 53 = 2 * 2 ^ 52 := by decide
        omega) (Nat.two_pow_pos _)
      have a2 : 2 ^ 53 * 2 ^ (q - 1) ≤ 2 ^ 52 * 2 ^ (p - 1) := by
        rw [← Nat.pow_add, ← Nat.pow_add]
        exact Nat.pow_le_pow_right (by decide) (by omega)
      have a3 : 2 ^ 52 * 2 ^ (p - 1) ≤ (2 ^ 52 + y) * 2 ^ (p - 1) := Nat.mul_le_mul_right _ (by omega)
      omega

theorem vr_le {r s : Nat} (h : r ≤ s) : vr r ≤ vr s := by
  rcases Nat.lt_or_eq_of_le h with h | h
  · exact Nat.le_of_lt (vr_mono h)
  · rw [h]; exact Nat.le_refl _

/-- Infinity's rung. -/
def infR : Nat := 9218868437227405312
theorem infR_eq : double.infRung = infR := by decide
theorem weight_eq : double.signWeight = 9223372036854775808 := by decide
theorem binade_eq : double.binade = 4503599627370496 := by decide

theorem read_fin {r : Nat} (h : r < infR) : ∃ m e, double.read r = .number false m e ∧ m * 2 ^ (e - double.leastPlace).toNat = vr r := by
  have hc : (2 : Nat) ^ 52 = 4503599627370496 := by decide
  have hb : infR < 9223372036854775808 := by decide
  have e1 : r / 9223372036854775808 = 0 := Nat.div_eq_of_lt (by omega)
  have e2 : r % 9223372036854775808 = r := Nat.mod_eq_of_lt (by omega)
  unfold Format.read
  rw [infR_eq, weight_eq, binade_eq, e1, e2]
  unfold vr
  rw [hc]
  simp only
  by_cases h1 : r < 4503599627370496
  · rw [if_pos h1, if_pos h1]
    exact ⟨_, _, rfl, by simp⟩
  · rw [if_neg h1, if_neg h1, if_pos h]
    refine ⟨_, _, rfl, ?_⟩
    congr 2
    omega

theorem read_inf : double.read infR = .infinity false := by
  have e1 : infR / 9223372036854775808 = 0 := by decide
  have e2 : infR % 9223372036854775808 = infR := by decide
  unfold Format.read
  rw [infR_eq, weight_eq, binade_eq, e1, e2]
  simp only
  rw [if_neg (by decide), if_neg (by decide), if_pos True.intro]
  rfl

theorem isNo_rung {r : Nat} (h : r ≤ infR) : isNo r = false := by
  unfold isNo
  rcases Nat.lt_or_eq_of_le h with h | h
  · obtain ⟨m, e, h1, _⟩ := read_fin h
    rw [h1]; rfl
  · rw [h, read_inf]; rfl

theorem cls_rung {r : Nat} (h : r ≤ infR) : cls r = if r = infR then 1 else 0 := by
  unfold cls
  by_cases e : r = infR
  · subst e; rw [read_inf, if_pos rfl]; rfl
  · obtain ⟨m, q, h1, _⟩ := read_fin (Nat.lt_of_le_of_ne h e)
    rw [h1, if_neg e]

theorem val_rung {r : Nat} (h : r < infR) : val r = (vr r : Int) := by
  unfold val
  obtain ⟨m, q, h1, h2⟩ := read_fin h
  rw [h1]
  simp only [signed, Bool.false_eq_true, if_false]
  rw [Nat.shiftLeft_eq, h2]

theorem lt_rung {r s : Nat} (hr : r ≤ infR) (hs : s ≤ infR) : lt r s = decide (r < s) := by
  rw [Bool.eq_iff_iff, lt_iff, isNo_rung hr, isNo_rung hs, cls_rung hr, cls_rung hs, decide_eq_true_iff]
  simp only [true_and]
  by_cases e1 : r = infR
  · rw [if_pos e1]
    by_cases e2 : s = infR
    · rw [if_pos e2, e1, e2]; simp
    · rw [if_neg e2]; omega
  · rw [if_neg e1]
    by_cases e2 : s = infR
    · rw [if_pos e2]; omega
    · rw [if_neg e2, val_rung (Nat.lt_of_le_of_ne hr e1), val_rung (Nat.lt_of_le_of_ne hs e2)]
      constructor
      · rintro (h | ⟨_, h⟩)
        · omega
        · rcases Nat.lt_or_ge r s with h3 | h3
          · exact h3
          · have := vr_le h3; omega
      · intro h
        right
        have := vr_mono h
        omega

theorem eq_rung {r s : Nat} (hr : r ≤ infR) (hs : s ≤ infR) : eq r s = decide (r = s) := by
  have h1 := lt_rung hr hs
  have h2 := lt_rung hs hr
  rw [Bool.eq_iff_iff, decide_eq_true_iff]
  constructor
  · intro h
    rw [eq_iff] at h
    have n1 : lt r s = false := by
      rw [Bool.eq_false_iff, ne_eq, lt_iff]; omega
    have n2 : lt s r = false := by
      rw [Bool.eq_false_iff, ne_eq, lt_iff]; omega
    rw [n1] at h1
    rw [n2] at h2
    have := of_decide_eq_false h1.symm
    have := of_decide_eq_false h2.symm
    omega
  · rintro rfl
    rw [eq_self, isNo_rung hr]; rfl

/-! ### A cost as a float -/
/-- How many places a unit lies behind one. -/
def unitK : Nat := 1074
theorem least_K : double.leastPlace = -(unitK : Int) := by decide

def fu (c : Nat) : Nat := double.nearest false c 0

theorem floatOfInt_nat (c : Nat) : floatOfInt .f64 (c : Int) = fu c := by
  unfold floatOfInt FloatKind.nearest FloatKind.encode fu
  have : decide ((c : Int) < 0) = false := by simp
  rw [this]
  rfl

theorem nearest_zero (p : Int) : double.nearest false 0 p = 0 := by
  unfold Format.nearest
  rw [if_pos rfl]; rfl

theorem fu_rnd {c : Nat} (h : 0 < c) : ∃ r, Rnd (c * 2 ^ unitK) 1 r ∧ fu c = min r infR := by
  obtain ⟨r, h1, h2⟩ := nearest_rnd h 0
  rw [least_K] at h1
  have e1 : ((0 : Int) - -(unitK : Int)).toNat = unitK := by omega
  have e2 : (-(unitK : Int) - 0).toNat = 0 := by omega
  rw [e1, e2, Nat.pow_zero] at h1
  exact ⟨r, h1, by rw [← infR_eq]; exact h2⟩

theorem fu_lt {c : Nat} (h : c < 18446744073709551616) : fu c < infR := by
  rcases Nat.eq_zero_or_pos c with rfl | h0
  · unfold fu; rw [nearest_zero]; decide
  · obtain ⟨r, ⟨t, h1, h2, h3⟩, h4⟩ := fu_rnd h0
    rw [h4]
    have hr : r < infR := by
      have hN : c * 2 ^ unitK < 2 ^ (64 + unitK) := by
        rw [Nat.pow_add]
        exact Nat.mul_lt_mul_of_pos_right (Nat.lt_of_lt_of_eq h (by decide)) (Nat.two_pow_pos _)
      have ht : t ≤ 1085 := by
        rcases h1 with h1 | h1
        · omega
        · rw [Nat.mul_one] at h1
          have : 2 ^ (52 + t) < 2 ^ (64 + unitK) := Nat.lt_of_le_of_lt h1 hN
          have h5 := (Nat.pow_lt_pow_iff_right (by decide : 1 < 2)).1 this
          have hK : unitK = 1074 := rfl
          clear this hN h1 h2 h3
          omega
      have hre : re (c * 2 ^ unitK) (1 * 2 ^ t) ≤ 2 ^ 53 := re_le (by simpa using Nat.two_pow_pos t) (by
        rw [Nat.mul_one, Nat.pow_add] at h2
        rw [Nat.one_mul]
        exact Nat.le_of_lt h2)
      have e : t * 2 ^ 52 ≤ 1085 * 2 ^ 52 := Nat.mul_le_mul_right _ ht
      have c1 : (2 : Nat) ^ 52 = 4503599627370496 := by decide
      have c2 : (2 : Nat) ^ 53 = 9007199254740992 := by decide
      unfold infR
      omega
    omega

theorem fu_mono {c d : Nat} (h : c ≤ d) : fu c ≤ fu d := by
  rcases Nat.eq_zero_or_pos c with rfl | h0
  · unfold fu; rw [nearest_zero]; exact Nat.zero_le _
  · obtain ⟨r, h1, h2⟩ := fu_rnd h0
    obtain ⟨s, h3, h4⟩ := fu_rnd (Nat.lt_of_lt_of_le h0 h)
    have := Rnd.mono (by decide) (by decide) h1 h3 (by rw [Nat.mul_one, Nat.mul_one]; exact Nat.mul_le_mul_right _ h)
    omega

/-! ### A wait -/
/-- It is a speed. -/
def pos (a : Nat) : Bool := FloatKind.f64.format.order a 0 == some .gt

theorem ord_swap {a b : Nat} : (ord a b == some .gt) = lt b a := by
  unfold lt
  cases ha : isNo a with
  | true => rw [ord_none_left b ha, ord_none_right b ha]; rfl
  | false =>
    cases hb : isNo b with
    | true => rw [ord_none_right a hb, ord_none_left a hb]; rfl
    | false =>
      rw [ord_eq ha hb, ord_eq hb ha]
      by_cases h : cls a = cls b
      · rw [if_pos h, if_pos h.symm, Bool.eq_iff_iff]
        simp [Int.compare_eq_lt, Int.compare_eq_gt]
      · rw [if_neg h, if_neg (fun e => h e.symm), Bool.eq_iff_iff]
        simp [Int.compare_eq_lt, Int.compare_eq_gt]

theorem pos_eq (a : Nat) : pos a = lt 0 a := ord_swap (a := a) (b := 0)

/-- What a speed reads as. -/
theorem pos_cases {a : Nat} (h : pos a = true) : double.read a = .infinity false ∨ ∃ n j, double.read a = .number false n j ∧ 0 < n ∧ val a = ((n * 2 ^ (j - double.leastPlace).toNat : Nat) : Int) := by
  rw [pos_eq, lt_iff] at h
  obtain ⟨_, h2, h3⟩ := h
  have c0 : cls 0 = 0 := by rw [cls_rung (by decide)]; rfl
  have v0 : val 0 = 0 := by rw [val_rung (by decide)]; rfl
  rw [c0, v0] at h3
  unfold isNo at h2
  unfold cls val at *
  cases hr : double.read a with
  | nan s f => rw [hr] at h2; cases h2
  | infinity s =>
    rw [hr] at h3
    cases s with
    | false => exact .inl rfl
    | true => exfalso; simp at h3
  | number s n j =>
    rw [hr] at h3
    right
    simp only [Int.lt_irrefl, true_and, false_or] at h3
    unfold signed at h3 ⊢
    cases s with
    | true =>
      exfalso
      simp only [if_true] at h3
      generalize n <<< (j - double.leastPlace).toNat = z at h3
      omega
    | false =>
      simp only [Bool.false_eq_true, if_false] at h3 ⊢
      rw [Nat.shiftLeft_eq] at h3 ⊢
      refine ⟨n, j, rfl, ?_, rfl⟩
      rcases Nat.eq_zero_or_pos n with e | e
      · subst e; simp at h3
      · exact e

theorem Rnd.congr {N D N' D' r : Nat} (hD : 0 < D) (hD' : 0 < D') (e : N * D' = N' * D) (h : Rnd N D r) : Rnd N' D' r := by
  have h1 := h.scale hD hD'
  rw [e, Nat.mul_comm D D'] at h1
  exact h1.unscale hD' hD

theorem Rnd.zero {D : Nat} (hD : 0 < D) : Rnd 0 D 0 :=
  ⟨0, .inl rfl, Nat.mul_pos (Nat.two_pow_pos _) hD, by unfold re; simp⟩

/-- A cost divided by a speed. -/
theorem div_fin {a c n : Nat} {j : Int} (hc : c < 18446744073709551616) (ha : double.read a = .number false n j) (hn : 0 < n) :
    ∃ r, Rnd (vr (fu c) * 2 ^ unitK) (n * 2 ^ (j - double.leastPlace).toNat) r ∧ double.div (fu c) a = some (min r infR) := by
  have hj := read_place ha
  obtain ⟨m, i, h1, h2⟩ := read_fin (fu_lt hc)
  have hi := read_place h1
  have hD : 0 < n * 2 ^ (j - double.leastPlace).toNat := Nat.mul_pos hn (Nat.two_pow_pos _)
  have hdig : double.fractionBits + 2 = 54 := rfl
  have hdiv : double.div (fu c) a = some (double.nearest false (2 * (m <<< (54 + n.log2 - m.log2) / n) + (m <<< (54 + n.log2 - m.log2) % n != 0).toNat) (i - j - (54 + n.log2 - m.log2 : Nat) - 1)) := by
    unfold Format.div
    rw [h1, ha, hdig]
    unfold Datum.quotient
    dsimp only
    rw [if_neg (by omega)]
    rfl
  rw [hdiv]
  rcases Nat.eq_zero_or_pos m with e | hm
  · subst e
    have hv : vr (fu c) = 0 := by rw [← h2]; simp
    rw [hv, Nat.zero_mul]
    refine ⟨0, Rnd.zero hD, ?_⟩
    rw [Nat.zero_shiftLeft, Nat.zero_div, Nat.zero_mod]
    exact congrArg some (nearest_zero _)
  · generalize hmo : 54 + n.log2 - m.log2 = more
    have hQ : 2 ^ 53 ≤ m <<< more / n := by
      rw [Nat.shiftLeft_eq, Nat.le_div_iff_mul_le hn]
      have q1 : n < 2 ^ (n.log2 + 1) := Nat.lt_log2_self
      have q2 : 2 ^ m.log2 ≤ m := Nat.log2_self_le (by omega)
      have q3 : 2 ^ 53 * n ≤ 2 ^ 53 * 2 ^ (n.log2 + 1) := Nat.mul_le_mul_left _ (Nat.le_of_lt q1)
      have q4 : 2 ^ m.log2 * 2 ^ more ≤ m * 2 ^ more := Nat.mul_le_mul_right _ q2
      rw [← Nat.pow_add] at q3 q4
      have q5 : 2 ^ (53 + (n.log2 + 1)) ≤ 2 ^ (m.log2 + more) := Nat.pow_le_pow_right (by decide) (by omega)
      omega
    have hS : 0 < 2 * (m <<< more / n) + (m <<< more % n != 0).toNat := by
      have : 0 < (2 : Nat) ^ 53 := Nat.two_pow_pos _
      omega
    obtain ⟨r, hr, he⟩ := nearest_rnd hS (i - j - (more : Nat) - 1)
    refine ⟨r, ?_, by rw [he, infR_eq]⟩
    have hr2 := sticky_rnd hn hQ hr
    refine hr2.congr (Nat.mul_pos hn (Nat.two_pow_pos _)) hD ?_
    rw [← h2, Nat.shiftLeft_eq]
    have hL : double.leastPlace = -(unitK : Int) := least_K
    clear hdiv he hr hr2
    generalize double.leastPlace = L at *
    have hexp : 1 + more + (i - j - (more : Int) - 1 - L).toNat + (j - L).toNat = (i - L).toNat + unitK + (L - (i - j - (more : Int) - 1)).toNat := by omega
    have e1 : 2 * (m * 2 ^ more) * 2 ^ (i - j - (more : Int) - 1 - L).toNat * (n * 2 ^ (j - L).toNat) = m * n * 2 ^ (1 + more + (i - j - (more : Int) - 1 - L).toNat + (j - L).toNat) := by
      rw [Nat.pow_add, Nat.pow_add, Nat.pow_add, Nat.pow_one]
      simp only [Nat.mul_assoc, Nat.mul_left_comm]
    have e2 : m * 2 ^ (i - L).toNat * 2 ^ unitK * (n * 2 ^ (L - (i - j - (more : Int) - 1)).toNat) = m * n * 2 ^ ((i - L).toNat + unitK + (L - (i - j - (more : Int) - 1)).toNat) := by
      rw [Nat.pow_add, Nat.pow_add]
      generalize (2 : Nat) ^ unitK = z
      simp only [Nat.mul_assoc, Nat.mul_left_comm]
    rw [e1, e2, hexp]

theorem div_inf {a c : Nat} (hc : c < 18446744073709551616) (ha : double.read a = .infinity false) : double.div (fu c) a = some 0 := by
  obtain ⟨m, i, h1, h2⟩ := read_fin (fu_lt hc)
  unfold Format.div
  rw [h1, ha]
  exact congrArg some (nearest_zero 0)

/-- The wait of a cost at a speed, its word. -/
def wt (c a : Nat) : Nat := if pos a then (double.div (fu c) a).getD 0 else infR

theorem wt_neg {a : Nat} (c : Nat) (h : pos a = false) : wt c a = infR := by
  unfold wt; rw [h]; exact if_neg (by decide)

theorem div_some {a c : Nat} (hc : c < 18446744073709551616) (h : pos a = true) : double.div (fu c) a = some (wt c a) := by
  unfold wt
  rw [if_pos h]
  rcases pos_cases h with h1 | ⟨n, j, h1, h2, _⟩
  · rw [div_inf hc h1]; rfl
  · obtain ⟨r, _, h3⟩ := div_fin hc h1 h2
    rw [h3]; rfl

theorem wt_le {a c : Nat} (hc : c < 18446744073709551616) : wt c a ≤ infR := by
  cases hp : pos a with
  | false => simp only [wt_neg _ hp]; exact Nat.le_refl _
  | true =>
    have hs := div_some hc hp
    rcases pos_cases hp with h1 | ⟨n, j, h1, h2, _⟩
    · rw [div_inf hc h1] at hs
      rw [← Option.some.inj hs]
      exact Nat.zero_le _
    · obtain ⟨r, _, h3⟩ := div_fin hc h1 h2
      rw [h3] at hs
      have := Option.some.inj hs
      omega

/-- A greater cost is not through earlier. -/
theorem wt_mono {a c d : Nat} (hd : d < 18446744073709551616) (h : c ≤ d) : wt c a ≤ wt d a := by
  have hc : c < 18446744073709551616 := by omega
  cases hp : pos a with
  | false => simp only [wt_neg _ hp]; exact Nat.le_refl _
  | true =>
    have hs := div_some hc hp
    have ht := div_some hd hp
    rcases pos_cases hp with h1 | ⟨n, j, h1, h2, _⟩
    · rw [div_inf hc h1] at hs
      rw [← Option.some.inj hs]
      exact Nat.zero_le _
    · obtain ⟨r, hr, h3⟩ := div_fin hc h1 h2
      obtain ⟨s, hs2, h4⟩ := div_fin hd h1 h2
      rw [h3] at hs
      rw [h4] at ht
      have e1 := Option.some.inj hs
      have e2 := Option.some.inj ht
      have hD : 0 < n * 2 ^ (j - double.leastPlace).toNat := Nat.mul_pos h2 (Nat.two_pow_pos _)
      have := hr.mono hD hD hs2 (Nat.mul_le_mul_right _ (Nat.mul_le_mul_right _ (vr_le (fu_mono h))))
      omega

/-- A greater speed is not through later. -/
theorem wt_anti {a b c : Nat} (hc : c < 18446744073709551616) (hp : pos a = true) (h : lt a b = true) : wt c b ≤ wt c a := by
  have hpb : pos b = true := by
    rw [pos_eq, lt_iff] at hp ⊢
    rw [lt_iff] at h
    refine ⟨hp.1, h.2.1, ?_⟩
    omega
  have hs := div_some hc hp
  have ht := div_some hc hpb
  rcases pos_cases hpb with h1 | ⟨n, j, h1, h2, v2⟩
  · rw [div_inf hc h1] at ht
    rw [← Option.some.inj ht]
    exact Nat.zero_le _
  · rcases pos_cases hp with k1 | ⟨m, i, k1, k2, v1⟩
    · exfalso
      rw [lt_iff] at h
      unfold cls at h
      rw [k1, h1] at h
      simp at h
    · obtain ⟨r, hr, h3⟩ := div_fin hc k1 k2
      obtain ⟨s, hs2, h4⟩ := div_fin hc h1 h2
      rw [h3] at hs
      rw [h4] at ht
      have e1 := Option.some.inj hs
      have e2 := Option.some.inj ht
      have hv : val a < val b := by
        rw [lt_iff] at h
        have c1 : cls a = 0 := by unfold cls; rw [k1]
        have c2 : cls b = 0 := by unfold cls; rw [h1]
        omega
      rw [v1, v2] at hv
      have := hs2.mono (Nat.mul_pos h2 (Nat.two_pow_pos _)) (Nat.mul_pos k2 (Nat.two_pow_pos _)) hr (Nat.mul_le_mul_left _ (by omega))
      omega

end Go.Proofs.YtkmgfaohppkglaaDoor
