/- Floats of 64 bits: how two of them stand to each other. Plain laws, no program. -/
import Derived.Laws.FloatArith
import Derived.PlainAid
namespace Go.Proofs.YtkmgfaohppkglaaDoor
open Ieee

/-- The order of two words. -/
def ord (a b : Nat) : Option Ordering := FloatKind.f64.format.order a b
/-- No number. -/
def isNo (a : Nat) : Bool := (double.read a).isNaN

/-- In which of three classes a word lies: below, among, above the numbers. -/
def cls (a : Nat) : Int := match double.read a with
  | .infinity s => if s then -1 else 1
  | _ => 0
/-- A number's value, in units of the least one. -/
def val (a : Nat) : Int := match double.read a with
  | .number s m e => signed s m (e - double.leastPlace).toNat
  | _ => 0

theorem read_place {a : Nat} {s : Bool} {m : Nat} {e : Int} (h : double.read a = .number s m e) : double.leastPlace ≤ e := by
  unfold Format.read at h
  simp only at h
  split at h
  · cases h; exact Int.le_refl _
  · split at h
    · cases h; omega
    · split at h <;> cases h

theorem signed_shift (s : Bool) (m up d : Nat) : signed s m (up + d) = signed s m up * ((2 ^ d : Nat) : Int) := by
  unfold signed
  rw [Nat.shiftLeft_add, Nat.shiftLeft_eq _ d]
  cases s <;> simp [Int.neg_mul]

theorem compare_scale (x y : Int) (d : Nat) : compare (x * ((2 ^ d : Nat) : Int)) (y * ((2 ^ d : Nat) : Int)) = compare x y := by
  have hp : (0 : Int) < ((2 ^ d : Nat) : Int) := by exact_mod_cast Nat.two_pow_pos d
  generalize ((2 ^ d : Nat) : Int) = q at hp
  rcases Int.lt_trichotomy x y with h | h | h
  · rw [(Int.compare_eq_lt).2 h, (Int.compare_eq_lt).2 (Int.mul_lt_mul_of_pos_right h hp)]
  · subst h; simp
  · rw [(Int.compare_eq_gt).2 h, (Int.compare_eq_gt).2 (Int.mul_lt_mul_of_pos_right h hp)]

/-- Of two that are numbers or infinite: first by class, then by value. -/
theorem ord_eq {a b : Nat} (ha : isNo a = false) (hb : isNo b = false) : ord a b = some (if cls a = cls b then compare (val a) (val b) else compare (cls a) (cls b)) := by
  unfold ord isNo cls val at *
  show (double.read a).order (double.read b) = _
  have pa := @read_place a
  have pb := @read_place b
  generalize double.read a = x at *
  generalize double.read b = y at *
  cases x with
  | nan s f => simp [Datum.isNaN] at ha
  | infinity s =>
    cases y with
    | nan t g => simp [Datum.isNaN] at hb
    | infinity t => cases s <;> cases t <;> rfl
    | number t n j => cases s <;> rfl
  | number s m i =>
    cases y with
    | nan t g => simp [Datum.isNaN] at hb
    | infinity t => cases t <;> rfl
    | number t n j =>
      have h1 := pa rfl
      have h2 := pb rfl
      simp only [Datum.order, if_true]
      congr 1
      obtain ⟨d, hd⟩ : ∃ d : Nat, (d : Int) = min i j - double.leastPlace := ⟨(min i j - double.leastPlace).toNat, by omega⟩
      rw [show (i - double.leastPlace).toNat = (i - min i j).toNat + d by omega, show (j - double.leastPlace).toNat = (j - min i j).toNat + d by omega, signed_shift, signed_shift, compare_scale]

theorem ord_none_left {a : Nat} (b : Nat) (ha : isNo a = true) : ord a b = none := by
  unfold ord isNo at *
  show (double.read a).order (double.read b) = _
  cases h : double.read a with
  | nan s f => rfl
  | infinity s => rw [h] at ha; simp [Datum.isNaN] at ha
  | number s m e => rw [h] at ha; simp [Datum.isNaN] at ha

theorem ord_none_right (a : Nat) {b : Nat} (hb : isNo b = true) : ord a b = none := by
  unfold ord isNo at *
  show (double.read a).order (double.read b) = _
  cases h : double.read b with
  | nan s f => cases double.read a <;> rfl
  | infinity s => rw [h] at hb; simp [Datum.isNaN] at hb
  | number s m e => rw [h] at hb; simp [Datum.isNaN] at hb

/-- Less. -/
def lt (a b : Nat) : Bool := ord a b == some .lt
/-- Equal. -/
def eq (a b : Nat) : Bool := ord a b == some .eq

theorem eq_self (a : Nat) : eq a a = !isNo a := by
  unfold eq
  cases h : isNo a with
  | true => rw [ord_none_left a h]; rfl
  | false => rw [ord_eq h h, if_pos rfl]; simp

theorem lt_iff {a b : Nat} : lt a b = true ↔ isNo a = false ∧ isNo b = false ∧ (cls a < cls b ∨ cls a = cls b ∧ val a < val b) := by
  unfold lt
  cases ha : isNo a with
  | true => rw [ord_none_left b ha]; simp
  | false =>
    cases hb : isNo b with
    | true => rw [ord_none_right a hb]; simp
    | false =>
      rw [ord_eq ha hb]
      by_cases h : cls a = cls b
      · simp [h, Int.compare_eq_lt]
      · simp [h, Int.compare_eq_lt]
theorem eq_iff {a b : Nat} : eq a b = true ↔ isNo a = false ∧ isNo b = false ∧ cls a = cls b ∧ val a = val b := by
  unfold eq
  cases ha : isNo a with
  | true => rw [ord_none_left b ha]; simp
  | false =>
    cases hb : isNo b with
    | true => rw [ord_none_right a hb]; simp
    | false =>
      rw [ord_eq ha hb]
      by_cases h : cls a = cls b
      · simp [h]
      · simp [h]

/-- A wait is shorter than another one. -/
def shorter (a b : Nat) : Bool := lt a b || (isNo b && !isNo a)

theorem shorter_iff {a b : Nat} : shorter a b = true ↔ isNo a = false ∧ (isNo b = true ∨ cls a < cls b ∨ cls a = cls b ∧ val a < val b) := by
  unfold shorter
  rw [Bool.or_eq_true, lt_iff]
  cases ha : isNo a <;> cases hb : isNo b <;> simp

/-- The same, or both no number. -/
def sameF (a b : Nat) : Bool := eq a b || (isNo a && isNo b)

theorem sameF_iff {a b : Nat} : sameF a b = true ↔ (isNo a = true ∧ isNo b = true) ∨ (isNo a = false ∧ isNo b = false ∧ cls a = cls b ∧ val a = val b) := by
  unfold sameF
  rw [Bool.or_eq_true, eq_iff]
  cases ha : isNo a <;> cases hb : isNo b <;> simp

theorem sameF_self (a : Nat) : sameF a a = true := by
  rw [sameF_iff]
  cases isNo a <;> simp

theorem shorter_self (a : Nat) : shorter a a = false := by
  rw [Bool.eq_false_iff, ne_eq, shorter_iff]
  rintro ⟨h1, h2 | h2 | h2⟩
  · rw [h1] at h2; cases h2
  · omega
  · omega

theorem shorter_asymm {a b : Nat} (h : shorter a b = true) : shorter b a = false := by
  rw [Bool.eq_false_iff, ne_eq, shorter_iff]
  rw [shorter_iff] at h
  rintro ⟨h1, h2⟩
  rcases h.2 with h3 | h3
  · rw [h1] at h3; cases h3
  · rcases h2 with h2 | h2
    · rw [h.1] at h2; cases h2
    · omega

theorem shorter_trans {a b c : Nat} (h : shorter a b = true) (k : shorter b c = true) : shorter a c = true := by
  rw [shorter_iff] at *
  refine ⟨h.1, ?_⟩
  rcases k.2 with k2 | k2
  · exact .inl k2
  · rcases h.2 with h2 | h2
    · rw [k.1] at h2; cases h2
    · right; omega

theorem same_of_neither {a b : Nat} (h : shorter a b = false) (k : shorter b a = false) : sameF a b = true := by
  rw [Bool.eq_false_iff, ne_eq, shorter_iff] at h k
  rw [sameF_iff]
  cases ha : isNo a <;> cases hb : isNo b <;> simp [ha, hb] at h k ⊢
  omega

theorem shorter_congr {a b c : Nat} (h : sameF a b = true) : shorter a c = shorter b c ∧ shorter c a = shorter c b := by
  rw [sameF_iff] at h
  constructor
  · rw [Bool.eq_iff_iff, shorter_iff, shorter_iff]
    rcases h with ⟨h1, h2⟩ | ⟨h1, h2, h3, h4⟩
    · simp [h1, h2]
    · rw [h1, h2, h3, h4]
  · rw [Bool.eq_iff_iff, shorter_iff, shorter_iff]
    rcases h with ⟨h1, h2⟩ | ⟨h1, h2, h3, h4⟩
    · simp [h1, h2]
    · rw [h1, h2, h3, h4]

end Go.Proofs.YtkmgfaohppkglaaDoor
