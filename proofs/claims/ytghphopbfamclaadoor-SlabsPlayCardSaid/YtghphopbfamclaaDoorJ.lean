/- A slab said of functions: which numbers it has, and their things. -/
import Derived.Test.YtghphopbfamclaaDoorI
namespace Go.Proofs.YtghphopbfamclaaDoor
open Go.RowKit

def upd {α : Type} (f : Nat → α) (n : Nat) (x : α) : Nat → α := fun j => if j = n then x else f j

theorem upd_same {α : Type} (f : Nat → α) (n : Nat) (x : α) : upd f n x n = x := if_pos rfl
theorem upd_other {α : Type} (f : Nat → α) {n j : Nat} (x : α) (h : j ≠ n) : upd f n x j = f j := if_neg h

def nums (room : Nat) (U : Nat → Bool) : List Nat := (List.range room).filter U
def cnt (room : Nat) (U : Nat → Bool) : Nat := (nums room U).length

theorem nums_succ (U : Nat → Bool) (m : Nat) : nums (m + 1) U = nums m U ++ (if U m then [m] else []) := by
  unfold nums
  rw [List.range_succ, List.filter_append]
  cases h : U m <;> simp [h]

theorem nums_congr {room : Nat} {U W : Nat → Bool} (h : ∀ j, j < room → U j = W j) : nums room U = nums room W := by
  unfold nums
  exact List.filter_congr fun j hj => h j (List.mem_range.1 hj)

theorem cnt_le (room : Nat) (U : Nat → Bool) : cnt room U ≤ room := by
  unfold cnt nums
  exact Nat.le_trans (List.length_filter_le _ _) (by simp)

theorem cnt_on : ∀ {room : Nat} {U : Nat → Bool} {n : Nat}, n < room → U n = false → cnt room (upd U n true) = cnt room U + 1
  | 0, _, _, h, _ => absurd h (Nat.not_lt_zero _)
  | room + 1, U, n, h, hu => by
    unfold cnt
    rw [nums_succ, nums_succ, List.length_append, List.length_append]
    by_cases e : n = room
    · subst e
      rw [upd_same, hu, nums_congr (W := U) fun j hj => upd_other U true (by omega)]
      simp
    · rw [upd_other U true (fun e' => e e'.symm)]
      have := cnt_on (room := room) (by omega) hu
      unfold cnt at this
      rw [this]
      omega

theorem cnt_off {room : Nat} {U : Nat → Bool} {n : Nat} (h : n < room) (hu : U n = true) : cnt room U = cnt room (upd U n false) + 1 := by
  have := cnt_on (U := upd U n false) h (upd_same U n false)
  have e : upd (upd U n false) n true = U := by
    funext j
    by_cases hj : j = n
    · subst hj; rw [upd_same, hu]
    · rw [upd_other _ _ hj, upd_other _ _ hj]
  rw [e] at this
  exact this

theorem cnt_full : ∀ {room : Nat} {U : Nat → Bool}, (∀ j, j < room → U j = true) → cnt room U = room
  | 0, _, _ => rfl
  | room + 1, U, h => by
    unfold cnt
    rw [nums_succ, List.length_append, h room (by omega)]
    have := cnt_full (room := room) (U := U) fun j hj => h j (by omega)
    unfold cnt at this
    rw [this]; rfl

theorem cnt_room {room : Nat} {U : Nat → Bool} {n : Nat} (h : n < room) (hu : U n = false) : cnt room U < room := by
  have := cnt_on h hu
  have := cnt_le room (upd U n true)
  omega

theorem bitOf_on {ws : List Nat} {n : Nat} (h : n / 64 < ws.length) (j : Nat) : bitOf (ws.set (n / 64) (ws.getD (n / 64) 0 ||| 2 ^ (n % 64))) j = if j = n then true else bitOf ws j := by
  unfold bitOf
  rw [List.getD_eq_getElem?_getD, List.getElem?_set]
  by_cases h1 : n / 64 = j / 64
  · rw [if_pos h1, if_pos h, Option.getD_some, Nat.testBit_or, Nat.testBit_two_pow, h1]
    by_cases e : j = n
    · subst e; simp
    · rw [if_neg e, decide_eq_false (by omega), Bool.or_false]
  · rw [if_neg h1, if_neg (by rintro rfl; exact h1 rfl), List.getD_eq_getElem?_getD]

theorem bitOf_off {ws : List Nat} {n : Nat} (h : n / 64 < ws.length) (j : Nat) : bitOf (ws.set (n / 64) (offBit (ws.getD (n / 64) 0) (n % 64))) j = if j = n then false else bitOf ws j := by
  unfold bitOf
  rw [List.getD_eq_getElem?_getD, List.getElem?_set]
  by_cases h1 : n / 64 = j / 64
  · rw [if_pos h1, if_pos h, Option.getD_some, h1]
    unfold offBit
    have h2 : 2 ^ (n % 64) < 2 ^ 64 := Nat.pow_lt_pow_right (by decide) (by omega)
    have e3 : 18446744073709551615 - 2 ^ (n % 64) = 2 ^ 64 - (2 ^ (n % 64) + 1) := by omega
    rw [Nat.testBit_and, e3, Nat.testBit_two_pow_sub_succ h2, Nat.testBit_two_pow, decide_eq_true (by omega : j % 64 < 64), Bool.true_and]
    by_cases e : j = n
    · subst e; simp
    · rw [if_neg e, decide_eq_false (by omega)]; simp
  · rw [if_neg h1, if_neg (by rintro rfl; exact h1 rfl), List.getD_eq_getElem?_getD]

/-- A slab that a call made. -/
structure SL (w : World) (p bt bu room : Nat) (U : Nat → Bool) (V : Nat → Nat) (ws X : List Nat) : Prop where
  mem : SlabIn w p bt bu room ws X (cnt room U)
  apart : Apart p bt bu
  bits : ∀ j, j < 64 * ((room + 63) / 64) → bitOf ws j = U j
  out : ∀ j, room ≤ j → U j = false
  vals : ∀ j, j < room → U j = true → X.getD j 0 = V j

def Slab (w : World) (p bt bu room : Nat) (U : Nat → Bool) (V : Nat → Nat) : Prop := ∃ ws X, SL w p bt bu room U V ws X

theorem Slab.apart {w : World} {p bt bu room : Nat} {U : Nat → Bool} {V : Nat → Nat} (h : Slab w p bt bu room U V) : Apart p bt bu := by obtain ⟨_, _, h⟩ := h; exact h.apart
theorem Slab.lts {w : World} {p bt bu room : Nat} {U : Nat → Bool} {V : Nat → Nat} (h : Slab w p bt bu room U V) : p < w.heap.size ∧ bt < w.heap.size ∧ bu < w.heap.size := by obtain ⟨_, _, h⟩ := h; exact h.mem.lts
theorem Slab.room {w : World} {p bt bu room : Nat} {U : Nat → Bool} {V : Nat → Nat} (h : Slab w p bt bu room U V) : 1 ≤ room ∧ room ≤ 4096 := by obtain ⟨_, _, h⟩ := h; exact ⟨h.mem.least, h.mem.most⟩
theorem Slab.keep {w w' : World} {p bt bu room : Nat} {U : Nat → Bool} {V : Nat → Nat} (h : Slab w p bt bu room U V) (hb : Below w.heap.size w w') : Slab w' p bt bu room U V := by
  obtain ⟨ws, X, h⟩ := h; exact ⟨ws, X, h.mem.keep hb, h.apart, h.bits, h.out, h.vals⟩
/-- Another slab's writes leave it. -/
theorem Slab.turned {w w' : World} {p bt bu room p2 bt2 bu2 : Nat} {U : Nat → Bool} {V : Nat → Nat} (h : Slab w p bt bu room U V) (ht : Turned w w' p2 bt2 bu2)
    (h1 : p ≠ p2 ∧ p ≠ bt2 ∧ p ≠ bu2) (h2 : bt ≠ p2 ∧ bt ≠ bt2 ∧ bt ≠ bu2) (h3 : bu ≠ p2 ∧ bu ≠ bt2 ∧ bu ≠ bu2) : Slab w' p bt bu room U V := by
  obtain ⟨ws, X, h⟩ := h
  exact ⟨ws, X, ⟨(ht.block _ h1.1 h1.2.1 h1.2.2).trans h.mem.head, (ht.block _ h2.1 h2.2.1 h2.2.2).trans h.mem.things, (ht.block _ h3.1 h3.2.1 h3.2.2).trans h.mem.used, h.mem.lenX, h.mem.lenW, h.mem.small, h.mem.least, h.mem.most⟩, h.apart, h.bits, h.out, h.vals⟩
theorem Slab.out {w : World} {p bt bu room : Nat} {U : Nat → Bool} {V : Nat → Nat} (h : Slab w p bt bu room U V) : ∀ j, room ≤ j → U j = false := by obtain ⟨_, _, h⟩ := h; exact h.out

def hasU (U : Nat → Bool) (n : Int) : Bool := decide (0 ≤ n) && U n.toNat

theorem SL.hasEq {w : World} {p bt bu room : Nat} {U : Nat → Bool} {V : Nat → Nat} {ws X : List Nat} (h : SL w p bt bu room U V ws X) (n : Int) : hasN room ws n = hasU U n := by
  unfold hasN hasU
  by_cases h1 : 0 ≤ n
  · by_cases h2 : n < room
    · rw [decide_eq_true h1, decide_eq_true h2, h.bits _ (by omega)]; rfl
    · rw [decide_eq_true h1, decide_eq_false h2, h.out _ (by omega)]; rfl
  · rw [decide_eq_false h1]; rfl

theorem SL.numsEq {w : World} {p bt bu room : Nat} {U : Nat → Bool} {V : Nat → Nat} {ws X : List Nat} (h : SL w p bt bu room U V ws X) : numsTo ws (64 * ((room + 63) / 64)) = nums room U := by
  have h1 : numsTo ws (64 * ((room + 63) / 64)) = nums (64 * ((room + 63) / 64)) U := nums_congr h.bits
  rw [h1]
  obtain ⟨d, hd⟩ := Nat.exists_eq_add_of_le (show room ≤ 64 * ((room + 63) / 64) by omega)
  rw [hd]
  clear hd h1
  induction d with
  | zero => rfl
  | succ d ih => rw [← Nat.add_assoc, nums_succ, h.out _ (by omega), ih]; simp

section
variable {w : World} {p bt bu room : Nat} {U : Nat → Bool} {V : Nat → Nat}

theorem new_law (w : World) (h1 : 1 ≤ room) (h2 : room ≤ 4096) : Calls Tryd.prog 19 #[.int .i64 (room : Int)] w fun e w' => ∃ p bt bu, e = .returned (.tuple #[.pointer (some ⟨p, 0, none⟩), .int .i64 0]) ∧
    Slab w' p bt bu room (fun _ => false) (fun _ => 0) ∧ w.heap.size ≤ p ∧ w.heap.size ≤ bt ∧ w.heap.size ≤ bu ∧ Below w.heap.size w w' := by
  refine (new_any w h1 h2).mono ?_
  rintro e w' ⟨p, bt, bu, he, hs, ha, q1, q2, q3, hb⟩
  have hc : cnt room (fun _ => false) = 0 := by simp [cnt, nums]
  refine ⟨p, bt, bu, he, ⟨List.replicate ((room + 63) / 64) 0, List.replicate room 0, by rw [hc]; exact hs, ha, fun j hj => ?_, fun _ _ => rfl, fun _ _ h => by cases h⟩, q1, q2, q3, hb⟩
  · simp [bitOf, List.getD_eq_getElem?_getD, List.getElem?_replicate]
    split <;> simp

theorem get_law (hs : Slab w p bt bu room U V) (n : Int) : Calls Tryd.prog 8 #[.pointer (some ⟨p, 0, none⟩), .int .i64 n] w fun e w' =>
    e = .returned (if hasU U n then .tuple #[.int .u64 ((V n.toNat : Nat) : Int), .int .i64 0] else .tuple #[.int .u64 0, .int .i64 11]) ∧ w = w' := by
  obtain ⟨ws, X, hs⟩ := hs
  cases h : hasU U n with
  | false => exact get_none n w hs.mem ((hs.hasEq n).trans h)
  | true =>
    have h1 := (hs.hasEq n).trans h
    obtain ⟨m, rfl, h2, h3⟩ := hasN_true h1
    have := get_some w hs.mem h1
    have hu : U m = true := by simpa [hasU] using h
    rw [hs.vals m h2 hu] at this
    exact this

theorem set_law (hs : Slab w p bt bu room U V) (n : Int) (x : Nat) : Calls Tryd.prog 9 #[.pointer (some ⟨p, 0, none⟩), .int .i64 n, .int .u64 (x : Int)] w fun e w' =>
    e = .returned (.int .i64 (if hasU U n then 0 else 11)) ∧ Slab w' p bt bu room U (if hasU U n then upd V n.toNat x else V) ∧ Turned w w' p bt bu := by
  obtain ⟨ws, X, hs⟩ := hs
  cases h : hasU U n with
  | false => exact (set_none n x w hs.mem ((hs.hasEq n).trans h)).mono fun e w' ⟨h1, h2⟩ => ⟨h1, h2 ▸ ⟨ws, X, hs⟩, h2 ▸ Turned.refl _ _ _ _⟩
  | true =>
    have h1 := (hs.hasEq n).trans h
    obtain ⟨m, rfl, h2, h3⟩ := hasN_true h1
    refine (set_some x w hs.mem hs.apart h1).mono fun e w' ⟨q1, q2, q3⟩ => ⟨q1, ⟨ws, X.set m x, q2, hs.apart, hs.bits, hs.out, fun j hj hu => ?_⟩, q3⟩
    simp only [if_true, Int.toNat_natCast]
    rw [List.getD_eq_getElem?_getD, List.getElem?_set]
    by_cases e : j = m
    · subst e
      rw [if_pos rfl, if_pos (by rw [hs.mem.lenX]; exact hj), upd_same]; rfl
    · rw [if_neg (fun e' => e e'.symm), upd_other _ _ e, ← List.getD_eq_getElem?_getD]
      exact hs.vals j hj hu

theorem free_law (hs : Slab w p bt bu room U V) (n : Int) : Calls Tryd.prog 10 #[.pointer (some ⟨p, 0, none⟩), .int .i64 n] w fun e w' =>
    e = .returned (.int .i64 (if hasU U n then 0 else 11)) ∧ Slab w' p bt bu room (if hasU U n then upd U n.toNat false else U) V ∧ Turned w w' p bt bu := by
  obtain ⟨ws, X, hs⟩ := hs
  cases h : hasU U n with
  | false => exact (free_none n w hs.mem ((hs.hasEq n).trans h)).mono fun e w' ⟨h1, h2⟩ => ⟨h1, h2 ▸ ⟨ws, X, hs⟩, h2 ▸ Turned.refl _ _ _ _⟩
  | true =>
    have h1 := (hs.hasEq n).trans h
    obtain ⟨m, rfl, h2, h3⟩ := hasN_true h1
    have hu : U m = true := by simpa [hasU] using h
    have hc := cnt_off h2 hu
    have hm := hs.mem
    rw [hc] at hm
    have hmost := hm.most
    have hmw : m / 64 < ws.length := by rw [hm.lenW]; omega
    have hcl := cnt_le room U
    refine (free_some w hm hs.apart h1 (by omega)).mono fun e w' ⟨q1, q2, q3⟩ => ⟨q1, ⟨_, _, q2, hs.apart, fun j hj => ?_, fun j hj => ?_, fun j hj hju => ?_⟩, q3⟩
    · rw [bitOf_off hmw, hs.bits j hj]
      simp [upd]
    · simp only [if_true, Int.toNat_natCast]
      rw [upd_other _ _ (by omega)]; exact hs.out j hj
    · simp only [if_true, Int.toNat_natCast] at hju
      have hne : j ≠ m := by rintro rfl; rw [upd_same] at hju; cases hju
      rw [upd_other _ _ hne] at hju
      rw [List.getD_eq_getElem?_getD, List.getElem?_set, if_neg (fun e' => hne e'.symm), ← List.getD_eq_getElem?_getD]
      exact hs.vals j hj hju

theorem len_law (hs : Slab w p bt bu room U V) : Calls Tryd.prog 11 #[.pointer (some ⟨p, 0, none⟩)] w fun e w' => e = .returned (.int .i64 (cnt room U : Int)) ∧ w = w' := by
  obtain ⟨ws, X, hs⟩ := hs
  exact len_any w hs.mem

theorem putFull_law (hs : Slab w p bt bu room U V) (x : Nat) (hf : ∀ j, j < room → U j = true) : Calls Tryd.prog 7 #[.pointer (some ⟨p, 0, none⟩), .int .u64 (x : Int)] w fun e w' =>
    e = .returned (.tuple #[.int .i64 0, .int .i64 3]) ∧ Slab w' p bt bu room U V ∧ Turned w w' p bt bu := by
  obtain ⟨ws, X, hs⟩ := hs
  exact (put_full x w hs.mem (cnt_full hf)).mono fun e w' ⟨h1, h2, h3⟩ => ⟨h1, ⟨ws, X, h2, hs.apart, hs.bits, hs.out, hs.vals⟩, h3⟩

theorem put_law (hs : Slab w p bt bu room U V) (ht : TabAt w) (hp0 : 0 < p) (hbt0 : 0 < bt) (hbu0 : 0 < bu) (x n : Nat) (hn : n < room) (hset : ∀ j, j < n → U j = true) (hun : U n = false) : Calls Tryd.prog 7 #[.pointer (some ⟨p, 0, none⟩), .int .u64 (x : Int)] w fun e w' =>
    e = .returned (.tuple #[.int .i64 (n : Int), .int .i64 0]) ∧ Slab w' p bt bu room (upd U n true) (upd V n x) ∧ Turned w w' p bt bu := by
  obtain ⟨ws, X, hs⟩ := hs
  have hmost := hs.mem.most
  have hnw : n / 64 < ws.length := by rw [hs.mem.lenW]; omega
  refine (put_room x w hs.mem hs.apart ht hp0 hbt0 hbu0 (cnt_room hn hun) hn (fun j hj => (hs.bits j (by omega)).trans (hset j hj)) ((hs.bits n (by omega)).trans hun)).mono fun e w' ⟨q1, q2, q3⟩ => ⟨q1, ⟨_, _, (cnt_on hn hun).symm ▸ q2, hs.apart, fun j hj => ?_, fun j hj => ?_, fun j hj hju => ?_⟩, q3⟩
  · rw [bitOf_on hnw, hs.bits j hj]; rfl
  · rw [upd_other _ _ (by omega)]; exact hs.out j hj
  · rw [List.getD_eq_getElem?_getD, List.getElem?_set]
    by_cases e : j = n
    · subst e
      rw [if_pos rfl, if_pos (by rw [hs.mem.lenX]; exact hj), upd_same]; rfl
    · rw [if_neg (fun e' => e e'.symm), upd_other _ _ e, ← List.getD_eq_getElem?_getD]
      rw [upd_other _ _ e] at hju
      exact hs.vals j hj hju

theorem numbers_law (hs : Slab w p bt bu room U V) (ht : TabAt w) (hw0 : 0 < w.heap.size) : Calls Tryd.prog 12 #[.pointer (some ⟨p, 0, none⟩)] w fun e w' => ∃ g cap, e = .returned (.slice (some ⟨g, 0, none⟩) (nums room U).length cap) ∧ w.heap.size = g ∧ OutAt w.heap.size w' g cap (nums room U) ∧ Below w.heap.size w w' := by
  obtain ⟨ws, X, hs⟩ := hs
  refine (numbers_any w hs.mem ht hw0 (by rw [hs.numsEq]; rfl) (cnt_le _ _)).mono ?_
  rintro e w' ⟨g, cap, L, h1, rfl, h3, h4, h5⟩
  rw [hs.numsEq] at h1 h4
  exact ⟨g, cap, h1, h3, h4, h5⟩
end

theorem OutAt.cells {w0 g cap : Nat} {w : World} {L : List Nat} (h : OutAt w0 w g cap L) : CellsAt w (some ⟨g, 0, none⟩) (L.map Int.ofNat) := by
  obtain ⟨h1, h2⟩ := h
  rcases h2 with ⟨h3, _⟩ | ⟨g', cap', cur, h3, h4, h5, h6, h7, h8, h9⟩
  · cases h3
  · simp only [Value.slice.injEq, Option.some.injEq, Addr.mk.injEq, and_true, true_and] at h3
    obtain ⟨rfl, rfl⟩ := h3
    intro j hj
    refine ⟨g, 0, rfl, ?_⟩
    rw [List.length_map] at hj
    simp only [World.cell?, h5]
    rw [if_neg (by simp), Nat.zero_add, ← Array.getElem?_toList]
    have : (cur.toList.take (L.length * 1))[j]? = (ivals L)[j]? := by rw [h9]
    rw [List.getElem?_take_of_lt (by omega)] at this
    rw [this]
    simp [ivals, hj]

end Go.Proofs.YtghphopbfamclaaDoor
