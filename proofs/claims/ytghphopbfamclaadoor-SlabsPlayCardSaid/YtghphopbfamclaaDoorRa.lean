/- The chapter's own slab, as a plain list of numbers and things: what Put, Set, Free do to it. -/
import Derived.Test.YtghphopbfamclaaDoorJ
namespace Go.Proofs.YtghphopbfamclaaDoor
open Go.RowKit

/-- The chapter's list: the numbers that are taken, rising, with their things. -/
def refL (room : Nat) (U : Nat → Bool) (V : Nat → Nat) : List (Nat × Nat) := (nums room U).map fun n => (n, V n)

theorem refL_len (room : Nat) (U : Nat → Bool) (V : Nat → Nat) : (refL room U V).length = cnt room U := by simp [refL, cnt]

theorem refL_fst (room : Nat) (U : Nat → Bool) (V : Nat → Nat) : (refL room U V).map Prod.fst = nums room U := by
  unfold refL; rw [List.map_map]; simp [Function.comp_def]

theorem refL_congr {room : Nat} {U : Nat → Bool} {V W : Nat → Nat} (h : ∀ j, j < room → U j = true → V j = W j) : refL room U V = refL room U W := by
  unfold refL
  refine List.map_congr_left fun n hn => ?_
  unfold nums at hn
  rw [List.mem_filter, List.mem_range] at hn
  rw [h n hn.1 hn.2]

def numsFrom (a k : Nat) (U : Nat → Bool) : List Nat := (List.range' a k).filter U

theorem nums_split {room n : Nat} (U : Nat → Bool) (h : n ≤ room) : nums room U = nums n U ++ numsFrom n (room - n) U := by
  unfold nums numsFrom
  rw [← List.filter_append]
  congr 1
  rw [List.range_eq_range', List.range_eq_range']
  have := List.range'_append (s := 0) (m := n) (n := room - n) (step := 1)
  rw [← show n + (room - n) = room by omega]
  simpa using this.symm

theorem numsFrom_cons {a k : Nat} (U : Nat → Bool) : numsFrom a (k + 1) U = (if U a then [a] else []) ++ numsFrom (a + 1) k U := by
  unfold numsFrom
  rw [List.range'_succ, List.filter_cons]
  cases U a <;> simp

theorem numsFrom_congr {a k : Nat} {U W : Nat → Bool} (h : ∀ j, a ≤ j → j < a + k → U j = W j) : numsFrom a k U = numsFrom a k W := by
  unfold numsFrom
  exact List.filter_congr fun j hj => by
    rw [List.mem_range'_1] at hj
    exact h j hj.1 hj.2

/-- The list around a number. -/
theorem nums_at {room n : Nat} (U : Nat → Bool) (h : n < room) : nums room U = nums n U ++ ((if U n then [n] else []) ++ numsFrom (n + 1) (room - n - 1) U) := by
  obtain ⟨d, hd⟩ : ∃ d, room - n = d + 1 := ⟨room - n - 1, by omega⟩
  rw [nums_split U (Nat.le_of_lt h), hd, numsFrom_cons, Nat.add_sub_cancel]

/-- The number's place. -/
theorem refL_at {room n : Nat} {U : Nat → Bool} {V : Nat → Nat} (h : n < room) (hu : U n = true) :
    ∃ L1 L2, refL room U V = L1 ++ (n, V n) :: L2 ∧ L1.length = cnt n U ∧ (∀ q ∈ L1, q.1 < n) ∧ (∀ q ∈ L2, n < q.1) ∧
      (∀ x, refL room U (upd V n x) = L1 ++ (n, x) :: L2) ∧ refL room (upd U n false) V = L1 ++ L2 := by
  have e := nums_at U h
  rw [hu] at e
  simp only [if_true, List.singleton_append] at e
  have hlo : ∀ q ∈ nums n U, q < n := fun q hq => by
    unfold nums at hq
    exact List.mem_range.1 (List.mem_filter.1 hq).1
  have hhi : ∀ q ∈ numsFrom (n + 1) (room - n - 1) U, n < q := fun q hq => by
    unfold numsFrom at hq
    have := (List.mem_range'_1.1 (List.mem_filter.1 hq).1).1
    omega
  refine ⟨(nums n U).map fun m => (m, V m), (numsFrom (n + 1) (room - n - 1) U).map fun m => (m, V m), ?_, by simp [cnt], ?_, ?_, fun x => ?_, ?_⟩
  · unfold refL; rw [e]; simp
  · intro q hq
    obtain ⟨m, hm, rfl⟩ := List.mem_map.1 hq
    exact hlo m hm
  · intro q hq
    obtain ⟨m, hm, rfl⟩ := List.mem_map.1 hq
    exact hhi m hm
  · unfold refL; rw [e, List.map_append, List.map_cons, upd_same]
    congr 1
    · exact List.map_congr_left fun m hm => by rw [upd_other _ _ (by have := hlo m hm; omega)]
    · congr 1
      exact List.map_congr_left fun m hm => by rw [upd_other _ _ (by have := hhi m hm; omega)]
  · have e2 := nums_at (upd U n false) h
    rw [upd_same] at e2
    simp only [Bool.false_eq_true, if_false, List.nil_append] at e2
    unfold refL
    rw [e2, nums_congr (W := U) fun j hj => upd_other U false (by omega), numsFrom_congr (W := U) fun j h1 h2 => upd_other U false (by omega), List.map_append]

theorem nums_all {n : Nat} {U : Nat → Bool} (h : ∀ j, j < n → U j = true) : nums n U = List.range n := by
  unfold nums
  rw [List.filter_eq_self]
  intro j hj
  exact h j (List.mem_range.1 hj)

/-- Where a thing more goes: the least number that none has. -/
theorem refL_put {room n : Nat} {U : Nat → Bool} {V : Nat → Nat} (h : n < room) (hset : ∀ j, j < n → U j = true) (hun : U n = false) :
    n ≤ cnt room U ∧ (∀ j, j < n → (refL room U V)[j]? = some (j, V j)) ∧ (∀ q, (refL room U V)[n]? = some q → n < q.1) ∧
      ∀ x, refL room (upd U n true) (upd V n x) = (refL room U V).take n ++ [(n, x)] ++ (refL room U V).drop n := by
  have e := nums_at U h
  rw [hun] at e
  simp only [Bool.false_eq_true, if_false, List.nil_append] at e
  have el := nums_all hset
  rw [el] at e
  have hhi : ∀ q ∈ numsFrom (n + 1) (room - n - 1) U, n < q := fun q hq => by
    unfold numsFrom at hq
    have := (List.mem_range'_1.1 (List.mem_filter.1 hq).1).1
    omega
  have hL : refL room U V = ((List.range n).map fun m => (m, V m)) ++ (numsFrom (n + 1) (room - n - 1) U).map fun m => (m, V m) := by
    unfold refL; rw [e, List.map_append]
  have hl : ((List.range n).map fun m => (m, V m)).length = n := by simp
  refine ⟨?_, ?_, ?_, fun x => ?_⟩
  · rw [← refL_len room U V, hL, List.length_append, hl]; omega
  · intro j hj
    rw [hL, List.getElem?_append_left (by omega), List.getElem?_map, List.getElem?_range hj]; rfl
  · intro q hq
    rw [hL, List.getElem?_append_right (by omega), hl, Nat.sub_self] at hq
    obtain ⟨m, hm, rfl⟩ := List.mem_map.1 (List.mem_of_getElem? hq)
    exact hhi m hm
  · have e2 := nums_at (upd U n true) h
    rw [upd_same] at e2
    simp only [if_true, List.singleton_append] at e2
    rw [hL, List.take_left' hl, List.drop_left' hl]
    unfold refL
    rw [e2, nums_all (fun j hj => by rw [upd_other U true (by omega)]; exact hset j hj), numsFrom_congr (W := U) fun j h1 h2 => upd_other U true (by omega), List.map_append, List.map_cons, upd_same, List.append_assoc, List.singleton_append]
    congr 1
    · exact List.map_congr_left fun m hm => by rw [upd_other _ _ (by have := List.mem_range.1 hm; omega)]
    · congr 1
      exact List.map_congr_left fun m hm => by rw [upd_other _ _ (by have := hhi m hm; omega)]

/-- The least number that none has. -/
theorem least_free : ∀ {room : Nat} {U : Nat → Bool}, cnt room U < room → ∃ n, n < room ∧ (∀ j, j < n → U j = true) ∧ U n = false
  | 0, _, h => absurd h (Nat.not_lt_zero _)
  | room + 1, U, h => by
    by_cases hc : cnt room U < room
    · obtain ⟨n, h1, h2, h3⟩ := least_free hc
      exact ⟨n, by omega, h2, h3⟩
    · have hall : ∀ j, j < room → U j = true := by
        intro j hj
        cases hu : U j with
        | true => rfl
        | false => exact absurd (cnt_room hj hu) hc
      refine ⟨room, by omega, hall, ?_⟩
      cases hu : U room with
      | false => rfl
      | true =>
        have : cnt (room + 1) U = room + 1 := cnt_full fun j hj => by
          by_cases e : j = room
          · subst e; exact hu
          · exact hall j (by omega)
        omega

theorem all_of_full {room : Nat} {U : Nat → Bool} (h : room ≤ cnt room U) : ∀ j, j < room → U j = true := by
  intro j hj
  cases hu : U j with
  | true => rfl
  | false => have := cnt_room hj hu; omega

theorem refL_none {room : Nat} {U : Nat → Bool} {V : Nat → Nat} {n : Nat} (hu : U n = false) : ∀ q ∈ refL room U V, q.1 ≠ n := by
  intro q hq
  unfold refL nums at hq
  obtain ⟨m, hm, rfl⟩ := List.mem_map.1 hq
  rintro rfl
  rw [(List.mem_filter.1 hm).2] at hu
  cases hu

end Go.Proofs.YtghphopbfamclaaDoor
