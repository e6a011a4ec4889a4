/- Plain laws for SlabsFill: what is there, what was freed. -/
import Derived.Test.YtghphopbfamclaaDoorK
namespace Go.Proofs.YtghphopbfamclaaDoor
open Go.RowKit

/-- The numbers below i. -/
def below (i : Nat) : Nat → Bool := fun j => decide (j < i)

theorem below_zero : below 0 = fun _ => false := by funext j; simp [below]
theorem below_next (i : Nat) : upd (below i) i true = below (i + 1) := by
  funext j
  by_cases h : j = i
  · subst h; rw [upd_same]; simp [below]
  · rw [upd_other _ _ h]
    unfold below
    rw [decide_eq_decide]
    omega
theorem below_set {i : Nat} : ∀ j, j < i → below i j = true := fun _ h => decide_eq_true h
theorem below_at (i : Nat) : below i i = false := decide_eq_false (Nat.lt_irrefl _)

/-- What is there of n, where F are freed, and those below i are there anew. -/
def stay (n : Nat) (F : Nat → Bool) (i : Nat) : Nat → Bool := fun j => decide (j < n) && (!F j || decide (j < i))

theorem stay_none (n : Nat) : stay n (fun _ => false) 0 = below n := by funext j; simp [stay, below]
theorem stay_free {n k : Nat} {F : Nat → Bool} (hk : k < n) (hF : F k = false) : upd (stay n F 0) k false = stay n (upd F k true) 0 := by
  funext j
  by_cases h : j = k
  · subst h; rw [upd_same]; simp [stay, upd_same]
  · rw [upd_other _ _ h]; simp [stay, upd_other _ _ h]
theorem stay_put {n i : Nat} {F : Nat → Bool} (hi : i < n) : upd (stay n F i) i true = stay n F (i + 1) := by
  funext j
  by_cases h : j = i
  · subst h; rw [upd_same]; simp [stay, hi]
  · rw [upd_other _ _ h]
    unfold stay
    rw [show decide (j < i) = decide (j < i + 1) by rw [decide_eq_decide]; omega]
theorem stay_skip {n i : Nat} {F : Nat → Bool} (hF : F i = false) : stay n F i = stay n F (i + 1) := by
  funext j
  by_cases h : j = i
  · subst h; simp [stay, hF]
  · unfold stay
    rw [show decide (j < i) = decide (j < i + 1) by rw [decide_eq_decide]; omega]
theorem stay_set {n i : Nat} {F : Nat → Bool} (hi : i < n) : ∀ j, j < i → stay n F i j = true := fun j h => by
  simp [stay, h]; omega
theorem stay_at {n i : Nat} {F : Nat → Bool} (hF : F i = true) : stay n F i i = false := by simp [stay, hF]
theorem stay_all (n : Nat) (F : Nat → Bool) : ∀ j, j < n → stay n F n j = true := fun j h => by simp [stay, h]
theorem stay_has {n k : Nat} {F : Nat → Bool} (hk : k < n) : hasU (stay n F 0) (k : Int) = !F k := by
  simp [hasU, stay, hk]

theorem cnt_not (F : Nat → Bool) : ∀ n, cnt n (fun j => !F j) + cnt n F = n
  | 0 => rfl
  | n + 1 => by
    have := cnt_not F n
    unfold cnt at this ⊢
    rw [nums_succ, nums_succ, List.length_append, List.length_append]
    cases F n <;> simp <;> omega

theorem cnt_stay (n : Nat) (F : Nat → Bool) : cnt n (stay n F 0) = n - cnt n F := by
  have h1 : nums n (stay n F 0) = nums n (fun j => !F j) := nums_congr fun j hj => by simp [stay, hj]
  have h2 := cnt_not F n
  unfold cnt at h2 ⊢
  rw [h1]
  omega

theorem cnt_stay_all (n : Nat) (F : Nat → Bool) : cnt n (stay n F n) = n := cnt_full (stay_all n F)

/-- The list of the freed. -/
def marks (n : Nat) (F : Nat → Bool) : List Int := (List.range n).map fun j => if F j then 1 else 0

theorem marks_len (n : Nat) (F : Nat → Bool) : (marks n F).length = n := by simp [marks]
theorem marks_get {n j : Nat} (F : Nat → Bool) (h : j < n) : (marks n F)[j]? = some (if F j then 1 else 0) := by simp [marks, h]
theorem marks_set {n k : Nat} (F : Nat → Bool) : (icells .i64 (marks n F)).setIfInBounds k (.int .i64 1) = icells .i64 (marks n (upd F k true)) := by
  apply Array.ext_getElem?
  intro j
  rw [Array.getElem?_setIfInBounds, icells_get, icells_get]
  by_cases hj : j < n
  · rw [marks_get _ hj, marks_get _ hj]
    by_cases e : k = j
    · subst e
      rw [if_pos rfl, if_pos (by rw [size_icells, marks_len]; exact hj), upd_same]; rfl
    · rw [if_neg e, upd_other _ _ (fun e' => e e'.symm)]
  · have h1 : (marks n F)[j]? = none := List.getElem?_eq_none (by rw [marks_len]; omega)
    have h2 : (marks n (upd F k true))[j]? = none := List.getElem?_eq_none (by rw [marks_len]; omega)
    rw [h1, h2]
    by_cases e : k = j
    · subst e
      rw [if_pos rfl, if_neg (by rw [size_icells, marks_len]; omega)]; rfl
    · rw [if_neg e]

theorem marks_cell {w : World} {b n j : Nat} {F : Nat → Bool} {t : TypeId} (h : w.heap[b]? = some (.cells (icells .i64 (marks n F)) t)) (hj : j < n) : w.cell? ⟨b, j, none⟩ = some (.int .i64 (if F j then 1 else 0)) := by
  simp only [World.cell?, h]
  rw [if_neg (by simp), icells_get, marks_get _ hj]
  rfl

set_option linter.unusedSimpArgs false in
theorem marks_none (n : Nat) : marks n (fun _ => false) = List.replicate n 0 := by
  unfold marks
  apply List.ext_getElem?
  intro j
  by_cases h : j < n <;> simp [List.getElem?_replicate, h]

/-- The x + i of a word. -/
def plus (x i : Nat) : Nat := (x + i) % 18446744073709551616

theorem plus_wrap (x i : Nat) : IntKind.u64.wrap ((x : Int) + (i : Int)) = ((plus x i : Nat) : Int) := by
  rw [IntKind.wrap_u64]; unfold plus; omega
theorem plus_lt (x i : Nat) : plus x i < 18446744073709551616 := Nat.mod_lt _ (by decide)

theorem made_icells (n : Nat) : madeCells #[.int .i64 0] n = icells .i64 (List.replicate n 0) := by
  apply Array.ext'
  rw [toList_madeCells_one]
  simp [icells, List.map_replicate]

theorem exec_make_ints {P : Program} {a : Act} {w : World} {o : Oper} {x : Operand} {t : TypeId} {n : Nat} (ho : o.op = .makeSlice t x x) (hx : a.eval x = .int .i64 (n : Int)) (ht : P.underlying t = some (.slice 3)) (hi : (P.info? 3).map (fun i => (i.zero, i.size, i.bytes)) = some (some (.int .i64 0), 1, 8)) (hn : n ≤ 4096) :
    (execOp a.eval o).run P w = .ok (.value (.slice (some ⟨w.heap.size, 0, none⟩) n n)) (w.alloc (.cells (icells .i64 (List.replicate n 0)) 3)) := by
  obtain ⟨i, h1, h2, h3, h4⟩ := info_parts hi
  have := run_make (P := P) w t 3 i (.int .i64 0) ht h1 h2 .i64 .i64 (n : Int) (n : Int) (by omega) (by omega) (by rw [h4]; omega) (by omega)
  rw [h3, Int.toNat_natCast, Nat.mul_one] at this
  unfold execOp
  simp only [ho, hx]
  simp only [Sem.run_bind, this, Result.andThen_ok, Sem.run_pure]
  rw [show (Value.int IntKind.i64 0).cells = #[.int .i64 0] from rfl, made_icells]

section
variable {w0 w : World} {p bt bu room : Nat} {U : Nat → Bool} {V : Nat → Nat}
theorem held_putT (h : Held w0 w p bt bu room U V) (x n : Nat) (hn : n < room) (hset : ∀ j, j < n → U j = true) (hun : U n = false) : Calls Tryd.prog 7 #[.pointer (some ⟨p, 0, none⟩), .int .u64 (x : Int)] w fun e w' =>
    e = .returned (.tuple #[.int .i64 (n : Int), .int .i64 0]) ∧ Held w0 w' p bt bu room (upd U n true) (upd V n x) ∧ Turned w w' p bt bu :=
  (put_law h.slab h.tabAt (by have := h.q1; have := h.pos; omega) (by have := h.q2; have := h.pos; omega) (by have := h.q3; have := h.pos; omega) x n hn hset hun).mono fun _ _ ⟨h1, h2, h3⟩ => ⟨h1, h.turned h2 h3, h3⟩
theorem held_freeT (h : Held w0 w p bt bu room U V) (n : Int) : Calls Tryd.prog 10 #[.pointer (some ⟨p, 0, none⟩), .int .i64 n] w fun e w' =>
    e = .returned (.int .i64 (if hasU U n then 0 else 11)) ∧ Held w0 w' p bt bu room (if hasU U n then upd U n.toNat false else U) V ∧ Turned w w' p bt bu :=
  (free_law h.slab n).mono fun _ _ ⟨h1, h2, h3⟩ => ⟨h1, h.turned h2 h3, h3⟩
end

theorem free_first {w0 w : World} {p bt bu n k : Nat} {F : Nat → Bool} {V : Nat → Nat} (h : Held w0 w p bt bu n (stay n F 0) V) (hk : k < n) (hF : F k = false) : Calls Tryd.prog 10 #[.pointer (some ⟨p, 0, none⟩), .int .i64 (k : Int)] w fun e w' =>
    e = .returned (.int .i64 0) ∧ Held w0 w' p bt bu n (stay n (upd F k true) 0) V ∧ Turned w w' p bt bu := by
  refine (held_freeT h k).mono ?_
  rw [stay_has hk, hF, Int.toNat_natCast, ← stay_free hk hF]
  exact fun _ _ h => h
theorem free_again {w0 w : World} {p bt bu n k : Nat} {F : Nat → Bool} {V : Nat → Nat} (h : Held w0 w p bt bu n (stay n F 0) V) (hk : k < n) (hF : F k = true) : Calls Tryd.prog 10 #[.pointer (some ⟨p, 0, none⟩), .int .i64 (k : Int)] w fun e w' =>
    e = .returned (.int .i64 11) ∧ Held w0 w' p bt bu n (stay n F 0) V ∧ Turned w w' p bt bu := by
  refine (held_freeT h k).mono ?_
  rw [stay_has hk, hF]
  exact fun _ _ h => h
theorem cnt_none (n : Nat) : cnt n (fun _ => false) = 0 := by simp [cnt, nums]

theorem cell_keep {w w' : World} {b j : Nat} {v : Option Value} (he : w'.heap[b]? = w.heap[b]?) (h : w.cell? ⟨b, j, none⟩ = v) : w'.cell? ⟨b, j, none⟩ = v := by
  rw [← h]; simp only [World.cell?, he]
theorem Held.wrote {w0 w w' : World} {p bt bu n b : Nat} {U : Nat → Bool} {V : Nat → Nat} (h : Held w0 w p bt bu n U V) (hW : Wrote w w' b) (h1 : b ≠ p) (h2 : b ≠ bt) (h3 : b ≠ bu) (h4 : w0.heap.size ≤ b) : Held w0 w' p bt bu n U V := by
  obtain ⟨ws, X, hs⟩ := h.slab
  exact ⟨⟨ws, X, ⟨(hW.block _ (Ne.symm h1)).trans hs.mem.head, (hW.block _ (Ne.symm h2)).trans hs.mem.things, (hW.block _ (Ne.symm h3)).trans hs.mem.used, hs.mem.lenX, hs.mem.lenW, hs.mem.small, hs.mem.least, hs.mem.most⟩, hs.apart, hs.bits, hs.out, hs.vals⟩, hW.below h.below h4, h.q1, h.q2, h.q3, h.tab, h.pos⟩
theorem get_stay {w0 w : World} {p bt bu n k : Nat} {F : Nat → Bool} {V : Nat → Nat} (h : Held w0 w p bt bu n (stay n F 0) V) (hk : k < n) (hF : F k = false) : Calls Tryd.prog 8 #[.pointer (some ⟨p, 0, none⟩), .int .i64 (k : Int)] w fun e w' =>
    e = .returned (.tuple #[.int .u64 ((V k : Nat) : Int), .int .i64 0]) ∧ w = w' := by
  refine (get_law h.slab k).mono ?_
  rw [stay_has hk, hF, Int.toNat_natCast]
  exact fun _ _ h => h
theorem get_gone {w0 w : World} {p bt bu n k : Nat} {F : Nat → Bool} {V : Nat → Nat} (h : Held w0 w p bt bu n (stay n F 0) V) (hk : k < n) (hF : F k = true) : Calls Tryd.prog 8 #[.pointer (some ⟨p, 0, none⟩), .int .i64 (k : Int)] w fun e w' =>
    e = .returned (.tuple #[.int .u64 0, .int .i64 11]) ∧ w = w' := by
  refine (get_law h.slab k).mono ?_
  rw [stay_has hk, hF]
  exact fun _ _ h => h

/-- The cells of a slice of bytes. -/
def BytesAt (w : World) (ao : Option Addr) (G : List Nat) : Prop := ∀ j, j < G.length → ∃ b off, ao = some ⟨b, off, none⟩ ∧ b < w.heap.size ∧ w.cell? ⟨b, off + j, none⟩ = some (.int .u8 ((G.getD j 0 : Nat) : Int)) ∧ G.getD j 0 < 256

end Go.Proofs.YtghphopbfamclaaDoor
