/- Elements of a slice of one's own written; other signatures, other data: plain laws. -/
import Derived.Test.YtgjijoielfpmkaaQ
import Derived.Laws.CopyRow
set_option linter.unusedVariables false
namespace Go.Proofs.Ytgjijoielfpmkaa
open Go.RowKit

/-! ### Elements written -/
section
variable {w w1 : World} {base : Nat} {e : TypeId} {s : Nat}
theorem OwnAt.at_ {v : Value} {D : List (Array Value)} (h : OwnAt w base e s v D) (h0 : 0 < D.length) : ∃ g c C, v = .slice (some ⟨g, 0, none⟩) D.length c ∧ base ≤ g ∧ w.heap[g]? = some (.cells C e) ∧ D.length * s ≤ C.size := by
  rcases h.form with ⟨_, rfl⟩ | ⟨g, c, cur, e1, e2, e3, e4, e5, e6, e7⟩
  · exact absurd h0 (by simp)
  · exact ⟨g, c, cur, e1, e2, e3, by rw [e4]; exact Nat.mul_le_mul_right s e5⟩

theorem OwnAt.splice {n c g i o : Nat} {D : List (Array Value)} {A C B : Array Value} (h : OwnAt w base e s (.slice (some ⟨g, 0, none⟩) n c) D) (hi : D[i]? = some B) (hs : 0 < s) (ho : o + A.size ≤ s) (hg : w.heap[g]? = some (.cells C e))
    (h1 : w1.heap[g]? = some (.cells (splice C (i * s + o) A) e)) : OwnAt w1 base e s (.slice (some ⟨g, 0, none⟩) n c) (D.set i (Ytgjijoielfpmkaa.splice B o A)) := by
  have hil := (List.getElem?_eq_some_iff.1 hi).1
  have hB := h.size B (List.mem_of_getElem? hi)
  have hspl : (Ytgjijoielfpmkaa.splice B o A).size = s := by rw [size_splice (by omega), hB]
  have hsz : ∀ X ∈ D.set i (Ytgjijoielfpmkaa.splice B o A), X.size = s := fun X hX => by
    rcases List.mem_or_eq_of_mem_set hX with hX | rfl
    · exact h.size X hX
    · exact hspl
  have hn := h.own.1
  rcases h.own.2 with ⟨h2, _⟩ | ⟨g', c', cur, e1, e2, e3, e4, e5, e6, e7⟩
  · cases h2
  simp only [Value.slice.injEq, Option.some.injEq, Addr.mk.injEq, and_true] at e1
  obtain ⟨rfl, rfl, rfl⟩ := e1
  rw [hg] at e3
  simp only [Option.some.injEq, Obj.cells.injEq, and_true] at e3
  obtain rfl := e3
  have hfit : i * s + o + A.size ≤ C.size := by
    have : (i + 1) * s ≤ c * s := Nat.mul_le_mul_right s (by omega)
    rw [Nat.add_mul] at this
    omega
  refine ⟨⟨by rw [flat_length hsz, List.length_set], .inr ⟨g, c, _, by rw [List.length_set], e2, h1, by rw [List.length_set]; exact e4, e5, by rw [size_splice hfit, e6], ?_⟩⟩, hsz⟩
  rw [List.length_set]
  apply List.ext_getElem?
  intro m
  by_cases hm : m < D.length * s
  · have hq : m / s < D.length := Nat.div_lt_of_lt_mul (by rw [Nat.mul_comm]; exact hm)
    have hr : m % s < s := Nat.mod_lt _ hs
    have he : m / s * s + m % s = m := by rw [Nat.mul_comm]; exact Nat.div_add_mod m s
    generalize m / s = q at hq he
    generalize m % s = r at hr he
    subst he
    rw [List.getElem?_take_of_lt hm, Array.getElem?_toList]
    have hold : C[q * s + r]? = (D[q]'hq)[r]? := by
      have hf := flat_get h.size (List.getElem?_eq_getElem hq) hr
      rw [← e7, List.getElem?_take_of_lt hm, Array.getElem?_toList] at hf
      exact hf
    by_cases hqi : q = i
    · subst hqi
      have hDq : (D.set q (Ytgjijoielfpmkaa.splice B o A))[q]? = some (Ytgjijoielfpmkaa.splice B o A) := by rw [List.getElem?_set_self hq]
      rw [flat_get hsz hDq hr]
      have hBq : D[q]'hq = B := by
        have := List.getElem?_eq_getElem hq
        rw [hi] at this
        exact (Option.some.inj this).symm
      rw [hBq] at hold
      by_cases hin : o ≤ r ∧ r < o + A.size
      · obtain ⟨z, rfl⟩ : ∃ z, r = o + z := ⟨r - o, by omega⟩
        rw [splice_in (by omega) (by omega), ← Nat.add_assoc, splice_in hfit (by omega)]
      · rw [splice_out hfit (by omega), splice_out (by omega) (by omega), hold]
    · have hDq : (D.set i (Ytgjijoielfpmkaa.splice B o A))[q]? = some (D[q]'hq) := by rw [List.getElem?_set_ne (fun e => hqi e.symm), List.getElem?_eq_getElem hq]
      rw [flat_get hsz hDq hr, splice_out hfit ?_, hold]
      rcases Nat.lt_or_gt_of_ne hqi with hlt | hgt
      · left
        have : (q + 1) * s ≤ i * s := Nat.mul_le_mul_right s (by omega)
        rw [Nat.add_mul] at this
        omega
      · right
        have : (i + 1) * s ≤ q * s := Nat.mul_le_mul_right s (by omega)
        rw [Nat.add_mul] at this
        omega
  · rw [List.getElem?_eq_none (by simp; omega), List.getElem?_eq_none (by rw [flat_length hsz, List.length_set]; omega)]

/-- Rows of one's own, behind a store into a block of another type. -/
theorem OwnAt.keepW {t g : Nat} {v : Value} {D : List (Array Value)} {C : Array Value} (h : OwnAt w base e s v D) (hW : Wrote w w1 g) (hg : w.heap[g]? = some (.cells C t)) (hne : t ≠ e) : OwnAt w1 base e s v D := by
  refine ⟨⟨h.own.1, ?_⟩, h.size⟩
  rcases h.own.2 with h1 | ⟨g1, c1, cur1, e1, e2, e3, e4⟩
  · exact .inl h1
  · have hn : g1 ≠ g := by
      intro e
      rw [e, hg] at e3
      simp only [Option.some.injEq, Obj.cells.injEq] at e3
      exact hne e3.2.1
    exact .inr ⟨g1, c1, cur1, e1, e2, (hW.block g1 hn).trans e3, e4⟩
end

/-! ### Single operations -/
section
variable {ops : Array Oper} {Q : Exit → Act → World → Prop} {a : Act} {w : World} {rest : List Oper} {dst : Option Tmp} {x y : Operand} {ty : TypeId} {pos : String} {after : Array Edge}
theorem u49 : Try.prog.underlying 49 = some (.array 64 5) := by kernel_rfl
theorem und49 : Try.prog.underlying 49 = some (.array 64 5) := u49
theorem s49 : (Try.prog.info? 49).map (·.size) = some 64 := by kernel_rfl
theorem und22 : Try.prog.underlying 22 = some (.slice 49) := by kernel_rfl
theorem wl_box49 {k : List Int} (hx : a.eval x = kv k)
    (K : ∀ b w1, w1.heap[b]? = some (.cells (icells .u8 k) 49) → w.heap.size ≤ b → Below w.heap.size w w1 → wpList Try.prog ops Q rest (a.put dst (.pointer (some ⟨b, 0, none⟩))) w1) :
    wpList Try.prog ops Q (⟨dst, .box 49 x, ty, pos, after, none⟩ :: rest) a w :=
  wpList_run rfl (exec_box rfl hx rfl) (K _ _ (heap_alloc_new w _) (Nat.le_refl _) ((Below.refl _ _).alloc (Nat.le_refl _) _))
theorem wl_load49 {b off : Nat} {k : List Int} (hx : a.eval x = .pointer (some ⟨b, off, none⟩)) (hr : RowAt w b off (icells .u8 k)) (hl : k.length = 64) (K : wpList Try.prog ops Q rest (a.put dst (kv k)) w) :
    wpList Try.prog ops Q (⟨dst, .load 49 x, ty, pos, after, none⟩ :: rest) a w :=
  wpList_run rfl (exec_load_sub rfl hx hr u49 rfl (by rw [size_icells, hl]; exact s49)) K
/-- A whole row written into a block. -/
theorem wl_storeRow {t n b off : Nat} {A C : Array Value} {p : Operand} (hp : a.eval p = .pointer (some ⟨b, off, none⟩)) (hx : a.eval x = .agg A) (hg : w.heap[b]? = some (.cells C t)) (hfit : off + n ≤ C.size) (hA : A.size = n) (h1 : ∀ v ∈ A.toList, v.oneCell' = true)
    (hi : (Try.prog.info? t).map (·.size) = some n) (K : ∀ w1, w1.heap[b]? = some (.cells (splice C off A) t) → Wrote w w1 b → wpList Try.prog ops Q rest (a.put dst undef) w1) :
    wpList Try.prog ops Q (⟨dst, .store t p x, ty, pos, after, none⟩ :: rest) a w := by
  refine wpList_runSkip rfl (exec_store_sub (t := t) (C := C) (A := A) rfl hp hx rfl hg (by omega) h1 (by rw [hA]; exact hi)) (K _ ?_ (Wrote.setRow _ _ _))
  exact setRow_heap w b C _ t _ hg
end

/-! ### Plain -/
/-- Other signatures, other data, another recent hash, another kind. -/
def withSigs (X : Tx) (sa : Option Addr) (SG : List (List Int)) (sc : Nat) : Tx := { X with sa := sa, SG := SG, sc := sc }
def withR (X : Tx) (R : List Int) : Tx := { X with R := R }
def withV (X : Tx) (v : Bool) : Tx := { X with v0 := v }
def Ins.data (i : Ins) (da : Option Addr) (D : List Nat) (dc : Nat) : Ins := { i with da := da, D := D, dc := dc }

theorem withSigs_cells {X : Tx} (hR : X.R.length = 32) (sa : Option Addr) (SG : List (List Int)) (sc : Nat) : X.cells.setIfInBounds 0 (.slice sa SG.length sc) = (withSigs X sa SG sc).cells := Tx.setSigs hR sa SG sc
theorem withV_cells {X : Tx} (hR : X.R.length = 32) (v : Bool) : X.cells.setIfInBounds 1 (.bool v) = (withV X v).cells := Tx.setV0 hR v
theorem withR_cells {X : Tx} (hR : X.R.length = 32) {R : List Int} (h : R.length = 32) : splice X.cells 6 (icells .u8 R) = (withR X R).cells := by
  have hs : 6 + (icells .u8 R).size ≤ X.cells.size := by rw [size_icells, h, Tx.size hR]; decide
  apply Array.ext_getElem?
  intro j
  rw [Tx.get (X := withR X R) h]
  by_cases hin : 6 ≤ j ∧ j < 38
  · obtain ⟨z, rfl⟩ : ∃ z, j = 6 + z := ⟨j - 6, by omega⟩
    rw [splice_in hs (by rw [size_icells, h]; omega)]
    rw [if_neg (by omega), if_neg (by omega), if_neg (by omega), if_neg (by omega), if_neg (by omega), if_neg (by omega), if_pos (by omega)]
    simp [withR]
  · rw [splice_out hs (by rw [size_icells, h]; omega), Tx.get hR]
    by_cases e0 : j = 0
    · subst e0; rfl
    by_cases e1 : j = 1
    · subst e1; rfl
    by_cases e2 : j = 2
    · subst e2; rfl
    by_cases e3 : j = 3
    · subst e3; rfl
    by_cases e4 : j = 4
    · subst e4; rfl
    by_cases e5 : j = 5
    · subst e5; rfl
    simp only [e0, e1, e2, e3, e4, e5, show ¬ j < 38 by omega, if_false]
    rfl

theorem data_bad (i : Ins) (da : Option Addr) (D : List Nat) (dc keys all : Nat) : (i.data da D dc).bad keys all = i.bad keys all := rfl
theorem any_map_same {α : Type} {f : α → Bool} {g : α → α} (h : ∀ x, f (g x) = f x) (l : List α) : (l.map g).any f = l.any f := by
  induction l with
  | nil => rfl
  | cons x l ih => simp [h, ih]

/-- They make no difference. -/
theorem chk_other (X : Tx) (sa : Option Addr) (SG : List (List Int)) (sc : Nat) (hl : SG.length = X.SG.length) (ia : Option Addr) (ic : Nat) (da : Option Addr) (D : List Nat) (dc : Nat) (R : List Int) (v : Bool) :
    chk (withV (withR (withIns (withSigs X sa SG sc) ia (X.I.map fun i => i.data da D dc) ic) R) v) = chk X := by
  have e1 : sgn (withV (withR (withIns (withSigs X sa SG sc) ia (X.I.map fun i => i.data da D dc) ic) R) v) = sgn X := by
    unfold sgn Tx.sl
    show (decide (0 < X.hs) && decide (SG.length = X.hs)) = _
    rw [hl]
  have e5 : pointd (withV (withR (withIns (withSigs X sa SG sc) ia (X.I.map fun i => i.data da D dc) ic) R) v) = pointd X := by
    unfold pointd
    show (!(X.I.map fun i => i.data da D dc).any (Ins.bad X.K.length (tot X))) = _
    rw [any_map_same (fun i => data_bad i da D dc _ _)]
  unfold chk
  rw [e1, e5]
  rfl
/-- A signature more. -/
theorem chk_sig {X : Tx} (h : chk X = 0) {Y : Tx} (hh : Y.hs = X.hs) (hl : Y.sl = X.sl + 1) : chk Y = 6 := by
  have F := fine h
  have e1 : sgn Y = false := by
    unfold sgn
    have := F.sg
    simp; omega
  unfold chk
  simp [e1]
/-- The first key once more. -/
theorem chk_twice {X : Tx} (h : chk X = 0) {k : List Int} (hk : k ∈ X.K) (ka : Option Addr) (kc : Nat) : chk (withKeys X ka (X.K ++ [k]) kc) = if tot X = 64 then 3 else 9 := by
  obtain ⟨h1, h2, h3, h4, h5, h6⟩ := chk_zero.1 h
  have F := fine h
  have e1 : sgn (withKeys X ka (X.K ++ [k]) kc) = true := h1
  have e2 : hdr (withKeys X ka (X.K ++ [k]) kc) = true := by
    unfold hdr withKeys
    have := F.so
    have := F.rs
    simp; omega
  have e3 : lookd (withKeys X ka (X.K ++ [k]) kc) = true := h3
  have e5 : pointd (withKeys X ka (X.K ++ [k]) kc) = true := by
    unfold pointd
    rw [tot_addKey]
    rw [show (withKeys X ka (X.K ++ [k]) kc).I = X.I from rfl, show (withKeys X ka (X.K ++ [k]) kc).K = X.K ++ [k] from rfl]
    rw [any_false_of (fun i hi => ?_)]
    · rfl
    obtain ⟨a, b, c⟩ := F.ins i hi
    exact bad_false a (by simp; omega) (fun q hq => by have := c q hq; omega)
  have e6 : onc (withKeys X ka (X.K ++ [k]) kc) = false := by
    unfold onc withKeys
    simp only [decide_eq_false_iff_not]
    intro hn
    exact absurd rfl ((List.nodup_append.1 hn).2.2 k hk k (List.mem_singleton.2 rfl))
  unfold chk
  simp only [e1, e2, e3, e5, e6]
  have hf := F.few
  by_cases h64 : tot X = 64
  · have e4 : few (withKeys X ka (X.K ++ [k]) kc) = false := by
      unfold few
      rw [tot_addKey]
      simp; omega
    simp [e4, h64]
  · have e4 : few (withKeys X ka (X.K ++ [k]) kc) = true := by
      unfold few
      rw [tot_addKey]
      simp; omega
    simp [e4, h64]
end Go.Proofs.Ytgjijoielfpmkaa
