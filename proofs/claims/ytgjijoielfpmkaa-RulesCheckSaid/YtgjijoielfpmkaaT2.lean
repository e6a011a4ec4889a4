/- Rows in a new block; a twin's room: laws. -/
import Derived.Test.YtgjijoielfpmkaaS1
set_option linter.unusedVariables false
namespace Go.Proofs.Ytgjijoielfpmkaa
open Go.RowKit

theorem rows_split {s : Nat} (hs : 0 < s) : ∀ (c : Nat) (l : List Value), l.length = c * s → ∃ L : List (Array Value), L.length = c ∧ (∀ R ∈ L, R.size = s) ∧ l = flat L
  | 0, l, h => by
    have h0 : l.length = 0 := by simpa using h
    rw [List.length_eq_zero_iff.1 h0]
    exact ⟨[], rfl, fun R hR => (by cases hR), rfl⟩
  | c + 1, l, h => by
    rw [Nat.add_mul, Nat.one_mul] at h
    obtain ⟨L, h1, h2, h3⟩ := rows_split hs c (l.drop s) (by simp; omega)
    refine ⟨(l.take s).toArray :: L, by simp [h1], fun R hR => ?_, ?_⟩
    · rcases List.mem_cons.1 hR with rfl | hR
      · simp; omega
      · exact h2 R hR
    · have : flat ((l.take s).toArray :: L) = l.take s ++ flat L := by simp [flat]
      rw [this, ← h3, List.take_append_drop]

theorem OwnAt.of_block {w : World} {base g c s : Nat} {e : TypeId} {C : Array Value} (hs : 0 < s) (hg : w.heap[g]? = some (.cells C e)) (hC : C.size = c * s) (hb : base ≤ g) (hc : c ≤ maxLen) :
    ∃ L, L.length = c ∧ OwnAt w base e s (.slice (some ⟨g, 0, none⟩) c c) L := by
  obtain ⟨L, h1, h2, h3⟩ := rows_split hs c C.toList (by simpa using hC)
  refine ⟨L, h1, ⟨⟨by rw [flat_length h2], .inr ⟨g, c, C, by rw [h1], hb, hg, by omega, hc, hC, ?_⟩⟩, h2⟩⟩
  rw [h1, ← h3, ← hC, ← Array.length_toList, List.take_length]

section
variable {ops : Array Oper} {Q : Exit → Act → World → Prop} {a : Act} {w : World} {rest : List Oper} {dst : Option Tmp} {x y : Operand} {ty : TypeId} {pos : String} {after : Array Edge}
theorem wl_makeRows {t e : TypeId} {z : Value} {s bytes c : Nat} (hx : a.eval x = .int .i64 (c : Int)) (ht : Try.prog.underlying t = some (.slice e)) (hi : (Try.prog.info? e).map (fun i => (i.zero, i.size, i.bytes)) = some (some z, s, bytes)) (hs : 0 < s) (hc : c < 5000) (hb : bytes ≤ 64)
    (K : ∀ g w1 L, OwnAt w1 w.heap.size e s (.slice (some ⟨g, 0, none⟩) c c) L → L.length = c → w.heap.size ≤ g → Below w.heap.size w w1 → wpList Try.prog ops Q rest (a.put dst (.slice (some ⟨g, 0, none⟩) c c)) w1) :
    wpList Try.prog ops Q (⟨dst, .makeSlice t x x, ty, pos, after, none⟩ :: rest) a w := by
  obtain ⟨i, h1, h2, h4, h3⟩ := info_parts hi
  have hbc : (bytes : Int) * (c : Int) ≤ 281474976710656 := by
    have : bytes * c ≤ 64 * 5000 := Nat.mul_le_mul hb (by omega)
    have h2 : ((bytes * c : Nat) : Int) ≤ 281474976710656 := by omega
    rwa [Int.natCast_mul] at h2
  have hr := run_make (P := Try.prog) w t e i z ht h1 h2 .i64 .i64 (c : Int) (c : Int) (by omega) (Int.le_refl _) (by rw [h3]; exact hbc) (by omega)
  rw [h4] at hr
  simp only [Int.toNat_natCast] at hr
  obtain ⟨L, hL, hO⟩ := OwnAt.of_block (w := w.alloc (.cells (madeCells z.cells (c * s)) e)) (base := w.heap.size) hs (heap_alloc_new w _) (size_madeCells _ _) (Nat.le_refl _) (by unfold maxLen; omega)
  refine wpList_run rfl ?_ (K _ _ L hO hL (Nat.le_refl _) ((Below.refl _ _).alloc (Nat.le_refl _) _))
  unfold execOp
  simp only [hx, Sem.run_bind, hr, Result.andThen_ok, Sem.run_pure]
end

/-- One more row of the block is as it should be. -/
theorem OwnAt.setRow {w w1 : World} {base e s g n c i : Nat} {L : List (Array Value)} {A C : Array Value} (h : OwnAt w base e s (.slice (some ⟨g, 0, none⟩) n c) L) (hi : i < L.length) (hs : 0 < s) (hA : A.size = s) (hg : w.heap[g]? = some (.cells C e))
    (h1 : w1.heap[g]? = some (.cells (Ytgjijoielfpmkaa.splice C (i * s) A) e)) : OwnAt w1 base e s (.slice (some ⟨g, 0, none⟩) n c) (L.set i A) := by
  have hB : L[i]? = some L[i] := List.getElem?_eq_getElem hi
  have := h.splice (o := 0) hB hs (by omega) hg h1
  rwa [splice_whole (by rw [hA, h.size _ (List.getElem_mem _)])] at this
theorem OwnAt.block {w : World} {base e s g n c : Nat} {L : List (Array Value)} (h : OwnAt w base e s (.slice (some ⟨g, 0, none⟩) n c) L) : ∃ C, w.heap[g]? = some (.cells C e) ∧ L.length * s ≤ C.size ∧ base ≤ g ∧ n = L.length := by
  rcases h.own.2 with ⟨h1, _⟩ | ⟨g1, c1, cur, e1, e2, e3, e4, e5, e6, e7⟩
  · cases h1
  · simp only [Value.slice.injEq, Option.some.injEq, Addr.mk.injEq, and_true] at e1
    obtain ⟨rfl, rfl, rfl⟩ := e1
    exact ⟨cur, e3, by rw [e6]; exact Nat.mul_le_mul_right s e4, e2, rfl⟩

/-- A list's first i rows are those. -/
def Upto (L D : List (Array Value)) (i : Nat) : Prop := ∀ j, j < i → L[j]? = D[j]?
theorem Upto.zero (L D : List (Array Value)) : Upto L D 0 := fun j hj => absurd hj (Nat.not_lt_zero _)
theorem Upto.set {L D : List (Array Value)} {i : Nat} {A : Array Value} (h : Upto L D i) (hi : i < L.length) (hA : D[i]? = some A) : Upto (L.set i A) D (i + 1) := fun j hj => by
  by_cases e : j = i
  · subst e; rw [List.getElem?_set_self hi, hA]
  · rw [List.getElem?_set_ne (fun h => e h.symm)]; exact h j (by omega)
theorem Upto.all {L D : List (Array Value)} (h : Upto L D D.length) (hl : L.length = D.length) : L = D := by
  apply List.ext_getElem?
  intro j
  by_cases hj : j < D.length
  · exact h j hj
  · rw [List.getElem?_eq_none (by omega), List.getElem?_eq_none (by omega)]
/-- What a twin's block holds: the rows, and three marks. -/
def room (D : List (Array Value)) (M : Array Value) : List (Array Value) := D ++ [M, M, M]
theorem room_length (D : List (Array Value)) (M : Array Value) : (room D M).length = D.length + 3 := by simp [room]
theorem room_low {D : List (Array Value)} {M : Array Value} {j : Nat} (hj : j < D.length) : (room D M)[j]? = D[j]? := by
  unfold room; rw [List.getElem?_append_left hj]
theorem room_high {D : List (Array Value)} {M : Array Value} {j : Nat} (h1 : D.length ≤ j) (h2 : j < D.length + 3) : (room D M)[j]? = some M := by
  unfold room
  rw [List.getElem?_append_right h1]
  obtain ⟨k, rfl⟩ : ∃ k, j = D.length + k := ⟨j - D.length, by omega⟩
  rw [Nat.add_sub_cancel_left]
  match k, h2 with
  | 0, _ => rfl
  | 1, _ => rfl
  | 2, _ => rfl
  | k + 3, h => omega

def bcells (A : List Nat) : List (Array Value) := A.map fun (q : Nat) => (#[Value.int .u8 (q : Int)] : Array Value)
theorem i5 : (Try.prog.info? 5).map (fun i => (i.zero, i.size, i.bytes)) = some (some (.int .u8 0), 1, 1) := by kernel_rfl
theorem und42 : Try.prog.underlying 42 = some (.slice 5) := by kernel_rfl
theorem pos1 : 0 < 1 := by decide
theorem le1 : 1 ≤ 64 := by decide
theorem le32' : 32 ≤ 64 := by decide
theorem fit {i n s z : Nat} (h : i < n) (hz : n * s ≤ z) : i * s + s ≤ z := by
  have : (i + 1) * s ≤ n * s := Nat.mul_le_mul_right s h
  rw [Nat.add_mul, Nat.one_mul] at this
  omega
end Go.Proofs.Ytgjijoielfpmkaa
