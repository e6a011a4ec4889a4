/- lives: what its four examples are. -/
import Derived.Test.YtgjijoielfpmkaaM0
set_option linter.unusedVariables false
namespace Go.Proofs.Ytgjijoielfpmkaa
open Go.RowKit

/-- What a call of example gave. -/
structure ExOut (w w' : World) (X : Tx) (s k i a : Nat) : Prop where
  x : X = exTx s k i a 1 0
  at_ : ExAt w' s k i a 1 0
  fs : w.heap.size ≤ s
  fk : w.heap.size ≤ k
  fi : w.heap.size ≤ i
  fa : w.heap.size ≤ a
  sk : s ≠ k
  si : s ≠ i
  sa : s ≠ a
  ki : k ≠ i
  ka : k ≠ a
  ia : i ≠ a
  below : Below w.heap.size w w'
/-- A transaction in a variable. -/
structure Got (w : World) (g : Nat) (X : Tx) : Prop where
  h : w.heap[g]? = some (.cells X.cells 33)
  T : TxAt w X
theorem Got.keep {w w' : World} {g : Nat} {X : Tx} (h : Got w g X) (hb : Below w.heap.size w w') : Got w' g X :=
  ⟨(hb.block g (Array.getElem?_eq_some_iff.1 h.h).1).trans h.h, h.T.keep hb⟩
theorem Got.row {w : World} {g : Nat} {X : Tx} (h : Got w g X) : RowAt w g 0 X.cells := txRow h.h
/-- An example in a variable. -/
structure Ex2 (w w' : World) (X : Tx) (s k i a g : Nat) : Prop where
  o : ExOut w w' X s k i a
  h : w'.heap[g]? = some (.cells X.cells 33)
  ls : s < g
  lk : k < g
  li : i < g
  la : a < g
theorem ExOut.R {w w' : World} {X : Tx} {s k i a : Nat} (h : ExOut w w' X s k i a) : X.R.length = 32 := by rw [h.x]; rfl
theorem ExOut.size {w w' : World} {X : Tx} {s k i a : Nat} (h : ExOut w w' X s k i a) : X.cells.size = 40 := Tx.size h.R

theorem Got.check {w : World} {g : Nat} {X : Tx} (h : Got w g X) {c n : Nat} (hc : chk X = c) (hn : tot X = n) (hb : n < 9223372036854775808) : Calls Try.prog 12 #[X.val] w fun e w' => e = .returned (.int .i64 (c : Int)) ∧ Below w.heap.size w w' := by
  rw [← hc]; exact check_any w h.T (by omega)
theorem Got.total {w : World} {g : Nat} {X : Tx} (h : Got w g X) {n : Nat} (hn : tot X = n) (hb : n < 9223372036854775808) : Calls Try.prog 10 #[X.val] w fun e w' => e = .returned (.int .i64 (n : Int)) ∧ Below w.heap.size w w' := by
  rw [← hn]; exact total_any w h.T (by omega)
theorem big2 : 2 < 9223372036854775808 := by decide
theorem big3 : 3 < 9223372036854775808 := by decide

theorem example_abs (w : World) : Calls Try.prog 16 #[] w fun e w' => ∃ X s k i a, e = .returned X.val ∧ ExOut w w' X s k i a :=
  (example_any w).mono fun e w' ⟨s, k, i, a, h0, h1, h2, h3, h4, h5, h6, h7, h8, h9, h10, h11, h12⟩ => ⟨_, s, k, i, a, h0, rfl, h1, h2, h6, h7, h8, h3, h4, h5, h9, h10, h11, h12⟩

theorem ExOut.stored {w w1 w2 w3 : World} {X : Tx} {s k i a g : Nat} (h : ExOut w w1 X s k i a) (hle : w1.heap.size ≤ g) (hB : Below w1.heap.size w1 w2) (hW : Wrote w2 w3 g) (h3 : w3.heap[g]? = some (.cells X.cells 33)) : Ex2 w w3 X s k i a g := by
  have ls := (Array.getElem?_eq_some_iff.1 h.at_.s).1
  have lk := (Array.getElem?_eq_some_iff.1 h.at_.k).1
  have li := (Array.getElem?_eq_some_iff.1 h.at_.i).1
  have la := (Array.getElem?_eq_some_iff.1 h.at_.a).1
  refine ⟨{ h with at_ := ⟨?_, ?_, ?_, ?_⟩, below := hW.below (h.below.trans (hB.mono h.below.size)) (Nat.le_trans h.below.size hle) }, h3, by omega, by omega, by omega, by omega⟩
  · exact (hW.block _ (by omega)).trans ((hB.block _ ls).trans h.at_.s)
  · exact (hW.block _ (by omega)).trans ((hB.block _ lk).trans h.at_.k)
  · exact (hW.block _ (by omega)).trans ((hB.block _ li).trans h.at_.i)
  · exact (hW.block _ (by omega)).trans ((hB.block _ la).trans h.at_.a)

section
variable {w u : World} {X : Tx} {s k i a g : Nat}
theorem Ex2.got (h : Ex2 w u X s k i a g) : Got u g X := ⟨h.h, by rw [h.o.x]; exact h.o.at_.tx (by decide) (by decide)⟩
theorem Ex2.c5 (h : Ex2 w u X s k i a g) : u.cell? ⟨g, 5, none⟩ = some (.slice (some ⟨k, 0, none⟩) 2 2) := by
  have := (txCells h.o.R h.h).c5
  rw [this, h.o.x]; rfl
theorem Ex2.c38 (h : Ex2 w u X s k i a g) : u.cell? ⟨g, 38, none⟩ = some (.slice (some ⟨i, 0, none⟩) 1 1) := by
  have := (txCells h.o.R h.h).c38
  rw [this, h.o.x]; rfl
theorem Ex2.i1 (h : Ex2 w u X s k i a g) : u.cell? ⟨i, 1, none⟩ = some (.slice (some ⟨a, 0, none⟩) 1 1) := cell_of_row u i 1 _ 47 _ h.o.at_.i

theorem chk_a (s k i a : Nat) : chk (exTx s k i a 1 0) = 0 := by kernel_rfl
theorem tot_a (s k i a : Nat) : tot (exTx s k i a 1 0) = 2 := by kernel_rfl
theorem chk_b (s k i a : Nat) : chk (exTx s k i a 0 0) = 8 := by kernel_rfl
theorem chk_c (s k i a : Nat) : chk (exTx s k i a 1 2) = 8 := by kernel_rfl
theorem ex_px (s k i a p x q y : Nat) : (exTx s k i a p x).cells = (exTx s k i a q y).cells := by rw [exCells, exCells]
theorem Ex2.chk (h : Ex2 w u X s k i a g) : chk X = 0 := by rw [h.o.x]; exact chk_a _ _ _ _
theorem Ex2.tot (h : Ex2 w u X s k i a g) : tot X = 2 := by rw [h.o.x]; exact tot_a _ _ _ _
theorem tot_px (s k i a p x : Nat) : Ytgjijoielfpmkaa.tot (exTx s k i a p x) = 2 := by kernel_rfl

theorem Ex2.second (h : Ex2 w u X s k i a g) : ∃ C, u.heap[i]? = some (.cells C 47) ∧ 0 < C.size ∧ ∀ u1, u1.heap[i]? = some (.cells (C.setIfInBounds 0 (.int .u8 0)) 47) → Wrote u u1 i → ∃ Y, Got u1 g Y ∧ Ytgjijoielfpmkaa.chk Y = 8 ∧ Ytgjijoielfpmkaa.tot Y = 2 ∧ Below w.heap.size w u1 := by
  refine ⟨_, h.o.at_.i, by simp, fun u1 h1 hW => ⟨exTx s k i a 0 0, ⟨?_, ?_⟩, chk_b _ _ _ _, tot_px _ _ _ _ _ _, hW.below h.o.below h.o.fi⟩⟩
  · rw [ex_px s k i a 0 0 1 0, ← h.o.x]
    exact (hW.block g (by have := h.li; omega)).trans h.h
  · refine ExAt.tx ⟨(hW.block s h.o.si).trans h.o.at_.s, (hW.block k h.o.ki).trans h.o.at_.k, h1, (hW.block a (fun e => h.o.ia e.symm)).trans h.o.at_.a⟩ (by decide) (by decide)
theorem Ex2.third (h : Ex2 w u X s k i a g) : ∃ C, u.heap[a]? = some (.cells C 5) ∧ 0 < C.size ∧ ∀ u1, u1.heap[a]? = some (.cells (C.setIfInBounds 0 (.int .u8 2)) 5) → Wrote u u1 a → ∃ Y, Got u1 g Y ∧ Ytgjijoielfpmkaa.chk Y = 8 ∧ Ytgjijoielfpmkaa.tot Y = 2 ∧ Below w.heap.size w u1 := by
  refine ⟨_, h.o.at_.a, by simp, fun u1 h1 hW => ⟨exTx s k i a 1 2, ⟨?_, ?_⟩, chk_c _ _ _ _, tot_px _ _ _ _ _ _, hW.below h.o.below h.o.fa⟩⟩
  · rw [ex_px s k i a 1 2 1 0, ← h.o.x]
    exact (hW.block g (by have := h.la; omega)).trans h.h
  · refine ExAt.tx ⟨(hW.block s h.o.sa).trans h.o.at_.s, (hW.block k h.o.ka).trans h.o.at_.k, (hW.block i h.o.ia).trans h.o.at_.i, h1⟩ (by decide) (by decide)

/-- The keys as a row of one's own. -/
def exD : List (Array Value) := [icells .u8 key1, icells .u8 key2]
def exE : List (Array Value) := [icells .u8 key2]
theorem exD_size : ∀ C ∈ exD, C.size = 32 := fun C hC => by
  simp only [exD, List.mem_cons, List.not_mem_nil, or_false] at hC
  rcases hC with rfl | rfl <;> rfl
theorem exE_size : ∀ C ∈ exE, C.size = 32 := fun C hC => by
  simp only [exE, List.mem_cons, List.not_mem_nil, or_false] at hC
  subst hC; rfl
theorem exE_one : ∀ C ∈ exE, ∀ u ∈ C.toList, u.oneCell' = true := fun C hC => by
  simp only [exE, List.mem_cons, List.not_mem_nil, or_false] at hC
  subst hC; exact icells_one _ _
theorem exE_len : 1 = exE.length := rfl
theorem key2_size : (icells .u8 key2).size = 32 := rfl
theorem exE_rows {u : World} {b : Nat} (h : u.heap[b]? = some (.cells (icells .u8 key2) 41)) : RowsAt u (some ⟨b, 0, none⟩) 32 exE := fun j C hj => by
  match j, hj with
  | 0, hj => simp only [exE, List.getElem?_cons_zero, Option.some.injEq] at hj; rw [← hj]; exact ⟨b, 0, rfl, RowAt.of_cells h⟩
  | j + 1, hj => simp [exE] at hj
theorem pos32 : 0 < 32 := by decide
theorem le32 : 32 ≤ 16777216 := by decide
theorem someNo {ad : Addr} {c : Nat} : some ad = (none : Option Addr) → c = 0 := fun h => by cases h
theorem ap63 : exD.length + exE.length ≤ maxLen := by decide
theorem apby : (exD.length + exE.length) * 32 ≤ 140737488355328 := by decide
theorem und25 : Try.prog.underlying 25 = some (.slice 41) := by kernel_rfl
theorem Ex2.own (h : Ex2 w u X s k i a g) : OwnAt u w.heap.size 41 32 (.slice (some ⟨k, 0, none⟩) 2 2) exD := by
  refine ⟨⟨?_, .inr ⟨k, 2, icells .u8 key1 ++ icells .u8 key2, rfl, h.o.fk, h.o.at_.k, Nat.le_refl 2, by decide, ?_, ?_⟩⟩, exD_size⟩
  all_goals kernel_rfl

/-- The example with its second key once more. -/
def exT (s kg i a cap : Nat) : Tx := { exTx s kg i a 1 0 with K := [key1, key2, key2], kc := cap }
theorem chk_d (s kg i a cap : Nat) : Ytgjijoielfpmkaa.chk (exT s kg i a cap) = 9 := by kernel_rfl
theorem tot_d (s kg i a cap : Nat) : Ytgjijoielfpmkaa.tot (exT s kg i a cap) = 3 := by kernel_rfl
theorem exDE : exD ++ exE = [key1, key2, key2].map (icells .u8) := rfl
theorem exSet (s k i a kg cap : Nat) : (exTx s k i a 1 0).cells.setIfInBounds 5 (.slice (some ⟨kg, 0, none⟩) 3 cap) = (exT s kg i a cap).cells :=
  Tx.setKeys (X := exTx s k i a 1 0) rfl (some ⟨kg, 0, none⟩) [key1, key2, key2] cap
theorem RowsAt.wrote {w w1 : World} {b g s : Nat} {D : List (Array Value)} (h : RowsAt w (some ⟨b, 0, none⟩) s D) (hW : Wrote w w1 g) (hne : b ≠ g) : RowsAt w1 (some ⟨b, 0, none⟩) s D := fun j C hj => by
  obtain ⟨b', off, e, hr⟩ := h j C hj
  obtain ⟨rfl, rfl⟩ : b = b' ∧ 0 = off := by simpa using e
  exact ⟨b, 0, rfl, hr.of_block (hW.block _ hne)⟩
theorem Ex2.appended (h : Ex2 w u X s k i a g) {u1 u2 : World} {v' : Value} (hb : Below u.heap.size u u1) (ho : OwnAt u2 w.heap.size 41 32 v' (exD ++ exE)) (hg : u1.grownBy u2 (Value.ownBlock (.slice (some ⟨k, 0, none⟩) 2 2))) :
    ∃ kg cap, v' = .slice (some ⟨kg, 0, none⟩) 3 cap ∧ u2.heap[g]? = some (.cells X.cells 33) ∧ u2.cell? ⟨g, 5, none⟩ = some (.slice (some ⟨k, 0, none⟩) 2 2) ∧ 5 < X.cells.size ∧
      ∀ u3, u3.heap[g]? = some (.cells (X.cells.setIfInBounds 5 (.slice (some ⟨kg, 0, none⟩) 3 cap)) 33) → Wrote u2 u3 g → ∃ Y, Got u3 g Y ∧ Ytgjijoielfpmkaa.chk Y = 9 ∧ Ytgjijoielfpmkaa.tot Y = 3 ∧ Below w.heap.size w u3 := by
  have lg := (Array.getElem?_eq_some_iff.1 h.h).1
  have l1 := h.ls
  have l2 := h.lk
  have l3 := h.li
  have l4 := h.la
  have hs1 := hb.size
  have old : ∀ b, b < u.heap.size → b ≠ k → u2.heap[b]? = u.heap[b]? := fun b hlt hne => (hg.block b (by omega) (fun e => hne (Option.some.inj e))).trans (hb.block b hlt)
  have hB2 : Below w.heap.size w u2 := Below.grownBy (h.o.below.trans (hb.mono h.o.below.size)) hg (fun k' e => by obtain rfl := Option.some.inj e; exact h.o.fk) (Nat.le_trans h.o.below.size hs1)
  have hg2 : u2.heap[g]? = some (.cells X.cells 33) := (old g lg (by omega)).trans h.h
  rcases ho.form with ⟨_, e⟩ | ⟨kg, cap, cur, e1, e2, e3, e4, e5, e6, e7⟩
  · cases e
  have hne : kg ≠ g := fun e => by
    rw [e, hg2] at e3
    cases e3
  refine ⟨kg, cap, e1, hg2, ?_, by rw [h.o.size]; decide, fun u3 h3 hW => ⟨exT s kg i a cap, ⟨?_, ?_⟩, chk_d _ _ _ _ _, tot_d _ _ _ _ _, hW.below hB2 (Nat.le_trans h.o.fk (Nat.le_of_lt h.lk))⟩⟩
  · have := (txCells h.o.R hg2).c5
    rw [this, h.o.x]; rfl
  · rw [h3, h.o.x, exSet]
  · have hI : u3.heap[i]? = some (.cells #[.int .u8 ((1 : Nat) : Int), .slice (some ⟨a, 0, none⟩) 1 1, .slice none 0 0] 47) := (hW.block _ (by omega)).trans ((old i (by omega) (fun e => h.o.ki e.symm)).trans h.o.at_.i)
    have hA : u3.heap[a]? = some (.cells #[.int .u8 ((0 : Nat) : Int)] 5) := (hW.block _ (by omega)).trans ((old a (by omega) (fun e => h.o.ka e.symm)).trans h.o.at_.a)
    have hS : u3.heap[s]? = some (.cells (icells .u8 (List.replicate 64 0)) 49) := (hW.block _ (by omega)).trans ((old s (by omega) h.o.sk).trans h.o.at_.s)
    have hK : RowsAt u3 (some ⟨kg, 0, none⟩) 32 ([key1, key2, key2].map (icells .u8)) := e7.wrote hW hne
    exact
      { hs := (by decide : 1 < 256), hr := (by decide : 0 < 256), ho := (by decide : 0 < 256), R := rfl
        sl := by simp [exT, exTx, lenMax, Tx.sl]
        kl := by simp [exT, lenMax]
        il := by simp [exT, exTx, lenMax]
        ll := by simp [exT, exTx, lenMax]
        key := fun q hq => by
          simp only [exT, List.mem_cons, List.not_mem_nil, or_false] at hq
          rcases hq with rfl | rfl | rfl
          · exact key1_ok
          · exact key2_ok
          · exact key2_ok
        keys := hK
        ins := fun j C hj => by
          match j, hj with
          | 0, hj => simp only [exT, exTx, List.map_cons, List.getElem?_cons_zero, Option.some.injEq] at hj; rw [← hj]; exact ⟨i, 0, rfl, RowAt.of_cells hI⟩
          | j + 1, hj => simp [exT, exTx] at hj
        insOk := fun q hq => by
          simp only [exT, exTx, List.mem_cons, List.not_mem_nil, or_false] at hq
          subst hq
          refine ⟨(by decide : 1 < 256), by simp [lenMax], by simp [Ins.dl], fun j hj => ?_⟩
          obtain rfl : j = 0 := by simpa using hj
          exact ⟨(by decide : 0 < 256), a, 0, rfl, (Array.getElem?_eq_some_iff.1 hA).1, cell_of_row u3 a 0 _ 5 _ hA⟩
        lks := fun j C hj => by simp [exT, exTx] at hj
        lksOk := fun l hl => by simp [exT, exTx] at hl
        sigs := fun j C hj => by
          match j, hj with
          | 0, hj => simp only [exT, exTx, List.map_cons, List.getElem?_cons_zero, Option.some.injEq] at hj; rw [← hj]; exact ⟨s, 0, rfl, RowAt.of_cells hS⟩
          | j + 1, hj => simp [exT, exTx] at hj
        sig := fun q hq => by
          simp only [exT, exTx, List.mem_cons, List.not_mem_nil, or_false] at hq
          subst hq
          simp
        dat := fun q hq => by
          simp only [exT, exTx, List.mem_cons, List.not_mem_nil, or_false] at hq
          subst hq
          exact fun j hj => absurd hj (by simp)
        lkb := fun l hl => by simp [exT, exTx] at hl
        nilS := fun h => by simp [exT, exTx] at h
        nilK := fun h => by simp [exT, exTx] at h
        nilI := fun h => by simp [exT, exTx] at h }
end
end Go.Proofs.Ytgjijoielfpmkaa
