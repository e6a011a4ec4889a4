/- A slice of one thing; append. -/
import Derived.Test.YtgjijoielfpmkaaL
set_option linter.unusedVariables false
namespace Go.Proofs.Ytgjijoielfpmkaa
open Go.RowKit

theorem foldl_set (f : Array Value → Value × Nat → Array Value) (hf : ∀ cs c j, f cs (c, j) = cs.setIfInBounds (0 + j) c) : ∀ (l : List Value) (k : Nat) (Z : Array Value) (j : Nat), ((l.zipIdx k).foldl f Z).size = Z.size ∧
    ((l.zipIdx k).foldl f Z)[j]? = if k ≤ j ∧ j < k + l.length ∧ j < Z.size then l[j - k]? else Z[j]?
  | [], k, Z, j => by
    refine ⟨rfl, ?_⟩
    rw [if_neg (by simp; omega)]
    rfl
  | v :: l, k, Z, j => by
    obtain ⟨h1, h2⟩ := foldl_set f hf l (k + 1) (Z.setIfInBounds k v) j
    simp only [List.zipIdx_cons, List.foldl_cons, hf, Nat.zero_add]
    refine ⟨by rw [h1]; simp, ?_⟩
    rw [h2, Array.size_setIfInBounds]
    by_cases hj : j < Z.size
    · by_cases e : j = k
      · subst e
        rw [if_neg (by omega), if_pos (by simp; omega), Array.getElem?_setIfInBounds, if_pos rfl, if_pos hj]
        simp
      · by_cases hk : k + 1 ≤ j ∧ j < k + 1 + l.length ∧ j < Z.size
        · rw [if_pos hk, if_pos (by simp; omega)]
          have : j - k = (j - (k + 1)) + 1 := by omega
          rw [this, List.getElem?_cons_succ]
        · rw [if_neg hk, if_neg (by simp; omega), Array.getElem?_setIfInBounds, if_neg (fun h => e h.symm)]
    · rw [if_neg (by omega), if_neg (by omega), Array.getElem?_setIfInBounds]
      split
      · rename_i e; subst e; rw [if_neg hj, Array.getElem?_eq_none (by omega)]
      · rfl

theorem fill_one {s : Nat} {A : Array Value} (hA : A.size = s) (Z : Array Value) (hZ : Z.size = s) : Instr.fill (fun i => some (i * s, s)) Z [(0, .agg A)] = some A := by
  simp only [Instr.fill, Value.cells, Nat.zero_mul]
  rw [if_neg (by simp [hA, hZ])]
  congr 1
  apply Array.ext_getElem?
  intro j
  rw [← Array.foldl_toList, Array.toList_zipIdx]
  have := (foldl_set (fun cs (x : Value × Nat) => cs.setIfInBounds (0 + x.2) x.1) (fun _ _ _ => rfl) A.toList 0 Z j).2
  rw [this]
  simp only [Array.length_toList, hA, hZ, Nat.zero_le, true_and, Nat.zero_add, and_self, Nat.sub_zero, Array.getElem?_toList]
  split
  · rfl
  · rw [Array.getElem?_eq_none (by omega), Array.getElem?_eq_none (by omega)]

theorem run_buildSlice_one (w : World) {t e : TypeId} {z : Value} {s bytes : Nat} {A : Array Value} (ht : Try.prog.underlying t = some (.slice e)) (hi : (Try.prog.info? e).map (fun i => (i.zero, i.size, i.bytes)) = some (some z, s, bytes)) (hA : A.size = s) (hs : s ≤ 16777216) :
    (Instr.buildSlice t 1 #[(0, .agg A)]).run Try.prog w = .ok (.slice (some ⟨w.heap.size, 0, none⟩) 1 1) (w.alloc (.cells A e)) := by
  obtain ⟨i, h1, h2, h3, h4⟩ := info_parts hi
  have hz : (zeroValue e).run Try.prog w = .ok z w := by simp [zeroValue, typeInfo, h1, h2, Sem.run_bind, Result.andThen]
  have hf : ∀ Z : Array Value, Instr.fill (fun i => some (i * s, s)) ((Array.range (1 * s)).map (Z[· % Z.size]!)) [(0, .agg A)] = some A := fun Z => fill_one hA _ (by simp)
  have hsz : (sizeOf e).run Try.prog w = .ok s w := by simp [sizeOf, typeInfo, h1, h3]
  have hb : ¬ 1 * s > 2 ^ 24 := by omega
  unfold Instr.buildSlice
  simp only [Sem.run_bind, run_underlying ht, Result.andThen_ok, hsz, if_neg hb]
  by_cases h0 : 1 * s = 0
  · simp only [if_pos h0, Sem.run_bind, Sem.run_pure, Result.andThen_ok]
    simp only [hf]
    simp [newRow, newObj, Sem.run, Result.andThen]
  · simp only [if_neg h0, Sem.run_bind, Sem.run_pure, Result.andThen_ok, hz]
    simp only [hf]
    simp [newRow, newObj, Sem.run, Result.andThen]

section
variable {ops : Array Oper} {Q : Exit → Act → World → Prop} {a : Act} {w : World} {rest : List Oper} {dst : Option Tmp} {x y : Operand} {ty : TypeId} {pos : String} {after : Array Edge}
theorem exec_buildSlice_one {o : Oper} {t e : TypeId} {z : Value} {s bytes : Nat} {A : Array Value} (ho : o.op = .buildSlice t 1 #[(0, x)]) (hx : a.eval x = .agg A) (ht : Try.prog.underlying t = some (.slice e)) (hi : (Try.prog.info? e).map (fun i => (i.zero, i.size, i.bytes)) = some (some z, s, bytes)) (hA : A.size = s) (hs : s ≤ 16777216) :
    (execOp a.eval o).run Try.prog w = .ok (.value (.slice (some ⟨w.heap.size, 0, none⟩) 1 1)) (w.alloc (.cells A e)) := by
  unfold execOp
  have e1 : (#[(0, x)] : Array (Nat × Operand)).map (fun y => (y.1, a.eval y.2)) = #[(0, .agg A)] := by simp [hx]
  simp only [ho]
  simp only [e1, Sem.run_bind, run_buildSlice_one w ht hi hA hs, Result.andThen_ok, Sem.run_pure]
/-- A slice of one thing, in a block of its own. -/
theorem wl_buildSlice_one {t e : TypeId} {z : Value} {s bytes : Nat} {A : Array Value} (hx : a.eval x = .agg A) (ht : Try.prog.underlying t = some (.slice e)) (hi : (Try.prog.info? e).map (fun i => (i.zero, i.size, i.bytes)) = some (some z, s, bytes)) (hA : A.size = s) (hs : s ≤ 16777216)
    (K : ∀ g w1, w1.heap[g]? = some (.cells A e) → w.heap.size ≤ g → Below w.heap.size w w1 → wpList Try.prog ops Q rest (a.put dst (.slice (some ⟨g, 0, none⟩) 1 1)) w1) :
    wpList Try.prog ops Q (⟨dst, .buildSlice t 1 #[(0, x)], ty, pos, after, none⟩ :: rest) a w :=
  wpList_run rfl (exec_buildSlice_one rfl hx ht hi hA hs) (K _ _ (heap_alloc_new w _) (Nat.le_refl _) ((Below.refl _ _).alloc (Nat.le_refl _) _))
theorem exec_append_rows {o : Oper} {t : TypeId} {v v' : Value} {w' : World} {u : Value} (ho : o.op = .call { callee := .builtin .append, args := #[x, y], argTypes := #[t, t] }) (hx : a.eval x = v) (hy : a.eval y = u) (hr : (Builtin.append_ #[t, t] o.type #[v, u]).run Try.prog w = .ok v' w') :
    (execOp a.eval o).run Try.prog w = .ok (.value v') w' := by
  simp [execOp, ho, resolve, invoke, builtin, hx, hy, hr, Result.andThen]
/-- append of rows. -/
theorem wl_append_rows {base : Nat} {t e : TypeId} {z : Value} {s bytes : Nat} (ht : Try.prog.underlying t = some (.slice e)) (hi : (Try.prog.info? e).map (fun i => (i.zero, i.size, i.bytes)) = some (some z, s, bytes)) (hzs : z.cells.size = s) (hs : 0 < s)
    {v : Value} {D : List (Array Value)} (hown : OwnAt w base e s v D) {ao : Option Addr} {c m : Nat} {E : List (Array Value)} (hx : a.eval x = v) (hy : a.eval y = .slice ao m c) (hm : m = E.length) (hE : RowsAt w ao s E) (hEs : ∀ C ∈ E, C.size = s) (hE1 : ∀ C ∈ E, ∀ u ∈ C.toList, u.oneCell' = true) (hn : ao = none → c = 0)
    (h63 : D.length + E.length ≤ maxLen) (hby : (D.length + E.length) * bytes ≤ 140737488355328) (hbase : base ≤ w.heap.size)
    (K : ∀ v' w1, OwnAt w1 base e s v' (D ++ E) → w.grownBy w1 v.ownBlock → wpList Try.prog ops Q rest (a.put dst v') w1) :
    wpList Try.prog ops Q (⟨dst, .call { callee := .builtin .append, args := #[x, y], argTypes := #[t, t] }, ty, pos, after, none⟩ :: rest) a w := by
  subst hm
  obtain ⟨v', w', hrun, h1, h2⟩ := run_append_rows (ty := ty) ht hi hzs hs hown hE hEs hE1 hn h63 hby hbase
  exact wpList_run rfl (exec_append_rows rfl hx hy hrun) (K v' w' h1 h2)
end
theorem Below.grownBy {B : Nat} {w0 w w' : World} {row : Option Nat} (h : Below B w0 w) (g : w.grownBy w' row) (hs : ∀ k, row = some k → B ≤ k) (hB : B ≤ w.heap.size) : Below B w0 w' :=
  ⟨g.os.trans h.os, g.tape.trans h.tape, g.output.trans h.output, Nat.le_trans h.size g.size, fun k hk => (g.block k (by omega) (fun e => by have := hs k e.symm; omega)).trans (h.block k hk)⟩

theorem i41 : (Try.prog.info? 41).map (fun i => (i.zero, i.size, i.bytes)) = some (some (kv (List.replicate 32 0)), 32, 32) := by kernel_rfl
theorem i47 : (Try.prog.info? 47).map (fun i => (i.zero, i.size, i.bytes)) = some (some (.agg #[.int .u8 0, .slice none 0 0, .slice none 0 0]), 3, 56) := by kernel_rfl
theorem cells41 : (kv (List.replicate 32 0)).cells.size = 32 := by kernel_rfl
theorem cells49 : (kv (List.replicate 64 0)).cells.size = 64 := by kernel_rfl
theorem cells47 : (Value.agg #[.int .u8 0, .slice none 0 0, .slice none 0 0]).cells.size = 3 := rfl
end Go.Proofs.Ytgjijoielfpmkaa
