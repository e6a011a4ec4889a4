/- example, lives. -/
import Derived.Test.YtgjijoielfpmkaaI
import Derived.Laws.MakeOwn
set_option linter.unusedVariables false
namespace Go.Proofs.Ytgjijoielfpmkaa
open Go.RowKit

def key1 : List Int := 1 :: List.replicate 31 0
def key2 : List Int := 2 :: List.replicate 31 0
/-- The chapter's example; its signatures lie in block s, its keys in k, its instruction in i, that one's account in a. -/
def exTx (s k i a : Nat) (p x : Nat) : Tx :=
  { sa := some ⟨s, 0, none⟩, SG := [List.replicate 64 0], sc := 1, v0 := false, hs := 1, hr := 0, ho := 0, ka := some ⟨k, 0, none⟩, K := [key1, key2], kc := 2, R := List.replicate 32 0,
    ia := some ⟨i, 0, none⟩, I := [{ p := p, aa := some ⟨a, 0, none⟩, A := [x], ac := 1, da := none, D := [], dc := 0 }], ic := 1, la := none, L := [], lc := 0 }

/-- The blocks of the example. -/
structure ExAt (w : World) (s k i a : Nat) (p x : Nat) : Prop where
  s : w.heap[s]? = some (.cells (icells .u8 (List.replicate 64 0)) 49)
  k : w.heap[k]? = some (.cells (icells .u8 key1 ++ icells .u8 key2) 41)
  i : w.heap[i]? = some (.cells #[.int .u8 (p : Int), .slice (some ⟨a, 0, none⟩) 1 1, .slice none 0 0] 47)
  a : w.heap[a]? = some (.cells #[.int .u8 (x : Int)] 5)

theorem key1_ok : IsKey key1 := ⟨by decide, by decide⟩
theorem key2_ok : IsKey key2 := ⟨by decide, by decide⟩

theorem ExAt.tx {w : World} {s k i a p x : Nat} (h : ExAt w s k i a p x) (hp : p < 256) (hx : x < 256) : TxAt w (exTx s k i a p x) where
  hs := by simp [exTx]
  hr := by simp [exTx]
  ho := by simp [exTx]
  R := by simp [exTx]
  sl := by simp [exTx, lenMax, Tx.sl]
  kl := by simp [exTx, lenMax]
  il := by simp [exTx, lenMax]
  ll := by simp [exTx, lenMax]
  key := fun q hq => by
    simp only [exTx, List.mem_cons, List.not_mem_nil, or_false] at hq
    rcases hq with rfl | rfl
    · exact key1_ok
    · exact key2_ok
  keys := fun j C hj => by
    refine ⟨k, 0, rfl, icells .u8 key1 ++ icells .u8 key2, 41, _, h.k, ?_, ?_⟩
    · match j, hj with
      | 0, hj => simp only [exTx, List.map_cons, List.getElem?_cons_zero, Option.some.injEq] at hj; rw [← hj]; decide
      | 1, hj => simp only [exTx, List.map_cons, List.map_nil, List.getElem?_cons_succ, List.getElem?_cons_zero, Option.some.injEq] at hj; rw [← hj]; decide
      | j + 2, hj => simp [exTx] at hj
    · match j, hj with
      | 0, hj => simp only [exTx, List.map_cons, List.getElem?_cons_zero, Option.some.injEq] at hj; rw [← hj]; intro q hq; rw [Array.getElem?_append_left (by simpa using hq)]; simp
      | 1, hj => simp only [exTx, List.map_cons, List.map_nil, List.getElem?_cons_succ, List.getElem?_cons_zero, Option.some.injEq] at hj; rw [← hj]; intro q hq; rw [Array.getElem?_append_right (by simp [key1])]; simp [key1]
      | j + 2, hj => simp [exTx] at hj
  ins := fun j C hj => by
    match j, hj with
    | 0, hj => simp only [exTx, List.map_cons, List.getElem?_cons_zero, Option.some.injEq] at hj; rw [← hj]; exact ⟨i, 0, rfl, RowAt.of_cells h.i⟩
    | j + 1, hj => simp [exTx] at hj
  insOk := fun q hq => by
    simp only [exTx, List.mem_cons, List.not_mem_nil, or_false] at hq
    subst hq
    refine ⟨hp, by simp [lenMax], by simp [Ins.dl], fun j hj => ?_⟩
    obtain rfl : j = 0 := by simpa using hj
    exact ⟨hx, a, 0, rfl, (Array.getElem?_eq_some_iff.1 h.a).1, cell_of_row w a 0 _ 5 _ h.a⟩
  lks := fun j C hj => by simp [exTx] at hj
  lksOk := fun l hl => by simp [exTx] at hl
  sigs := fun j C hj => by
    match j, hj with
    | 0, hj => simp only [exTx, List.map_cons, List.getElem?_cons_zero, Option.some.injEq] at hj; rw [← hj]; exact ⟨s, 0, rfl, RowAt.of_cells h.s⟩
    | j + 1, hj => simp [exTx] at hj
  sig := fun q hq => by
    simp only [exTx, List.mem_cons, List.not_mem_nil, or_false] at hq
    subst hq
    simp
  dat := fun q hq => by
    simp only [exTx, List.mem_cons, List.not_mem_nil, or_false] at hq
    subst hq
    exact fun j hj => absurd hj (by simp)
  lkb := fun l hl => by simp [exTx] at hl
  nilS := fun h => by simp [exTx] at h
  nilK := fun h => by simp [exTx] at h
  nilI := fun h => by simp [exTx] at h

section
variable {ops : Array Oper} {Q : Exit → Act → World → Prop} {a : Act} {w : World} {rest : List Oper} {dst : Option Tmp} {x y : Operand} {ty : TypeId} {pos : String} {after : Array Edge}
theorem i49 : (Try.prog.info? 49).map (fun i => (i.zero, i.size, i.bytes)) = some (some (kv (List.replicate 64 0)), 64, 64) := by kernel_rfl
theorem info_parts {ty : TypeId} {z : Value} {size bytes : Nat} (h : (Try.prog.info? ty).map (fun i => (i.zero, i.size, i.bytes)) = some (some z, size, bytes)) : ∃ i, Try.prog.info? ty = some i ∧ i.zero = some z ∧ i.size = size ∧ i.bytes = bytes := by
  cases hi : Try.prog.info? ty with
  | none => rw [hi] at h; cases h
  | some i => rw [hi] at h; simp at h; exact ⟨i, rfl, h.1, h.2.1, h.2.2⟩
theorem wl_make22 (K : ∀ s w1, w1.heap[s]? = some (.cells (icells .u8 (List.replicate 64 0)) 49) → w.heap.size ≤ s → Below w.heap.size w w1 → wpList Try.prog ops Q rest (a.put dst (.slice (some ⟨s, 0, none⟩) 1 1)) w1) :
    wpList Try.prog ops Q (⟨dst, .makeSlice 22 (.const (.int .i64 1)) (.const (.int .i64 1)), ty, pos, after, none⟩ :: rest) a w := by
  obtain ⟨i, h1, h2, h4, h3⟩ := info_parts i49
  have hr := run_make (P := Try.prog) w 22 49 i _ Try.underlying22 h1 h2 .i64 .i64 1 1 (by decide) (by decide) (by rw [h3]; decide) (by decide)
  rw [h4, show madeCells (kv (List.replicate 64 0)).cells ((1 : Int).toNat * 64) = icells .u8 (List.replicate 64 0) by kernel_rfl] at hr
  refine wpList_run (v := .slice (some ⟨w.heap.size, 0, none⟩) 1 1) (w' := w.alloc (.cells (icells .u8 (List.replicate 64 0)) 49)) rfl ?_ (K _ _ (heap_alloc_new w _) (Nat.le_refl _) ((Below.refl _ _).alloc (Nat.le_refl _) _))
  have e1 : a.eval (.const (.int .i64 1)) = .int .i64 1 := rfl
  unfold execOp
  simp only [e1, Sem.run_bind, hr, Result.andThen_ok, Sem.run_pure]
  rfl
end

theorem exCells (s k i a p x : Nat) : (exTx s k i a p x).cells = #[.slice (some ⟨s, 0, none⟩) 1 1, .bool false, .int .u8 1, .int .u8 0, .int .u8 0, .slice (some ⟨k, 0, none⟩) 2 2, .int .u8 0, .int .u8 0, .int .u8 0, .int .u8 0, .int .u8 0, .int .u8 0, .int .u8 0, .int .u8 0, .int .u8 0, .int .u8 0, .int .u8 0, .int .u8 0, .int .u8 0, .int .u8 0, .int .u8 0, .int .u8 0, .int .u8 0, .int .u8 0, .int .u8 0, .int .u8 0, .int .u8 0, .int .u8 0, .int .u8 0, .int .u8 0, .int .u8 0, .int .u8 0, .int .u8 0, .int .u8 0, .int .u8 0, .int .u8 0, .int .u8 0, .int .u8 0, .slice (some ⟨i, 0, none⟩) 1 1, .slice none 0 0] := by kernel_rfl
theorem exKeys : icells .u8 key1 ++ icells .u8 key2 = #[.int .u8 1, .int .u8 0, .int .u8 0, .int .u8 0, .int .u8 0, .int .u8 0, .int .u8 0, .int .u8 0, .int .u8 0, .int .u8 0, .int .u8 0, .int .u8 0, .int .u8 0, .int .u8 0, .int .u8 0, .int .u8 0, .int .u8 0, .int .u8 0, .int .u8 0, .int .u8 0, .int .u8 0, .int .u8 0, .int .u8 0, .int .u8 0, .int .u8 0, .int .u8 0, .int .u8 0, .int .u8 0, .int .u8 0, .int .u8 0, .int .u8 0, .int .u8 0, .int .u8 2, .int .u8 0, .int .u8 0, .int .u8 0, .int .u8 0, .int .u8 0, .int .u8 0, .int .u8 0, .int .u8 0, .int .u8 0, .int .u8 0, .int .u8 0, .int .u8 0, .int .u8 0, .int .u8 0, .int .u8 0, .int .u8 0, .int .u8 0, .int .u8 0, .int .u8 0, .int .u8 0, .int .u8 0, .int .u8 0, .int .u8 0, .int .u8 0, .int .u8 0, .int .u8 0, .int .u8 0, .int .u8 0, .int .u8 0, .int .u8 0, .int .u8 0] := by kernel_rfl
theorem exSize (s k i a p x : Nat) : (exTx s k i a p x).cells.size = 40 := Tx.size (by simp [exTx])

theorem alloc_size (w : World) (o : Obj) : (w.alloc o).heap.size = w.heap.size + 1 := by simp
theorem alloc3_old {w : World} {g : Nat} {o : Obj} (h : w.heap[g]? = some o) (o1 o2 o3 : Obj) : (((w.alloc o1).alloc o2).alloc o3).heap[g]? = some o := by
  have hlt := (Array.getElem?_eq_some_iff.1 h).1
  rw [heap_alloc_old _ _ (by rw [alloc_size, alloc_size]; omega), heap_alloc_old _ _ (by rw [alloc_size]; omega), heap_alloc_old _ _ hlt]
  exact h
theorem alloc3_first (w : World) (o1 o2 o3 : Obj) : (((w.alloc o1).alloc o2).alloc o3).heap[w.heap.size]? = some o1 := by
  rw [heap_alloc_old _ _ (by rw [alloc_size, alloc_size]; omega), heap_alloc_old _ _ (by rw [alloc_size]; omega)]
  exact heap_alloc_new w o1
theorem alloc3_second (w : World) (o1 o2 o3 : Obj) : (((w.alloc o1).alloc o2).alloc o3).heap[w.heap.size + 1]? = some o2 := by
  rw [heap_alloc_old _ _ (by rw [alloc_size, alloc_size]; omega), ← alloc_size w o1]
  exact heap_alloc_new _ o2
theorem alloc3_third (w : World) (o1 o2 o3 : Obj) : (((w.alloc o1).alloc o2).alloc o3).heap[w.heap.size + 1 + 1]? = some o3 := by
  rw [← alloc_size w o1, ← alloc_size (w.alloc o1) o2]
  exact heap_alloc_new _ o3

set_option maxRecDepth 20000 in
set_option maxHeartbeats 1600000 in
theorem example_any (w : World) : Calls Try.prog 16 #[] w fun e w' => ∃ s k i a, e = .returned (exTx s k i a 1 0).val ∧ ExAt w' s k i a 1 0 ∧ w.heap.size ≤ s ∧ s ≠ k ∧ s ≠ i ∧ s ≠ a ∧ w.heap.size ≤ k ∧ w.heap.size ≤ i ∧ w.heap.size ≤ a ∧ k ≠ i ∧ k ≠ a ∧ i ≠ a ∧ Below w.heap.size w w' := by
  go_enter Try.func16, Try.ntmps16
  go_wp2_with (first
    | ((with_reducible refine wl_allocN zero33 ?_); intro g w1 Z hZ1 hZ2 hle hB)
    | ((with_reducible refine wl_make22 ?_); intro s w2 hs hle2 hB2; have hgl1 := Lib.hid (Array.getElem?_eq_some_iff.1 hZ1).1; replace hZ1 := (hB2.block g (Array.getElem?_eq_some_iff.1 hZ1).1).trans hZ1; have hgl := Lib.hid (Array.getElem?_eq_some_iff.1 hZ1).1; have hz3 := Lib.hid (alloc3_old (w := w2) hZ1); clear hZ1)
    | ((with_reducible refine wl_storeN (n := 40) (A := (exTx s w2.heap.size (w2.heap.size + 1 + 1) (w2.heap.size + 1) 1 0).cells) (Z := Z) ?_ ?_ (hz3.out _ _ _) hZ2 (exSize _ _ _ _ _ _) (Tx.one _) s33 ?_); (exact rfl); (rw [exCells]; exact rfl); intro w4 h4 hW4))
  have l1 := Nat.le_trans hB.size hB2.size
  have hlt := hgl.out
  have hB5 : Below w.heap.size w w4 := hW4.below (((((hB.trans (hB2.mono hB.size)).alloc l1 _).alloc (by rw [alloc_size]; omega) _).alloc (by rw [alloc_size, alloc_size]; omega) _)) hle
  refine bodyPost_ret (results_cell_row rfl _ w4 g 33 _ (0, 0) _ rfl h4 Try.underlying33 rfl (by rw [exSize]; exact s33)) rfl ?_
  have hsl := (Array.getElem?_eq_some_iff.1 hs).1
  have hgs : g < w1.heap.size := hgl1.out
  refine ⟨s, w2.heap.size, w2.heap.size + 1 + 1, w2.heap.size + 1, rfl, ?_, Nat.le_trans hB.size hle2, by omega, by omega, by omega, l1, by omega, by omega, by omega, by omega, by omega, hB5⟩
  refine ⟨(hW4.block _ (by omega)).trans (alloc3_old hs _ _ _), ?_, ?_, ?_⟩
  · rw [exKeys]
    exact (hW4.block _ (by omega)).trans (alloc3_first _ _ _ _)
  · exact (hW4.block _ (by omega)).trans (alloc3_third _ _ _ _)
  · exact (hW4.block _ (by omega)).trans (alloc3_second _ _ _ _)
end Go.Proofs.Ytgjijoielfpmkaa
