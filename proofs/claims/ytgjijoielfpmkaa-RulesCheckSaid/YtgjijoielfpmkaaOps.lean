/- Laws on single operations of the walk, over any program: what a load, a store, a new variable of an aggregate type does, said of whole rows of cells. Conditions: the row lies in memory, and is large enough. -/
import Derived.WalkKit
import Derived.WalkSpells
import Derived.WalkLawsBesides
import Derived.Laws.CopyRow
import Derived.StillTailTactics
import Derived.Deep.QuietTactic
import Derived.BigQuiet
import Derived.OrdersHeld
import Derived.Deep.RegionHeld
namespace Go.Proofs.Ytgjijoielfpmkaa
open Go.RowKit

section
variable {P : Program} {ops : Array Oper} {Q : Exit → Act → World → Prop} {a : Act} {w w' : World} {rest : List Oper}

/-- One operation that hands back a value. -/
theorem wpList_run {o : Oper} {v : Value} (hgd : o.guard = none) (hr : (execOp a.eval o).run P w = .ok (.value v) w') (h : wpList P ops Q rest (a.put o.dst v) w') :
    wpList P ops Q (o :: rest) a w :=
  wpList_plain hgd fun K hK => by unfold Oper.wp; rw [hr]; exact hK _ _ h

/-- One operation that hands back nothing. -/
theorem wpList_runSkip {o : Oper} (hgd : o.guard = none) (hr : (execOp a.eval o).run P w = .ok .skip w') (h : wpList P ops Q rest (a.put o.dst undef) w') :
    wpList P ops Q (o :: rest) a w :=
  wpList_plain hgd fun K hK => by unfold Oper.wp; rw [hr]; exact hK _ _ h

theorem wanted_plain {o : Oper} (hgd : o.guard = none) (f : Nat → Option Bool) : Region.wanted o f = true := by
  simp [Region.wanted, hgd]

theorem wpStill_run {R : Act → Prop} {o : Oper} {v : Value} (hgd : o.guard = none) (hr : (execOp a.eval o).run P w = .ok (.value v) w) (h : wpStill P ops w R rest (a.put o.dst v)) :
    wpStill P ops w R (o :: rest) a := by
  unfold wpStill
  rw [if_pos (wanted_plain hgd _)]
  unfold Oper.still
  rw [hr]
  exact ⟨rfl, h⟩

theorem wpQuiet_run {C : World → Prop} {R : Act → Prop} {o : Oper} {v : Value} (hgd : o.guard = none) (hr : ∀ w, C w → (execOp a.eval o).run P w = .ok (.value v) w) (h : wpQuiet P ops C R rest (a.put o.dst v)) :
    wpQuiet P ops C R (o :: rest) a := by
  unfold wpQuiet
  rw [if_pos (wanted_plain hgd _)]
  refine ⟨v, fun w hw => ?_, h⟩
  unfold Oper.quietAt
  rw [hr w hw]
  exact ⟨rfl, rfl⟩

theorem wpQuiet_call {C : World → Prop} {R : Act → Prop} {o : Oper} {v : Value} {f : FuncId} {args : Array Value} (hgd : o.guard = none)
    (hr : ∀ w, C w → (execOp a.eval o).run P w = .ok (.enter f args) w) (hc : ∀ w, C w → Calls P f args w fun e w' => e = .returned v ∧ C w') (h : wpQuiet P ops C R rest (a.put o.dst v)) :
    wpQuiet P ops C R (o :: rest) a := by
  unfold wpQuiet
  rw [if_pos (wanted_plain hgd _)]
  refine ⟨v, fun w hw => ?_, h⟩
  unfold Oper.quietAt
  rw [hr w hw]
  exact ⟨rfl, hc w hw⟩

/-! ### The rows of memory -/

/-- A row of cells from an offset on. -/
def RowAt (w : World) (b off : Nat) (A : Array Value) : Prop :=
  ∃ C t fr, w.heap[b]? = some (.cells C t fr) ∧ off + A.size ≤ C.size ∧ ∀ j, j < A.size → C[off + j]? = A[j]?

theorem RowAt.of_block {b off : Nat} {A : Array Value} (h : RowAt w b off A) (he : w'.heap[b]? = w.heap[b]?) : RowAt w' b off A := by
  obtain ⟨C, t, fr, h1, h2, h3⟩ := h
  exact ⟨C, t, fr, he.trans h1, h2, h3⟩

theorem RowAt.lt {b off : Nat} {A : Array Value} (h : RowAt w b off A) : b < w.heap.size := by
  obtain ⟨C, t, fr, h1, _⟩ := h
  exact (Array.getElem?_eq_some_iff.1 h1).1

theorem RowAt.of_cells {b : Nat} {A : Array Value} {t : TypeId} {fr : Nat × Nat} (h : w.heap[b]? = some (.cells A t fr)) : RowAt w b 0 A :=
  ⟨A, t, fr, h, by omega, fun j _ => by rw [Nat.zero_add]⟩

theorem RowAt.cell {b off : Nat} {A : Array Value} (h : RowAt w b off A) {j : Nat} (hj : j < A.size) : w.cell? ⟨b, off + j, none⟩ = some A[j] := by
  obtain ⟨C, t, fr, h1, _, h3⟩ := h
  simp only [World.cell?, h1]
  rw [if_neg (by simp), h3 j hj]
  exact Array.getElem?_eq_getElem hj

theorem run_loadVar_sub {b off : Nat} {ty : TypeId} {A : Array Value} {d : TypeDesc} (hg : RowAt w b off A)
    (hu : P.underlying ty = some d) (hd : (match d with | .struct _ | .array _ _ => true | _ => false) = true) (hi : (P.info? ty).map (·.size) = some A.size) :
    (loadVar ty ⟨b, off, none⟩).run P w = .ok (.agg A) w := by
  have hl : (loadCells ⟨b, off, none⟩ A.toList.length).run P w = .ok A.toList.toArray w :=
    run_loadCells_list (P := P) w ⟨b, off, none⟩ A.toList (fun j v hv => by
      have hadd : (⟨b, off, none⟩ : Addr).add j = ⟨b, off + j, none⟩ := by unfold Addr.add; split <;> simp_all
      have hj : j < A.size := by
        have := (List.getElem?_eq_some_iff.1 hv).1
        simpa using this
      rw [hadd, hg.cell hj]
      simpa [Array.getElem?_toList, Array.getElem?_eq_getElem hj] using hv)
  cases hinfo : P.info? ty with
  | none => simp [hinfo] at hi
  | some i =>
    have hsz : i.size = A.size := by simpa [hinfo] using hi
    have hl' : (loadCells ⟨b, off, none⟩ A.size).run P w = .ok A w := by simpa using hl
    cases d <;> simp at hd <;> simp [loadVar, isAgg, sizeOf, typeInfo, run_underlying hu, hinfo, hsz, hl']

theorem exec_load_sub {o : Oper} {ty : TypeId} {x : Operand} {b off : Nat} {A : Array Value} {d : TypeDesc} (ho : o.op = .load ty x) (hx : a.eval x = .pointer (some ⟨b, off, none⟩)) (hg : RowAt w b off A)
    (hu : P.underlying ty = some d) (hd : (match d with | .struct _ | .array _ _ => true | _ => false) = true) (hi : (P.info? ty).map (·.size) = some A.size) :
    (execOp a.eval o).run P w = .ok (.value (.agg A)) w := by
  unfold execOp
  simp only [ho, hx, Instr.loadAt, Instr.sureAddr, Sem.run_bind, Sem.run_pure, Result.andThen_ok, run_loadVar_sub hg hu hd hi]

/-- A row with a stretch of it written anew. -/
def splice (C : Array Value) (off : Nat) (A : Array Value) : Array Value := (C.toList.take off ++ A.toList ++ C.toList.drop (off + A.size)).toArray

theorem size_splice {C A : Array Value} {off : Nat} (h : off + A.size ≤ C.size) : (splice C off A).size = C.size := by
  simp [splice]; omega

theorem splice_in {C A : Array Value} {off j : Nat} (h : off + A.size ≤ C.size) (hj : j < A.size) : (splice C off A)[off + j]? = A[j]? := by
  simp only [splice, List.getElem?_toArray, List.append_assoc]
  rw [List.getElem?_append_right (by simp; omega), List.getElem?_append_left (by simp; omega)]
  simp only [List.length_take, Array.length_toList, Array.getElem?_toList]
  congr 1
  omega

theorem splice_out {C A : Array Value} {off j : Nat} (h : off + A.size ≤ C.size) (hj : j < off ∨ off + A.size ≤ j) : (splice C off A)[j]? = C[j]? := by
  simp only [splice, List.getElem?_toArray, List.append_assoc]
  rcases hj with hj | hj
  · rw [List.getElem?_append_left (by simp; omega), List.getElem?_take_of_lt hj, Array.getElem?_toList]
  · rw [List.getElem?_append_right (by simp; omega), List.getElem?_append_right (by simp; omega), List.getElem?_drop, Array.getElem?_toList]
    congr 1
    simp
    omega

theorem splice_whole {C A : Array Value} (h : A.size = C.size) : splice C 0 A = A := by
  apply Array.ext_getElem?
  intro j
  by_cases hj : j < A.size
  · have := splice_in (C := C) (A := A) (off := 0) (by omega) hj
    simpa using this
  · rw [splice_out (by omega) (by omega), Array.getElem?_eq_none (by omega), Array.getElem?_eq_none (by omega)]

theorem run_storeVar_sub {b off : Nat} {ty t : TypeId} {A C : Array Value} (hg : w.heap[b]? = some (.cells C t)) (hle : off + A.size ≤ C.size) (h1 : ∀ v ∈ A.toList, v.oneCell' = true)
    (hi : (P.info? ty).map (·.size) = some A.size) {v : Value} (hv : v.cells = A) :
    (storeVar ty ⟨b, off, none⟩ v).run P w = .ok () (w.setRow b (splice C off A)) := by
  have hs := run_storeCells_at P b off t A.toList 0 C w hg (by simpa using hle) h1
  cases hinfo : P.info? ty with
  | none => simp [hinfo] at hi
  | some i =>
    have hsz : i.size = A.size := by simpa [hinfo] using hi
    simp [storeVar, sizeOf, typeInfo, hv, hinfo, hsz]
    simpa [splice] using hs

theorem exec_store_sub {o : Oper} {ty t : TypeId} {p x : Operand} {b off : Nat} {A C : Array Value} {v : Value} (ho : o.op = .store ty p x) (hp : a.eval p = .pointer (some ⟨b, off, none⟩)) (hx : a.eval x = v) (hv : v.cells = A)
    (hg : w.heap[b]? = some (.cells C t)) (hle : off + A.size ≤ C.size) (h1 : ∀ v ∈ A.toList, v.oneCell' = true) (hi : (P.info? ty).map (·.size) = some A.size) :
    (execOp a.eval o).run P w = .ok .skip (w.setRow b (splice C off A)) := by
  unfold execOp
  simp only [ho, hp, hx, Instr.storeAt, Instr.sureAddr, Sem.run_bind, Sem.run_pure, Result.andThen_ok, run_storeVar_sub hg hle h1 hi hv]

/-- One block that was there has been written; nothing else has turned. -/
structure Wrote (w w' : World) (b : Nat) : Prop where
  os : w'.os = w.os
  tape : w'.tape = w.tape
  output : w'.output = w.output
  size : w'.heap.size = w.heap.size
  block : ∀ k, k ≠ b → w'.heap[k]? = w.heap[k]?

theorem Wrote.setRow (w : World) (b : Nat) (C : Array Value) : Wrote w (w.setRow b C) b :=
  ⟨rfl, rfl, rfl, by simp, fun _ h => setRow_other _ _ _ _ h⟩

theorem Wrote.below {B b : Nat} {w0 w w' : World} (h : Wrote w w' b) (hb : Below B w0 w) (hB : B ≤ b) : Below B w0 w' :=
  ⟨h.os.trans hb.os, h.tape.trans hb.tape, h.output.trans hb.output, by rw [h.size]; exact hb.size, fun k hk => (h.block k (by omega)).trans (hb.block k hk)⟩

/-- Old memory has turned in one block at most. -/
structure Only (w0 w : World) (b : Nat) : Prop where
  os : w.os = w0.os
  tape : w.tape = w0.tape
  output : w.output = w0.output
  size : w0.heap.size ≤ w.heap.size
  block : ∀ k, k < w0.heap.size → k ≠ b → w.heap[k]? = w0.heap[k]?

theorem Only.refl (w : World) (b : Nat) : Only w w b := ⟨rfl, rfl, rfl, Nat.le_refl _, fun _ _ _ => rfl⟩
theorem Only.trans {w0 w1 w2 : World} {b : Nat} (h : Only w0 w1 b) (k : Only w1 w2 b) : Only w0 w2 b :=
  ⟨k.os.trans h.os, k.tape.trans h.tape, k.output.trans h.output, Nat.le_trans h.size k.size, fun i hi hne => (k.block i (Nat.lt_of_lt_of_le hi h.size) hne).trans (h.block i hi hne)⟩
theorem Only.of_below {w0 w : World} {b : Nat} (h : Below w0.heap.size w0 w) : Only w0 w b := ⟨h.os, h.tape, h.output, h.size, fun i hi _ => h.block i hi⟩
theorem Only.below {w0 w w' : World} {b : Nat} (h : Only w0 w b) (k : Below w.heap.size w w') : Only w0 w' b := h.trans (.of_below k)
theorem Only.wrote {w0 w w' : World} {b c : Nat} (h : Only w0 w b) (k : Wrote w w' c) (hc : c = b ∨ w0.heap.size ≤ c) : Only w0 w' b :=
  ⟨k.os.trans h.os, k.tape.trans h.tape, k.output.trans h.output, by rw [k.size]; exact h.size, fun i hi hne => (k.block i (by rcases hc with rfl | hc <;> omega)).trans (h.block i hi hne)⟩
theorem Only.drew {w0 w : World} {b : Nat} (h : Only w0 w b) : Only w0 w.drew b := ⟨h.os, h.tape, h.output, h.size, h.block⟩
theorem Only.alloc {w0 w : World} {b : Nat} (h : Only w0 w b) (o : Obj) : Only w0 (w.alloc o) b :=
  h.trans (.of_below ((Below.refl _ _).alloc (Nat.le_refl _) _))
/-- Written in a block of its own alone. -/
theorem Only.toBelow {B : Nat} {w00 w0 w : World} {b : Nat} (h : Only w0 w b) (hB : Below B w00 w0) (hs : B ≤ w0.heap.size) (hb : B ≤ b) : Below B w00 w :=
  ⟨h.os.trans hB.os, h.tape.trans hB.tape, h.output.trans hB.output, Nat.le_trans hB.size h.size, fun k hk => (h.block k (by omega) (by omega)).trans (hB.block k hk)⟩

theorem wp_region_tail {id : Nat} {l : List Oper} (n : Nat) (hm : P.follows .mixedOrders = true) (hB : Region.lexTailB .any l.toArray n = true)
    (h : wpStill P l.toArray w.drew (fun a' => wpList P l.toArray Q (l.drop n) a' w.drew) (l.take n) a) : (Code.region id l.toArray true).wp P Q a w :=
  wp_region_still_tail n hm hB h

theorem results_cell_tmps2 {fn : Func} {p t u : Tmp} {ty : TypeId} (h : fn.results = #[.cell p ty, .tmp t, .tmp u]) (tmps : Array Value) {b off : Nat} {A : Array Value} {d : TypeDesc}
    (hp : tmps.getD p undef = .pointer (some ⟨b, off, none⟩)) (hg : RowAt w b off A)
    (hu : P.underlying ty = some d) (hd : (match d with | .struct _ | .array _ _ => true | _ => false) = true) (hi : (P.info? ty).map (·.size) = some A.size) :
    (results fn tmps).run P w = .ok (.tuple #[.agg A, tmps.getD t undef, tmps.getD u undef]) w := by
  have hp' : tmps[p]?.getD undef = .pointer (some ⟨b, off, none⟩) := by simpa using hp
  simp [results, h, hp', asAddr, run_loadVar_sub hg hu hd hi]

theorem exec_box {o : Oper} {e : TypeId} {x : Operand} {v : Value} {C : Array Value} (ho : o.op = .box e x) (hx : a.eval x = v) (hc : v.cells = C) :
    (execOp a.eval o).run P w = .ok (.value (.pointer (some ⟨w.heap.size, 0, none⟩))) (w.alloc (.cells C e)) := by
  unfold execOp
  subst hx hc
  simp only [ho, Instr.box, newVar, newRow, newObj, Sem.run_bind, Sem.run_pure, Sem.run, Result.andThen_ok]
  rfl

theorem exec_alloc {o : Oper} {e : TypeId} {z : Value} {C : Array Value} (ho : o.op = .alloc e) (hz : (P.info? e).bind (·.zero) = some z) (hc : z.cells = C) :
    (execOp a.eval o).run P w = .ok (.value (.pointer (some ⟨w.heap.size, 0, none⟩))) (w.alloc (.cells C e)) := by
  unfold execOp
  subst hc
  cases hinfo : P.info? e with
  | none => simp [hinfo] at hz
  | some i =>
    have hz' : i.zero = some z := by simpa [hinfo] using hz
    simp only [ho, Instr.alloc, zeroValue, typeInfo, newVar, newRow, newObj, Sem.run_bind, run_program, hinfo, hz', Sem.run_pure, Sem.run, Result.andThen_ok]
    rfl

theorem exec_build {o : Oper} {t : TypeId} {parts : Array (Nat × Operand)} {ps : Array (Nat × Value)} {v : Value} (ho : o.op = .build t parts) (hp : parts.map (fun x => (x.1, a.eval x.2)) = ps)
    (hb : (Instr.build t ps).run P w = .ok v w) : (execOp a.eval o).run P w = .ok (.value v) w := by
  unfold execOp
  subst hp
  simp only [ho, Sem.run_bind, hb, Result.andThen_ok, Sem.run_pure]
end

/-! ### Arrays of integers: their cells, and how they are held against each other -/

/-- The cells of an array of integers. -/
def icells (k : IntKind) (l : List Int) : Array Value := (l.map (Value.int k)).toArray

@[simp] theorem size_icells (k : IntKind) (l : List Int) : (icells k l).size = l.length := by simp [icells]

theorem icells_get (k : IntKind) (l : List Int) (j : Nat) : (icells k l)[j]? = (l[j]?).map (Value.int k) := by simp [icells]

theorem icells_one (k : IntKind) (l : List Int) : ∀ v ∈ (icells k l).toList, v.oneCell' = true := by
  intro v hv
  simp [icells] at hv
  obtain ⟨n, _, rfl⟩ := hv
  rfl

/-- How two stretches of an array stand to each other: the loop of '=='. -/
def eqFrom (x y : List Int) : List Nat → Bool
  | [] => true
  | i :: r => if x.getD i 0 == y.getD i 0 then eqFrom x y r else false

theorem eqFrom_range (x y : List Int) : ∀ (n i : Nat), eqFrom x y (List.range' i n) = true ↔ ∀ j, i ≤ j → j < i + n → x.getD j 0 = y.getD j 0
  | 0, i => by simp [eqFrom]; omega
  | n + 1, i => by
    rw [List.range'_succ, eqFrom]
    by_cases h : x.getD i 0 = y.getD i 0
    · rw [if_pos (by simpa using h), eqFrom_range x y n (i + 1)]
      constructor
      · intro H j h1 h2
        by_cases e : j = i
        · subst e; exact h
        · exact H j (by omega) (by omega)
      · intro H j h1 h2
        exact H j (by omega) (by omega)
    · rw [if_neg (by simpa using h)]
      constructor
      · intro H; cases H
      · intro H
        exact absurd (H i (Nat.le_refl _) (by omega)) h

theorem eqFrom_whole {x y : List Int} {n : Nat} (hx : x.length = n) (hy : y.length = n) : eqFrom x y (List.range' 0 n) = (x == y) := by
  rw [Bool.eq_iff_iff, eqFrom_range, beq_iff_eq]
  constructor
  · intro H
    refine List.ext_getElem (hx.trans hy.symm) fun i h1 h2 => ?_
    have := H i (Nat.zero_le _) (by omega)
    simpa [h1, h2] using this
  · rintro rfl j _ _
    rfl

section
variable {P : Program} {w : World}

theorem run_part_int {e : TypeId} {k k' : IntKind} {l : List Int} {i : Nat} (he : P.underlying e = some (.int k')) (hi : i < l.length) :
    (part e (icells k l) i).run P w = .ok (.int k (l.getD i 0)) w := by
  have hc : (icells k l)[i]? = some (.int k (l.getD i 0)) := by
    rw [icells_get]
    simp [hi]
  simp [part, isAgg, run_underlying he, hc]

theorem run_eqLoop {d : Nat} {e : TypeId} {k k' : IntKind} {x y : List Int} (he : P.underlying e = some (.int k')) : ∀ (is : List Nat), (∀ i ∈ is, i < x.length ∧ i < y.length) →
    Sem.run P (forIn is ((none, ()) : Option Bool × Unit) fun i (_ : Option Bool × Unit) => do
      let a ← part e (icells k x) (i * 1)
      let b ← part e (icells k y) (i * 1)
      let r ← Op.equalIn (d + 1) e a b
      if (!r) = true then pure (ForInStep.done (some false, ())) else pure (ForInStep.yield (none, ()))) w =
    .ok (if eqFrom x y is then (none, ()) else (some false, ())) w
  | [], _ => by simp [eqFrom]
  | i :: is, h => by
    have hi := h i (by simp)
    have ih := run_eqLoop (d := d) (k := k) (x := x) (y := y) he is (fun j hj => h j (by simp [hj]))
    have hq : (Op.equalIn (d + 1) e (.int k (x.getD i 0)) (.int k (y.getD i 0))).run P w = .ok (x.getD i 0 == y.getD i 0) w := run_equalIn_int w d e k k' _ _ he
    rw [List.forIn_cons]
    simp only [Nat.mul_one, Sem.run_bind, run_part_int he hi.1, run_part_int he hi.2, Result.andThen_ok, hq]
    simp only [Nat.mul_one] at ih
    rw [eqFrom]
    by_cases hc : (x.getD i 0 == y.getD i 0) = true
    · simp only [hc, Bool.not_true, Bool.false_eq_true, if_false, if_true, Sem.run_pure, Result.andThen_ok]
      exact ih
    · simp only [hc, Bool.not_false, if_true, Sem.run_pure, Result.andThen_ok, Bool.false_eq_true, if_false]

theorem run_equalIn_ints {d : Nat} {t e : TypeId} {n : Nat} {k k' : IntKind} {x y : List Int} (ht : P.underlying t = some (.array n e)) (he : P.underlying e = some (.int k'))
    (hs : (P.info? e).map (·.size) = some 1) (hx : x.length = n) (hy : y.length = n) :
    (Op.equalIn (d + 2) t (.agg (icells k x)) (.agg (icells k y))).run P w = .ok (x == y) w := by
  have hsz : (Go.sizeOf e).run P w = .ok 1 w := by
    cases hinfo : P.info? e with
    | none => simp [hinfo] at hs
    | some i => simp [hinfo] at hs; simp [Go.sizeOf, typeInfo, hinfo, hs]
  have hl := run_eqLoop (P := P) (w := w) (d := d) (k := k) (x := x) (y := y) he (List.range' 0 n) (fun i hi => by
    have := List.mem_range'_1.1 hi
    omega)
  rw [eqFrom_whole hx hy] at hl
  rw [Op.equalIn]
  simp only [Sem.run_bind, run_underlying ht, Result.andThen_ok, hsz, Std.Legacy.Range.forIn_eq_forIn_range', Std.Legacy.Range.size, Nat.sub_zero, Nat.add_sub_cancel, Nat.div_one]
  rw [hl]
  cases hxy : (x == y) <;> simp
end

section
variable {P : Program} {a : Act} {w : World}

theorem exec_eql_ints {o : Oper} {x y : Operand} {t t' e : TypeId} {n : Nat} {k k' : IntKind} {l m : List Int} (ho : o.op = .binOp .eql t x y t') (hx : a.eval x = .agg (icells k l)) (hy : a.eval y = .agg (icells k m))
    (hm : P.eqGuardType P.depth t = false) (ht : P.underlying t = some (.array n e)) (he : P.underlying e = some (.int k')) (hs : (P.info? e).map (·.size) = some 1) (hl : l.length = n) (hl' : m.length = n) :
    (execOp a.eval o).run P w = .ok (.value (.bool (l == m))) w := by
  unfold execOp
  simp only [ho, hx, hy, Sem.run_bind, run_eqGuard_agg w .eql t x y _ _ hm, run_eql_struct, run_equalIn_ints (d := 9998) ht he hs hl hl', Result.andThen_ok, Sem.run_pure]

theorem exec_neq_ints {o : Oper} {x y : Operand} {t t' e : TypeId} {n : Nat} {k k' : IntKind} {l m : List Int} (ho : o.op = .binOp .neq t x y t') (hx : a.eval x = .agg (icells k l)) (hy : a.eval y = .agg (icells k m))
    (hm : P.eqGuardType P.depth t = false) (ht : P.underlying t = some (.array n e)) (he : P.underlying e = some (.int k')) (hs : (P.info? e).map (·.size) = some 1) (hl : l.length = n) (hl' : m.length = n) :
    (execOp a.eval o).run P w = .ok (.value (.bool (!(l == m)))) w := by
  unfold execOp
  simp only [ho, hx, hy, Sem.run_bind, run_eqGuard_agg w .neq t x y _ _ hm, run_neq_struct, run_equalIn_ints (d := 9998) ht he hs hl hl', Result.andThen_ok, Sem.run_pure]
end

/-! ### Single operations that look at no memory -/
section
variable {P : Program} {a : Act} {w : World} {ops : Array Oper} {Q : Exit → Act → World → Prop} {S : World → Prop} {K : Act → World → Prop} {i : Nat}

theorem exec_move {o : Oper} {x : Operand} {v : Value} (ho : o.op = .move x) (hx : a.eval x = v) : (execOp a.eval o).run P w = .ok (.value v) w := by
  unfold execOp; simp only [ho, hx]; rfl
theorem exec_assign {o : Oper} {x : Operand} {v : Value} (ho : o.op = .assign x) (hx : a.eval x = v) : (execOp a.eval o).run P w = .ok (.value v) w := by
  unfold execOp; simp only [ho, hx]; rfl
theorem exec_extract {o : Oper} {x : Operand} {j : Nat} {vs : Array Value} {v : Value} (ho : o.op = .extract x j) (hx : a.eval x = .tuple vs) (hv : vs[j]? = some v) : (execOp a.eval o).run P w = .ok (.value v) w := by
  unfold execOp
  simp [ho, hx, Instr.extract, hv]
theorem exec_nilCheck {o : Oper} {x : Operand} {p : Addr} (ho : o.op = .nilCheck x) (hx : a.eval x = .pointer (some p)) : (execOp a.eval o).run P w = .ok (.value (.pointer (some p))) w := by
  unfold execOp; simp only [ho, hx]; rfl
theorem exec_load_cell {o : Oper} {x : Operand} {ty : TypeId} {p : Addr} {v : Value} {d : TypeDesc} (ho : o.op = .load ty x) (hx : a.eval x = .pointer (some p)) (hu : P.underlying ty = some d)
    (hd : (match d with | .struct _ | .array _ _ => true | _ => false) = false) (hc : w.cell? p = some v) : (execOp a.eval o).run P w = .ok (.value v) w := by
  unfold execOp
  cases d <;> simp at hd <;> simp [ho, hx, Instr.loadAt, Instr.sureAddr, loadVar, isAgg, run_underlying hu, load, Sem.run, hc]

theorem exec_call {o : Oper} {f : FuncId} {fn : Func} {xs : Array Operand} {ts : Array TypeId} {vs : Array Value} (ho : o.op = .call { callee := .value (.func f), args := xs, argTypes := ts }) (hx : xs.map a.eval = vs)
    (hf : P.funcs[f]? = some fn) (hn : (fn.name == "runtime.NumGoroutine") = false) (hb : fn.body.isNone = false) : (execOp a.eval o).run P w = .ok (.enter f vs) w := by
  subst hx
  have he : a.eval (.func f) = .func (.func f) #[] #[] := rfl
  unfold execOp
  have hn' : fn.name ≠ "runtime.NumGoroutine" := by simpa using hn
  have hb' : fn.body ≠ none := by intro e; rw [e] at hb; cases hb
  simp [ho, he, resolve, Deferred.ofValue, invoke, callFunc, hf, hn', hb']

theorem exec_call1 {o : Oper} {f : FuncId} {fn : Func} {x : Operand} {ts : Array TypeId} {v : Value} (ho : o.op = .call { callee := .value (.func f), args := #[x], argTypes := ts }) (hx : a.eval x = v)
    (hf : P.funcs[f]? = some fn) (hn : (fn.name == "runtime.NumGoroutine") = false) (hb : fn.body.isNone = false) : (execOp a.eval o).run P w = .ok (.enter f #[v]) w :=
  exec_call ho (by simp [← hx]) hf hn hb
theorem exec_call2 {o : Oper} {f : FuncId} {fn : Func} {x y : Operand} {ts : Array TypeId} {v u : Value} (ho : o.op = .call { callee := .value (.func f), args := #[x, y], argTypes := ts }) (hx : a.eval x = v) (hy : a.eval y = u)
    (hf : P.funcs[f]? = some fn) (hn : (fn.name == "runtime.NumGoroutine") = false) (hb : fn.body.isNone = false) : (execOp a.eval o).run P w = .ok (.enter f #[v, u]) w :=
  exec_call ho (by simp [← hx, ← hy]) hf hn hb
theorem exec_call3 {o : Oper} {f : FuncId} {fn : Func} {x y z : Operand} {ts : Array TypeId} {v u s : Value} (ho : o.op = .call { callee := .value (.func f), args := #[x, y, z], argTypes := ts }) (hx : a.eval x = v) (hy : a.eval y = u) (hz : a.eval z = s)
    (hf : P.funcs[f]? = some fn) (hn : (fn.name == "runtime.NumGoroutine") = false) (hb : fn.body.isNone = false) : (execOp a.eval o).run P w = .ok (.enter f #[v, u, s]) w :=
  exec_call ho (by simp [← hx, ← hy, ← hz]) hf hn hb

theorem wp_region_heldN {id n : Nat} (hn : ops.size = n) (hm : P.follows .mixedOrders = true) (hS : S w.drew)
    (h : wpAnyH P .any ops Q S n (Array.replicate n false) a w.drew) : (Code.region id ops true).wp P Q a w := by
  subst hn
  exact wp_region_held_drew hm hS fun _ => h

theorem yieldsIf_run {o : Oper} {v : Value} (hg : o.guard = none) (hr : ∀ w, S w → (execOp a.eval o).run P w = .ok (.value v) w) : YieldsIf P ops S o v a :=
  .inl ⟨wanted_plain hg _, hr⟩

/-- An operation of a drawn region that yields its value in every world that meets S is taken first. -/
theorem take_run {md : Region.Mode} {l : List Oper} {j d fuel : Nat} {o : Oper} {v : Value} {listed : Array Bool} {tmps : List Value} {defers : List Deferred}
    (hi : l[j]? = some o) (hd : o.dst = some d) (hg : o.guard = none) (hs : Region.noSelect l.toArray = true) (hf : Region.free md l.toArray listed j = true) (hr : (Region.ready md l.toArray listed).contains j = true)
    (hQ : ∀ c a w, Q (.panic c) (a.put o.dst v) w → Q (.panic c) a w) (hx : ∀ w, S w → (execOp (Act.eval ⟨tmps.toArray, defers⟩) o).run P w = .ok (.value v) w) (hS : S w)
    (h : wpAnyH P md l.toArray Q S fuel (listed.setIfInBounds j true) ⟨(tmps.set d v).toArray, defers⟩ w) : wpAnyH P md l.toArray Q S (fuel + 1) listed ⟨tmps.toArray, defers⟩ w :=
  wpAnyH_take (by simpa using hi) hs hf hr hQ (yieldsIf_run hg hx) hS (by rw [hd]; simpa [Act.put] using h)

/-- Whichever comes up: a list of those, each met by its own. -/
theorem all_run {md : Region.Mode} {l : List Oper} {rs : List Nat} {fuel : Nat} {listed : Array Bool} (hr : Region.ready md l.toArray listed = rs) (hne : rs.isEmpty = false)
    (h : ∀ j ∈ rs, wpOp P l.toArray Q j (fun a' w' => S w' ∧ wpAnyH P md l.toArray Q S fuel (listed.setIfInBounds j true) a' w') a w) : wpAnyH P md l.toArray Q S (fuel + 1) listed a w :=
  wpAnyH_all hr (by rintro rfl; cases hne) h

theorem run_val {l : List Oper} {j d : Nat} {o : Oper} {v : Value} {w' : World} {tmps : List Value} {defers : List Deferred} (hi : l[j]? = some o) (hd : o.dst = some d) (hg : o.guard = none)
    (hr : (execOp (Act.eval ⟨tmps.toArray, defers⟩) o).run P w = .ok (.value v) w') (h : K ⟨(tmps.set d v).toArray, defers⟩ w') : wpOp P l.toArray Q j K ⟨tmps.toArray, defers⟩ w := by
  unfold wpOp
  simp only [show l.toArray[j]? = some o by simpa using hi, wanted_plain hg _, if_true]
  refine .inl ?_
  unfold Oper.wp
  rw [hr]
  show K (Act.put _ o.dst v) w'
  rw [hd]
  simpa [Act.put] using h
theorem run_skip {l : List Oper} {j : Nat} {o : Oper} {w' : World} (hi : l[j]? = some o) (hd : o.dst = none) (hg : o.guard = none) (hr : (execOp a.eval o).run P w = .ok .skip w') (h : K a w') : wpOp P l.toArray Q j K a w := by
  unfold wpOp
  simp only [show l.toArray[j]? = some o by simpa using hi, wanted_plain hg _, if_true]
  refine .inl ?_
  unfold Oper.wp
  rw [hr]
  show K (Act.put _ o.dst undef) w'
  rw [hd]
  exact h
theorem run_call {l : List Oper} {j d : Nat} {o : Oper} {f : FuncId} {args : Array Value} {R : Ending → World → Prop} {tmps : List Value} {defers : List Deferred} (hi : l[j]? = some o) (hd : o.dst = some d) (hg : o.guard = none)
    (hr : (execOp (Act.eval ⟨tmps.toArray, defers⟩) o).run P w = .ok (.enter f args) w) (hc : Calls P f args w R)
    (h : ∀ e w', R e w' → ∃ v, e = .returned v ∧ K ⟨(tmps.set d v).toArray, defers⟩ w') : wpOp P l.toArray Q j K ⟨tmps.toArray, defers⟩ w := by
  unfold wpOp
  simp only [show l.toArray[j]? = some o by simpa using hi, wanted_plain hg _, if_true]
  refine .inl ?_
  unfold Oper.wp
  rw [hr]
  refine hc.mono fun e w' he => ?_
  obtain ⟨v, rfl, hk⟩ := h e w' he
  show K (Act.put _ o.dst v) w'
  rw [hd]
  simpa [Act.put] using hk

theorem wpOp_val {o : Oper} {v : Value} {w' : World} (hi : ops[i]? = some o) (hg : o.guard = none) (hr : (execOp a.eval o).run P w = .ok (.value v) w') (h : K (a.put o.dst v) w') : wpOp P ops Q i K a w := by
  unfold wpOp
  simp only [hi, wanted_plain hg _, if_true]
  refine .inl ?_
  unfold Oper.wp
  rw [hr]
  exact h
theorem wpOp_skip {o : Oper} {w' : World} (hi : ops[i]? = some o) (hg : o.guard = none) (hr : (execOp a.eval o).run P w = .ok .skip w') (h : K (a.put o.dst undef) w') : wpOp P ops Q i K a w := by
  unfold wpOp
  simp only [hi, wanted_plain hg _, if_true]
  refine .inl ?_
  unfold Oper.wp
  rw [hr]
  exact h
theorem wpOp_call {o : Oper} {f : FuncId} {args : Array Value} {R : Ending → World → Prop} (hi : ops[i]? = some o) (hg : o.guard = none) (hr : (execOp a.eval o).run P w = .ok (.enter f args) w) (hc : Calls P f args w R)
    (h : ∀ e w', R e w' → ∃ v, e = .returned v ∧ K (a.put o.dst v) w') : wpOp P ops Q i K a w := by
  unfold wpOp
  simp only [hi, wanted_plain hg _, if_true]
  refine .inl ?_
  unfold Oper.wp
  rw [hr]
  refine hc.mono fun e w' he => ?_
  obtain ⟨v, rfl, hk⟩ := h e w' he
  exact hk
end

/-! ### A drawn region, whose last operations may write what the others have read -/
section
variable {P : Program} {ops : Array Oper} {Q : Exit → Act → World → Prop} {md : Region.Mode} {S : World → Prop} {late : Nat → Bool}

/-- Whatever order is picked from here on; S holds behind every operation that is carried out, but for the late ones. -/
def wpAnyW (P : Program) (md : Region.Mode) (ops : Array Oper) (Q : Exit → Act → World → Prop) (S : World → Prop) (late : Nat → Bool) : Nat → Array Bool → Act → World → Prop
  | 0, listed, a, w => Region.ready md ops listed = [] ∧ Q .normal a w
  | fuel + 1, listed, a, w =>
    (Region.ready md ops listed = [] → Q .normal a w) ∧
    ∀ i ∈ Region.ready md ops listed, wpOp P ops Q i (fun a' w' => (late i = false → S w') ∧ wpAnyW P md ops Q S late fuel (listed.setIfInBounds i true) a' w') a w

theorem wpAny_of_late : ∀ (fuel : Nat) (listed : Array Bool) (a : Act) (w : World), wpAnyW P md ops Q S late fuel listed a w → wpAny P md ops Q fuel listed a w
  | 0, _, _, _, h => h
  | fuel + 1, _, _, _, h => ⟨h.1, fun i hi => wpOp_mono (fun a' w' h' => wpAny_of_late fuel _ a' w' h'.2) (h.2 i hi)⟩

/-- Every late operation waits for number i. -/
def lateWaits (md : Region.Mode) (ops : Array Oper) (late : Nat → Bool) (i : Nat) : Bool :=
  (List.range ops.size).all fun j => !late j || ((ops[j]?).map fun o => o.after.any fun e => Region.binds md e && e.on == i).getD false

theorem lateWaits_spec {i : Nat} (h : lateWaits md ops late i = true) {j : Nat} {o : Oper} (hj : ops[j]? = some o) (hl : late j = true) : ∃ e ∈ o.after, Region.binds md e = true ∧ e.on = i := by
  have h1 := List.all_eq_true.1 h j (List.mem_range.2 (Array.getElem?_eq_some_iff.1 hj).1)
  simp only [hj, hl, Bool.not_true, Bool.false_or, Option.map_some, Option.getD_some] at h1
  obtain ⟨e, he, hb⟩ := Array.any_eq_true'.1 h1
  simp only [Bool.and_eq_true, beq_iff_eq] at hb
  exact ⟨e, he, hb.1, hb.2⟩

theorem wpAnyW_first {i : Nat} {oi : Oper} {v : Value} (hi : ops[i]? = some oi) (hsel : ∀ (j : Nat) (o : Oper) cs b, ops[j]? = some o → o.op ≠ .select cs b)
    (hQ : ∀ c a w, Q (.panic c) (a.put oi.dst v) w → Q (.panic c) a w) (hlate : lateWaits md ops late i = true) :
    ∀ (fuel : Nat) (listed : Array Bool) (a : Act) (w : World),
      (∀ j oj, ops[j]? = some oj → j ≠ i → listed.getD j true = false → (∀ e ∈ oj.after, Region.binds md e = true → e.on ≠ i) → oi.apart ops oj = true) →
      i ∈ Region.ready md ops listed → YieldsIf P ops S oi v a → S w →
      wpAnyW P md ops Q S late fuel (listed.setIfInBounds i true) (a.put oi.dst v) w → wpAnyW P md ops Q S late (fuel + 1) listed a w := by
  intro fuel
  induction fuel with
  | zero =>
    intro listed a w _ hr hy hS H
    refine ⟨fun h => (by rw [h] at hr; cases hr), fun j hj => ?_⟩
    by_cases hji : j = i
    · subst hji; exact hy.wpOp hi hS ⟨fun _ => hS, H⟩
    · have := ready_mono hj hji
      rw [H.1] at this
      cases this
  | succ fuel ih =>
    intro listed a w hfree hr hy hS H
    refine ⟨fun h => (by rw [h] at hr; cases hr), fun j hj => ?_⟩
    by_cases hji : j = i
    · subst hji; exact hy.wpOp hi hS ⟨fun _ => hS, H⟩
    · have h1 := H.2 j (ready_mono hj hji)
      obtain ⟨hjun, oj, hoj, hall⟩ := mem_ready.1 hj
      have hnot : ∀ e ∈ oj.after, Region.binds md e = true → e.on ≠ i := fun e he hb heq => by
        have h1 := hall e he hb
        have h0 := (mem_ready.1 hr).1
        rw [heq] at h1
        rcases Nat.lt_or_ge i listed.size with h' | h'
        · simp [h'] at h0 h1; rw [h0] at h1; cases h1
        · simp [Array.getElem?_eq_none h'] at h1
      have hnl : late j = false := by
        cases hl : late j with
        | false => rfl
        | true =>
          obtain ⟨e, he, hb, ho⟩ := lateWaits_spec hlate hoj hl
          exact absurd ho (hnot e he hb)
      have h2 := wpOp_putIf hoj (hfree j oj hoj hji hjun hnot) (fun cs b => hsel i oi cs b hi) (fun cs b => hsel j oj cs b hoj) hQ hy h1
      have hfree' : ∀ k ok, ops[k]? = some ok → k ≠ i → (listed.setIfInBounds j true).getD k true = false →
          (∀ e ∈ ok.after, Region.binds md e = true → e.on ≠ i) → oi.apart ops ok = true := fun k ok hk hki hun hno => by
        refine hfree k ok hk hki ?_ hno
        by_cases hjk : j = k
        · subst hjk; exact hjun
        · rw [getD_set_ne true hjk] at hun; exact hun
      refine wpOp_mono (fun a' w' h3 => ⟨h3.2.1, ih (listed.setIfInBounds j true) a' w' hfree' (ready_mono hr (Ne.symm hji)) h3.1 (h3.2.1 hnl) ?_⟩) h2
      rw [Array.setIfInBounds_comm _ _ hji]
      exact h3.2.2

/-- An operation that yields its value in every world that meets S is taken first. -/
theorem takeW {l : List Oper} {j d fuel : Nat} {o : Oper} {v : Value} {listed : Array Bool} {tmps : List Value} {defers : List Deferred} {w : World}
    (hi : l[j]? = some o) (hd : o.dst = some d) (hg : o.guard = none) (hs : Region.noSelect l.toArray = true) (hf : Region.free md l.toArray listed j = true) (hr : (Region.ready md l.toArray listed).contains j = true)
    (hw : lateWaits md l.toArray late j = true) (hQ : ∀ c a w, Q (.panic c) (a.put o.dst v) w → Q (.panic c) a w) (hx : ∀ w, S w → (execOp (Act.eval ⟨tmps.toArray, defers⟩) o).run P w = .ok (.value v) w) (hS : S w)
    (h : wpAnyW P md l.toArray Q S late fuel (listed.setIfInBounds j true) ⟨(tmps.set d v).toArray, defers⟩ w) : wpAnyW P md l.toArray Q S late (fuel + 1) listed ⟨tmps.toArray, defers⟩ w :=
  wpAnyW_first (by simpa using hi) (Region.noSelect_spec hs) hQ hw fuel listed _ w (Region.free_spec (by simpa using hi) hf) (by simpa using hr) (yieldsIf_run hg hx) hS (by rw [hd]; simpa [Act.put] using h)

theorem allW {l : List Oper} {rs : List Nat} {fuel : Nat} {listed : Array Bool} {a : Act} {w : World} (hr : Region.ready md l.toArray listed = rs) (hne : rs.isEmpty = false)
    (h : ∀ j ∈ rs, wpOp P l.toArray Q j (fun a' w' => (late j = false → S w') ∧ wpAnyW P md l.toArray Q S late fuel (listed.setIfInBounds j true) a' w') a w) : wpAnyW P md l.toArray Q S late (fuel + 1) listed a w :=
  ⟨fun h0 => absurd (hr ▸ h0) (by rintro rfl; cases hne), hr ▸ h⟩

/-- Just one may come up. -/
theorem oneW {l : List Oper} (j : Nat) {fuel : Nat} {listed : Array Bool} {a : Act} {w : World} (hr : Region.ready md l.toArray listed = [j])
    (h : wpOp P l.toArray Q j (fun a' w' => (late j = false → S w') ∧ wpAnyW P md l.toArray Q S late fuel (listed.setIfInBounds j true) a' w') a w) : wpAnyW P md l.toArray Q S late (fuel + 1) listed a w :=
  allW hr rfl (fun r hr => by obtain rfl : r = j := by simpa using hr
                              exact h)

theorem doneW {listed : Array Bool} {a : Act} {w : World} (hr : Region.ready md ops listed = []) (h : Q .normal a w) : ∀ fuel, wpAnyW P md ops Q S late fuel listed a w
  | 0 => ⟨hr, h⟩
  | _ + 1 => ⟨fun _ => h, by rw [hr]; simp⟩

theorem wp_regionW {id n : Nat} {a : Act} {w : World} (hn : ops.size = n) (hm : P.follows .mixedOrders = true)
    (h : wpAnyW P .any ops Q S late n (Array.replicate n false) a w.drew) : (Code.region id ops true).wp P Q a w := by
  subst hn
  exact wp_region_any hm (wpAny_of_late _ _ _ _ h)
end

end Go.Proofs.Ytgjijoielfpmkaa
