/- A transaction that came in, opened: the plain data, and how they lie in memory. -/
import Derived.Test.YtgjijoielfpmkaaA
import Derived.Test.YtgjijoielfpmkaaOpen
import Derived.Deep.Slices
import Derived.HandedShaped
set_option linter.unusedVariables false
namespace Go.Proofs.Ytgjijoielfpmkaa
open Go.ChangeShapes Go.WideShapes Go.ChangeAt Go.RowKit Go.Deep

/-! ### How much a reading weighs -/
section
variable {H : Type} {P : Program}
/-- Nothing in it is heavier than what a machine reaches. -/
def Wt (P : Program) (t : TypeId) (d : DataW H) : Prop := ∀ n ∈ d.weights P t, n ≤ reachBytes
theorem Wt.field {t : TypeId} {fs : Array Field} {parts : List (DataW H)} (h : Wt P t (.agg parts)) (ht : P.underlying t = some (.struct fs)) {i : Nat} {f : Field} {d : DataW H} (hf : fs[i]? = some f) (hd : parts[i]? = some d) : Wt P f.type d := fun n hn => by
  refine h n ?_
  simp only [DataW.weights, ht]
  exact DataW.weights_mem_each (j := i) (t := f.type) (by simp [hf]) hd n hn
theorem weights_mem_all {e : TypeId} {l : List (DataW H)} {d : DataW H} (h : d ∈ l) : ∀ n ∈ d.weights P e, n ∈ DataW.weightsAll P e l := by
  induction l with
  | nil => cases h
  | cons c l ih =>
    intro n hn
    simp only [DataW.weightsAll, List.mem_append]
    rcases List.mem_cons.1 h with rfl | h
    · exact .inl hn
    · exact .inr (ih h n hn)
theorem Wt.elem {t e : TypeId} {elems spare : List (DataW H)} (h : Wt P t (.slice elems spare)) (ht : P.underlying t = some (.slice e)) {d : DataW H} (hd : d ∈ elems) : Wt P e d := fun n hn => by
  refine h n ?_
  simp only [DataW.weights, ht, List.mem_cons, List.mem_append]
  exact .inr (.inl (weights_mem_all hd n hn))
theorem Wt.len {t e : TypeId} {elems spare : List (DataW H)} (h : Wt P t (.slice elems spare)) (ht : P.underlying t = some (.slice e)) (hb : 0 < P.bytesOf e) : elems.length ≤ lenMax := by
  have := h ((elems.length + spare.length) * P.bytesOf e) (by simp [DataW.weights, ht])
  have h2 : (elems.length + spare.length) * 1 ≤ (elems.length + spare.length) * P.bytesOf e := Nat.mul_le_mul_left _ hb
  unfold reachBytes at this
  unfold lenMax
  omega
end

/-! ### Rows -/
section
variable {H : Type} {enc : TypeId × Value → H} {w : World}

theorem rowAt_of_cells {a : Addr} {n : Nat} {cs : List Value} (h : w.cells? 0 a n = some cs) (hn : 0 < n) : a.spot = none ∧ cs.length = n ∧ RowAt w a.block a.off cs.toArray := by
  obtain ⟨_, hl, hc⟩ := World.cells?_some h
  have h0 : w.cell? (a.add 0) = some cs[0] := (hc 0 hn).trans (List.getElem?_eq_getElem (by omega))
  have hs : a.spot = none := by
    have := World.cell?_spot h0
    simpa [Addr.add] using this
  obtain ⟨b, off, sp⟩ := a
  obtain rfl : sp = none := hs
  have hadd : ∀ i, (⟨b, off, none⟩ : Addr).add i = ⟨b, off + i, none⟩ := fun i => by unfold Addr.add; split <;> simp_all
  refine ⟨rfl, hl, ?_⟩
  have hg : ∃ C t fr, w.heap[b]? = some (.cells C t fr) := by
    rw [hadd] at h0
    unfold World.cell? at h0
    split at h0
    · rename_i e; exact ⟨_, _, _, e⟩
    · cases h0
  obtain ⟨C, t, fr, e⟩ := hg
  have hcell : ∀ j, j < n → C[off + j]? = cs[j]? := fun j hj => by
    have := hc j hj
    rw [hadd] at this
    unfold World.cell? at this
    simp only [e] at this
    simpa using this
  refine ⟨C, t, fr, e, ?_, fun j hj => ?_⟩
  · have := hcell (n - 1) (by omega)
    rw [List.getElem?_eq_getElem (show n - 1 < cs.length by omega)] at this
    have := (Array.getElem?_eq_some_iff.1 this).1
    simp only [List.size_toArray]
    omega
  · simp only [List.size_toArray] at hj
    rw [hcell j (by omega)]
    simp

/-- A slice that came in, row by row. -/
theorem open_rows {t e : TypeId} {s fuel : Nat} {cs : List Value} {x : DataW H × List MemPlace} (ht : Try.prog.underlying t = some (.slice e)) (hs : Try.prog.cellsOf e = s) (h0 : 0 < s) (hb : 0 < Try.prog.bytesOf e) (h : DataW.trod enc Try.prog w 0 (fun _ => true) true fuel t cs = some x) (hw : Wt Try.prog t x.1) :
    ∃ ao D c, cs = [.slice ao (D.length) c] ∧ RowsAt w ao s D ∧ D.length ≤ lenMax ∧ (ao = none → c = 0) ∧ ∀ C ∈ D, ∃ n y, DataW.trod enc Try.prog w 0 (fun _ => true) true n e C.toList = some y ∧ Wt Try.prog e y.1 := by
  rcases open_slice ht h with ⟨rfl, rfl⟩ | ⟨a, len, cap, m, n, D, Pl, rfl, _, hl, hm, hmm, rfl, hel⟩
  · exact ⟨none, [], 0, rfl, fun j C hj => by simp at hj, Nat.zero_le _, fun _ => rfl, fun C hC => by simp at hC⟩
  rw [if_pos rfl] at hmm
  subst hmm
  obtain ⟨V, hV⟩ := choose_lt (α := List Value) (fun i hi => hel i hi)
  have hDl : ((List.range len).map fun i => (V i).toArray).length = len := by simp
  refine ⟨some a, (List.range len).map fun i => (V i).toArray, m, by rw [hDl], fun j C hj => ?_, ?_, fun e => (by cases e), fun C hC => ?_⟩
  · have hjl := (List.getElem?_eq_some_iff.1 hj).1
    rw [hDl] at hjl
    rw [List.getElem?_map, List.getElem?_range hjl] at hj
    simp only [Option.map_some, Option.some.injEq] at hj
    obtain ⟨h1, _⟩ := hV j (by omega)
    rw [hs] at h1
    obtain ⟨p1, _, p3⟩ := rowAt_of_cells h1 h0
    obtain ⟨b, off, sp⟩ := a
    have hadd : ((⟨b, off, sp⟩ : Addr).add (j * s)).block = b ∧ ((⟨b, off, sp⟩ : Addr).add (j * s)).off = off + j * s ∧ (j * s = 0 → ((⟨b, off, sp⟩ : Addr).add (j * s)).spot = sp) := by
      unfold Addr.add; split <;> simp_all
    obtain ⟨q1, _⟩ := hV 0 (by omega)
    rw [hs] at q1
    obtain ⟨r1, _, _⟩ := rowAt_of_cells q1 h0
    have hsp : sp = none := by
      rw [Nat.zero_mul] at r1
      simpa [Addr.add] using r1
    subst hsp
    refine ⟨b, off, rfl, ?_⟩
    rw [← hj]
    rw [hadd.1, hadd.2.1] at p3
    exact p3
  · rw [hDl]
    have := hw.len ht hb
    simpa using this
  · obtain ⟨i, hi, rfl⟩ := List.mem_map.1 hC
    have hi' := List.mem_range.1 hi
    refine ⟨n, _, (hV i (by omega)).2, ?_⟩
    exact hw.elem ht (List.mem_map.2 ⟨i, hi, rfl⟩)

theorem list_choose {α β : Type} {f : α → β} {Q : α → Prop} : ∀ {D : List β}, (∀ C ∈ D, ∃ i, f i = C ∧ Q i) → ∃ L : List α, L.map f = D ∧ ∀ i ∈ L, Q i
  | [], _ => ⟨[], rfl, fun i hi => by cases hi⟩
  | C :: D, h => by
    obtain ⟨i, h1, h2⟩ := h C List.mem_cons_self
    obtain ⟨L, h3, h4⟩ := list_choose (D := D) (fun C hC => h C (List.mem_cons_of_mem _ hC))
    refine ⟨i :: L, by simp [h1, h3], fun q hq => ?_⟩
    rcases List.mem_cons.1 hq with rfl | hq
    · exact h2
    · exact h4 q hq

theorem wf_u8 {n : Int} (h : (Lit.int .u8 n).wf = true) : 0 ≤ n ∧ n < 256 := by
  simp [Lit.wf, IntKind.min, IntKind.max, IntKind.bits, IntKind.signed] at h
  omega

/-- Bytes that came in. -/
theorem open_bytes {fuel : Nat} {cs : List Value} {x : DataW H × List MemPlace} (h : DataW.trod enc Try.prog w 0 (fun _ => true) true fuel 42 cs = some x) (hw : Wt Try.prog 42 x.1) :
    ∃ ao A c, cs = [.slice ao (A.length) c] ∧ BytesAt w ao A ∧ A.length ≤ lenMax ∧ (ao = none → c = 0) := by
  obtain ⟨ao, D, c, rfl, hr, hl, hn, hel⟩ := open_rows (s := 1) Try.underlying42 (by kernel_rfl) (by decide) (of_decide_eq_true (by kernel_rfl)) h hw
  obtain ⟨A, hA, hQ⟩ := list_choose (f := fun (q : Nat) => (#[Value.int .u8 (q : Int)] : Array Value)) (Q := fun q => q < 256) (D := D) (fun C hC => by
    obtain ⟨n, y, h1, _⟩ := hel C hC
    obtain ⟨q, e1, _, e3⟩ := DataW.trod_int u5 h1
    have := wf_u8 e3
    refine ⟨q.toNat, ?_, by omega⟩
    have e : ((q.toNat : Nat) : Int) = q := by omega
    apply Array.toList_inj.1
    rw [e1]
    simp [e])
  subst hA
  refine ⟨ao, A, c, by simp, fun j hj => ?_, by simpa using hl, hn⟩
  have hg : A.getD j 0 = A[j] := by simp [List.getD_eq_getElem?_getD, hj]
  obtain ⟨b, off, e, hrow⟩ := hr j #[.int .u8 ((A[j] : Nat) : Int)] (by simp [hj])
  rw [hg]
  rw [Nat.mul_one] at hrow
  have hc := hrow.cell (j := 0) (by simp)
  exact ⟨hQ _ (List.getElem_mem _), b, off, e, hrow.lt, by simpa using hc⟩

/-- Bytes by value. -/
theorem open_arr {t : TypeId} {n fuel : Nat} {cs : List Value} {x : DataW H × List MemPlace} (ht : Try.prog.underlying t = some (.array n 5)) (hc : Try.prog.cellsOf t = n) (h : DataW.trod enc Try.prog w 0 (fun _ => true) true fuel t cs = some x) :
    ∃ l : List Int, cs = l.map (Value.int .u8) ∧ l.length = n ∧ ∀ m ∈ l, 0 ≤ m ∧ m < 256 := by
  obtain ⟨l, h1, h2, h3, _⟩ := array_of_trod ht u5 hc (by kernel_rfl) h
  exact ⟨l, h1, h2, fun m hm => wf_u8 (h3 m hm)⟩
end
end Go.Proofs.Ytgjijoielfpmkaa
