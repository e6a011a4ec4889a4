/- The chapter's own slab in memory: a struct of its room and a slice of things (two cells each). -/
import Derived.Test.YtghphopbfamclaaDoorRa
import Derived.Laws.OwnMore
namespace Go.Proofs.YtghphopbfamclaaDoor
open Go.RowKit

def pc (q : Nat × Nat) : List Value := [.int .i64 (q.1 : Int), .int .u64 (q.2 : Int)]
/-- The cells of a list of things. -/
def pcells (L : List (Nat × Nat)) : List Value := L.flatMap pc

theorem pcells_len (L : List (Nat × Nat)) : (pcells L).length = L.length * 2 := by
  induction L with
  | nil => rfl
  | cons q L ih =>
    simp only [pcells, List.flatMap_cons, List.length_append, List.length_cons] at ih ⊢
    rw [ih]; simp [pc]; omega

theorem pcells_append (L M : List (Nat × Nat)) : pcells (L ++ M) = pcells L ++ pcells M := by
  unfold pcells; rw [List.flatMap_append]

theorem pcells_get : ∀ (L : List (Nat × Nat)) (i : Nat) (q : Nat × Nat), L[i]? = some q → (pcells L)[i * 2]? = some (.int .i64 (q.1 : Int)) ∧ (pcells L)[i * 2 + 1]? = some (.int .u64 (q.2 : Int))
  | [], i, q, h => by simp at h
  | x :: L, 0, q, h => by
    simp at h
    subst h
    exact ⟨rfl, rfl⟩
  | x :: L, i + 1, q, h => by
    rw [List.getElem?_cons_succ] at h
    have := pcells_get L i q h
    have e : pcells (x :: L) = .int .i64 (x.1 : Int) :: .int .u64 (x.2 : Int) :: pcells L := rfl
    rw [e, show (i + 1) * 2 = i * 2 + 1 + 1 by omega]
    simp only [List.getElem?_cons_succ]
    exact this

theorem pcells_one (L : List (Nat × Nat)) : ∀ v ∈ pcells L, v.oneCell' = true := by
  intro v hv
  simp only [pcells, List.mem_flatMap, pc, List.mem_cons, List.not_mem_nil, or_false] at hv
  obtain ⟨q, _, rfl | rfl⟩ := hv <;> rfl

theorem pcells_take (L : List (Nat × Nat)) (n : Nat) (h : n ≤ L.length) : pcells (L.take n) = (pcells L).take (n * 2) := by
  have e : pcells L = pcells (L.take n) ++ pcells (L.drop n) := by rw [← pcells_append, List.take_append_drop]
  rw [e, List.take_left' (by rw [pcells_len]; simp; omega)]
theorem pcells_drop (L : List (Nat × Nat)) (n : Nat) (h : n ≤ L.length) : pcells (L.drop n) = (pcells L).drop (n * 2) := by
  have e : pcells L = pcells (L.take n) ++ pcells (L.drop n) := by rw [← pcells_append, List.take_append_drop]
  rw [e, List.drop_left' (by rw [pcells_len]; simp; omega)]

/-- A slice of things. -/
def SLT (w : World) (v : Value) (L : List (Nat × Nat)) (base : Nat) : Prop := w.ownsRow base 70 2 v L.length (pcells L)

section
variable {w w' : World} {v : Value} {L : List (Nat × Nat)} {base : Nat}

theorem SLT.form (h : SLT w v L base) : ∃ a cap, v = .slice a L.length cap := by
  rcases h.2 with ⟨h1, h2⟩ | ⟨g, cap, _, h1, _⟩
  · exact ⟨none, 0, by rw [h1, h2]⟩
  · exact ⟨_, _, h1⟩

theorem SLT.nil (w : World) (base : Nat) : SLT w (.slice none 0 0) [] base := World.ownsRow_nil _ _ _ _

/-- Of a slice that holds something: its block, and its cells. -/
theorem SLT.row (h : SLT w v L base) (h0 : 0 < L.length) : ∃ g cap C, v = .slice (some ⟨g, 0, none⟩) L.length cap ∧ base ≤ g ∧ w.heap[g]? = some (.cells C 70) ∧ L.length ≤ cap ∧ C.size = cap * 2 ∧ C.toList.take (L.length * 2) = pcells L := by
  rcases h.2 with ⟨h1, h2⟩ | ⟨g, cap, cur, h1, h2, h3, h4, h5, h6, h7⟩
  · omega
  · exact ⟨g, cap, cur, h1, h2, h3, h4, h6, h7⟩

theorem SLT.at (h : SLT w v L base) {i : Nat} {q : Nat × Nat} (hi : L[i]? = some q) : ∃ g cap, v = .slice (some ⟨g, 0, none⟩) L.length cap ∧ base ≤ g ∧ w.cell? ⟨g, i * 2, none⟩ = some (.int .i64 (q.1 : Int)) ∧ w.cell? ⟨g, i * 2 + 1, none⟩ = some (.int .u64 (q.2 : Int)) := by
  have hlt : i < L.length := (List.getElem?_eq_some_iff.1 hi).1
  obtain ⟨g, cap, C, h1, h2, h3, h4, h5, h6⟩ := h.row (by omega)
  have hg := pcells_get L i q hi
  rw [← h6] at hg
  rw [List.getElem?_take_of_lt (by omega), List.getElem?_take_of_lt (by omega), Array.getElem?_toList, Array.getElem?_toList] at hg
  refine ⟨g, cap, h1, h2, ?_, ?_⟩
  · simp only [World.cell?, h3]; rw [if_neg (by simp)]; exact hg.1
  · simp only [World.cell?, h3]; rw [if_neg (by simp)]; exact hg.2

theorem SLT.keep (h : SLT w v L base) (hb : ∀ (g : Nat) (C : Array Value), base ≤ g → w.heap[g]? = some (.cells C 70) → w'.heap[g]? = some (.cells C 70)) : SLT w' v L base := by
  refine ⟨h.1, ?_⟩
  rcases h.2 with h1 | ⟨g, cap, cur, h1, h2, h3, h4⟩
  · exact .inl h1
  · exact .inr ⟨g, cap, cur, h1, h2, hb g cur h2 h3, h4⟩
theorem SLT.kept (h : SLT w v L base) (hb : Below w.heap.size w w') : SLT w' v L base :=
  h.keep fun _ _ _ hg => (hb.block _ (Array.getElem?_eq_some_iff.1 hg).1).trans hg

theorem SLT.take {g cap n : Nat} (h : SLT w (.slice (some ⟨g, 0, none⟩) L.length cap) L base) (hn : n ≤ L.length) : SLT w (.slice (some ⟨g, 0, none⟩) n cap) (L.take n) base := by
  have hl : (L.take n).length = n := by simp; omega
  refine ⟨pcells_len _, ?_⟩
  rcases h.2 with ⟨h2, _⟩ | ⟨g', cap', cur, h2, h3, h4, h5, h6, h7, h8⟩
  · cases h2
  · cases h2
    refine .inr ⟨g, cap, cur, by rw [hl], h3, h4, by omega, h6, h7, ?_⟩
    rw [hl, pcells_take L n hn, ← h8, List.take_take]
    congr 1
    have : n * 2 ≤ L.length * 2 := Nat.mul_le_mul_right _ hn
    omega
end

/-- The chapter's slab in block r. -/
structure RefAt (w : World) (r room : Nat) (L : List (Nat × Nat)) (base : Nat) : Prop where
  ex : ∃ v, w.heap[r]? = some (.cells #[.int .i64 (room : Int), v] 62) ∧ SLT w v L base
  low : base ≤ r
  le : L.length ≤ room
  most : room ≤ 4096

section
variable {w w' : World} {r room : Nat} {L : List (Nat × Nat)} {base : Nat}
theorem RefAt.lt (h : RefAt w r room L base) : r < w.heap.size := by
  obtain ⟨v, h1, _⟩ := h.ex
  exact (Array.getElem?_eq_some_iff.1 h1).1
theorem RefAt.keep (h : RefAt w r room L base) (hb : Below w.heap.size w w') : RefAt w' r room L base := by
  obtain ⟨v, h1, h2⟩ := h.ex
  exact ⟨⟨v, (hb.block _ (Array.getElem?_eq_some_iff.1 h1).1).trans h1, h2.kept hb⟩, h.low, h.le, h.most⟩

/-- What turns where the chapter's slab is written: its struct, its things. -/
structure RTurn (w w' : World) (r base : Nat) : Prop where
  os : w'.os = w.os
  tape : w'.tape = w.tape
  output : w'.output = w.output
  size : w.heap.size ≤ w'.heap.size
  block : ∀ k, k < w.heap.size → k ≠ r → (k < base ∨ ∀ C, w.heap[k]? ≠ some (.cells C 70)) → w'.heap[k]? = w.heap[k]?

theorem RTurn.of_below (h : Below w.heap.size w w') : RTurn w w' r base := ⟨h.os, h.tape, h.output, h.size, fun k hk _ _ => h.block k hk⟩
theorem RTurn.below {B : Nat} {w0 : World} (h : RTurn w w' r base) (hb : Below B w0 w) (h1 : B ≤ r) (h2 : B ≤ base) (hs : B ≤ w.heap.size) : Below B w0 w' :=
  ⟨h.os.trans hb.os, h.tape.trans hb.tape, h.output.trans hb.output, Nat.le_trans hb.size h.size, fun k hk => (h.block k (by omega) (by omega) (.inl (by omega))).trans (hb.block k hk)⟩

/-- A slab of the program's stays. -/
theorem SlabIn.rturn {p bt bu rm many : Nat} {ws X : List Nat} (h : SlabIn w p bt bu rm ws X many) (ht : RTurn w w' r base) (hr : ∃ C, w.heap[r]? = some (.cells C 62)) : SlabIn w' p bt bu rm ws X many := by
  obtain ⟨C, hr⟩ := hr
  have hl := h.lts
  refine ⟨(ht.block p hl.1 ?_ (.inr ?_)).trans h.head, (ht.block bt hl.2.1 ?_ (.inr ?_)).trans h.things, (ht.block bu hl.2.2 ?_ (.inr ?_)).trans h.used, h.lenX, h.lenW, h.small, h.least, h.most⟩
  · rintro rfl; have := h.head; rw [hr] at this; cases this
  · intro C e; have := h.head; rw [e] at this; cases this
  · rintro rfl; have := h.things; rw [hr] at this; cases this
  · intro C e; have := h.things; rw [e] at this; cases this
  · rintro rfl; have := h.used; rw [hr] at this; cases this
  · intro C e; have := h.used; rw [e] at this; cases this

theorem RefAt.struct (h : RefAt w r room L base) : ∃ C, w.heap[r]? = some (.cells C 62) := by
  obtain ⟨v, h1, _⟩ := h.ex
  exact ⟨_, h1⟩

/-- The program's slab written leaves the chapter's. -/
theorem RefAt.turned {p bt bu rm : Nat} {U : Nat → Bool} {V : Nat → Nat} (h : RefAt w r room L base) (hs : Slab w p bt bu rm U V) (ht : Turned w w' p bt bu) : RefAt w' r room L base := by
  obtain ⟨v, h1, h2⟩ := h.ex
  obtain ⟨ws, X, hs⟩ := hs
  have hne : ∀ (k : Nat) (C : Array Value) (t : TypeId), w.heap[k]? = some (.cells C t) → t = 62 ∨ t = 70 → w'.heap[k]? = some (.cells C t) := by
    intro k C t hk ht'
    refine (ht.block k ?_ ?_ ?_).trans hk
    · rintro rfl; have := hs.mem.head; rw [hk] at this; rcases ht' with rfl | rfl <;> cases this
    · rintro rfl; have := hs.mem.things; rw [hk] at this; rcases ht' with rfl | rfl <;> cases this
    · rintro rfl; have := hs.mem.used; rw [hk] at this; rcases ht' with rfl | rfl <;> cases this
  exact ⟨⟨v, hne _ _ _ h1 (.inl rfl), h2.keep fun g C _ hg => hne _ _ _ hg (.inr rfl)⟩, h.low, h.le, h.most⟩

theorem RefAt.cell0 {v : Value} (h1 : w.heap[r]? = some (.cells #[.int .i64 (room : Int), v] 62)) : w.cell? ⟨r, 0, none⟩ = some (.int .i64 (room : Int)) := by
  simp only [World.cell?, h1]; rfl
theorem RefAt.cell1 {v : Value} (h1 : w.heap[r]? = some (.cells #[.int .i64 (room : Int), v] 62)) : w.cell? ⟨r, 1, none⟩ = some v := by
  simp only [World.cell?, h1]; rfl
end

/-! ### The operations on such slices -/
theorem info70 : (Tryd.prog.info? 70).map (fun i => (i.zero, i.size, i.bytes)) = some (some (.agg #[.int .i64 0, .int .u64 0]), 2, 16) := by kernel_rfl
theorem und60 : Tryd.prog.underlying 60 = some (.slice 70) := by kernel_rfl

/-- What is appended: a stretch of cells in memory. -/
def TCells (w : World) (u : Value) (M : List (Nat × Nat)) : Prop := (u = .slice none 0 0 ∧ M = []) ∨ ∃ a c, u = .slice (some a) M.length c ∧ ∀ j x, (pcells M)[j]? = some x → w.cell? (a.add j) = some x

theorem SLT.tcells {w : World} {v : Value} {L : List (Nat × Nat)} {base : Nat} (h : SLT w v L base) : TCells w v L := by
  rcases h.2 with ⟨h1, h2⟩ | ⟨g, cap, cur, h1, _⟩
  · exact .inl ⟨h1, List.eq_nil_of_length_eq_zero h2⟩
  · exact .inr ⟨⟨g, 0, none⟩, cap, h1, World.ownsRow.cells h (by rw [h1]; rfl)⟩

theorem SLT.drop {w : World} {g cap n : Nat} {L : List (Nat × Nat)} {base : Nat} (h : SLT w (.slice (some ⟨g, 0, none⟩) L.length cap) L base) (hn : n ≤ L.length) (c : Nat) : TCells w (.slice (some ⟨g, n * 2, none⟩) (L.length - n) c) (L.drop n) := by
  refine .inr ⟨_, c, by rw [List.length_drop], fun j x hx => ?_⟩
  rw [pcells_drop L n hn, List.getElem?_drop] at hx
  have := World.ownsRow.cells h (g := g) rfl (n * 2 + j) x hx
  have e1 : (⟨g, 0, none⟩ : Addr).add (n * 2 + j) = ⟨g, n * 2 + j, none⟩ := by unfold Addr.add; split <;> simp_all
  have e2 : (⟨g, n * 2, none⟩ : Addr).add j = ⟨g, n * 2 + j, none⟩ := by unfold Addr.add; split <;> simp_all
  rw [e2]; rw [e1] at this
  exact this

theorem exec_append_slt {a : Act} {w : World} {o : Oper} {s x : Operand} {v u : Value} {L M : List (Nat × Nat)} {base : Nat} (ho : o.op = .call { callee := .builtin .append, args := #[s, x], argTypes := #[60, 60] })
    (hs : a.eval s = v) (hx : a.eval x = u) (hvL : SLT w v L base) (hu : TCells w u M) (hlen : L.length + M.length ≤ 10000) (hbase : base ≤ w.heap.size) :
    ∃ v' w', (execOp a.eval o).run Tryd.prog w = .ok (.value v') w' ∧ SLT w' v' (L ++ M) base ∧ w.grownBy w' v.ownBlock := by
  obtain ⟨i0, hi, hz0, hz1, hz2⟩ := info_parts info70
  rcases hu with ⟨h1, h2⟩ | ⟨ad, c, h1, hc⟩
  · have hrun := run_append_owned_none (P := Tryd.prog) (w := w) base 60 o.type 70 i0 2 und60 hi v L.length (pcells L) hvL
    refine ⟨v, w, ?_, by rw [h2, List.append_nil]; exact hvL, ⟨rfl, rfl, rfl, Nat.le_refl _, fun _ _ _ => rfl⟩⟩
    simp [execOp, ho, resolve, invoke, builtin, hs, hx, h1, hrun, Result.andThen]
  · obtain ⟨v', w', hrun, hown, hgr, _⟩ := run_append_own (P := Tryd.prog) w base 60 o.type 70 i0 (.agg #[.int .i64 0, .int .u64 0]) 2 16 und60 hi hz0 hz1 hz2 rfl (by decide) v L.length (pcells L) hvL ad M.length c (pcells M) (pcells_len M)
      hc (pcells_one M) (by unfold maxLen; omega) (by omega) hbase
    refine ⟨v', w', ?_, by unfold SLT; rw [List.length_append, pcells_append]; exact hown, hgr⟩
    simp [execOp, ho, resolve, invoke, builtin, hs, hx, h1, hrun, Result.andThen]

section
variable {Q : Exit → Act → World → Prop} {K : Act → World → Prop} {w : World} {ops : Array Oper} {rest : List Oper} {a : Act} {dst : Option Tmp} {s x y : Operand} {ty : TypeId} {pos : String} {after : Array Edge} {v u : Value} {L M : List (Nat × Nat)} {base : Nat}

theorem wl_append_slt (hs : a.eval s = v) (hx : a.eval x = u) (hvL : SLT w v L base) (hu : TCells w u M) (hlen : L.length + M.length ≤ 10000) (hbase : base ≤ w.heap.size)
    (K : ∀ v' w', SLT w' v' (L ++ M) base → w.grownBy w' v.ownBlock → wpList Tryd.prog ops Q rest (a.put dst v') w') :
    wpList Tryd.prog ops Q (⟨dst, .call { callee := .builtin .append, args := #[s, x], argTypes := #[60, 60] }, ty, pos, after, none⟩ :: rest) a w := by
  obtain ⟨v', w', hr, h1, h2⟩ := exec_append_slt (a := a) (o := ⟨dst, .call { callee := .builtin .append, args := #[s, x], argTypes := #[60, 60] }, ty, pos, after, none⟩) rfl hs hx hvL hu hlen hbase
  exact wpList_run rfl hr (K v' w' h1 h2)

theorem rn_append_slt {l : List Oper} {j d : Nat} {tmps : List Value} {defers : List Deferred}
    (hi : l[j]? = some ⟨some d, .call { callee := .builtin .append, args := #[s, x], argTypes := #[60, 60] }, ty, pos, after, none⟩) (hs : Act.eval ⟨tmps.toArray, defers⟩ s = v) (hx : Act.eval ⟨tmps.toArray, defers⟩ x = u)
    (hvL : SLT w v L base) (hu : TCells w u M) (hlen : L.length + M.length ≤ 10000) (hbase : base ≤ w.heap.size)
    (hk : ∀ v' w', SLT w' v' (L ++ M) base → w.grownBy w' v.ownBlock → K ⟨(tmps.set d v').toArray, defers⟩ w') : wpOp Tryd.prog l.toArray Q j K ⟨tmps.toArray, defers⟩ w := by
  obtain ⟨v', w', hr, h1, h2⟩ := exec_append_slt (a := ⟨tmps.toArray, defers⟩) (o := ⟨some d, .call { callee := .builtin .append, args := #[s, x], argTypes := #[60, 60] }, ty, pos, after, none⟩) rfl hs hx hvL hu hlen hbase
  exact run_val hi rfl rfl hr (hk v' w' h1 h2)
end

end Go.Proofs.YtghphopbfamclaaDoor
