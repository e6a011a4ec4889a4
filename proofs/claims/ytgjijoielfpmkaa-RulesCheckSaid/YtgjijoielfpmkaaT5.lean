/- Structs out of their parts; what a transaction's twin is. -/
import Derived.Test.YtgjijoielfpmkaaT4
set_option linter.unusedVariables false
namespace Go.Proofs.Ytgjijoielfpmkaa
open Go.RowKit

/-! ### A struct made of its parts -/
theorem foldl_splice (A : Array Value) (off : Nat) (Z : Array Value) (h : off + A.size ≤ Z.size) : A.zipIdx.foldl (fun cs (x : Value × Nat) => cs.setIfInBounds (off + x.2) x.1) Z = splice Z off A := by
  have key : ∀ (l : List Value) (k : Nat) (Z : Array Value), ((l.zipIdx k).foldl (fun cs (x : Value × Nat) => cs.setIfInBounds (off + x.2) x.1) Z).size = Z.size ∧ ∀ j,
      ((l.zipIdx k).foldl (fun cs (x : Value × Nat) => cs.setIfInBounds (off + x.2) x.1) Z)[j]? = if off + k ≤ j ∧ j < off + k + l.length ∧ j < Z.size then l[j - (off + k)]? else Z[j]? := by
    intro l
    induction l with
    | nil => intro k Z; exact ⟨rfl, fun j => by rw [if_neg (by simp; omega)]; rfl⟩
    | cons v l ih =>
      intro k Z
      obtain ⟨h1, h2⟩ := ih (k + 1) (Z.setIfInBounds (off + k) v)
      simp only [List.zipIdx_cons, List.foldl_cons]
      refine ⟨by rw [h1]; simp, fun j => ?_⟩
      rw [h2, Array.size_setIfInBounds]
      by_cases hj : j < Z.size
      · by_cases e : j = off + k
        · subst e
          rw [if_neg (by omega), if_pos (by simp; omega), Array.getElem?_setIfInBounds, if_pos rfl, if_pos hj]
          simp
        · by_cases hk : off + (k + 1) ≤ j ∧ j < off + (k + 1) + l.length ∧ j < Z.size
          · rw [if_pos hk, if_pos (by simp; omega)]
            have : j - (off + k) = (j - (off + (k + 1))) + 1 := by omega
            rw [this, List.getElem?_cons_succ]
          · rw [if_neg hk, if_neg (by simp; omega), Array.getElem?_setIfInBounds, if_neg (fun h => e h.symm)]
      · rw [if_neg (by omega), if_neg (by omega), Array.getElem?_setIfInBounds]
        split
        · rename_i e; subst e; rw [if_neg hj, Array.getElem?_eq_none (by omega)]
        · rfl
  apply Array.ext_getElem?
  intro j
  rw [← Array.foldl_toList, Array.toList_zipIdx, (key A.toList 0 Z).2]
  simp only [Nat.add_zero, Array.length_toList]
  by_cases hj : off ≤ j ∧ j < off + A.size
  · rw [if_pos (by omega), Array.getElem?_toList]
    obtain ⟨i, rfl⟩ : ∃ i, j = off + i := ⟨j - off, by omega⟩
    rw [splice_in h (by omega), Nat.add_sub_cancel_left]
  · rw [if_neg (by omega), splice_out h (by omega)]
theorem fill_step {place : Nat → Option (Nat × Nat)} {Z : Array Value} {i off s : Nat} {v : Value} {rest : List (Nat × Value)} (hp : place i = some (off, s)) (hs : v.cells.size = s) (hf : off + s ≤ Z.size) :
    Instr.fill place Z ((i, v) :: rest) = Instr.fill place (splice Z off v.cells) rest := by
  have h1 : ¬ ((v.cells.size ≠ s || off + v.cells.size > Z.size) = true) := by simp [hs]; omega
  simp only [Instr.fill, hp]
  rw [if_neg h1, foldl_splice v.cells off Z (by omega)]
theorem splice_start {Z A : Array Value} (h : A.size ≤ Z.size) : splice Z 0 A = A ++ (Z.toList.drop A.size).toArray := by
  unfold splice; simp
theorem splice_next {Z A B : Array Value} {n : Nat} (h : A.size = n) : splice (A ++ (Z.toList.drop n).toArray) n B = (A ++ B) ++ (Z.toList.drop (n + B.size)).toArray := by
  subst h
  unfold splice
  apply Array.ext'
  simp [List.drop_append]
theorem drop_none {Z : Array Value} {n : Nat} (h : Z.size ≤ n) : (Z.toList.drop n).toArray = #[] := by
  rw [List.drop_eq_nil_of_le (by simpa using h)]
theorem fill_two {place : Nat → Option (Nat × Nat)} {Z : Array Value} {n1 n2 : Nat} {v1 v2 : Value} (p1 : place 0 = some (0, n1)) (p2 : place 1 = some (n1, n2)) (h1 : v1.cells.size = n1) (h2 : v2.cells.size = n2) (hZ : Z.size = n1 + n2) :
    Instr.fill place Z [(0, v1), (1, v2)] = some (v1.cells ++ v2.cells) := by
  rw [fill_step p1 h1 (by omega), splice_start (by omega), h1, fill_step p2 h2 (by simp; omega), splice_next h1, drop_none (by omega)]
  simp [Instr.fill]
theorem fill_three {place : Nat → Option (Nat × Nat)} {Z : Array Value} {n1 n2 n3 : Nat} {v1 v2 v3 : Value} (p1 : place 0 = some (0, n1)) (p2 : place 1 = some (n1, n2)) (p3 : place 2 = some (n1 + n2, n3)) (h1 : v1.cells.size = n1) (h2 : v2.cells.size = n2) (h3 : v3.cells.size = n3) (hZ : Z.size = n1 + n2 + n3) :
    Instr.fill place Z [(0, v1), (1, v2), (2, v3)] = some (v1.cells ++ v2.cells ++ v3.cells) := by
  rw [fill_step p1 h1 (by omega), splice_start (by omega), h1, fill_step p2 h2 (by simp; omega), splice_next h1, h2, fill_step p3 h3 (by simp; omega), splice_next (by simp; omega), drop_none (by omega)]
  simp [Instr.fill]
theorem run_build_parts (w : World) {t : TypeId} {fields : Array Field} {z : Value} {places : Array (Nat × Nat)} {ps : Array (Nat × Value)} {C : Array Value} (ht : Try.prog.underlying t = some (.struct fields)) (hz : (Try.prog.info? t).bind (·.zero) = some z)
    (hp : (fields.mapM fun (f : Field) => (do pure (f.offset, ← Go.sizeOf f.type) : Sem (Nat × Nat))).run Try.prog w = .ok places w) (hf : Instr.fill (places[·]?) z.cells ps.toList = some C) : (Instr.build t ps).run Try.prog w = .ok (.agg C) w := by
  have hz' : (zeroValue t).run Try.prog w = .ok z w := by
    cases hinfo : Try.prog.info? t with
    | none => simp [hinfo] at hz
    | some i =>
      have hz2 : i.zero = some z := by simpa [hinfo] using hz
      simp [zeroValue, typeInfo, hinfo, hz2, Sem.run_bind, Result.andThen]
  unfold Instr.build
  simp only [Sem.run_bind, hz', Result.andThen_ok, run_underlying ht, hp, hf, Sem.run_pure]

theorem places33 (w : World) : ∃ fields, Try.prog.underlying 33 = some (.struct fields) ∧ (fields.mapM fun (f : Field) => (do pure (f.offset, ← Go.sizeOf f.type) : Sem (Nat × Nat))).run Try.prog w = .ok #[(0, 1), (1, 39)] w := ⟨_, Try.underlying33, by kernel_rfl⟩
theorem places44 (w : World) : ∃ fields, Try.prog.underlying 44 = some (.struct fields) ∧ (fields.mapM fun (f : Field) => (do pure (f.offset, ← Go.sizeOf f.type) : Sem (Nat × Nat))).run Try.prog w = .ok #[(0, 32), (32, 1), (33, 1)] w := ⟨_, Try.underlying44, by kernel_rfl⟩
theorem places47 (w : World) : ∃ fields, Try.prog.underlying 47 = some (.struct fields) ∧ (fields.mapM fun (f : Field) => (do pure (f.offset, ← Go.sizeOf f.type) : Sem (Nat × Nat))).run Try.prog w = .ok #[(0, 1), (1, 1), (2, 1)] w := ⟨_, Try.underlying47, by kernel_rfl⟩

section
variable {a : Act} {w : World} {o : Oper} {x y s : Operand}
theorem exec_build33 {sa : Option Addr} {n c : Nat} {C : Array Value} (ho : o.op = .build 33 #[(0, x), (1, y)]) (hx : a.eval x = .slice sa n c) (hy : a.eval y = .agg C) (hC : C.size = 39) : (execOp a.eval o).run Try.prog w = .ok (.value (.agg (#[.slice sa n c] ++ C))) w := by
  obtain ⟨fs, h1, h2⟩ := places33 w
  obtain ⟨z, hz1, hz2⟩ := zero33
  exact exec_build (ps := #[(0, .slice sa n c), (1, .agg C)]) ho (by simp [hx, hy]) (run_build_parts w h1 hz1 h2 (fill_two rfl rfl rfl hC hz2))
theorem exec_build44 {T : List Int} {v u : Value} (ho : o.op = .build 44 #[(0, x), (1, y), (2, s)]) (hx : a.eval x = kv T) (hy : a.eval y = v) (hs : a.eval s = u) (hT : T.length = 32) (hv : v.cells = #[v]) (hu : u.cells = #[u]) :
    (execOp a.eval o).run Try.prog w = .ok (.value (.agg (icells .u8 T ++ #[v, u]))) w := by
  obtain ⟨fs, h1, h2⟩ := places44 w
  obtain ⟨z, hz1, hz2⟩ := zero44
  have e : icells .u8 T ++ #[v, u] = (kv T).cells ++ v.cells ++ u.cells := by rw [hv, hu]; apply Array.ext'; simp [kv, Value.cells]
  rw [e]
  exact exec_build (ps := #[(0, kv T), (1, v), (2, u)]) ho (by simp [hx, hy, hs]) (run_build_parts w h1 hz1 h2 (fill_three rfl rfl rfl (show (icells .u8 T).size = 32 by rw [size_icells, hT]) (by rw [hv]; rfl) (by rw [hu]; rfl) hz2))
theorem exec_build47 {p v u : Value} (ho : o.op = .build 47 #[(0, x), (1, y), (2, s)]) (hx : a.eval x = p) (hy : a.eval y = v) (hs : a.eval s = u) (hp : p.cells = #[p]) (hv : v.cells = #[v]) (hu : u.cells = #[u]) :
    (execOp a.eval o).run Try.prog w = .ok (.value (.agg #[p, v, u])) w := by
  obtain ⟨fs, h1, h2⟩ := places47 w
  obtain ⟨z, hz1, hz2⟩ := zero47
  have e : #[p, v, u] = p.cells ++ v.cells ++ u.cells := by rw [hp, hv, hu]; simp
  rw [e]
  exact exec_build (ps := #[(0, p), (1, v), (2, u)]) ho (by simp [hx, hy, hs]) (run_build_parts w h1 hz1 h2 (fill_three rfl rfl rfl (by rw [hp]; rfl) (by rw [hv]; rfl) (by rw [hu]; rfl) hz2))
end

/-! ### What a step leaves as it was -/
/-- All blocks stay, but for those of a type. -/
def KeepBut (e : TypeId) (w w' : World) : Prop := ∀ (b : Nat) (C : Array Value) (t : TypeId) (fr : Nat × Nat), w.heap[b]? = some (.cells C t fr) → t ≠ e → w'.heap[b]? = some (.cells C t fr)
theorem KeepBut.trans {e : TypeId} {w w1 w2 : World} (h : KeepBut e w w1) (k : KeepBut e w1 w2) : KeepBut e w w2 := fun b C t fr hb hne => k b C t fr (h b C t fr hb hne) hne
theorem Below.keepBut {w w' : World} (h : Below w.heap.size w w') (e : TypeId) : KeepBut e w w' := fun b C t fr hb _ => (h.block b (Array.getElem?_eq_some_iff.1 hb).1).trans hb
theorem Wrote.keepBut {w w1 : World} {g : Nat} {e : TypeId} {C : Array Value} (h : Wrote w w1 g) (hg : w.heap[g]? = some (.cells C e)) : KeepBut e w w1 := fun b C' t fr hb hne => by
  have hn : b ≠ g := by
    rintro rfl
    rw [hg] at hb
    simp only [Option.some.injEq, Obj.cells.injEq] at hb
    exact hne hb.2.1.symm
  exact (h.block b hn).trans hb
theorem OwnAt.keepButGrown {w w' : World} {base : Nat} {e : TypeId} {s : Nat} {v : Value} {D : List (Array Value)} (h : OwnAt w base e s v D) (g : w.grownBy w' v.ownBlock) : KeepBut e w w' := fun b C t fr hb hne => by
  refine (g.block b (Array.getElem?_eq_some_iff.1 hb).1 (fun ee => ?_)).trans hb
  rcases h.form with ⟨rfl, _⟩ | ⟨g2, c2, cur2, q1, q2, q3, _⟩
  · cases ee
  · rw [q1] at ee
    have e3 : b = g2 := by cases ee; rfl
    rw [← e3, hb] at q3
    simp only [Option.some.injEq, Obj.cells.injEq] at q3
    exact hne q3.2.1
theorem KeepBut.own {w w' : World} {base : Nat} {e e1 : TypeId} {s : Nat} {v : Value} {D : List (Array Value)} (k : KeepBut e w w') (h : OwnAt w base e1 s v D) (hne : e1 ≠ e) : OwnAt w' base e1 s v D := by
  refine ⟨⟨h.own.1, ?_⟩, h.size⟩
  rcases h.own.2 with h2 | ⟨g1, c1, cur1, p1, p2, p3, p4⟩
  · exact .inl h2
  · exact .inr ⟨g1, c1, cur1, p1, p2, k _ _ _ _ p3 hne, p4⟩

/-! ### Twins -/
def markB : Array Value := #[.int .u8 165]
/-- A twin of bytes. -/
def BTwin (w : World) (base : Nat) (A : List Nat) (ao : Option Addr) (c : Nat) : Prop := ∃ g, ao = some ⟨g, 0, none⟩ ∧ c = A.length + 3 ∧ OwnAt w base 5 1 (.slice (some ⟨g, 0, none⟩) (A.length + 3) (A.length + 3)) (room (bcells A) markB)
theorem BTwin.keepBut {w w' : World} {base : Nat} {e : TypeId} {A : List Nat} {ao : Option Addr} {c : Nat} (h : BTwin w base A ao c) (k : KeepBut e w w') (hne : 5 ≠ e) : BTwin w' base A ao c := by
  obtain ⟨g, h1, h2, h3⟩ := h
  exact ⟨g, h1, h2, k.own h3 hne⟩
theorem BTwin.keep {w w' : World} {base : Nat} {A : List Nat} {ao : Option Addr} {c : Nat} (h : BTwin w base A ao c) (k : Below w.heap.size w w') : BTwin w' base A ao c := h.keepBut (Below.keepBut k 0) (by decide)
theorem OwnAt.rowsSome {w : World} {base e s g n c : Nat} {D : List (Array Value)} (h : OwnAt w base e s (.slice (some ⟨g, 0, none⟩) n c) D) : RowsAt w (some ⟨g, 0, none⟩) s D := by
  obtain ⟨ao, c', e1, e2, _⟩ := h.rows
  simp only [Value.slice.injEq] at e1
  rw [e1.1]
  exact e2
theorem cell_of_rowAt {w : World} {b off : Nat} {v : Value} (h : RowAt w b off #[v]) : w.cell? ⟨b, off, none⟩ = some v := h.cell (j := 0) (show 0 < 1 by decide)
theorem BTwin.bytes {w : World} {base : Nat} {A : List Nat} {ao : Option Addr} {c : Nat} (h : BTwin w base A ao c) (hA : ∀ j, j < A.length → A.getD j 0 < 256) : BytesAt w ao A := by
  obtain ⟨g, rfl, h2, h3⟩ := h
  intro j hj
  obtain ⟨b, off, e1, e2⟩ := h3.rowsSome j _ ((room_low (by rw [bcells_length]; exact hj)).trans (bcells_get hj))
  rw [Nat.mul_one] at e2
  exact ⟨hA j hj, b, off, e1, e2.lt, cell_of_rowAt e2⟩
theorem BTwin.room {w : World} {base g : Nat} {A : List Nat} {c : Nat} (h : BTwin w base A (some ⟨g, 0, none⟩) c) : RoomAt w g A.length := by
  obtain ⟨g', e, h2, h3⟩ := h
  simp only [Option.some.injEq, Addr.mk.injEq, and_true] at e
  subst e
  intro i hi
  obtain ⟨b, off, e1, e2⟩ := h3.rowsSome (A.length + i) markB (room_high (by rw [bcells_length]; omega) (by rw [bcells_length]; omega))
  simp only [Option.some.injEq, Addr.mk.injEq, and_true] at e1
  obtain ⟨rfl, rfl⟩ := e1
  rw [Nat.mul_one, Nat.zero_add] at e2
  exact cell_of_rowAt e2

/-- An instruction's twin; a lookup's. -/
structure InsTwin (w : World) (base : Nat) (i i' : Ins) : Prop where
  p : i'.p = i.p
  A : i'.A = i.A
  D : i'.D = i.D
  ba : BTwin w base i.A i'.aa i'.ac
  bd : BTwin w base i.D i'.da i'.dc
structure LkTwin (w : World) (base : Nat) (l l' : Lk) : Prop where
  T : l'.T = l.T
  W : l'.W = l.W
  Rd : l'.Rd = l.Rd
  bw : BTwin w base l.W l'.wa l'.wc
  br : BTwin w base l.Rd l'.ra l'.rc
theorem InsTwin.keepBut {w w' : World} {base : Nat} {e : TypeId} {i i' : Ins} (h : InsTwin w base i i') (k : KeepBut e w w') (hne : 5 ≠ e) : InsTwin w' base i i' := { h with ba := h.ba.keepBut k hne, bd := h.bd.keepBut k hne }
theorem LkTwin.keepBut {w w' : World} {base : Nat} {e : TypeId} {l l' : Lk} (h : LkTwin w base l l') (k : KeepBut e w w') (hne : 5 ≠ e) : LkTwin w' base l l' := { h with bw := h.bw.keepBut k hne, br := h.br.keepBut k hne }

/-- Lists whose elements are so, one by one. -/
def Twins {α : Type} (R : α → α → Prop) (I I' : List α) : Prop := I'.length = I.length ∧ ∀ (j : Nat) i i', I[j]? = some i → I'[j]? = some i' → R i i'
theorem Twins.nil {α : Type} {R : α → α → Prop} {I : List α} : Twins R (I.take 0) [] := ⟨rfl, fun j i i' h => by simp at h⟩
theorem Twins.mono {α : Type} {R S : α → α → Prop} {I I' : List α} (h : Twins R I I') (k : ∀ i i', R i i' → S i i') : Twins S I I' := ⟨h.1, fun j i i' h1 h2 => k _ _ (h.2 j i i' h1 h2)⟩
theorem Twins.snoc {α : Type} {R : α → α → Prop} {I I' : List α} {n : Nat} {x x' : α} (h : Twins R (I.take n) I') (hx : I[n]? = some x) (hr : R x x') : Twins R (I.take (n + 1)) (I' ++ [x']) := by
  obtain ⟨hn, e⟩ := List.getElem?_eq_some_iff.1 hx
  have e1 : I.take (n + 1) = I.take n ++ [x] := by rw [List.take_succ_eq_append_getElem hn, e]
  have hl : (I.take n).length = n := by simp; omega
  have hl' : I'.length = n := by rw [h.1, hl]
  refine ⟨by rw [e1]; simp [hl, hl'], fun j i i' h1 h2 => ?_⟩
  rw [e1] at h1
  rcases Nat.lt_trichotomy j n with hj | rfl | hj
  · rw [List.getElem?_append_left (by omega)] at h1 h2
    exact h.2 j i i' h1 h2
  · rw [List.getElem?_append_right (by omega)] at h1 h2
    rw [hl, Nat.sub_self] at h1
    rw [hl', Nat.sub_self] at h2
    simp at h1 h2
    rw [← h1, ← h2]
    exact hr
  · rw [List.getElem?_eq_none (by simp; omega)] at h1
    cases h1
theorem Twins.mem {α : Type} {R : α → α → Prop} {I I' : List α} (h : Twins R I I') {i' : α} (hi : i' ∈ I') : ∃ i ∈ I, R i i' := by
  obtain ⟨j, hj⟩ := List.getElem?_of_mem hi
  have hl := (List.getElem?_eq_some_iff.1 hj).1
  have hl2 : j < I.length := by rw [← h.1]; exact hl
  exact ⟨I[j], List.getElem_mem _, h.2 j _ _ (List.getElem?_eq_getElem hl2) hj⟩
theorem Twins.map {α β : Type} {R : α → α → Prop} {I I' : List α} (h : Twins R I I') {f : α → β} (hf : ∀ i i', R i i' → f i' = f i) : I'.map f = I.map f := by
  apply List.ext_getElem?
  intro j
  rw [List.getElem?_map, List.getElem?_map]
  by_cases hj : j < I.length
  · have hj' : j < I'.length := by rw [h.1]; exact hj
    rw [List.getElem?_eq_getElem hj, List.getElem?_eq_getElem hj']
    simp only [Option.map_some, Option.some.injEq]
    exact hf _ _ (h.2 j _ _ (List.getElem?_eq_getElem hj) (List.getElem?_eq_getElem hj'))
  · have hl := h.1
    rw [List.getElem?_eq_none (show I'.length ≤ j by omega), List.getElem?_eq_none (show I.length ≤ j by omega)]

/-- A message's twin. -/
structure MsgTwin (w : World) (base : Nat) (X Y : Tx) : Prop where
  v0 : Y.v0 = X.v0
  hs : Y.hs = X.hs
  hr : Y.hr = X.hr
  ho : Y.ho = X.ho
  K : Y.K = X.K
  R : Y.R = X.R
  keys : ∃ g, Y.ka = some ⟨g, 0, none⟩ ∧ Y.kc = X.K.length + 3 ∧ OwnAt w base 41 32 (.slice (some ⟨g, 0, none⟩) (X.K.length + 3) (X.K.length + 3)) (room (X.K.map (icells .u8)) (icells .u8 markK))
  own : OwnAt w base 47 3 (.slice Y.ia Y.I.length Y.ic) (Y.I.map Ins.cells)
  ins : Twins (InsTwin w base) X.I Y.I
  ownL : OwnAt w base 44 34 (.slice Y.la Y.L.length Y.lc) (Y.L.map Lk.cells)
  lks : Twins (LkTwin w base) X.L Y.L
/-- A transaction's. -/
structure TxTwin (w : World) (base : Nat) (X Y : Tx) : Prop extends MsgTwin w base X Y where
  SG : Y.SG = X.SG
  sigs : ∃ g, Y.sa = some ⟨g, 0, none⟩ ∧ Y.sc = X.sl + 3 ∧ OwnAt w base 49 64 (.slice (some ⟨g, 0, none⟩) (X.sl + 3) (X.sl + 3)) (room (X.SG.map (icells .u8)) (icells .u8 markS))
theorem MsgTwin.keep {w w' : World} {base : Nat} {X Y : Tx} (h : MsgTwin w base X Y) (k : Below w.heap.size w w') : MsgTwin w' base X Y :=
  { h with keys := (by obtain ⟨g, h1, h2, h3⟩ := h.keys; exact ⟨g, h1, h2, h3.keep k⟩), own := h.own.keep k, ins := h.ins.mono fun _ _ q => q.keepBut (Below.keepBut k 0) (by decide), ownL := h.ownL.keep k, lks := h.lks.mono fun _ _ q => q.keepBut (Below.keepBut k 0) (by decide) }
theorem TxTwin.keep {w w' : World} {base : Nat} {X Y : Tx} (h : TxTwin w base X Y) (k : Below w.heap.size w w') : TxTwin w' base X Y :=
  { h.toMsgTwin.keep k with SG := h.SG, sigs := (by obtain ⟨g, h1, h2, h3⟩ := h.sigs; exact ⟨g, h1, h2, h3.keep k⟩) }

/-! ### The message while it is made -/
theorem Tx.mset {X Y : Tx} {j : Nat} {v : Value} (h : X.cells.setIfInBounds (1 + j) v = Y.cells) : X.mcells.setIfInBounds j v = Y.mcells := by
  apply Array.ext_getElem?
  intro i
  have hs : X.cells.size = 1 + X.mcells.size := by simp [Tx.cells]
  rw [← Tx.c_tail (X := Y) i, ← h, Array.getElem?_setIfInBounds, Array.getElem?_setIfInBounds, hs, Tx.c_tail]
  by_cases e : j = i
  · subst e
    by_cases hj : j < X.mcells.size
    · rw [if_pos rfl, if_pos rfl, if_pos hj, if_pos (by omega)]
    · rw [if_pos rfl, if_pos rfl, if_neg hj, if_neg (by omega)]
  · rw [if_neg e, if_neg (by omega)]
theorem Tx.setLks {X : Tx} (hR : X.R.length = 32) (la : Option Addr) (L : List Lk) (lc : Nat) : X.cells.setIfInBounds 39 (.slice la L.length lc) = { X with la := la, L := L, lc := lc }.cells := by
  apply Array.ext_getElem?
  intro j
  rw [Array.getElem?_setIfInBounds, Tx.size hR, Tx.get hR, Tx.get (X := { X with la := la, L := L, lc := lc }) hR]
  by_cases e : 39 = j
  · subst e; rfl
  · rw [if_neg e]
    simp only [show ¬ j = 39 from fun h => e h.symm, if_false]
    rfl
/-- The message of a transaction with such keys, instructions, lookups. -/
def tw (X : Tx) (ka : Option Addr) (kc : Nat) (ia : Option Addr) (I : List Ins) (ic : Nat) (la : Option Addr) (L : List Lk) (lc : Nat) : Tx := { X with ka := ka, kc := kc, ia := ia, I := I, ic := ic, la := la, L := L, lc := lc }
theorem tw_keys {X : Tx} (hR : X.R.length = 32) (ka : Option Addr) (kc : Nat) : X.mcells.setIfInBounds 4 (.slice ka X.K.length kc) = (tw X ka kc X.ia X.I X.ic X.la X.L X.lc).mcells := Tx.mset (Y := tw X ka kc X.ia X.I X.ic X.la X.L X.lc) (Tx.setKeys hR ka X.K kc)
theorem tw_ins {X : Tx} (hR : X.R.length = 32) {ka : Option Addr} {kc : Nat} {ia : Option Addr} {I : List Ins} {ic : Nat} {la : Option Addr} {L : List Lk} {lc : Nat} (ia' : Option Addr) (I' : List Ins) (ic' : Nat) :
    (tw X ka kc ia I ic la L lc).mcells.setIfInBounds 37 (.slice ia' I'.length ic') = (tw X ka kc ia' I' ic' la L lc).mcells := Tx.mset (Y := tw X ka kc ia' I' ic' la L lc) (Tx.setIns (X := tw X ka kc ia I ic la L lc) hR ia' I' ic')
theorem tw_lks {X : Tx} (hR : X.R.length = 32) {ka : Option Addr} {kc : Nat} {ia : Option Addr} {I : List Ins} {ic : Nat} {la : Option Addr} {L : List Lk} {lc : Nat} (la' : Option Addr) (L' : List Lk) (lc' : Nat) :
    (tw X ka kc ia I ic la L lc).mcells.setIfInBounds 38 (.slice la' L'.length lc') = (tw X ka kc ia I ic la' L' lc').mcells := Tx.mset (Y := tw X ka kc ia I ic la' L' lc') (Tx.setLks (X := tw X ka kc ia I ic la L lc) hR la' L' lc')
theorem tw_size {X : Tx} (hR : X.R.length = 32) {ka : Option Addr} {kc : Nat} {ia : Option Addr} {I : List Ins} {ic : Nat} {la : Option Addr} {L : List Lk} {lc : Nat} : (tw X ka kc ia I ic la L lc).mcells.size = 39 := Tx.msize (X := tw X ka kc ia I ic la L lc) hR
end Go.Proofs.Ytgjijoielfpmkaa
