/- Other signatures, other data: how they lie in memory. -/
import Derived.Test.YtgjijoielfpmkaaS0
set_option linter.unusedVariables false
namespace Go.Proofs.Ytgjijoielfpmkaa
open Go.RowKit

theorem OwnAt.keepGrown {w w' : World} {base base1 : Nat} {e e1 : TypeId} {s s1 : Nat} {v v1 : Value} {D D1 : List (Array Value)} (h : OwnAt w base e s v D) (h1 : OwnAt w base1 e1 s1 v1 D1) (g : w.grownBy w' v1.ownBlock) (hne : e1 ≠ e) : OwnAt w' base e s v D := by
  refine ⟨⟨h.own.1, ?_⟩, h.size⟩
  rcases h.own.2 with h2 | ⟨g1, c1, cur1, p1, p2, p3, p4⟩
  · exact .inl h2
  · refine .inr ⟨g1, c1, cur1, p1, p2, (g.block g1 (Array.getElem?_eq_some_iff.1 p3).1 (fun ee => ?_)).trans p3, p4⟩
    rcases h1.form with ⟨rfl, _⟩ | ⟨g2, c2, cur2, q1, q2, q3, _⟩
    · cases ee
    · rw [q1] at ee
      have e3 : g1 = g2 := by cases ee; rfl
      rw [← e3, p3] at q3
      simp only [Option.some.injEq, Obj.cells.injEq] at q3
      exact hne q3.2.1.symm

theorem rep_set {α : Type} {L : List α} (x : α) {i : Nat} (h : i < L.length) : (List.replicate i x ++ L.drop i).set i x = List.replicate (i + 1) x ++ L.drop (i + 1) := by
  rw [List.set_append, if_neg (by simp), List.length_replicate, Nat.sub_self, List.drop_eq_getElem_cons h, List.set_cons_zero, List.replicate_succ', List.append_assoc]
  rfl
theorem rep_get {α : Type} {L : List α} (x : α) {i : Nat} (h : i < L.length) : (List.replicate i x ++ L.drop i)[i]? = some L[i] := by
  rw [List.getElem?_append_right (by simp), List.length_replicate, Nat.sub_self, List.drop_eq_getElem_cons h]
  rfl
theorem rep_length {α : Type} {L : List α} (x : α) {i : Nat} (h : i ≤ L.length) : (List.replicate i x ++ L.drop i).length = L.length := by
  simp; omega
theorem rep_all {α : Type} {L : List α} (x : α) : List.replicate L.length x ++ L.drop L.length = List.replicate L.length x := by simp
theorem mapped_set {α : Type} {L : List α} (f : α → α) {i : Nat} (h : i < L.length) : ((L.take i).map f ++ L.drop i).set i (f L[i]) = (L.take (i + 1)).map f ++ L.drop (i + 1) := by
  rw [List.set_append, if_neg (by simp; omega)]
  simp only [List.length_map, List.length_take, Nat.min_eq_left (Nat.le_of_lt h), Nat.sub_self]
  rw [List.drop_eq_getElem_cons h, List.set_cons_zero, List.take_succ_eq_append_getElem h, List.map_append, List.append_assoc]
  rfl
theorem mapped_get {α : Type} {L : List α} (f : α → α) {i : Nat} (h : i < L.length) : ((L.take i).map f ++ L.drop i)[i]? = some L[i] := by
  rw [List.getElem?_append_right (by simp; omega)]
  simp only [List.length_map, List.length_take, Nat.min_eq_left (Nat.le_of_lt h), Nat.sub_self]
  rw [List.drop_eq_getElem_cons h]
  rfl
theorem mapped_length {α : Type} {L : List α} (f : α → α) {i : Nat} (h : i ≤ L.length) : ((L.take i).map f ++ L.drop i).length = L.length := by
  simp; omega
theorem mapped_all {α : Type} {L : List α} (f : α → α) : (L.take L.length).map f ++ L.drop L.length = L.map f := by simp
theorem mapped_none {α : Type} {L : List α} (f : α → α) : (L.take 0).map f ++ L.drop 0 = L := by simp
theorem rep_none {α : Type} {L : List α} (x : α) : List.replicate 0 x ++ L.drop 0 = L := by simp

/-- A signature's row written. -/
theorem OwnAt.setSig {w w1 : World} {base n c g i : Nat} {L : List (List Int)} {s : List Int} {C : Array Value} (h : OwnAt w base 49 64 (.slice (some ⟨g, 0, none⟩) n c) ((List.replicate i s ++ L.drop i).map (icells .u8))) (hi : i < L.length) (hs : s.length = 64) (hg : w.heap[g]? = some (.cells C 49))
    (h1 : w1.heap[g]? = some (.cells (Ytgjijoielfpmkaa.splice C (i * 64) (icells .u8 s)) 49)) : OwnAt w1 base 49 64 (.slice (some ⟨g, 0, none⟩) n c) ((List.replicate (i + 1) s ++ L.drop (i + 1)).map (icells .u8)) := by
  have hz : (icells .u8 s).size = 64 := by rw [size_icells, hs]
  have hB : ((List.replicate i s ++ L.drop i).map (icells .u8))[i]? = some (icells .u8 L[i]) := by rw [List.getElem?_map, rep_get s hi]; rfl
  have := h.splice (o := 0) hB (by decide) (by omega) hg h1
  rw [splice_whole (by rw [hz, h.size _ (List.mem_of_getElem? hB)]), ← List.map_set, rep_set s hi] at this
  exact this
/-- An instruction's data written. -/
theorem OwnAt.setData {w w1 : World} {base n c g i : Nat} {L : List Ins} {a2 : Option Addr} {D : List Nat} {c2 : Nat} {C : Array Value} (h : OwnAt w base 47 3 (.slice (some ⟨g, 0, none⟩) n c) (((L.take i).map (fun q => q.data a2 D c2) ++ L.drop i).map Ins.cells)) (hi : i < L.length) (hg : w.heap[g]? = some (.cells C 47)) (hlt : i * 3 + 2 < C.size)
    (h1 : w1.heap[g]? = some (.cells (C.setIfInBounds (i * 3 + 2) (.slice a2 D.length c2)) 47)) : OwnAt w1 base 47 3 (.slice (some ⟨g, 0, none⟩) n c) (((L.take (i + 1)).map (fun q => q.data a2 D c2) ++ L.drop (i + 1)).map Ins.cells) := by
  have hB : (((L.take i).map (fun q => q.data a2 D c2) ++ L.drop i).map Ins.cells)[i]? = some (Ins.cells L[i]) := by rw [List.getElem?_map, mapped_get _ hi]; rfl
  rw [← splice_one hlt] at h1
  have := h.splice (o := 2) (A := #[.slice a2 D.length c2]) hB (by decide) (by simp) hg h1
  rw [splice_one (by rw [Ins.size]; decide)] at this
  rw [← mapped_set (fun q => q.data a2 D c2) hi, List.map_set]
  exact this

/-- A transaction with signatures and instructions of one's own. -/
theorem otherAt {W : World} {X : Tx} (hX : TxAt W X) {base nS cS nI cI : Nat} {aS aI : Option Addr} {SG : List (List Int)} (hS : OwnAt W base 49 64 (.slice aS nS cS) (SG.map (icells .u8))) (hsl : SG.length ≤ lenMax) (hs : ∀ s ∈ SG, s.length = 64)
    {a2 : Option Addr} {D : List Nat} {c2 : Nat} (hI : OwnAt W base 47 3 (.slice aI nI cI) ((X.I.map fun i => i.data a2 D c2).map Ins.cells)) (hD : BytesAt W a2 D) (hDl : D.length ≤ lenMax) {R : List Int} (hR : R.length = 32) (v : Bool) :
    TxAt W (withV (withR (withIns (withSigs X aS SG cS) aI (X.I.map fun i => i.data a2 D c2) cI) R) v) := by
  have rS : RowsAt W aS 64 (SG.map (icells .u8)) ∧ (aS = none → cS = 0) := by
    obtain ⟨ao, c, e, h1, h2⟩ := hS.rows
    simp only [Value.slice.injEq] at e
    rw [e.1, e.2.2]; exact ⟨h1, h2⟩
  have rI : RowsAt W aI 3 ((X.I.map fun i => i.data a2 D c2).map Ins.cells) ∧ (aI = none → cI = 0) := by
    obtain ⟨ao, c, e, h1, h2⟩ := hI.rows
    simp only [Value.slice.injEq] at e
    rw [e.1, e.2.2]; exact ⟨h1, h2⟩
  exact
    { hs := hX.hs, hr := hX.hr, ho := hX.ho, R := hR, sl := hsl, kl := hX.kl, il := by (show (X.I.map fun i => i.data a2 D c2).length ≤ lenMax); rw [List.length_map]; exact hX.il
      ll := hX.ll, key := hX.key, keys := hX.keys, ins := rI.1
      insOk := fun i hi => by
        obtain ⟨j, hj, rfl⟩ := List.mem_map.1 hi
        obtain ⟨h1, h2, h3, h4⟩ := hX.insOk j hj
        exact ⟨h1, h2, hDl, h4⟩
      lks := hX.lks, lksOk := hX.lksOk, sigs := rS.1, sig := hs
      dat := fun i hi => by
        obtain ⟨j, hj, rfl⟩ := List.mem_map.1 hi
        exact hD
      lkb := hX.lkb, nilS := rS.2, nilK := hX.nilK, nilI := rI.2 }

/-- copy. -/
theorem exec_copy {a : Act} {w w' : World} {o : Oper} {x y : Operand} {t : TypeId} {v u v' : Value} (ho : o.op = .call { callee := .builtin .copy, args := #[x, y], argTypes := #[t, t] }) (hx : a.eval x = v) (hy : a.eval y = u) (hr : (Builtin.copy_ #[t, t] o.type #[v, u]).run Try.prog w = .ok v' w') :
    (execOp a.eval o).run Try.prog w = .ok (.value v') w' := by
  simp [execOp, ho, resolve, invoke, builtin, hx, hy, hr, Result.andThen]
theorem copy_own {w : World} {g b4 ty : Nat} {C : Array Value} {s : List Int} (hg : w.heap[g]? = some (.cells C 33)) (hC : C.size = 40) (hb : RowAt w b4 0 (icells .u8 s)) (hs : s.length = 64) :
    ∃ w1, (Builtin.copy_ #[42, 42] ty #[.slice (some ⟨g, 6, none⟩) 32 32, .slice (some ⟨b4, 0, none⟩) 64 64]).run Try.prog w = .ok (goInt 32) w1 ∧ w1.heap[g]? = some (.cells (splice C 6 (icells .u8 (s.take 32))) 33) ∧ Wrote w w1 g := by
  have hl : ((s.take 32).map (Value.int .u8)).length = 32 := by simp [hs]
  have h := run_copy_row Try.prog w 42 42 ty 5 g 6 32 32 ⟨b4, 0, none⟩ 64 64 C 33 ((s.take 32).map (Value.int .u8)) Try.underlying42 s5 hg (by rw [hl]; rfl) (fun j v hj => by
    have hjl := (List.getElem?_eq_some_iff.1 hj).1
    rw [hl] at hjl
    have hc := hb.cell (j := j) (by rw [size_icells, hs]; omega)
    rw [← Array.getElem?_eq_getElem, icells_get] at hc
    have hadd : (⟨b4, 0, none⟩ : Addr).add j = ⟨b4, 0 + j, none⟩ := by unfold Addr.add; split <;> simp_all
    rw [hadd, hc, ← hj, List.getElem?_map, List.getElem?_take_of_lt hjl]) (by rw [hl, hC]; decide) (fun v hv => by
    obtain ⟨q, _, rfl⟩ := List.mem_map.1 hv
    rfl)
  rw [hl] at h
  refine ⟨_, h, ?_, Wrote.setRow _ _ _⟩
  rw [setRow_heap w g C _ 33 _ hg]
  have hz : (icells .u8 (s.take 32)).size = 32 := by rw [size_icells]; simp [hs]
  unfold splice
  rw [hz]
  rfl
theorem size64 {s : List Int} (h : s.length = 64) : (icells .u8 s).size = 64 := by rw [size_icells, h]
theorem sigs_size {K : List (List Int)} (h : ∀ k ∈ K, k.length = 64) : ∀ C ∈ K.map (icells .u8), C.size = 64 := fun C hC => by
  obtain ⟨k, hk, rfl⟩ := List.mem_map.1 hC
  rw [size_icells]; exact h k hk
theorem oneSig_size {s : List Int} (h : s.length = 64) : ∀ C ∈ [icells .u8 s], C.size = 64 := fun C hC => by rw [List.mem_singleton.1 hC]; exact size64 h
theorem oneSig_one {s : List Int} : ∀ C ∈ [icells .u8 s], ∀ u ∈ C.toList, u.oneCell' = true := fun C hC => by rw [List.mem_singleton.1 hC]; exact icells_one _ _
theorem pos64 : 0 < 64 := by decide
theorem le64 : 64 ≤ 16777216 := by decide
theorem le64' : 64 ≤ 64 := by decide
theorem lt0X {X : Tx} (h : X.R.length = 32) : 0 < X.cells.size := by rw [Tx.size h]; decide
theorem lt1X {X : Tx} (h : X.R.length = 32) : 1 < X.cells.size := by rw [Tx.size h]; decide
theorem lt5X {X : Tx} (h : X.R.length = 32) : 5 < X.cells.size := by rw [Tx.size h]; decide
end Go.Proofs.Ytgjijoielfpmkaa
