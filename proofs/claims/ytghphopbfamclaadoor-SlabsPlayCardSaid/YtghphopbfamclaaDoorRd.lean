/- The chapter's slab: Set, Free, Numbers. -/
import Derived.Test.YtghphopbfamclaaDoorRc
namespace Go.Proofs.YtghphopbfamclaaDoor
open Go.RowKit

section
variable {ops : Array Oper} {Q : Exit → Act → World → Prop} {a : Act} {w : World} {rest : List Oper} {dst : Option Tmp} {x y : Operand} {ty : TypeId} {pos : String} {after : Array Edge} {v : Value} {L : List (Nat × Nat)} {base : Nat}

theorem exec_slice_to {o : Oper} {n : Nat} (ho : o.op = .slice 60 x none (some y) none) (hx : a.eval x = v) (hy : a.eval y = .int .i64 (n : Int)) (hv : SLT w v L base) (hn : n ≤ L.length) :
    ∃ ad c, ∀ W, (execOp a.eval o).run Tryd.prog W = .ok (.value (.slice ad n c)) W ∧ (SLT W v L base → SLT W (.slice ad n c) (L.take n) base) := by
  rcases hv.2 with ⟨rfl, h0⟩ | ⟨g, cap, cur, rfl, hb, hg, hle, _⟩
  · obtain rfl : n = 0 := by omega
    have hL : L = [] := List.eq_nil_of_length_eq_zero h0
    subst hL
    refine ⟨none, 0, fun W => ⟨?_, fun h => h⟩⟩
    unfold execOp
    simp [ho, hx, hy, Instr.sliceAt, Instr.slice, Instr.sliceBounds, Instr.sliceBound, asIntOf, run_underlying und60]
  · refine ⟨some ⟨g, 0, none⟩, cap, fun W => ⟨?_, fun h => SLT.take h hn⟩⟩
    have hadd : (⟨g, 0, none⟩ : Addr).add 0 = ⟨g, 0, none⟩ := by unfold Addr.add; split <;> simp_all
    have h1 : (0 : Int) ≤ (n : Int) ∧ (n : Int) ≤ (cap : Int) := by omega
    unfold execOp
    simp [ho, hx, hy, Instr.sliceAt, Instr.slice, Instr.sliceBounds, Instr.sliceBound, asIntOf, run_underlying und60, hadd]
    omega

theorem exec_slice_from {o : Oper} {n : Nat} (ho : o.op = .slice 60 x (some y) none none) (hx : a.eval x = v) (hy : a.eval y = .int .i64 (n : Int)) (hv : SLT w v L base) (hn : n ≤ L.length) :
    ∃ u, ∀ W, (execOp a.eval o).run Tryd.prog W = .ok (.value u) W ∧ (SLT W v L base → TCells W u (L.drop n)) := by
  rcases hv.2 with ⟨rfl, h0⟩ | ⟨g, cap, cur, rfl, hb, hg, hle, _⟩
  · obtain rfl : n = 0 := by omega
    have hL : L = [] := List.eq_nil_of_length_eq_zero h0
    subst hL
    refine ⟨.slice none 0 0, fun W => ⟨?_, fun _ => .inl ⟨rfl, rfl⟩⟩⟩
    unfold execOp
    simp [ho, hx, hy, Instr.sliceAt, Instr.slice, Instr.sliceBounds, Instr.sliceBound, asIntOf, run_underlying und60]
  · by_cases hc : cap = n
    · refine ⟨.slice (some ⟨g, 0, none⟩) (L.length - n) (cap - n), fun W => ⟨?_, fun h => ?_⟩⟩
      · have h1 : n ≤ L.length := hn
        unfold execOp
        simp [ho, hx, hy, Instr.sliceAt, Instr.slice, Instr.sliceBounds, Instr.sliceBound, asIntOf, run_underlying und60]
        rw [if_pos (by omega)]
        simp [hc]
      · have h1 : L.length - n = 0 := by omega
        rw [List.drop_of_length_le (by omega), h1]
        exact .inr ⟨_, _, rfl, fun j x hx => by simp [pcells] at hx⟩
    · refine ⟨.slice (some ⟨g, n * 2, none⟩) (L.length - n) (cap - n), fun W => ⟨?_, fun h => SLT.drop h hn _⟩⟩
      have hadd : (⟨g, 0, none⟩ : Addr).add (n * 2) = ⟨g, n * 2, none⟩ := by unfold Addr.add; split <;> simp_all
      unfold execOp
      simp [ho, hx, hy, Instr.sliceAt, Instr.slice, Instr.sliceBounds, Instr.sliceBound, asIntOf, run_underlying und60]
      rw [if_pos (by omega)]
      simp [hc, hadd]

/-- The struct's list is set anew. -/
theorem rn_store60 {Q : Exit → Act → World → Prop} {K : Act → World → Prop} {l : List Oper} {j r room : Nat} {v0 u : Value}
    (hi : l[j]? = some ⟨none, .store 60 x y, ty, pos, after, none⟩) (hp : a.eval x = .pointer (some ⟨r, 1, none⟩)) (hx : a.eval y = u) (hu : ∃ ad n c, u = .slice ad n c) (hg : w.heap[r]? = some (.cells #[.int .i64 (room : Int), v0] 62))
    (hk : ∀ w1, w1.heap[r]? = some (.cells #[.int .i64 (room : Int), u] 62) → Wrote w w1 r → K a w1) : wpOp Tryd.prog l.toArray Q j K a w := by
  obtain ⟨ad, n, c, rfl⟩ := hu
  have hlt : r < w.heap.size := (Array.getElem?_eq_some_iff.1 hg).1
  refine run_skip hi rfl rfl (exec_store_sub (A := #[.slice ad n c]) rfl hp hx rfl hg (by simp) (by simp [Value.oneCell']) (by kernel_rfl)) (hk _ ?_ (Wrote.setRow _ _ _))
  rw [splice_one (by simp), World.setRow, Array.getElem?_modify, if_pos rfl, hg]
  rfl
end

theorem pcells_set {L : List (Nat × Nat)} {i : Nat} {q : Nat × Nat} (hq : L[i]? = some q) (x : Nat) : (pcells L).set (i * 2 + 1) (.int .u64 (x : Int)) = pcells (L.set i (q.1, x)) := by
  induction L generalizing i with
  | nil => simp at hq
  | cons y L ih =>
    have e : ∀ (z : Nat × Nat) (M : List (Nat × Nat)), pcells (z :: M) = .int .i64 (z.1 : Int) :: .int .u64 (z.2 : Int) :: pcells M := fun _ _ => rfl
    cases i with
    | zero =>
      simp at hq
      subst hq
      rw [List.set_cons_zero, e, e]
      rfl
    | succ i =>
      rw [List.getElem?_cons_succ] at hq
      rw [List.set_cons_succ, e, e, show (i + 1) * 2 + 1 = i * 2 + 1 + 1 + 1 by omega, List.set_cons_succ, List.set_cons_succ, ih hq]

section
variable {w : World} {r room : Nat} {L : List (Nat × Nat)} {base : Nat}

set_option maxHeartbeats 400000 in
theorem rset_some (h : RefAt w r room L base) (n : Int) (x : Nat) {i : Nat} {q : Nat × Nat} (hn : atIdx L n = (i : Int)) (hq : L[i]? = some q) :
    Calls Tryd.prog 23 #[.pointer (some ⟨r, 0, none⟩), .int .i64 n, .int .u64 (x : Int)] w fun e w' => e = .returned (.int .i64 0) ∧ RefAt w' r room (L.set i (q.1, x)) base ∧ RTurn w w' r base := by
  obtain ⟨v, hv, hs⟩ := h.ex
  have hmost := h.most
  have hle := h.le
  have hlt : i < L.length := (List.getElem?_eq_some_iff.1 hq).1
  obtain ⟨g, cap, C, rfl, hb, hC, h4, h5, h6⟩ := hs.row (by omega)
  have c1 := RefAt.cell1 hv
  have hc := at_any h n
  rw [hn] at hc
  obtain ⟨len, hlen⟩ : ∃ len, L.length = len := ⟨_, rfl⟩
  rw [hlen] at c1
  have hlt' : (i : Int) < (len : Int) := by omega
  have hle' : len ≤ 4096 := by omega
  have hjC : i * 2 + 1 < C.size := by omega
  have hrg : g ≠ r := by rintro rfl; rw [hC] at hv; cases hv
  have hfin : ∀ w1 : World, w1.heap[g]? = some (.cells (C.setIfInBounds (i * 2 + 1) (.int .u64 (x : Int))) 70) → Wrote w w1 g → RefAt w1 r room (L.set i (q.1, x)) base ∧ RTurn w w1 r base := by
    intro w1 hw1 hW1
    refine ⟨⟨⟨_, (hW1.block _ (Ne.symm hrg)).trans hv, ?_⟩, h.low, by rw [List.length_set]; exact h.le, h.most⟩, ⟨hW1.os, hW1.tape, hW1.output, by rw [hW1.size]; exact Nat.le_refl _, fun k hk hkr hk2 => hW1.block k ?_⟩⟩
    · refine ⟨by rw [pcells_len], .inr ⟨g, cap, _, by rw [List.length_set], hb, hw1, by rw [List.length_set]; exact h4, ?_, by rw [Array.size_setIfInBounds]; exact h5, ?_⟩⟩
      · rcases hs.2 with ⟨h', _⟩ | ⟨g', cap', cur, h', _, _, _, hcm, _⟩
        · cases h'
        · simp only [Value.slice.injEq] at h'
          obtain ⟨_, _, rfl⟩ := h'
          exact hcm
      · rw [List.length_set, Array.toList_setIfInBounds, List.take_set, h6, pcells_set hq]
    · rintro rfl
      rcases hk2 with h' | h'
      · omega
      · exact h' C hC
  clear hv hs hlen h hn hq hle hlt h4 h5 h6 hb
  go_enter Tryd.func23, Tryd.ntmps23
  go_wp2_with fail
  refine hc.mono ?_
  rintro e w1 ⟨rfl, rfl⟩
  clear hc
  go_wp2_with ((with_reducible refine wl_store1 (ty := 22) (p := .tmp 20) (x := .tmp 18) (b := g) (j := i * 2 + 1) (v := .int .u64 (x : Int)) ?_ ?_ ?_ ?_ ?_ ?_ ?_ ?_ hC ?_ ?_); (exact rfl); (exact rfl); (exact rfl); (exact rfl); (exact rfl); (exact rfl); (exact rfl); (kernel_rfl); (exact hjC); intro w2 hw2 hW2)
  go_ret
  exact ⟨rfl, hfin _ hw2 hW2⟩

theorem SLT.low {v : Value} {b : Nat} (h : SLT w v L base) (hb : b ≤ base) : SLT w v L b := by
  refine ⟨h.1, ?_⟩
  rcases h.2 with h1 | ⟨g, cap, cur, h1, h2, h3⟩
  · exact .inl h1
  · exact .inr ⟨g, cap, cur, h1, Nat.le_trans hb h2, h3⟩

/-- What lies in memory while a new list is made. -/
structure RS (w : World) (r room : Nat) (v : Value) (L : List (Nat × Nat)) (base : Nat) (W : World) : Prop where
  bel : Below w.heap.size w W
  head : W.heap[r]? = some (.cells #[.int .i64 (room : Int), v] 62)
  row : SLT W v L base

theorem RS.keep {v : Value} {W W' : World} (s : RS w r room v L base W) (hb : Below W.heap.size W W') : RS w r room v L base W' :=
  ⟨s.bel.trans (hb.mono s.bel.size), (hb.block _ (Array.getElem?_eq_some_iff.1 s.head).1).trans s.head, s.row.kept hb⟩
theorem RS.drew {v : Value} {W : World} (s : RS w r room v L base W) : RS w r room v L base W.drew := ⟨s.bel.drew, s.head, s.row⟩
theorem RS.drewN {v : Value} {W W' : World} (s : RS w r room v L base W) (h : ∃ n, W' = W.drewN n) : RS w r room v L base W' := by
  obtain ⟨n, rfl⟩ := h
  exact s.keep ⟨rfl, rfl, rfl, Nat.le_refl _, fun _ _ => rfl⟩
theorem RS.cell1 {v : Value} {W : World} (s : RS w r room v L base W) : W.cell? ⟨r, 1, none⟩ = some v := RefAt.cell1 s.head

/-- The new list is stored. -/
theorem RS.done {v u : Value} {W W' : World} {M : List (Nat × Nat)} (s : RS w r room v L base W) (h : RefAt w r room L base) (hM : SLT W u M base) (hlen : M.length ≤ room) (h1 : W'.heap[r]? = some (.cells #[.int .i64 (room : Int), u] 62)) (hW : Wrote W W' r) :
    RefAt W' r room M base ∧ RTurn w W' r base := by
  refine ⟨⟨⟨u, h1, hM.keep fun g C _ hg => (hW.block g ?_).trans hg⟩, h.low, hlen, h.most⟩, ⟨hW.os.trans s.bel.os, hW.tape.trans s.bel.tape, hW.output.trans s.bel.output, by rw [hW.size]; exact s.bel.size, fun k hk hkr _ => (hW.block k hkr).trans (s.bel.block k hk)⟩⟩
  rintro rfl
  rw [s.head] at hg; cases hg

set_option maxHeartbeats 400000 in
theorem rfree_none (h : RefAt w r room L base) (n : Int) (hn : atIdx L n = -1) :
    Calls Tryd.prog 24 #[.pointer (some ⟨r, 0, none⟩), .int .i64 n] w fun e w' => e = .returned (.int .i64 11) ∧ w = w' := by
  go_enter Tryd.func24, Tryd.ntmps24
  go_wp2_with fail
  refine (at_any h n).mono ?_
  rw [hn]
  rintro e w1 ⟨rfl, rfl⟩
  go_wp2
  go_ret
  exact ⟨rfl, rfl⟩

set_option maxRecDepth 20000 in
set_option maxHeartbeats 800000 in
theorem rfree_some (h : RefAt w r room L base) (n : Int) {i : Nat} (hn : atIdx L n = (i : Int)) (hi : i < L.length) :
    Calls Tryd.prog 24 #[.pointer (some ⟨r, 0, none⟩), .int .i64 n] w fun e w' => e = .returned (.int .i64 0) ∧ RefAt w' r room (L.take i ++ L.drop (i + 1)) base ∧ RTurn w w' r base := by
  have hlow := h.low
  have hlt := h.lt
  obtain ⟨v, hv, hs⟩ := h.ex
  have hmost := h.most
  have hle := h.le
  have hc := at_any h n
  rw [hn] at hc
  have H := Lib.hid h
  have HV := Lib.hid hv
  have HS := Lib.hid hs
  clear h hn hv hs
  go_enter Tryd.func24, Tryd.ntmps24
  go_wp2_with fail
  refine hc.mono ?_
  rintro e w1 ⟨rfl, rfl⟩
  clear hc
  go_wp2
  have hs := HS.out
  have hS : RS w r room v L base w.drew := ⟨(Below.refl _ _).drew, HV.out, hs⟩
  have hs0 : w.drew.heap.size = w.heap.size := rfl
  refine wp_regionW (n := 19) (S := RS w r room v L base) (late := fun j => j == 18) rfl (by kernel_rfl) ?_
  refine takeW (j := 0) (v := .pointer (some ⟨r, 0, none⟩)) rfl rfl rfl (by kernel_rfl) (by kernel_rfl) (by kernel_rfl) (by kernel_rfl) (fun _ _ _ h => h) (fun W hW => exec_move rfl rfl) hS ?_
  simp only [List.set_cons_zero, List.set_cons_succ]
  refine takeW (j := 1) (v := .pointer (some ⟨r, 0, none⟩)) rfl rfl rfl (by kernel_rfl) (by kernel_rfl) (by kernel_rfl) (by kernel_rfl) (fun _ _ _ h => h) (fun W hW => exec_move rfl rfl) hS ?_
  simp only [List.set_cons_zero, List.set_cons_succ]
  refine takeW (j := 2) (v := .pointer (some ⟨r, 0, none⟩)) rfl rfl rfl (by kernel_rfl) (by kernel_rfl) (by kernel_rfl) (by kernel_rfl) (fun _ _ _ h => h) (fun W hW => exec_nilCheck rfl rfl) hS ?_
  simp only [List.set_cons_zero, List.set_cons_succ]
  refine takeW (j := 3) (v := .pointer (some ⟨r, 1, none⟩)) rfl rfl rfl (by kernel_rfl) (by kernel_rfl) (by kernel_rfl) (by kernel_rfl) (fun _ _ _ h => h) (fun W hW => by go_simp) hS ?_
  simp only [List.set_cons_zero, List.set_cons_succ]
  refine takeW (j := 4) (v := v) rfl rfl rfl (by kernel_rfl) (by kernel_rfl) (by kernel_rfl) (by kernel_rfl) (fun _ _ _ h => h) (fun W hW => exec_load_cell rfl rfl und60 rfl hW.cell1) hS ?_
  simp only [List.set_cons_zero, List.set_cons_succ]
  refine takeW (j := 5) (v := .int .i64 (i : Int)) rfl rfl rfl (by kernel_rfl) (by kernel_rfl) (by kernel_rfl) (by kernel_rfl) (fun _ _ _ h => h) (fun W hW => exec_move rfl rfl) hS ?_
  simp only [List.set_cons_zero, List.set_cons_succ]
  refine takeW (j := 8) (v := .pointer (some ⟨r, 0, none⟩)) rfl rfl rfl (by kernel_rfl) (by kernel_rfl) (by kernel_rfl) (by kernel_rfl) (fun _ _ _ h => h) (fun W hW => exec_move rfl rfl) hS ?_
  simp only [List.set_cons_zero, List.set_cons_succ]
  refine takeW (j := 9) (v := .pointer (some ⟨r, 0, none⟩)) rfl rfl rfl (by kernel_rfl) (by kernel_rfl) (by kernel_rfl) (by kernel_rfl) (fun _ _ _ h => h) (fun W hW => exec_nilCheck rfl rfl) hS ?_
  simp only [List.set_cons_zero, List.set_cons_succ]
  refine takeW (j := 10) (v := .pointer (some ⟨r, 1, none⟩)) rfl rfl rfl (by kernel_rfl) (by kernel_rfl) (by kernel_rfl) (by kernel_rfl) (fun _ _ _ h => h) (fun W hW => by go_simp) hS ?_
  simp only [List.set_cons_zero, List.set_cons_succ]
  refine takeW (j := 11) (v := v) rfl rfl rfl (by kernel_rfl) (by kernel_rfl) (by kernel_rfl) (by kernel_rfl) (fun _ _ _ h => h) (fun W hW => exec_load_cell rfl rfl und60 rfl hW.cell1) hS ?_
  simp only [List.set_cons_zero, List.set_cons_succ]
  refine takeW (j := 12) (v := .int .i64 (i : Int)) rfl rfl rfl (by kernel_rfl) (by kernel_rfl) (by kernel_rfl) (by kernel_rfl) (fun _ _ _ h => h) (fun W hW => exec_move rfl rfl) hS ?_
  simp only [List.set_cons_zero, List.set_cons_succ]
  refine takeW (j := 13) (v := .int .i64 ((i + 1 : Nat) : Int)) rfl rfl rfl (by kernel_rfl) (by kernel_rfl) (by kernel_rfl) (by kernel_rfl) (fun _ _ _ h => h) (fun W hW => by go_simp; rw [IntKind.wrap_i64]; omega) hS ?_
  simp only [List.set_cons_zero, List.set_cons_succ]
  obtain ⟨ad, c, hto⟩ := @exec_slice_to ⟨[Value.pointer (some ⟨r, 0, none⟩), .int .i64 n].toArray, []⟩ w (.const v) (.const (.int .i64 (i : Int))) v L base ⟨none, .slice 60 (.const v) none (some (.const (.int .i64 (i : Int)))) none, 0, "", #[], none⟩ i rfl rfl rfl hs (by omega)
  obtain ⟨u2, hfrom⟩ := @exec_slice_from ⟨[Value.pointer (some ⟨r, 0, none⟩), .int .i64 n].toArray, []⟩ w (.const v) (.const (.int .i64 ((i + 1 : Nat) : Int))) v L base ⟨none, .slice 60 (.const v) (some (.const (.int .i64 ((i + 1 : Nat) : Int)))) none none, 0, "", #[], none⟩ (i + 1) rfl rfl rfl hs (by omega)
  refine takeW (j := 6) (v := .slice ad i c) rfl rfl rfl (by kernel_rfl) (by kernel_rfl) (by kernel_rfl) (by kernel_rfl) (fun _ _ _ h => h) (fun W hW => (hto W).1) hS ?_
  simp only [List.set_cons_zero, List.set_cons_succ]
  refine takeW (j := 14) (v := u2) rfl rfl rfl (by kernel_rfl) (by kernel_rfl) (by kernel_rfl) (by kernel_rfl) (fun _ _ _ h => h) (fun W hW => (hfrom W).1) hS ?_
  simp only [List.set_cons_zero, List.set_cons_succ]
  refine oneW 7 (by kernel_rfl) (rn_append_slt (v := .slice none 0 0) (u := .slice ad i c) (L := []) (M := L.take i) (base := w.drew.heap.size) rfl rfl rfl (SLT.nil _ _) ((hto _).2 hS.row).tcells (by simp; omega) (Nat.le_refl _) (fun v5 w5 hv5 hg5 => ?_))
  have hbel5 : Below w.drew.heap.size w.drew w5 := below_of_grown hg5
  have hS5 := hS.keep hbel5
  refine ⟨fun _ => hS5, ?_⟩
  simp only [List.set_cons_zero, List.set_cons_succ]
  have hsz5 := hbel5.size
  refine oneW 15 (by kernel_rfl) (rn_append_slt (v := v5) (u := u2) (L := [] ++ L.take i) (M := L.drop (i + 1)) (base := w.drew.heap.size) rfl rfl rfl hv5 ((hfrom _).2 hS5.row) (by simp; omega) hsz5 (fun v6 w6 hv6 hg6 => ?_))
  have hbel6 : Below w.drew.heap.size w.drew w6 := by
    refine hbel5.grown hg6 hbel5.size (fun k hk => ?_)
    exact (hv5.lt k hk).1
  have hS6 := hS.keep hbel6
  have hv6' : SLT w6 v6 (L.take i ++ L.drop (i + 1)) base := (show SLT w6 v6 (L.take i ++ L.drop (i + 1)) _ from hv6).low (by omega)
  obtain ⟨ad6, c6, rfl⟩ := hv6'.form
  refine ⟨fun _ => hS6, ?_⟩
  simp only [List.set_cons_zero, List.set_cons_succ]
  refine oneW 16 (by kernel_rfl) (run_val (v := .pointer (some ⟨r, 0, none⟩)) rfl rfl rfl (exec_nilCheck rfl rfl) ⟨fun _ => hS6, ?_⟩)
  simp only [List.set_cons_zero, List.set_cons_succ]
  refine oneW 17 (by kernel_rfl) (run_val (v := .pointer (some ⟨r, 1, none⟩)) rfl rfl rfl (by go_simp) ⟨fun _ => hS6, ?_⟩)
  simp only [List.set_cons_zero, List.set_cons_succ]
  refine oneW 18 (by kernel_rfl) (rn_store60 rfl rfl rfl ⟨_, _, _, rfl⟩ hS6.head (fun w7 h7 hW7 => ⟨fun e => (by cases e), ?_⟩))
  have hfin := hS6.done H.out hv6' (by simp; omega) h7 hW7
  refine doneW (by kernel_rfl) ?_ _
  go_wp2
  go_ret
  refine ⟨rfl, hfin.1, ?_⟩
  exact hfin.2

end

end Go.Proofs.YtghphopbfamclaaDoor
