/- SameMessage, LeftMessage, of a message and its twin. -/
import Derived.Test.YtgjijoielfpmkaaT7
set_option linter.unusedVariables false
namespace Go.Proofs.Ytgjijoielfpmkaa
open Go.RowKit

theorem und27 : Try.prog.underlying 27 = some (.array 32 5) := by kernel_rfl
theorem s27 : (Try.prog.info? 27).map (·.size) = some 32 := by kernel_rfl
theorem eqGuard27 : Try.prog.eqGuardType Try.prog.depth 27 = false := by kernel_rfl
theorem eqGuard24 : Try.prog.eqGuardType Try.prog.depth 24 = false := by kernel_rfl
theorem eq24 (p q r : Int) (w : World) : (Op.equalIn 10000 24 (.agg #[.int .u8 p, .int .u8 q, .int .u8 r]) (.agg #[.int .u8 p, .int .u8 q, .int .u8 r])).run Try.prog w = .ok true w := by
  have u3 := Try.underlying5
  have hS : Try.prog.underlying 24 = some (.struct (Try.prog.fieldsOf 24)) := by kernel_rfl
  have hp : Try.prog.stoodInHeld 24 = false := by kernel_rfl
  rw [show (10000 : Nat) = 9999 + 1 from rfl, run_equalIn_agg w 9999 24 _ _ hS hp]
  simp only [Program.fieldsOf, Try.underlying24]
  go_simp
theorem exec_neq24 {a : Act} {w : World} {o : Oper} {x y : Operand} {X : Tx} (ho : o.op = .binOp .neq 24 x y 24) (hx : a.eval x = .agg X.hcells) (hy : a.eval y = .agg X.hcells) :
    (execOp a.eval o).run Try.prog w = .ok (.value (.bool false)) w := by
  unfold execOp
  simp only [ho, hx, hy, Sem.run_bind, run_eqGuard_agg w .neq 24 x y _ _ eqGuard24, run_neq_struct, Result.andThen_ok, Sem.run_pure, Tx.hcells, eq24, Bool.not_true]
theorem msgHRow {w : World} {b : Nat} {X : Tx} {t : TypeId} {fr : Nat × Nat} (h : w.heap[b]? = some (.cells X.mcells t fr)) : RowAt w b 1 X.hcells :=
  ⟨X.mcells, t, fr, h, by simp [Tx.mcells, Tx.hcells]; omega, fun j hj => by
    have hj' : j < 3 := hj
    rw [Tx.m_head (by omega)]
    match j, hj' with
    | 0, _ => rfl
    | 1, _ => rfl
    | 2, _ => rfl⟩
theorem msgRRow {w : World} {b : Nat} {X : Tx} {t : TypeId} {fr : Nat × Nat} (h : w.heap[b]? = some (.cells X.mcells t fr)) : RowAt w b 5 (icells .u8 X.R) :=
  ⟨X.mcells, t, fr, h, by simp [Tx.mcells], fun j hj => by
    unfold Tx.mcells
    have h1 : 5 + j < (#[Value.bool X.v0, .int .u8 (X.hs : Int), .int .u8 (X.hr : Int), .int .u8 (X.ho : Int), .slice X.ka X.K.length X.kc] ++ icells .u8 X.R : Array Value).size := by
      rw [Array.size_append]
      exact Nat.add_lt_add_left hj 5
    rw [Array.getElem?_append_left h1, Array.getElem?_append_right (by simp)]
    congr 1
    simp⟩
section
variable {ops : Array Oper} {Q : Exit → Act → World → Prop} {a : Act} {w : World} {rest : List Oper} {dst : Option Tmp} {x y : Operand} {ty : TypeId} {pos : String} {after : Array Edge} {g : Option (Nat × Bool)}
theorem wl_load24G {b off : Nat} {X : Tx} (hw : Region.wanted ⟨dst, .load 24 x, ty, pos, after, g⟩ (yielded ops a.tmps) = true) (hx : a.eval x = .pointer (some ⟨b, off, none⟩)) (hr : RowAt w b off X.hcells) (K : wpList Try.prog ops Q rest (a.put dst (.agg X.hcells)) w) :
    wpList Try.prog ops Q (⟨dst, .load 24 x, ty, pos, after, g⟩ :: rest) a w := by
  obtain ⟨fs, hu⟩ := u24
  exact wpList_runG hw (exec_load_sub rfl hx hr hu rfl s24) K
theorem wl_load27G {b off : Nat} {k : List Int} (hw : Region.wanted ⟨dst, .load 27 x, ty, pos, after, g⟩ (yielded ops a.tmps) = true) (hx : a.eval x = .pointer (some ⟨b, off, none⟩)) (hr : RowAt w b off (icells .u8 k)) (hl : k.length = 32) (K : wpList Try.prog ops Q rest (a.put dst (kv k)) w) :
    wpList Try.prog ops Q (⟨dst, .load 27 x, ty, pos, after, g⟩ :: rest) a w :=
  wpList_runG hw (exec_load_sub rfl hx hr und27 rfl (by rw [size_icells, hl]; exact s27)) K
theorem wl_neq24G {X : Tx} (hw : Region.wanted ⟨dst, .binOp .neq 24 x y 24, ty, pos, after, g⟩ (yielded ops a.tmps) = true) (hx : a.eval x = .agg X.hcells) (hy : a.eval y = .agg X.hcells) (K : wpList Try.prog ops Q rest (a.put dst (.bool false)) w) :
    wpList Try.prog ops Q (⟨dst, .binOp .neq 24 x y 24, ty, pos, after, g⟩ :: rest) a w := wpList_runG hw (exec_neq24 rfl hx hy) K
theorem wl_neq27G {k : List Int} (hw : Region.wanted ⟨dst, .binOp .neq 27 x y 27, ty, pos, after, g⟩ (yielded ops a.tmps) = true) (hx : a.eval x = kv k) (hy : a.eval y = kv k) (hl : k.length = 32) (K : wpList Try.prog ops Q rest (a.put dst (.bool false)) w) :
    wpList Try.prog ops Q (⟨dst, .binOp .neq 27 x y 27, ty, pos, after, g⟩ :: rest) a w := by
  refine wpList_runG hw (v := .bool false) ((exec_neq_ints rfl hx hy eqGuard27 und27 u5 s5 hl hl).trans (by rw [neq_self])) K
end

/-! ### What an instruction and its twin, a lookup and its twin, lie like -/
structure PairI (W : World) (yb yo xb xo i : Nat) (l : Ins) (ga gd : Nat) : Prop where
  y0 : W.cell? ⟨yb, yo + i * 3, none⟩ = some (.int .u8 (l.p : Int))
  y1 : W.cell? ⟨yb, yo + i * 3 + 1, none⟩ = some (.slice (some ⟨ga, 0, none⟩) l.A.length (l.A.length + 3))
  y2 : W.cell? ⟨yb, yo + i * 3 + 2, none⟩ = some (.slice (some ⟨gd, 0, none⟩) l.D.length (l.D.length + 3))
  x0 : W.cell? ⟨xb, xo + i * 3, none⟩ = some (.int .u8 (l.p : Int))
  x1 : W.cell? ⟨xb, xo + i * 3 + 1, none⟩ = some (.slice l.aa l.A.length l.ac)
  x2 : W.cell? ⟨xb, xo + i * 3 + 2, none⟩ = some (.slice l.da l.D.length l.dc)
  s1 : Calls Try.prog 47 #[.slice (some ⟨ga, 0, none⟩) l.A.length (l.A.length + 3), .slice l.aa l.A.length l.ac] W fun e w' => e = .returned (.bool true) ∧ Below W.heap.size W w'
  s2 : Calls Try.prog 47 #[.slice (some ⟨gd, 0, none⟩) l.D.length (l.D.length + 3), .slice l.da l.D.length l.dc] W fun e w' => e = .returned (.bool true) ∧ Below W.heap.size W w'
  l1 : Calls Try.prog 39 #[.slice (some ⟨ga, 0, none⟩) l.A.length (l.A.length + 3), .slice l.aa l.A.length l.ac] W fun e w' => e = .returned (.bool true) ∧ Below W.heap.size W w'
  l2 : Calls Try.prog 39 #[.slice (some ⟨gd, 0, none⟩) l.D.length (l.D.length + 3), .slice l.da l.D.length l.dc] W fun e w' => e = .returned (.bool true) ∧ Below W.heap.size W w'
structure PairL (W : World) (yb yo xb xo i : Nat) (l : Lk) (ga gd : Nat) : Prop where
  y0 : RowAt W yb (yo + i * 34) (icells .u8 l.T)
  y1 : W.cell? ⟨yb, yo + i * 34 + 32, none⟩ = some (.slice (some ⟨ga, 0, none⟩) l.W.length (l.W.length + 3))
  y2 : W.cell? ⟨yb, yo + i * 34 + 33, none⟩ = some (.slice (some ⟨gd, 0, none⟩) l.Rd.length (l.Rd.length + 3))
  x0 : RowAt W xb (xo + i * 34) (icells .u8 l.T)
  x1 : W.cell? ⟨xb, xo + i * 34 + 32, none⟩ = some (.slice l.wa l.W.length l.wc)
  x2 : W.cell? ⟨xb, xo + i * 34 + 33, none⟩ = some (.slice l.ra l.Rd.length l.rc)
  s1 : Calls Try.prog 47 #[.slice (some ⟨ga, 0, none⟩) l.W.length (l.W.length + 3), .slice l.wa l.W.length l.wc] W fun e w' => e = .returned (.bool true) ∧ Below W.heap.size W w'
  s2 : Calls Try.prog 47 #[.slice (some ⟨gd, 0, none⟩) l.Rd.length (l.Rd.length + 3), .slice l.ra l.Rd.length l.rc] W fun e w' => e = .returned (.bool true) ∧ Below W.heap.size W w'
  l1 : Calls Try.prog 39 #[.slice (some ⟨ga, 0, none⟩) l.W.length (l.W.length + 3), .slice l.wa l.W.length l.wc] W fun e w' => e = .returned (.bool true) ∧ Below W.heap.size W w'
  l2 : Calls Try.prog 39 #[.slice (some ⟨gd, 0, none⟩) l.Rd.length (l.Rd.length + 3), .slice l.ra l.Rd.length l.rc] W fun e w' => e = .returned (.bool true) ∧ Below W.heap.size W w'

theorem BTwin.calls {w : World} {base : Nat} {A : List Nat} {ao a' : Option Addr} {c c' : Nat} (h : BTwin w base A ao c) (hA : BytesAt w a' A) (hl : A.length < 4000) :
    ∃ g, ao = some ⟨g, 0, none⟩ ∧ c = A.length + 3 ∧ ∀ W, Below w.heap.size w W →
      (Calls Try.prog 47 #[.slice (some ⟨g, 0, none⟩) A.length (A.length + 3), .slice a' A.length c'] W fun e w' => e = .returned (.bool true) ∧ Below W.heap.size W w') ∧
      (Calls Try.prog 39 #[.slice (some ⟨g, 0, none⟩) A.length (A.length + 3), .slice a' A.length c'] W fun e w' => e = .returned (.bool true) ∧ Below W.heap.size W w') := by
  obtain ⟨g, e1, e2, e3⟩ := h
  refine ⟨g, e1, e2, fun W hW => ?_⟩
  have hB : BTwin W base A (some ⟨g, 0, none⟩) (A.length + 3) := ⟨g, rfl, rfl, e3.keep hW⟩
  have h1 := hB.bytes fun j hj => (hA j hj).1
  exact ⟨same47_any W h1 (hA.keep hW) hl, leftBytes_any W h1 hB.room (hA.keep hW) hl⟩

theorem MsgTwin.pairI {w : World} {base : Nat} {X Y : Tx} (h : MsgTwin w base X Y) (hT : TxAt w X) (hF : Fits X) {i : Nat} {l : Ins} (hl : X.I[i]? = some l) :
    ∃ yb yo xb xo ga gd, Y.ia = some ⟨yb, yo, none⟩ ∧ X.ia = some ⟨xb, xo, none⟩ ∧ ∀ W, Below w.heap.size w W → PairI W yb yo xb xo i l ga gd := by
  obtain ⟨xb, xo, e1, r1⟩ := hT.insAt hl
  have hi : i < Y.I.length := by rw [h.ins.1]; exact (List.getElem?_eq_some_iff.1 hl).1
  have hl' : Y.I[i]? = some Y.I[i] := List.getElem?_eq_getElem hi
  have q := h.ins.2 i _ _ hl hl'
  obtain ⟨yb, yo, e2, r2⟩ := h.own.slice.1 i Y.I[i].cells (by rw [List.getElem?_map, hl']; rfl)
  obtain ⟨f1, f2⟩ := hF.i l (List.mem_of_getElem? hl)
  obtain ⟨ga, a1, a2, a3⟩ := q.ba.calls (c' := l.ac) (hT.insOk l (List.mem_of_getElem? hl)).2.2.2 f1
  obtain ⟨gd, d1, d2, d3⟩ := q.bd.calls (c' := l.dc) (hT.dat l (List.mem_of_getElem? hl)) f2
  refine ⟨yb, yo, xb, xo, ga, gd, e2, e1, fun W hW => ?_⟩
  obtain ⟨y0, y1, y2⟩ := insCells (Below.row hW r2 r2.lt)
  obtain ⟨x0, x1, x2⟩ := insCells (Below.row hW r1 r1.lt)
  unfold Ins.dl at y2 x2
  rw [q.p] at y0
  rw [q.A, a1, a2] at y1
  rw [q.D, d1, d2] at y2
  exact ⟨y0, y1, y2, x0, x1, x2, (a3 W hW).1, (d3 W hW).1, (a3 W hW).2, (d3 W hW).2⟩
theorem MsgTwin.pairL {w : World} {base : Nat} {X Y : Tx} (h : MsgTwin w base X Y) (hT : TxAt w X) (hF : Fits X) {i : Nat} {l : Lk} (hl : X.L[i]? = some l) :
    ∃ yb yo xb xo ga gd, Y.la = some ⟨yb, yo, none⟩ ∧ X.la = some ⟨xb, xo, none⟩ ∧ ∀ W, Below w.heap.size w W → PairL W yb yo xb xo i l ga gd := by
  obtain ⟨xb, xo, e1, r1⟩ := hT.lkAt hl
  have hi : i < Y.L.length := by rw [h.lks.1]; exact (List.getElem?_eq_some_iff.1 hl).1
  have hl' : Y.L[i]? = some Y.L[i] := List.getElem?_eq_getElem hi
  have q := h.lks.2 i _ _ hl hl'
  obtain ⟨yb, yo, e2, r2⟩ := h.ownL.slice.1 i Y.L[i].cells (by rw [List.getElem?_map, hl']; rfl)
  obtain ⟨f1, f2⟩ := hF.l l (List.mem_of_getElem? hl)
  obtain ⟨b1, b2⟩ := hT.lkb l (List.mem_of_getElem? hl)
  have hT32 := (hT.lksOk l (List.mem_of_getElem? hl)).1
  obtain ⟨ga, a1, a2, a3⟩ := q.bw.calls (c' := l.wc) b1 f1
  obtain ⟨gd, d1, d2, d3⟩ := q.br.calls (c' := l.rc) b2 f2
  refine ⟨yb, yo, xb, xo, ga, gd, e2, e1, fun W hW => ?_⟩
  obtain ⟨y1, y2⟩ := lkCells (by rw [q.T]; exact hT32) (Below.row hW r2 r2.lt)
  obtain ⟨x1, x2⟩ := lkCells hT32 (Below.row hW r1 r1.lt)
  have y0 := lkRow (Below.row hW r2 r2.lt)
  have x0 := lkRow (Below.row hW r1 r1.lt)
  unfold Lk.wl at y1 x1
  unfold Lk.rl at y2 x2
  rw [q.T] at y0
  rw [q.W, a1, a2] at y1
  rw [q.Rd, d1, d2] at y2
  exact ⟨y0, y1, y2, x0, x1, x2, (a3 W hW).1, (d3 W hW).1, (a3 W hW).2, (d3 W hW).2⟩

/-- A message's block, the header and the recent hash said of X. -/
structure MC (W : World) (b : Nat) (X : Tx) (ka : Option Addr) (kn kc : Nat) (ia : Option Addr) (il ic : Nat) (la : Option Addr) (ll lc : Nat) : Prop where
  c0 : W.cell? ⟨b, 0, none⟩ = some (.bool X.v0)
  h : RowAt W b 1 X.hcells
  c4 : W.cell? ⟨b, 4, none⟩ = some (.slice ka kn kc)
  r : RowAt W b 5 (icells .u8 X.R)
  c37 : W.cell? ⟨b, 37, none⟩ = some (.slice ia il ic)
  c38 : W.cell? ⟨b, 38, none⟩ = some (.slice la ll lc)
theorem mcX {W : World} {b : Nat} {X : Tx} (hR : X.R.length = 32) (h : W.heap[b]? = some (.cells X.mcells 31)) : MC W b X X.ka X.K.length X.kc X.ia X.I.length X.ic X.la X.L.length X.lc :=
  ⟨(msgCells hR h).c0, msgHRow h, (msgCells hR h).c4, msgRRow h, (msgCells hR h).c37, (msgCells hR h).c38⟩
theorem mcY {w W : World} {base b : Nat} {X Y : Tx} (hR : X.R.length = 32) (hY : MsgTwin w base X Y) (h : W.heap[b]? = some (.cells Y.mcells 31)) : MC W b X Y.ka X.K.length Y.kc Y.ia X.I.length Y.ic Y.la X.L.length Y.lc := by
  have m := mcX (by rw [hY.R]; exact hR) h
  have e : Y.hcells = X.hcells := by unfold Tx.hcells; rw [hY.hs, hY.hr, hY.ho]
  refine ⟨?_, ?_, ?_, ?_, ?_, ?_⟩
  · rw [← hY.v0]; exact m.c0
  · rw [← e]; exact m.h
  · rw [← hY.K]; exact m.c4
  · rw [← hY.R]; exact m.r
  · rw [← hY.ins.1]; exact m.c37
  · rw [← hY.lks.1]; exact m.c38
end Go.Proofs.Ytgjijoielfpmkaa
