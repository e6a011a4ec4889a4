/- A transaction as plain data, and how it lies in memory; the laws on single operations that the walks want. -/
import Derived.Test.YtgjijoielfpmkaaRows
import Derived.Test.YtgjijoielfpmkaaOps
import Derived.Lib.Hide
import Derived.Deep.LoopGhost
set_option linter.unusedVariables false
namespace Go.Proofs.Ytgjijoielfpmkaa
open Go.RowKit

/-- How many elements a slice that came in has at most. -/
abbrev lenMax : Nat := 140737488351232

/-! ### Plain data -/
/-- An instruction: its program, its accounts, its data. -/
structure Ins where
  p : Nat
  aa : Option Addr
  A : List Nat
  ac : Nat
  da : Option Addr
  D : List Nat
  dc : Nat
def Ins.dl (i : Ins) : Nat := i.D.length
def Ins.cells (i : Ins) : Array Value := #[.int .u8 (i.p : Int), .slice i.aa i.A.length i.ac, .slice i.da i.dl i.dc]
/-- A lookup: its table, what is written, what is read. -/
structure Lk where
  T : List Int
  wa : Option Addr
  W : List Nat
  wc : Nat
  ra : Option Addr
  Rd : List Nat
  rc : Nat
def Lk.wl (l : Lk) : Nat := l.W.length
def Lk.rl (l : Lk) : Nat := l.Rd.length
def Lk.cells (l : Lk) : Array Value := icells .u8 l.T ++ #[.slice l.wa l.wl l.wc, .slice l.ra l.rl l.rc]
/-- A transaction. -/
structure Tx where
  sa : Option Addr
  SG : List (List Int)
  sc : Nat
  v0 : Bool
  hs : Nat
  hr : Nat
  ho : Nat
  ka : Option Addr
  K : List (List Int)
  kc : Nat
  R : List Int
  ia : Option Addr
  I : List Ins
  ic : Nat
  la : Option Addr
  L : List Lk
  lc : Nat
def Tx.sl (X : Tx) : Nat := X.SG.length
def Tx.mcells (X : Tx) : Array Value := #[.bool X.v0, .int .u8 (X.hs : Int), .int .u8 (X.hr : Int), .int .u8 (X.ho : Int), .slice X.ka X.K.length X.kc] ++ icells .u8 X.R ++ #[.slice X.ia X.I.length X.ic, .slice X.la X.L.length X.lc]
def Tx.cells (X : Tx) : Array Value := #[.slice X.sa X.sl X.sc] ++ X.mcells
/-- The value of a transaction, of its message, of a key, of an instruction, of a lookup. -/
def Tx.val (X : Tx) : Value := .agg X.cells
def Tx.mval (X : Tx) : Value := .agg X.mcells
def kv (k : List Int) : Value := .agg (icells .u8 k)
def Ins.val (i : Ins) : Value := .agg i.cells
def Lk.val (l : Lk) : Value := .agg l.cells

theorem Tx.msize {X : Tx} (h : X.R.length = 32) : X.mcells.size = 39 := by simp [Tx.mcells, h]
theorem Tx.size {X : Tx} (h : X.R.length = 32) : X.cells.size = 40 := by simp [Tx.cells, Tx.msize h]
theorem Lk.size {l : Lk} (h : l.T.length = 32) : l.cells.size = 34 := by simp [Lk.cells, h]
theorem Ins.size (i : Ins) : i.cells.size = 3 := rfl

theorem Tx.m_tail {X : Tx} (h : X.R.length = 32) (j : Nat) : X.mcells[37 + j]? = (#[Value.slice X.ia X.I.length X.ic, Value.slice X.la X.L.length X.lc] : Array Value)[j]? := by
  unfold Tx.mcells
  rw [Array.getElem?_append_right (by simp [h])]
  simp [h]
theorem Tx.m_head {X : Tx} {j : Nat} (h : j < 5) : X.mcells[j]? = (#[Value.bool X.v0, .int .u8 (X.hs : Int), .int .u8 (X.hr : Int), .int .u8 (X.ho : Int), .slice X.ka X.K.length X.kc] : Array Value)[j]? := by
  unfold Tx.mcells
  rw [Array.append_assoc, Array.getElem?_append_left (by simpa using h)]
theorem Tx.c_tail {X : Tx} (j : Nat) : X.cells[1 + j]? = X.mcells[j]? := by
  unfold Tx.cells
  rw [Array.getElem?_append_right (by simp)]
  simp
theorem Lk.tail {l : Lk} (h : l.T.length = 32) (j : Nat) : l.cells[32 + j]? = (#[Value.slice l.wa l.wl l.wc, Value.slice l.ra l.rl l.rc] : Array Value)[j]? := by
  unfold Lk.cells
  rw [Array.getElem?_append_right (by simp [h])]
  simp [h]

/-- What a block that holds a message says, cell by cell. -/
structure MsgCells (w : World) (b : Nat) (X : Tx) : Prop where
  c0 : w.cell? ⟨b, 0, none⟩ = some (.bool X.v0)
  c1 : w.cell? ⟨b, 1, none⟩ = some (.int .u8 (X.hs : Int))
  c2 : w.cell? ⟨b, 2, none⟩ = some (.int .u8 (X.hr : Int))
  c3 : w.cell? ⟨b, 3, none⟩ = some (.int .u8 (X.ho : Int))
  c4 : w.cell? ⟨b, 4, none⟩ = some (.slice X.ka X.K.length X.kc)
  c37 : w.cell? ⟨b, 37, none⟩ = some (.slice X.ia X.I.length X.ic)
  c38 : w.cell? ⟨b, 38, none⟩ = some (.slice X.la X.L.length X.lc)
/-- .. a transaction. -/
structure TxCells (w : World) (b : Nat) (X : Tx) : Prop where
  c0 : w.cell? ⟨b, 0, none⟩ = some (.slice X.sa X.sl X.sc)
  c1 : w.cell? ⟨b, 1, none⟩ = some (.bool X.v0)
  c2 : w.cell? ⟨b, 2, none⟩ = some (.int .u8 (X.hs : Int))
  c3 : w.cell? ⟨b, 3, none⟩ = some (.int .u8 (X.hr : Int))
  c4 : w.cell? ⟨b, 4, none⟩ = some (.int .u8 (X.ho : Int))
  c5 : w.cell? ⟨b, 5, none⟩ = some (.slice X.ka X.K.length X.kc)
  c38 : w.cell? ⟨b, 38, none⟩ = some (.slice X.ia X.I.length X.ic)
  c39 : w.cell? ⟨b, 39, none⟩ = some (.slice X.la X.L.length X.lc)

theorem msgCells {w : World} {b : Nat} {X : Tx} {t : TypeId} {fr : Nat × Nat} (hR : X.R.length = 32) (h : w.heap[b]? = some (.cells X.mcells t fr)) : MsgCells w b X :=
  ⟨(cell_of_row w b 0 _ t fr h).trans (Tx.m_head (by decide)), (cell_of_row w b 1 _ t fr h).trans (Tx.m_head (by decide)), (cell_of_row w b 2 _ t fr h).trans (Tx.m_head (by decide)), (cell_of_row w b 3 _ t fr h).trans (Tx.m_head (by decide)),
   (cell_of_row w b 4 _ t fr h).trans (Tx.m_head (by decide)), (cell_of_row w b 37 _ t fr h).trans (Tx.m_tail hR 0), (cell_of_row w b 38 _ t fr h).trans (Tx.m_tail hR 1)⟩
theorem txCells {w : World} {b : Nat} {X : Tx} {t : TypeId} {fr : Nat × Nat} (hR : X.R.length = 32) (h : w.heap[b]? = some (.cells X.cells t fr)) : TxCells w b X :=
  ⟨(cell_of_row w b 0 _ t fr h).trans (by unfold Tx.cells; rw [Array.getElem?_append_left (by simp)]; rfl),
   (cell_of_row w b 1 _ t fr h).trans ((Tx.c_tail 0).trans (Tx.m_head (by decide))), (cell_of_row w b 2 _ t fr h).trans ((Tx.c_tail 1).trans (Tx.m_head (by decide))), (cell_of_row w b 3 _ t fr h).trans ((Tx.c_tail 2).trans (Tx.m_head (by decide))),
   (cell_of_row w b 4 _ t fr h).trans ((Tx.c_tail 3).trans (Tx.m_head (by decide))), (cell_of_row w b 5 _ t fr h).trans ((Tx.c_tail 4).trans (Tx.m_head (by decide))),
   (cell_of_row w b 38 _ t fr h).trans ((Tx.c_tail 37).trans (Tx.m_tail hR 0)), (cell_of_row w b 39 _ t fr h).trans ((Tx.c_tail 38).trans (Tx.m_tail hR 1))⟩
theorem txRow {w : World} {b : Nat} {X : Tx} {t : TypeId} {fr : Nat × Nat} (h : w.heap[b]? = some (.cells X.cells t fr)) : RowAt w b 0 X.cells := RowAt.of_cells h
theorem txMRow {w : World} {b : Nat} {X : Tx} {t : TypeId} {fr : Nat × Nat} (h : w.heap[b]? = some (.cells X.cells t fr)) : RowAt w b 1 X.mcells :=
  ⟨X.cells, t, fr, h, by simp [Tx.cells], fun j _ => Tx.c_tail j⟩

def Tx.hcells (X : Tx) : Array Value := #[.int .u8 (X.hs : Int), .int .u8 (X.hr : Int), .int .u8 (X.ho : Int)]
theorem txHRow {w : World} {b : Nat} {X : Tx} {t : TypeId} {fr : Nat × Nat} (h : w.heap[b]? = some (.cells X.cells t fr)) : RowAt w b 2 X.hcells :=
  ⟨X.cells, t, fr, h, by simp [Tx.cells, Tx.mcells, Tx.hcells]; omega, fun j hj => by
    have hj' : j < 3 := hj
    have e : (2 + j : Nat) = 1 + (1 + j) := by omega
    rw [e, Tx.c_tail, Tx.m_head (by omega)]
    match j, hj' with
    | 0, _ => rfl
    | 1, _ => rfl
    | 2, _ => rfl⟩

/-! ### In memory -/
/-- Bytes that a slice leads to. -/
def BytesAt (w : World) (ao : Option Addr) (A : List Nat) : Prop := ∀ j, j < A.length → A.getD j 0 < 256 ∧ ∃ b off, ao = some ⟨b, off, none⟩ ∧ b < w.heap.size ∧ w.cell? ⟨b, off + j, none⟩ = some (.int .u8 ((A.getD j 0 : Nat) : Int))
/-- Rows of s cells, each the cells of one thing. -/
def RowsAt (w : World) (ao : Option Addr) (s : Nat) (D : List (Array Value)) : Prop := ∀ j C, D[j]? = some C → ∃ b off, ao = some ⟨b, off, none⟩ ∧ RowAt w b (off + j * s) C

theorem Below.row {B : Nat} {w w' : World} {b off : Nat} {C : Array Value} (hb : Below B w w') (h : RowAt w b off C) (hlt : b < B) : RowAt w' b off C := h.of_block (hb.block b hlt)
theorem RowsAt.keep {w w' : World} {ao : Option Addr} {s : Nat} {D : List (Array Value)} (h : RowsAt w ao s D) (hb : Below w.heap.size w w') : RowsAt w' ao s D := fun j C hj => by
  obtain ⟨b, off, e, hr⟩ := h j C hj
  exact ⟨b, off, e, Below.row hb hr hr.lt⟩
theorem BytesAt.keep {w w' : World} {ao : Option Addr} {A : List Nat} (h : BytesAt w ao A) (hb : Below w.heap.size w w') : BytesAt w' ao A := fun j hj => by
  obtain ⟨h1, b, off, e, h2, h3⟩ := h j hj
  exact ⟨h1, b, off, e, Nat.lt_of_lt_of_le h2 hb.size, (hb.cell (p := ⟨b, off + j, none⟩) h2).trans h3⟩

/-- A key's bytes. -/
def IsKey (k : List Int) : Prop := k.length = 32 ∧ ∀ x ∈ k, 0 ≤ x ∧ x < 256

/-- What a transaction leads to. -/
structure TxAt (w : World) (X : Tx) : Prop where
  hs : X.hs < 256
  hr : X.hr < 256
  ho : X.ho < 256
  R : X.R.length = 32
  sl : X.sl ≤ lenMax
  kl : X.K.length ≤ lenMax
  il : X.I.length ≤ lenMax
  ll : X.L.length ≤ lenMax
  key : ∀ k ∈ X.K, IsKey k
  keys : RowsAt w X.ka 32 (X.K.map (icells .u8))
  ins : RowsAt w X.ia 3 (X.I.map Ins.cells)
  insOk : ∀ i ∈ X.I, i.p < 256 ∧ i.A.length ≤ lenMax ∧ i.dl ≤ lenMax ∧ BytesAt w i.aa i.A
  lks : RowsAt w X.la 34 (X.L.map Lk.cells)
  lksOk : ∀ l ∈ X.L, l.T.length = 32 ∧ l.wl ≤ lenMax ∧ l.rl ≤ lenMax
  sigs : RowsAt w X.sa 64 (X.SG.map (icells .u8))
  sig : ∀ s ∈ X.SG, s.length = 64
  dat : ∀ i ∈ X.I, BytesAt w i.da i.D
  lkb : ∀ l ∈ X.L, BytesAt w l.wa l.W ∧ BytesAt w l.ra l.Rd
  nilS : X.sa = none → X.sc = 0
  nilK : X.ka = none → X.kc = 0
  nilI : X.ia = none → X.ic = 0

theorem TxAt.keep {w w' : World} {X : Tx} (h : TxAt w X) (hb : Below w.heap.size w w') : TxAt w' X :=
  { h with keys := h.keys.keep hb, ins := h.ins.keep hb, insOk := fun i hi => ⟨(h.insOk i hi).1, (h.insOk i hi).2.1, (h.insOk i hi).2.2.1, (h.insOk i hi).2.2.2.keep hb⟩, lks := h.lks.keep hb, sigs := h.sigs.keep hb, dat := fun i hi => (h.dat i hi).keep hb, lkb := fun l hl => ⟨(h.lkb l hl).1.keep hb, (h.lkb l hl).2.keep hb⟩ }

theorem TxAt.insAt {w : World} {X : Tx} (h : TxAt w X) {j : Nat} {i : Ins} (hj : X.I[j]? = some i) : ∃ b off, X.ia = some ⟨b, off, none⟩ ∧ RowAt w b (off + j * 3) i.cells := h.ins j i.cells (by rw [List.getElem?_map, hj]; rfl)
theorem TxAt.lkAt {w : World} {X : Tx} (h : TxAt w X) {j : Nat} {l : Lk} (hj : X.L[j]? = some l) : ∃ b off, X.la = some ⟨b, off, none⟩ ∧ RowAt w b (off + j * 34) l.cells := h.lks j l.cells (by rw [List.getElem?_map, hj]; rfl)
theorem TxAt.keyAt {w : World} {X : Tx} (h : TxAt w X) {j : Nat} {k : List Int} (hj : X.K[j]? = some k) : ∃ b off, X.ka = some ⟨b, off, none⟩ ∧ RowAt w b (off + j * 32) (icells .u8 k) := h.keys j _ (by rw [List.getElem?_map, hj]; rfl)
theorem TxAt.keep_drew {w : World} {X : Tx} (h : TxAt w X) : TxAt w.drew X := h.keep ⟨rfl, rfl, rfl, Nat.le_refl _, fun _ _ => rfl⟩

/-- Cells of an instruction, of a lookup, out of their row. -/
theorem insCells {w : World} {b off : Nat} {i : Ins} (h : RowAt w b off i.cells) : w.cell? ⟨b, off, none⟩ = some (.int .u8 (i.p : Int)) ∧ w.cell? ⟨b, off + 1, none⟩ = some (.slice i.aa i.A.length i.ac) ∧ w.cell? ⟨b, off + 2, none⟩ = some (.slice i.da i.dl i.dc) :=
  ⟨h.cell (j := 0) (by rw [Ins.size]; decide), h.cell (j := 1) (by rw [Ins.size]; decide), h.cell (j := 2) (by rw [Ins.size]; decide)⟩
theorem lkCells {w : World} {b off : Nat} {l : Lk} (hT : l.T.length = 32) (h : RowAt w b off l.cells) : w.cell? ⟨b, off + 32, none⟩ = some (.slice l.wa l.wl l.wc) ∧ w.cell? ⟨b, off + 33, none⟩ = some (.slice l.ra l.rl l.rc) := by
  have e0 := (h.cell (j := 32) (by rw [Lk.size hT]; decide))
  have e1 := (h.cell (j := 33) (by rw [Lk.size hT]; decide))
  have g0 : l.cells[32]? = some (.slice l.wa l.wl l.wc) := Lk.tail hT 0
  have g1 : l.cells[33]? = some (.slice l.ra l.rl l.rc) := Lk.tail hT 1
  rw [← Array.getElem?_eq_getElem, g0] at e0
  rw [← Array.getElem?_eq_getElem, g1] at e1
  exact ⟨e0, e1⟩

/-! ### Types -/
theorem u33 : ∃ fs, Try.prog.underlying 33 = some (.struct fs) := ⟨_, Try.underlying33⟩
theorem s33 : (Try.prog.info? 33).map (·.size) = some 40 := by kernel_rfl
theorem u31 : ∃ fs, Try.prog.underlying 31 = some (.struct fs) := ⟨_, Try.underlying31⟩
theorem s31 : (Try.prog.info? 31).map (·.size) = some 39 := by kernel_rfl
theorem u24 : ∃ fs, Try.prog.underlying 24 = some (.struct fs) := ⟨_, Try.underlying24⟩
theorem s24 : (Try.prog.info? 24).map (·.size) = some 3 := by kernel_rfl
theorem u47 : ∃ fs, Try.prog.underlying 47 = some (.struct fs) := ⟨_, Try.underlying47⟩
theorem s47 : (Try.prog.info? 47).map (·.size) = some 3 := by kernel_rfl
theorem u44 : ∃ fs, Try.prog.underlying 44 = some (.struct fs) := ⟨_, Try.underlying44⟩
theorem s44 : (Try.prog.info? 44).map (·.size) = some 34 := by kernel_rfl
theorem u41 : Try.prog.underlying 41 = some (.array 32 5) := by kernel_rfl
theorem s41 : (Try.prog.info? 41).map (·.size) = some 32 := by kernel_rfl
theorem u5 : Try.prog.underlying 5 = some (.int .u8) := by kernel_rfl
theorem s5 : (Try.prog.info? 5).map (·.size) = some 1 := by kernel_rfl

/-! ### Single operations -/
section
variable {ops : Array Oper} {Q : Exit → Act → World → Prop} {a : Act} {w : World} {rest : List Oper} {dst : Option Tmp} {x y : Operand} {ty : TypeId} {pos : String} {after : Array Edge}

/-- A transaction that came by value goes into a block of its own. -/
theorem wl_box33 {X : Tx} (hx : a.eval x = X.val)
    (K : ∀ b w1, w1.heap[b]? = some (.cells X.cells 33) → w.heap.size ≤ b → Below w.heap.size w w1 → wpList Try.prog ops Q rest (a.put dst (.pointer (some ⟨b, 0, none⟩))) w1) :
    wpList Try.prog ops Q (⟨dst, .box 33 x, ty, pos, after, none⟩ :: rest) a w :=
  wpList_run rfl (exec_box rfl hx rfl) (K _ _ (heap_alloc_new w _) (Nat.le_refl _) ((Below.refl _ _).alloc (Nat.le_refl _) _))
theorem wl_box31 {X : Tx} (hx : a.eval x = X.mval)
    (K : ∀ b w1, w1.heap[b]? = some (.cells X.mcells 31) → w.heap.size ≤ b → Below w.heap.size w w1 → wpList Try.prog ops Q rest (a.put dst (.pointer (some ⟨b, 0, none⟩))) w1) :
    wpList Try.prog ops Q (⟨dst, .box 31 x, ty, pos, after, none⟩ :: rest) a w :=
  wpList_run rfl (exec_box rfl hx rfl) (K _ _ (heap_alloc_new w _) (Nat.le_refl _) ((Below.refl _ _).alloc (Nat.le_refl _) _))
theorem wl_box44 {l : Lk} (hx : a.eval x = l.val)
    (K : ∀ b w1, w1.heap[b]? = some (.cells l.cells 44) → w.heap.size ≤ b → Below w.heap.size w w1 → wpList Try.prog ops Q rest (a.put dst (.pointer (some ⟨b, 0, none⟩))) w1) :
    wpList Try.prog ops Q (⟨dst, .box 44 x, ty, pos, after, none⟩ :: rest) a w :=
  wpList_run rfl (exec_box rfl hx rfl) (K _ _ (heap_alloc_new w _) (Nat.le_refl _) ((Below.refl _ _).alloc (Nat.le_refl _) _))
theorem wl_box47 {i : Ins} (hx : a.eval x = i.val)
    (K : ∀ b w1, w1.heap[b]? = some (.cells i.cells 47) → w.heap.size ≤ b → Below w.heap.size w w1 → wpList Try.prog ops Q rest (a.put dst (.pointer (some ⟨b, 0, none⟩))) w1) :
    wpList Try.prog ops Q (⟨dst, .box 47 x, ty, pos, after, none⟩ :: rest) a w :=
  wpList_run rfl (exec_box rfl hx rfl) (K _ _ (heap_alloc_new w _) (Nat.le_refl _) ((Below.refl _ _).alloc (Nat.le_refl _) _))

/-- Loads of whole things. -/
theorem wl_load33 {b off : Nat} {X : Tx} (hx : a.eval x = .pointer (some ⟨b, off, none⟩)) (hr : RowAt w b off X.cells) (hR : X.R.length = 32) (K : wpList Try.prog ops Q rest (a.put dst X.val) w) :
    wpList Try.prog ops Q (⟨dst, .load 33 x, ty, pos, after, none⟩ :: rest) a w := by
  obtain ⟨fs, hu⟩ := u33
  exact wpList_run rfl (exec_load_sub rfl hx hr hu rfl (by rw [Tx.size hR]; exact s33)) K
theorem wl_load31 {b off : Nat} {X : Tx} (hx : a.eval x = .pointer (some ⟨b, off, none⟩)) (hr : RowAt w b off X.mcells) (hR : X.R.length = 32) (K : wpList Try.prog ops Q rest (a.put dst X.mval) w) :
    wpList Try.prog ops Q (⟨dst, .load 31 x, ty, pos, after, none⟩ :: rest) a w := by
  obtain ⟨fs, hu⟩ := u31
  exact wpList_run rfl (exec_load_sub rfl hx hr hu rfl (by rw [Tx.msize hR]; exact s31)) K
theorem wl_load44 {b off : Nat} {l : Lk} (hx : a.eval x = .pointer (some ⟨b, off, none⟩)) (hr : RowAt w b off l.cells) (hT : l.T.length = 32) (K : wpList Try.prog ops Q rest (a.put dst l.val) w) :
    wpList Try.prog ops Q (⟨dst, .load 44 x, ty, pos, after, none⟩ :: rest) a w := by
  obtain ⟨fs, hu⟩ := u44
  exact wpList_run rfl (exec_load_sub rfl hx hr hu rfl (by rw [Lk.size hT]; exact s44)) K
theorem wl_load47 {b off : Nat} {i : Ins} (hx : a.eval x = .pointer (some ⟨b, off, none⟩)) (hr : RowAt w b off i.cells) (K : wpList Try.prog ops Q rest (a.put dst i.val) w) :
    wpList Try.prog ops Q (⟨dst, .load 47 x, ty, pos, after, none⟩ :: rest) a w := by
  obtain ⟨fs, hu⟩ := u47
  exact wpList_run rfl (exec_load_sub rfl hx hr hu rfl s47) K
theorem wl_load24 {b off : Nat} {X : Tx} (hx : a.eval x = .pointer (some ⟨b, off, none⟩)) (hr : RowAt w b off X.hcells) (K : wpList Try.prog ops Q rest (a.put dst (.agg X.hcells)) w) :
    wpList Try.prog ops Q (⟨dst, .load 24 x, ty, pos, after, none⟩ :: rest) a w := by
  obtain ⟨fs, hu⟩ := u24
  exact wpList_run rfl (exec_load_sub rfl hx hr hu rfl s24) K
theorem wl_load41 {b off : Nat} {k : List Int} (hx : a.eval x = .pointer (some ⟨b, off, none⟩)) (hr : RowAt w b off (icells .u8 k)) (hl : k.length = 32) (K : wpList Try.prog ops Q rest (a.put dst (kv k)) w) :
    wpList Try.prog ops Q (⟨dst, .load 41 x, ty, pos, after, none⟩ :: rest) a w :=
  wpList_run rfl (exec_load_sub rfl hx hr u41 rfl (by rw [size_icells, hl]; exact s41)) K

/-- A new variable of such a type, and what is stored into it. -/
theorem zero44 : ∃ z, (Try.prog.info? 44).bind (·.zero) = some z ∧ z.cells.size = 34 := ⟨_, rfl, by kernel_rfl⟩
theorem zero33 : ∃ z, (Try.prog.info? 33).bind (·.zero) = some z ∧ z.cells.size = 40 := ⟨_, rfl, by kernel_rfl⟩
theorem zero41 : ∃ z, (Try.prog.info? 41).bind (·.zero) = some z ∧ z.cells.size = 32 := ⟨_, rfl, by kernel_rfl⟩
theorem zero24 : ∃ z, (Try.prog.info? 24).bind (·.zero) = some z ∧ z.cells.size = 3 := ⟨_, rfl, by kernel_rfl⟩
theorem zero47 : ∃ z, (Try.prog.info? 47).bind (·.zero) = some z ∧ z.cells.size = 3 := ⟨_, rfl, by kernel_rfl⟩
theorem wl_allocN {t n : Nat} (hz : ∃ z, (Try.prog.info? t).bind (·.zero) = some z ∧ z.cells.size = n)
    (K : ∀ b w1 Z, w1.heap[b]? = some (.cells Z t) → Z.size = n → w.heap.size ≤ b → Below w.heap.size w w1 → wpList Try.prog ops Q rest (a.put dst (.pointer (some ⟨b, 0, none⟩))) w1) :
    wpList Try.prog ops Q (⟨dst, .alloc t, ty, pos, after, none⟩ :: rest) a w := by
  obtain ⟨z, h1, h2⟩ := hz
  exact wpList_run rfl (exec_alloc rfl h1 rfl) (K _ _ _ (heap_alloc_new w _) h2 (Nat.le_refl _) ((Below.refl _ _).alloc (Nat.le_refl _) _))
theorem wl_storeN {t n b : Nat} {A Z : Array Value} {p : Operand} (hp : a.eval p = .pointer (some ⟨b, 0, none⟩)) (hx : a.eval x = .agg A) (hg : w.heap[b]? = some (.cells Z t)) (hZ : Z.size = n) (hA : A.size = n) (h1 : ∀ v ∈ A.toList, v.oneCell' = true)
    (hi : (Try.prog.info? t).map (·.size) = some n) (K : ∀ w1, w1.heap[b]? = some (.cells A t) → Wrote w w1 b → wpList Try.prog ops Q rest (a.put dst undef) w1) :
    wpList Try.prog ops Q (⟨dst, .store t p x, ty, pos, after, none⟩ :: rest) a w := by
  refine wpList_runSkip rfl (exec_store_sub (t := t) (C := Z) (A := A) rfl hp hx rfl hg (by omega) h1 (by rw [hA]; exact hi)) (K _ ?_ (Wrote.setRow _ _ _))
  rw [setRow_heap w b Z _ t _ hg, splice_whole (by omega)]
theorem Tx.hsize (X : Tx) : X.hcells.size = 3 := rfl
theorem Below.keepCell {B : Nat} {w1 w2 : World} (h : Below B w1 w2) (hB : w1.heap.size ≤ B) {p : Addr} {v : Value} (hc : w1.cell? p = some v) : w2.cell? p = some v := by
  have hlt := block_lt_of_cell hc
  exact (h.cell (p := p) (by omega)).trans hc
theorem Tx.hone (X : Tx) : ∀ v ∈ X.hcells.toList, v.oneCell' = true := fun v hv => by
  simp [Tx.hcells] at hv
  rcases hv with rfl | rfl | rfl <;> rfl
theorem hCells {w : World} {b : Nat} {X : Tx} {t : TypeId} {fr : Nat × Nat} (h : w.heap[b]? = some (.cells X.hcells t fr)) : w.cell? ⟨b, 0, none⟩ = some (.int .u8 (X.hs : Int)) ∧ w.cell? ⟨b, 1, none⟩ = some (.int .u8 (X.hr : Int)) ∧ w.cell? ⟨b, 2, none⟩ = some (.int .u8 (X.ho : Int)) :=
  ⟨cell_of_row w b 0 _ t fr h, cell_of_row w b 1 _ t fr h, cell_of_row w b 2 _ t fr h⟩
theorem Lk.one (l : Lk) : ∀ v ∈ l.cells.toList, v.oneCell' = true := fun v hv => by
  simp only [Lk.cells, Array.toList_append, List.mem_append] at hv
  rcases hv with hv | hv
  · exact icells_one _ _ v hv
  · simp at hv; rcases hv with rfl | rfl <;> rfl
theorem Ins.one (i : Ins) : ∀ v ∈ i.cells.toList, v.oneCell' = true := fun v hv => by
  simp [Ins.cells] at hv
  rcases hv with rfl | rfl | rfl <;> rfl
theorem Tx.one (X : Tx) : ∀ v ∈ X.cells.toList, v.oneCell' = true := fun v hv => by
  simp only [Tx.cells, Tx.mcells, Array.toList_append, List.mem_append] at hv
  rcases hv with hv | (hv | hv) | hv
  · simp at hv; rw [hv]; rfl
  · simp at hv; rcases hv with rfl | rfl | rfl | rfl | rfl <;> rfl
  · exact icells_one _ _ v hv
  · simp at hv; rcases hv with rfl | rfl <;> rfl
end
end Go.Proofs.Ytgjijoielfpmkaa
