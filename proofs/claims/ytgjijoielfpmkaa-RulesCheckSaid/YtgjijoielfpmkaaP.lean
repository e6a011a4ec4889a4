/- A transaction that came in, whole. -/
import Derived.Test.YtgjijoielfpmkaaO
set_option linter.unusedVariables false
namespace Go.Proofs.Ytgjijoielfpmkaa
open Go.ChangeShapes Go.WideShapes Go.ChangeAt Go.RowKit Go.Deep

section
variable {H : Type} {enc : TypeId × Value → H} {w : World}
theorem seg (l : List Value) (a n : Nat) : (l.drop a).take n ++ l.drop (a + n) = l.drop a := by
  rw [← List.drop_drop, List.take_append_drop]
theorem seg_end {l : List Value} {n : Nat} (h : l.length = n) (a m : Nat) (hm : a + m = n) : (l.drop a).take m = l.drop a := by
  apply List.take_of_length_le
  simp; omega

/-- A field of a struct. -/
theorem open_struct {t : TypeId} {fs : Array Field} {fuel : Nat} {cs : List Value} {x : DataW H × List MemPlace} (ht : Try.prog.underlying t = some (.struct fs)) (h : DataW.trod enc Try.prog w 0 (fun _ => true) true fuel t cs = some x) (hw : Wt Try.prog t x.1) :
    cs.length = Try.prog.cellsOf t ∧ ∀ (i t' off k : Nat), (fs[i]?).map (fun f => (f.type, f.offset)) = some (t', off) → Try.prog.cellsOf t' = k → ∃ n y, DataW.trod enc Try.prog w 0 (fun _ => true) true n t' ((cs.drop off).take k) = some y ∧ Wt Try.prog t' y.1 := by
  obtain ⟨xs, n, _, rfl, hl, hlen, hf⟩ := DataW.trod_struct ht h
  refine ⟨hl, fun i t' off k hi hk => ?_⟩
  obtain ⟨f, hi2, e⟩ := Option.map_eq_some_iff.1 hi
  obtain ⟨rfl, rfl⟩ : f.type = t' ∧ f.offset = off := by simpa using e
  subst hk
  have hil := (Array.getElem?_eq_some_iff.1 hi2).1
  have hx : xs[i]? = some xs[i] := List.getElem?_eq_getElem (by omega)
  refine ⟨n, xs[i], (hf i f hi2).trans hx, hw.field ht hi2 ?_⟩
  rw [List.getElem?_map, hx]; rfl

theorem open_ins {fuel : Nat} {cs : List Value} {x : DataW H × List MemPlace} (h : DataW.trod enc Try.prog w 0 (fun _ => true) true fuel 47 cs = some x) (hw : Wt Try.prog 47 x.1) :
    ∃ i : Ins, i.cells.toList = cs ∧ (i.p < 256 ∧ i.A.length ≤ lenMax ∧ i.dl ≤ lenMax ∧ BytesAt w i.aa i.A) ∧ BytesAt w i.da i.D ∧ (i.aa = none → i.ac = 0) ∧ (i.da = none → i.dc = 0) := by
  obtain ⟨hl, hf⟩ := open_struct Try.underlying47 h hw
  have hl' : cs.length = 3 := hl.trans (by kernel_rfl)
  obtain ⟨n0, y0, f0, g0⟩ := hf 0 5 0 1 rfl (by kernel_rfl)
  obtain ⟨n1, y1, f1, g1⟩ := hf 1 42 1 1 rfl (by kernel_rfl)
  obtain ⟨n2, y2, f2, g2⟩ := hf 2 42 2 1 rfl (by kernel_rfl)
  clear hf
  obtain ⟨p, e0, _, w0⟩ := DataW.trod_int u5 f0
  obtain ⟨aa, A, ac, e1, b1, l1, m1⟩ := open_bytes f1 g1
  obtain ⟨da, D, dc, e2, b2, l2, m2⟩ := open_bytes f2 g2
  have hp := wf_u8 w0
  refine ⟨⟨p.toNat, aa, A, ac, da, D, dc⟩, ?_, ⟨by simp only; omega, l1, l2, b1⟩, b2, m1, m2⟩
  have hcs : cs = (cs.drop 0).take 1 ++ ((cs.drop 1).take 1 ++ (cs.drop 2).take 1) := by
    rw [seg_end hl' 2 1 (by omega), seg cs 1 1, seg cs 0 1]; rfl
  rw [hcs, e0, e1, e2]
  have e : ((p.toNat : Nat) : Int) = p := by omega
  simp [Ins.cells, Ins.dl, e]

theorem open_lk {fuel : Nat} {cs : List Value} {x : DataW H × List MemPlace} (h : DataW.trod enc Try.prog w 0 (fun _ => true) true fuel 44 cs = some x) (hw : Wt Try.prog 44 x.1) :
    ∃ l : Lk, l.cells.toList = cs ∧ (l.T.length = 32 ∧ l.wl ≤ lenMax ∧ l.rl ≤ lenMax) ∧ (BytesAt w l.wa l.W ∧ BytesAt w l.ra l.Rd) ∧ (∀ m ∈ l.T, 0 ≤ m ∧ m < 256) ∧ (l.wa = none → l.wc = 0) ∧ (l.ra = none → l.rc = 0) := by
  obtain ⟨hl, hf⟩ := open_struct Try.underlying44 h hw
  have hl' : cs.length = 34 := hl.trans (by kernel_rfl)
  obtain ⟨n0, y0, f0, g0⟩ := hf 0 41 0 32 rfl (by kernel_rfl)
  obtain ⟨n1, y1, f1, g1⟩ := hf 1 42 32 1 rfl (by kernel_rfl)
  obtain ⟨n2, y2, f2, g2⟩ := hf 2 42 33 1 rfl (by kernel_rfl)
  clear hf
  obtain ⟨T, e0, t1, t2⟩ := open_arr u41 (by kernel_rfl) f0
  obtain ⟨aa, A, ac, e1, b1, l1, m1⟩ := open_bytes f1 g1
  obtain ⟨da, D, dc, e2, b2, l2, m2⟩ := open_bytes f2 g2
  refine ⟨⟨T, aa, A, ac, da, D, dc⟩, ?_, ⟨t1, l1, l2⟩, ⟨b1, b2⟩, t2, m1, m2⟩
  have hcs : cs = (cs.drop 0).take 32 ++ ((cs.drop 32).take 1 ++ (cs.drop 33).take 1) := by
    rw [seg_end hl' 33 1 (by omega), seg cs 32 1, seg cs 0 32]; rfl
  rw [hcs, e0, e1, e2]
  simp [Lk.cells, Lk.wl, Lk.rl, icells]

/-- What else a transaction that came in is like. -/
structure TxMore (w : World) (X : Tx) : Prop where
  sigw : ∀ s ∈ X.SG, ∀ m ∈ s, 0 ≤ m ∧ m < 256
  R : ∀ m ∈ X.R, 0 ≤ m ∧ m < 256
  nilL : X.la = none → X.lc = 0
  insN : ∀ i ∈ X.I, (i.aa = none → i.ac = 0) ∧ (i.da = none → i.dc = 0)
  lkN : ∀ l ∈ X.L, (l.wa = none → l.wc = 0) ∧ (l.ra = none → l.rc = 0)
  lkT : ∀ l ∈ X.L, ∀ m ∈ l.T, 0 ≤ m ∧ m < 256

theorem toArray_eq {C : Array Value} {l : List Value} (h : C.toList = l) : l.toArray = C := by rw [← h]

set_option maxHeartbeats 1000000 in
theorem open_tx {fuel : Nat} {cs : List Value} {x : DataW H × List MemPlace} (h : DataW.trod enc Try.prog w 0 (fun _ => true) true fuel 33 cs = some x) (hw : Wt Try.prog 33 x.1) :
    ∃ X : Tx, X.cells.toList = cs ∧ TxAt w X ∧ TxMore w X := by
  obtain ⟨hl, hf⟩ := open_struct Try.underlying33 h hw
  have hl' : cs.length = 40 := hl.trans (by kernel_rfl)
  obtain ⟨n0, y0, f0, g0⟩ := hf 0 22 0 1 rfl (by kernel_rfl)
  obtain ⟨n1, y1, f1, g1⟩ := hf 1 31 1 39 rfl (by kernel_rfl)
  clear hf
  have hcs : cs = (cs.drop 0).take 1 ++ (cs.drop 1).take 39 := by
    rw [seg_end hl' 1 39 (by omega), seg cs 0 1]; rfl
  obtain ⟨M, hM⟩ : ∃ M, (cs.drop 1).take 39 = M := ⟨_, rfl⟩
  rw [hM] at f1 hcs
  obtain ⟨hml, hf⟩ := open_struct Try.underlying31 f1 g1
  have hml' : M.length = 39 := hml.trans (by kernel_rfl)
  obtain ⟨k0, z0, p0, q0⟩ := hf 0 4 0 1 rfl (by kernel_rfl)
  obtain ⟨k1, z1, p1, q1⟩ := hf 1 24 1 3 rfl (by kernel_rfl)
  obtain ⟨k2, z2, p2, q2⟩ := hf 2 25 4 1 rfl (by kernel_rfl)
  obtain ⟨k3, z3, p3, q3⟩ := hf 3 27 5 32 rfl (by kernel_rfl)
  obtain ⟨k4, z4, p4, q4⟩ := hf 4 28 37 1 rfl (by kernel_rfl)
  obtain ⟨k5, z5, p5, q5⟩ := hf 5 29 38 1 rfl (by kernel_rfl)
  clear hf
  have hms : M = (M.drop 0).take 1 ++ ((M.drop 1).take 3 ++ ((M.drop 4).take 1 ++ ((M.drop 5).take 32 ++ ((M.drop 37).take 1 ++ (M.drop 38).take 1)))) := by
    rw [seg_end hml' 38 1 (by omega), seg M 37 1, seg M 5 32, seg M 4 1, seg M 1 3, seg M 0 1]; rfl
  obtain ⟨v0, a0, _⟩ := DataW.trod_bool Try.underlying4 p0
  -- the header
  obtain ⟨N, hN⟩ : ∃ N, (M.drop 1).take 3 = N := ⟨_, rfl⟩
  rw [hN] at p1 hms
  obtain ⟨hnl, hf⟩ := open_struct Try.underlying24 p1 q1
  have hnl' : N.length = 3 := hnl.trans (by kernel_rfl)
  obtain ⟨h0, x0, r0, _⟩ := hf 0 5 0 1 rfl (by kernel_rfl)
  obtain ⟨h1, x1, r1, _⟩ := hf 1 5 1 1 rfl (by kernel_rfl)
  obtain ⟨h2, x2, r2, _⟩ := hf 2 5 2 1 rfl (by kernel_rfl)
  clear hf
  obtain ⟨hs, c0, _, w0⟩ := DataW.trod_int u5 r0
  obtain ⟨hr, c1, _, w1⟩ := DataW.trod_int u5 r1
  obtain ⟨ho, c2, _, w2⟩ := DataW.trod_int u5 r2
  have hns : N = (N.drop 0).take 1 ++ ((N.drop 1).take 1 ++ (N.drop 2).take 1) := by
    rw [seg_end hnl' 2 1 (by omega), seg N 1 1, seg N 0 1]; rfl
  have hw0 := wf_u8 w0
  have hw1 := wf_u8 w1
  have hw2 := wf_u8 w2
  -- the slices
  obtain ⟨sa, DS, sc, eS, rS, lS, nS, elS⟩ := open_rows (s := 64) Try.underlying22 (by kernel_rfl) (by decide) (of_decide_eq_true (by kernel_rfl)) f0 g0
  obtain ⟨ka, DK, kc, eK, rK, lK, nK, elK⟩ := open_rows (s := 32) Try.underlying25 (by kernel_rfl) (by decide) (of_decide_eq_true (by kernel_rfl)) p2 q2
  obtain ⟨ia, DI, ic, eI, rI, lI, nI, elI⟩ := open_rows (s := 3) Try.underlying28 (by kernel_rfl) (by decide) (of_decide_eq_true (by kernel_rfl)) p4 q4
  obtain ⟨la, DL, lc, eL, rL, lL, nL, elL⟩ := open_rows (s := 34) Try.underlying29 (by kernel_rfl) (by decide) (of_decide_eq_true (by kernel_rfl)) p5 q5
  obtain ⟨R, eR, R1, R2⟩ := open_arr (t := 27) (n := 32) (by kernel_rfl) (by kernel_rfl) p3
  obtain ⟨SG, hSG, qS⟩ := list_choose (f := icells .u8) (Q := fun s => s.length = 64 ∧ ∀ m ∈ s, 0 ≤ m ∧ m < 256) (D := DS) (fun C hC => by
    obtain ⟨n, y, t1, _⟩ := elS C hC
    obtain ⟨l, e1, e2, e3⟩ := open_arr (t := 49) (n := 64) (by kernel_rfl) (by kernel_rfl) t1
    exact ⟨l, toArray_eq e1, e2, e3⟩)
  obtain ⟨K, hK, qK⟩ := list_choose (f := icells .u8) (Q := IsKey) (D := DK) (fun C hC => by
    obtain ⟨n, y, t1, _⟩ := elK C hC
    obtain ⟨l, e1, e2, e3⟩ := open_arr (t := 41) (n := 32) u41 (by kernel_rfl) t1
    exact ⟨l, toArray_eq e1, e2, e3⟩)
  obtain ⟨I, hI, qI⟩ := list_choose (f := Ins.cells) (Q := fun i => (i.p < 256 ∧ i.A.length ≤ lenMax ∧ i.dl ≤ lenMax ∧ BytesAt w i.aa i.A) ∧ BytesAt w i.da i.D ∧ (i.aa = none → i.ac = 0) ∧ (i.da = none → i.dc = 0)) (D := DI) (fun C hC => by
    obtain ⟨n, y, t1, t2⟩ := elI C hC
    obtain ⟨i, e1, e2⟩ := open_ins t1 t2
    exact ⟨i, Array.toList_inj.1 e1, e2⟩)
  obtain ⟨L, hL, qL⟩ := list_choose (f := Lk.cells) (Q := fun l => (l.T.length = 32 ∧ l.wl ≤ lenMax ∧ l.rl ≤ lenMax) ∧ (BytesAt w l.wa l.W ∧ BytesAt w l.ra l.Rd) ∧ (∀ m ∈ l.T, 0 ≤ m ∧ m < 256) ∧ (l.wa = none → l.wc = 0) ∧ (l.ra = none → l.rc = 0)) (D := DL) (fun C hC => by
    obtain ⟨n, y, t1, t2⟩ := elL C hC
    obtain ⟨i, e1, e2⟩ := open_lk t1 t2
    exact ⟨i, Array.toList_inj.1 e1, e2⟩)
  subst hSG
  subst hK
  subst hI
  subst hL
  rw [List.length_map] at eS lS eK lK eI lI eL lL
  refine ⟨⟨sa, SG, sc, v0, hs.toNat, hr.toNat, ho.toNat, ka, K, kc, R, ia, I, ic, la, L, lc⟩, ?_,
    { hs := (by simp only; omega), hr := (by simp only; omega), ho := (by simp only; omega), R := R1, sl := lS, kl := lK, il := lI, ll := lL, key := qK, keys := rK, ins := rI, insOk := fun i hi => (qI i hi).1, lks := rL, lksOk := fun l hl => (qL l hl).1
      sigs := rS, sig := fun s hs => (qS s hs).1, dat := fun i hi => (qI i hi).2.1, lkb := fun l hl => (qL l hl).2.1, nilS := nS, nilK := nK, nilI := nI },
    { sigw := fun s hs => (qS s hs).2, R := R2, nilL := nL, insN := fun i hi => (qI i hi).2.2, lkN := fun l hl => (qL l hl).2.2.2, lkT := fun l hl => (qL l hl).2.2.1 }⟩
  rw [hcs, hms, hns, eS, a0, c0, c1, c2, eK, eR, eI, eL]
  have e0 : ((hs.toNat : Nat) : Int) = hs := by omega
  have e1 : ((hr.toNat : Nat) : Int) = hr := by omega
  have e2 : ((ho.toNat : Nat) : Int) = ho := by omega
  simp [Tx.cells, Tx.mcells, Tx.sl, icells, e0, e1, e2]
end

/-- The argument's value. -/
theorem open_txv {H : Type} {enc : TypeId × Value → H} {w : World} {r : Reach} {b0 : Nat} {v : Value} {d : DataW H} {p : List MemPlace} (hv : Value.okWide Try.prog w r b0 33 v) (h : DataW.Trod enc Try.prog w 0 (fun _ => true) true 33 v d p) (hw : Wt Try.prog 33 d) :
    ∃ X : Tx, v = X.val ∧ TxAt w X ∧ TxMore w X := by
  simp only [Value.okWide, Try.underlying33] at hv
  obtain ⟨cs, rfl, _, _⟩ := hv
  obtain ⟨fuel, hf⟩ := h
  obtain ⟨X, h1, h2, h3⟩ := open_tx hf hw
  refine ⟨X, ?_, h2, h3⟩
  unfold Tx.val
  congr 1
  exact (Array.toList_inj.1 h1).symm
end Go.Proofs.Ytgjijoielfpmkaa
