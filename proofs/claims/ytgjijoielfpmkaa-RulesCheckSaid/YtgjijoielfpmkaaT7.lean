/- TwinTx; a twin is a transaction that answers as the first. -/
import Derived.Test.YtgjijoielfpmkaaT6
set_option linter.unusedVariables false
namespace Go.Proofs.Ytgjijoielfpmkaa
open Go.RowKit

theorem OwnAt.slice {w : World} {base e s n c : Nat} {ao : Option Addr} {D : List (Array Value)} (h : OwnAt w base e s (.slice ao n c) D) : RowsAt w ao s D ∧ (ao = none → c = 0) := by
  obtain ⟨ao', c', e1, e2, e3⟩ := h.rows
  simp only [Value.slice.injEq] at e1
  obtain ⟨rfl, -, rfl⟩ := e1
  exact ⟨e2, e3⟩
theorem RowsAt.low {w : World} {ao : Option Addr} {s : Nat} {D : List (Array Value)} {M : Array Value} (h : RowsAt w ao s (room D M)) : RowsAt w ao s D := fun j C hj => h j C (by rw [room_low (List.getElem?_eq_some_iff.1 hj).1]; exact hj)

theorem BTwin.base {w : World} {base b0 : Nat} {A : List Nat} {ao : Option Addr} {c : Nat} (h : BTwin w base A ao c) (hb : b0 ≤ base) : BTwin w b0 A ao c := by
  obtain ⟨g, h1, h2, h3⟩ := h
  exact ⟨g, h1, h2, h3.base hb⟩
theorem MsgTwin.base {w : World} {base b0 : Nat} {X Y : Tx} (h : MsgTwin w base X Y) (hb : b0 ≤ base) : MsgTwin w b0 X Y :=
  { h with keys := (by obtain ⟨g, h1, h2, h3⟩ := h.keys; exact ⟨g, h1, h2, h3.base hb⟩), own := h.own.base hb, ins := h.ins.mono fun _ _ q => { q with ba := q.ba.base hb, bd := q.bd.base hb }, ownL := h.ownL.base hb, lks := h.lks.mono fun _ _ q => { q with bw := q.bw.base hb, br := q.br.base hb } }
theorem TxTwin.keepBut {w w' : World} {base : Nat} {e : TypeId} {X Y : Tx} (h : TxTwin w base X Y) (k : KeepBut e w w') (h5 : 5 ≠ e) (h41 : 41 ≠ e) (h47 : 47 ≠ e) (h44 : 44 ≠ e) (h49 : 49 ≠ e) : TxTwin w' base X Y :=
  { h.toMsgTwin.keepBut k h5 h41 h47 h44 with SG := h.SG, sigs := (by obtain ⟨g, h1, h2, h3⟩ := h.sigs; exact ⟨g, h1, h2, k.own h3 h49⟩) }

/-- A twin is a transaction. -/
theorem TxTwin.tx {w : World} {base : Nat} {X Y : Tx} (h : TxTwin w base X Y) (hT : TxAt w X) : TxAt w Y where
  hs := by rw [h.hs]; exact hT.hs
  hr := by rw [h.hr]; exact hT.hr
  ho := by rw [h.ho]; exact hT.ho
  R := by rw [h.R]; exact hT.R
  sl := by unfold Tx.sl; rw [h.SG]; exact hT.sl
  kl := by rw [h.K]; exact hT.kl
  il := by rw [h.ins.1]; exact hT.il
  ll := by rw [h.lks.1]; exact hT.ll
  key := by rw [h.K]; exact hT.key
  keys := by
    obtain ⟨g, e1, e2, e3⟩ := h.keys
    rw [e1, h.K]
    exact e3.rowsSome.low
  ins := h.own.slice.1
  insOk := fun i' hi' => by
    obtain ⟨i, hi, q⟩ := h.ins.mem hi'
    obtain ⟨h1, h2, h3, h4⟩ := hT.insOk i hi
    unfold Ins.dl at h3 ⊢
    rw [q.p, q.A, q.D]
    exact ⟨h1, h2, h3, q.ba.bytes fun j hj => (h4 j hj).1⟩
  lks := h.ownL.slice.1
  lksOk := fun l' hl' => by
    obtain ⟨l, hl, q⟩ := h.lks.mem hl'
    have := hT.lksOk l hl
    unfold Lk.wl Lk.rl at this ⊢
    rw [q.T, q.W, q.Rd]
    exact this
  sigs := by
    obtain ⟨g, e1, e2, e3⟩ := h.sigs
    rw [e1, h.SG]
    exact e3.rowsSome.low
  sig := by rw [h.SG]; exact hT.sig
  dat := fun i' hi' => by
    obtain ⟨i, hi, q⟩ := h.ins.mem hi'
    rw [q.D]
    exact q.bd.bytes fun j hj => (hT.dat i hi j hj).1
  lkb := fun l' hl' => by
    obtain ⟨l, hl, q⟩ := h.lks.mem hl'
    obtain ⟨h1, h2⟩ := hT.lkb l hl
    rw [q.W, q.Rd]
    exact ⟨q.bw.bytes fun j hj => (h1 j hj).1, q.br.bytes fun j hj => (h2 j hj).1⟩
  nilS := fun e => by
    obtain ⟨g, e1, e2, e3⟩ := h.sigs
    rw [e1] at e; cases e
  nilK := fun e => by
    obtain ⟨g, e1, e2, e3⟩ := h.keys
    rw [e1] at e; cases e
  nilI := h.own.slice.2

theorem Twins.any {α : Type} {R : α → α → Prop} {I I' : List α} (h : Twins R I I') {f : α → Bool} (hf : ∀ i i', R i i' → f i' = f i) : I'.any f = I.any f := by
  have e : ∀ l : List α, l.any f = (l.map f).any id := fun l => by simp [List.any_map]
  rw [e, e, h.map hf]
theorem TxTwin.tot {w : World} {base : Nat} {X Y : Tx} (h : TxTwin w base X Y) : tot Y = tot X := by
  unfold Ytgjijoielfpmkaa.tot lsum
  rw [h.K, h.lks.map (f := fun l => l.wl + l.rl) fun l l' q => by unfold Lk.wl Lk.rl; rw [q.W, q.Rd]]
theorem TxTwin.chk {w : World} {base : Nat} {X Y : Tx} (h : TxTwin w base X Y) : chk Y = chk X := by
  have e1 : sgn Y = sgn X := by unfold sgn Tx.sl; rw [h.hs, h.SG]
  have e2 : hdr Y = hdr X := by unfold hdr; rw [h.hs, h.hr, h.ho, h.K]
  have e3 : lookd Y = lookd X := by
    unfold lookd
    rw [h.lks.any fun l l' q => by unfold Lk.void Lk.wl Lk.rl; rw [q.W, q.Rd]]
  have e4 : few Y = few X := by unfold few; rw [h.tot]
  have e5 : pointd Y = pointd X := by
    unfold pointd
    rw [h.tot, h.K, h.ins.any fun i i' q => by unfold Ins.bad; rw [q.p, q.A]]
  have e6 : onc Y = onc X := by unfold onc; rw [h.K]
  unfold Ytgjijoielfpmkaa.chk
  rw [e1, e2, e3, e4, e5, e6]

set_option maxRecDepth 20000 in
set_option maxHeartbeats 1600000 in
theorem twinTx_any {X : Tx} (w : World) (hT : TxAt w X) (hF : Fits X) : Calls Try.prog 9 #[X.val] w fun e w' => ∃ Y : Tx, e = .returned Y.val ∧ TxTwin w' w.heap.size X Y ∧ Below w.heap.size w w' := by
  obtain ⟨sl, hsl⟩ : ∃ sl, X.sl = sl := ⟨_, rfl⟩
  have HR := Lib.hid hT.R
  have HT := Lib.hid hT
  have HF := Lib.hid hF
  have HSL := Lib.hid hsl
  have MK : Hid (∀ (b : Nat) (w1 : World), w1.heap[b]? = some (.cells X.cells 33) → w1.cell? ⟨b, 0, none⟩ = some (.slice X.sa sl X.sc)) := Lib.hid fun b w1 hb => by
    rw [← HSL.out]; exact (txCells HR.out hb).c0
  have TS : Hid (∀ W, Below w.heap.size w W → Calls Try.prog 17 #[.slice X.sa sl X.sc, kv markS] W fun e w' => ∃ g, e = .returned (.slice (some ⟨g, 0, none⟩) sl (sl + 3)) ∧
      OwnAt w' W.heap.size 49 64 (.slice (some ⟨g, 0, none⟩) (sl + 3) (sl + 3)) (room (X.SG.map (icells .u8)) (icells .u8 markS)) ∧ Below W.heap.size W w') := Lib.hid fun W hW => by
    have := twin17_any (c := X.sc) W (fun k hk => HT.out.sig k hk) markS_len (HT.out.sigs.keep hW) (by have := HF.out.S; omega)
    have e : X.SG.length = sl := HSL.out
    rw [e] at this
    exact this
  have TM : Hid (∀ W, Below w.heap.size w W → Calls Try.prog 19 #[X.mval] W fun e w' => ∃ Y : Tx, e = .returned Y.mval ∧ MsgTwin w' w.heap.size X Y ∧ Below W.heap.size W w') := Lib.hid fun W hW => by
    refine (twinMsg_any W (HT.out.keep hW) HF.out).mono ?_
    rintro e w' ⟨Y, h1, h2, h3⟩
    exact ⟨Y, h1, h2.base hW.size, h3⟩
  clear hT hF hsl
  go_enter Try.func9, Try.ntmps9
  go_wp2_with (first
    | ((with_reducible refine wl_box33 (X := X) ?_ ?_); (exact rfl); intro b1 w1 hb1 hle1 hB1)
    | ((with_reducible refine wl_allocN (dst := some 2) zero33 ?_); intro g2 w2 Z hZ1 hZ2 hle2 hB2))
  have hb2 := (hB2.block _ (Array.getElem?_eq_some_iff.1 hb1).1).trans hb1
  have HB2 : Hid (∀ W, Below w2.heap.size w2 W → Below w.heap.size w W) := Lib.hid fun W hW => by
    have := hB1.trans (hB2.mono hB1.size)
    exact this.trans (hW.mono this.size)
  have HBK : Hid (∀ W, Below w2.heap.size w2 W → W.heap[b1]? = some (.cells X.cells 33)) := Lib.hid fun W hW => (hW.block _ (Array.getElem?_eq_some_iff.1 hb2).1).trans hb2
  have HZK : Hid (∀ W, Below w2.heap.size w2 W → W.heap[g2]? = some (.cells Z 33)) := Lib.hid fun W hW => (hW.block _ (Array.getElem?_eq_some_iff.1 hZ1).1).trans hZ1
  have HZS := Lib.hid hZ2
  have WG2 : Hid (w.heap.size ≤ g2) := Lib.hid (Nat.le_trans hB1.size hle2)
  have hS : Below w2.heap.size w2 w2.drew := (Below.refl _ _).drew
  clear hb1 hle1 hB1 hZ1 hZ2 hle2 hB2 hb2
  try simp only [Act.put, List.setIfInBounds_toArray, List.set_cons_zero, List.set_cons_succ]
  refine wp_regionW (n := 9) (S := fun W => Below w2.heap.size w2 W) (late := fun j => j == 8) rfl (by kernel_rfl) ?_
  refine takeW (j := 0) (v := .pointer (some ⟨b1, 0, none⟩)) rfl rfl rfl (by kernel_rfl) (by kernel_rfl) (by kernel_rfl) (by kernel_rfl) (fun _ _ _ h => h) (fun W hW => by go_simp) hS ?_
  simp only [List.set_cons_zero, List.set_cons_succ]
  refine takeW (j := 1) (v := .slice X.sa sl X.sc) rfl rfl rfl (by kernel_rfl) (by kernel_rfl) (by kernel_rfl) (by kernel_rfl) (fun _ _ _ h => h) (fun W hW => exec_load_cell rfl rfl und22 rfl (MK.out _ _ (HBK.out W hW))) hS ?_
  simp only [List.set_cons_zero, List.set_cons_succ]
  refine takeW (j := 4) (v := .pointer (some ⟨b1, 1, none⟩)) rfl rfl rfl (by kernel_rfl) (by kernel_rfl) (by kernel_rfl) (by kernel_rfl) (fun _ _ _ h => h) (fun W hW => by go_simp) hS ?_
  simp only [List.set_cons_zero, List.set_cons_succ]
  refine takeW (j := 5) (v := X.mval) rfl rfl rfl (by kernel_rfl) (by kernel_rfl) (by kernel_rfl) (by kernel_rfl) (fun _ _ _ h => h) (fun W hW => exec_load_sub rfl rfl (txMRow (HBK.out W hW)) Try.underlying31 rfl (by rw [Tx.msize HR.out]; exact s31)) hS ?_
  simp only [List.set_cons_zero, List.set_cons_succ]
  refine oneW 2 (by kernel_rfl) (run_callG (f := 18) (args := #[]) rfl rfl (by kernel_rfl) (exec_call0 rfl Try.func18 (by decide) rfl) (markSig_any _) ?_)
  rintro e Wc2 ⟨rfl, hbc2⟩
  replace hS := hS.trans (hbc2.mono hS.size)
  refine ⟨_, rfl, fun _ => hS, ?_⟩
  simp only [List.set_cons_zero, List.set_cons_succ]
  refine oneW 3 (by kernel_rfl) (run_call (f := 17) (args := #[.slice X.sa sl X.sc, kv markS]) rfl rfl rfl (exec_call2 rfl rfl rfl Try.func17 (by decide) rfl) (TS.out _ (HB2.out _ hS)) ?_)
  rintro e W1 ⟨gs, rfl, hos, hb1⟩
  replace hos := hos.base (HB2.out _ hS).size
  replace hS := hS.trans (hb1.mono hS.size)
  refine ⟨_, rfl, fun _ => hS, ?_⟩
  simp only [List.set_cons_zero, List.set_cons_succ]
  refine oneW 6 (by kernel_rfl) (run_call (f := 19) (args := #[X.mval]) rfl rfl rfl (exec_call1 rfl rfl Try.func19 (by decide) rfl) (TM.out _ (HB2.out _ hS)) ?_)
  rintro e W2 ⟨Y, rfl, hY, hb2⟩
  replace hos := hos.keep hb2
  replace hS := hS.trans (hb2.mono hS.size)
  refine ⟨_, rfl, fun _ => hS, ?_⟩
  simp only [List.set_cons_zero, List.set_cons_succ]
  obtain ⟨Y', hY'⟩ : ∃ Y' : Tx, Y' = { Y with sa := some ⟨gs, 0, none⟩, SG := X.SG, sc := sl + 3 } := ⟨_, rfl⟩
  have hT' : TxTwin W2 w.heap.size X Y' := by
    rw [hY']
    exact { v0 := hY.v0, hs := hY.hs, hr := hY.hr, ho := hY.ho, K := hY.K, R := hY.R, keys := hY.keys, own := hY.own, ins := hY.ins, ownL := hY.ownL, lks := hY.lks, SG := rfl, sigs := ⟨gs, rfl, by rw [HSL.out], by rw [HSL.out]; exact hos⟩ }
  have hR' : Y'.R.length = 32 := by rw [hT'.R]; exact HR.out
  have hm : Y.mcells.size = 39 := Tx.msize (by rw [hY.R]; exact HR.out)
  have hc' : Y'.cells = #[.slice (some ⟨gs, 0, none⟩) sl (sl + 3)] ++ Y.mcells := by
    rw [hY', ← HSL.out]; rfl
  refine oneW 7 (by kernel_rfl) (run_val (v := .agg Y'.cells) rfl rfl rfl (by rw [hc']; exact exec_build33 rfl rfl rfl hm) ⟨fun _ => hS, ?_⟩)
  simp only [List.set_cons_zero, List.set_cons_succ]
  have hg2 := HZK.out _ hS
  refine oneW 8 (by kernel_rfl) (run_skip rfl rfl rfl (exec_store_sub (t := 33) (C := Z) (A := Y'.cells) rfl rfl rfl rfl hg2 (by rw [Tx.size hR', HZS.out]; decide) Y'.one (by rw [Tx.size hR']; exact s33)) ⟨fun h => (by cases h), ?_⟩)
  have h10 := setRow_heap W2 g2 Z (splice Z 0 Y'.cells) 33 _ hg2
  rw [splice_whole (by rw [Tx.size hR', HZS.out])] at h10 ⊢
  have hW10 := Wrote.setRow W2 g2 Y'.cells
  refine doneW (by kernel_rfl) ?_ _
  generalize W2.setRow g2 Y'.cells = w10 at h10 hW10 ⊢
  have HTW := Lib.hid (hT'.keepBut (hW10.keepBut hg2) (by decide) (by decide) (by decide) (by decide) (by decide))
  have HBL := Lib.hid (hW10.below (HB2.out _ hS) WG2.out)
  clear hW10 hg2 hc' hm hT' hY' hY hos hS hb2 hb1
  go_wp2_with fail
  refine bodyPost_ret (results_cell_row rfl _ w10 g2 33 _ (0, 0) _ rfl h10 Try.underlying33 rfl (by rw [Tx.size hR']; exact s33)) rfl ?_
  exact ⟨Y', rfl, HTW.out, HBL.out⟩
end Go.Proofs.Ytgjijoielfpmkaa
