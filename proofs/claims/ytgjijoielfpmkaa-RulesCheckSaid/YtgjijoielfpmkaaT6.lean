/- TwinMessage. -/
import Derived.Test.YtgjijoielfpmkaaT5
set_option linter.unusedVariables false
namespace Go.Proofs.Ytgjijoielfpmkaa
open Go.RowKit

theorem zero31 : ∃ z, (Try.prog.info? 31).bind (·.zero) = some z ∧ z.cells.size = 39 := ⟨_, rfl, by kernel_rfl⟩
theorem und29 : Try.prog.underlying 29 = some (.slice 44) := by kernel_rfl
theorem i44 : (Try.prog.info? 44).map (fun i => (i.zero, i.size, i.bytes)) = some (some (.agg (icells .u8 (List.replicate 32 0) ++ #[.slice none 0 0, .slice none 0 0])), 34, 80) := by kernel_rfl
theorem cells44 : (Value.agg (icells .u8 (List.replicate 32 0) ++ #[.slice none 0 0, .slice none 0 0])).cells.size = 34 := by kernel_rfl
theorem pos34 : 0 < 34 := by decide
theorem size29 : (Try.prog.info? 29).map (·.size) = some 1 := by kernel_rfl
theorem und5 : Try.prog.underlying 5 = some (.int .u8) := u5
theorem Tx.mone (X : Tx) : ∀ v ∈ X.mcells.toList, v.oneCell' = true := fun v hv => Tx.one X v (by
  unfold Tx.cells
  simp only [Array.toList_append, List.mem_append]
  exact .inr hv)

/-- How long what a twin is made of may be. -/
structure Fits (X : Tx) : Prop where
  S : X.SG.length < 3000
  K : X.K.length < 3000
  I : X.I.length < 3000
  L : X.L.length < 3000
  i : ∀ i ∈ X.I, i.A.length < 4000 ∧ i.D.length < 4000
  l : ∀ l ∈ X.L, l.W.length < 4000 ∧ l.Rd.length < 4000
theorem le_sum {l : List Nat} {x : Nat} (h : x ∈ l) : x ≤ l.sum := by
  induction l with
  | nil => cases h
  | cons y l ih =>
    rw [List.sum_cons]
    rcases List.mem_cons.1 h with rfl | h
    · omega
    · have := ih h; omega
theorem isum_mem {I : List Ins} {i : Ins} (h : i ∈ I) : i.A.length + i.dl ≤ isum I := by
  unfold isum
  exact le_sum (List.mem_map.2 ⟨i, h, rfl⟩)
theorem lsum_mem {L : List Lk} {l : Lk} (h : l ∈ L) : l.wl + l.rl ≤ lsum L := by
  unfold lsum
  exact le_sum (List.mem_map.2 ⟨l, h, rfl⟩)
theorem Small.fits {X : Tx} (h : Small X) : Fits X := by
  obtain ⟨h1, h2⟩ := h
  unfold Tx.sl at h1
  refine ⟨by omega, by omega, by omega, by omega, fun i hi => ?_, fun l hl => ?_⟩
  · have := isum_mem hi
    unfold Ins.dl at this
    omega
  · have := lsum_mem hl
    unfold Lk.wl Lk.rl at this
    omega

theorem smallBy80 {a b : Nat} (ha : a < 4000) (hb : b < 4000) : (a + b) * 80 ≤ 140737488355328 := by omega
theorem le34 : 34 ≤ 16777216 := by decide
theorem lkRow {w : World} {b off : Nat} {l : Lk} (h : RowAt w b off l.cells) : RowAt w b off (icells .u8 l.T) := by
  obtain ⟨C, t, fr, h1, h2, h3⟩ := h
  have hs : l.cells.size = (icells .u8 l.T).size + 2 := by simp [Lk.cells]
  refine ⟨C, t, fr, h1, by omega, fun j hj => ?_⟩
  rw [h3 j (by omega)]
  unfold Lk.cells
  rw [Array.getElem?_append_left hj]
theorem MsgTwin.keepBut {w w' : World} {base : Nat} {e : TypeId} {X Y : Tx} (h : MsgTwin w base X Y) (k : KeepBut e w w') (h5 : 5 ≠ e) (h41 : 41 ≠ e) (h47 : 47 ≠ e) (h44 : 44 ≠ e) : MsgTwin w' base X Y :=
  { h with keys := (by obtain ⟨g, h1, h2, h3⟩ := h.keys; exact ⟨g, h1, h2, k.own h3 h41⟩), own := k.own h.own h47, ins := h.ins.mono fun _ _ q => q.keepBut k h5, ownL := k.own h.ownL h44, lks := h.lks.mono fun _ _ q => q.keepBut k h5 }

/-- While the twin is made: its blocks. -/
structure Mk (w : World) (X Y : Tx) (b1 g2 gt : Nat) (W : World) : Prop where
  below : Below w.heap.size w W
  hb : W.heap[b1]? = some (.cells X.mcells 31)
  hz : ∃ Z, W.heap[g2]? = some (.cells Z 31) ∧ Z.size = 39
  ht : W.heap[gt]? = some (.cells Y.mcells 31)
theorem Mk.keepBut {w : World} {X Y : Tx} {b1 g2 gt : Nat} {W W' : World} {e : TypeId} (h : Mk w X Y b1 g2 gt W) (hB : Below w.heap.size w W') (k : KeepBut e W W') (hne : 31 ≠ e) : Mk w X Y b1 g2 gt W' :=
  ⟨hB, k _ _ _ _ h.hb hne, by obtain ⟨Z, h1, h2⟩ := h.hz; exact ⟨Z, k _ _ _ _ h1 hne, h2⟩, k _ _ _ _ h.ht hne⟩
theorem Mk.keep {w : World} {X Y : Tx} {b1 g2 gt : Nat} {W W' : World} (h : Mk w X Y b1 g2 gt W) (k : Below W.heap.size W W') : Mk w X Y b1 g2 gt W' :=
  h.keepBut (h.below.trans (k.mono h.below.size)) (Below.keepBut k 0) (by decide)
theorem Mk.drew {w : World} {X Y : Tx} {b1 g2 gt : Nat} {W : World} (h : Mk w X Y b1 g2 gt W) : Mk w X Y b1 g2 gt W.drew := h.keep (Below.refl _ _).drew
theorem Mk.wrote {w : World} {X Y Y' : Tx} {b1 g2 gt : Nat} {W W' : World} (h : Mk w X Y b1 g2 gt W) (hW : Wrote W W' gt) (hlt : w.heap.size ≤ gt) (n1 : b1 ≠ gt) (n2 : g2 ≠ gt) (h' : W'.heap[gt]? = some (.cells Y'.mcells 31)) : Mk w X Y' b1 g2 gt W' :=
  ⟨hW.below h.below hlt, (hW.block _ n1).trans h.hb, by obtain ⟨Z, h1, h2⟩ := h.hz; exact ⟨Z, (hW.block _ n2).trans h1, h2⟩, h'⟩

set_option maxRecDepth 20000 in
set_option maxHeartbeats 1600000 in
theorem twinMsg_any {X : Tx} (w : World) (hT : TxAt w X) (hF : Fits X) : Calls Try.prog 19 #[X.mval] w fun e w' => ∃ Y : Tx, e = .returned Y.mval ∧ MsgTwin w' w.heap.size X Y ∧ Below w.heap.size w w' := by
  obtain ⟨kn, hkn⟩ : ∃ kn, X.K.length = kn := ⟨_, rfl⟩
  obtain ⟨il, hiln⟩ : ∃ il, X.I.length = il := ⟨_, rfl⟩
  obtain ⟨ll, hlln⟩ : ∃ ll, X.L.length = ll := ⟨_, rfl⟩
  obtain ⟨ia, hia⟩ : ∃ ia, X.ia = ia := ⟨_, rfl⟩
  obtain ⟨la, hla⟩ : ∃ la, X.la = la := ⟨_, rfl⟩
  have bk := hF.K
  have bi := hF.I
  have bl := hF.L
  rw [hkn] at bk
  rw [hiln] at bi
  rw [hlln] at bl
  have HT := Lib.hid hT
  have HF := Lib.hid hF
  have HR := Lib.hid hT.R
  have HKN := Lib.hid hkn
  have HIN := Lib.hid hiln
  have HLN := Lib.hid hlln
  have HIA := Lib.hid hia
  have HLA := Lib.hid hla
  have MK : Hid (∀ (b : Nat) (w1 : World), w1.heap[b]? = some (.cells X.mcells 31) → w1.cell? ⟨b, 4, none⟩ = some (.slice X.ka kn X.kc) ∧ w1.cell? ⟨b, 37, none⟩ = some (.slice ia il X.ic) ∧ w1.cell? ⟨b, 38, none⟩ = some (.slice la ll X.lc)) := Lib.hid fun b w1 hb => by
    have h := msgCells HR.out hb
    refine ⟨?_, ?_, ?_⟩
    · rw [← HKN.out]; exact h.c4
    · rw [← HIN.out, ← HIA.out]; exact h.c37
    · rw [← HLN.out, ← HLA.out]; exact h.c38
  have TK : Hid (∀ W, Below w.heap.size w W → Calls Try.prog 28 #[.slice X.ka kn X.kc] W fun e w' => ∃ g, e = .returned (.slice (some ⟨g, 0, none⟩) kn (kn + 3)) ∧
      OwnAt w' W.heap.size 41 32 (.slice (some ⟨g, 0, none⟩) (kn + 3) (kn + 3)) (room (X.K.map (icells .u8)) (icells .u8 markK)) ∧ Below W.heap.size W w') := Lib.hid fun W hW => by
    have := twinKeys_any (c := X.kc) W (fun k hk => (HT.out.key k hk).1) (HT.out.keys.keep hW) (by rw [HKN.out]; omega)
    rw [HKN.out] at this
    exact this
  clear hT hF hkn hiln hlln hia hla
  go_enter Try.func19, Try.ntmps19
  go_wp2_with (first
    | ((with_reducible refine wl_box31 (X := X) ?_ ?_); (exact rfl); intro b1 w1 hb1 hle1 hB1)
    | ((with_reducible refine wl_allocN (dst := some 2) zero31 ?_); intro g2 w2 Z hZ1 hZ2 hle2 hB2; have hb2 := (hB2.block _ (Array.getElem?_eq_some_iff.1 hb1).1).trans hb1; have n12 : b1 < g2 := (by have := (Array.getElem?_eq_some_iff.1 hb1).1; omega); have R1 := Lib.hid (RowAt.of_cells hb2))
    | ((with_reducible refine wl_load31 (b := b1) (off := 0) (X := X) ?_ R1.out HR.out ?_); (exact rfl))
    | ((with_reducible refine wl_allocN (dst := some 3) zero31 ?_); intro gt w3 Z3 hZ3 hY3 hle3 hB3; have n2t : g2 < gt := (by have := (Array.getElem?_eq_some_iff.1 hZ1).1; omega); have wgt : w.heap.size ≤ gt := (by have := hB1.size; have := hB2.size; omega))
    | ((with_reducible refine wl_storeN (t := 31) (n := 39) (b := gt) (A := X.mcells) (Z := Z3) ?_ ?_ hZ3 hY3 (Tx.msize HR.out) X.mone s31 ?_); (exact rfl); (exact rfl); intro w4 h4 hW4;
       have M4 : Mk w X X b1 g2 gt w4 := ⟨hW4.below (hB1.trans ((hB2.trans (hB3.mono hB2.size)).mono hB1.size)) wgt, (hW4.block _ (Nat.ne_of_lt (Nat.lt_trans n12 n2t))).trans ((hB3.block _ (Array.getElem?_eq_some_iff.1 hb2).1).trans hb2), ⟨Z, (hW4.block _ (Nat.ne_of_lt n2t)).trans ((hB3.block _ (Array.getElem?_eq_some_iff.1 hZ1).1).trans hZ1), hZ2⟩, h4⟩;
       have N12 := Lib.hid n12; have N2T := Lib.hid n2t; have WGT := Lib.hid wgt; have WG2 : Hid (w.heap.size ≤ g2) := Lib.hid (Nat.le_trans hB1.size hle2); clear hW4 hZ3 hY3 hle3 hB3 hb2 hB2 hle2 hZ1 hZ2 hb1 hle1 hB1 R1 n12 n2t wgt h4; obtain ⟨c4, -, -⟩ := MK.out _ _ M4.hb; replace M4 := Lib.hid M4)
    | (go_at_call 28; refine (TK.out _ M4.out.below).mono ?_; rintro e w5 ⟨gk, rfl, hk, hB5⟩; have M5 := M4.out.keep hB5; have HK5 := Lib.hid (hk.base M4.out.below.size); have ht5 := M5.ht; replace M5 := Lib.hid M5; clear hk hB5 c4)
    | ((with_reducible refine wl_store1 (ty := 25) (t := 31) (b := gt) (off := 4) (C := X.mcells) (v := .slice (some ⟨gk, 0, none⟩) kn (kn + 3)) ?_ ?_ (vc_slice _ _ _) (vo_slice _ _ _) ht5 (by rw [Tx.msize HR.out]; decide) size25 ?_); (exact rfl); (exact rfl); intro w6 h6 hW6;
       have e6 := h6; rw [← HKN.out, tw_keys HR.out] at e6; have M6 := M5.out.wrote hW6 WGT.out (Nat.ne_of_lt (Nat.lt_trans N12.out N2T.out)) (Nat.ne_of_lt N2T.out) e6; have HK6 := Lib.hid (HK5.out.keepW hW6 ht5 (by decide)); have ht6 := M6.ht; replace M6 := Lib.hid M6; clear HK5 M5 M4 h6 e6 hW6 ht5)
    | ((with_reducible refine wl_store1 (ty := 28) (t := 31) (b := gt) (off := 37) (v := .slice none 0 0) ?_ ?_ (vc_slice _ _ _) (vo_slice _ _ _) ht6 (by rw [tw_size HR.out]; decide) size28 ?_); (exact rfl); (exact rfl); intro w7 h7 hW7;
       have e7 := h7.trans (congrArg (fun C => some (Obj.cells C 31)) (tw_ins HR.out none [] 0)); have M7 := M6.out.wrote hW7 WGT.out (Nat.ne_of_lt (Nat.lt_trans N12.out N2T.out)) (Nat.ne_of_lt N2T.out) e7; have HK7 := Lib.hid (HK6.out.keepW hW7 ht6 (by decide)); have ht7 := M7.ht; replace M7 := Lib.hid M7; clear HK6 M6 h7 e7 hW7 ht6)
    | ((with_reducible refine wl_store1 (ty := 29) (t := 31) (b := gt) (off := 38) (v := .slice none 0 0) ?_ ?_ (vc_slice _ _ _) (vo_slice _ _ _) ht7 (by rw [tw_size HR.out]; decide) size29 ?_); (exact rfl); (exact rfl); intro w8 h8 hW8;
       have e8 := h8.trans (congrArg (fun C => some (Obj.cells C 31)) (tw_lks HR.out none [] 0)); have M8 := M7.out.wrote hW8 WGT.out (Nat.ne_of_lt (Nat.lt_trans N12.out N2T.out)) (Nat.ne_of_lt N2T.out) e8; have HK8 := Lib.hid (HK7.out.keepW hW8 ht7 (by decide)); replace M8 := Lib.hid M8; clear HK7 M7 h8 e8 hW8 ht7))
  go_loopw [4] (fun v4 wr => ∃ (i : Nat) (aI : Option Addr) (I' : List Ins) (cI : Nat), i ≤ il ∧ v4 = .int .i64 i ∧ Mk w X (tw X (some ⟨gk, 0, none⟩) (X.K.length + 3) aI I' cI none [] 0) b1 g2 gt wr ∧
    OwnAt wr w.heap.size 47 3 (.slice aI I'.length cI) (I'.map Ins.cells) ∧ Twins (InsTwin wr w.heap.size) (X.I.take i) I' ∧ OwnAt wr w.heap.size 41 32 (.slice (some ⟨gk, 0, none⟩) (kn + 3) (kn + 3)) (room (X.K.map (icells .u8)) (icells .u8 markK))) (fun v4 _ => il - (intOf v4).toNat)
  case atStart => exact ⟨0, none, [], 0, Nat.zero_le _, rfl, M8.out, OwnAt.nil _ _ _ _, Twins.nil, HK8.out⟩
  case round =>
    clear M8 HK8 w8 w7 w6 w5 w4 w3 w2 w1 TK
    obtain ⟨i, aI, I', cI, hi, rfl, hM, hO, hTw, hK⟩ := hrel
    obtain ⟨-, c37, -⟩ := MK.out _ _ hM.hb
    by_cases hlt : i < il
    · have hlt' : (i : Int) < (il : Int) := by omega
      obtain ⟨l, hl⟩ : ∃ l, X.I[i]? = some l := ⟨X.I[i]'(by rw [HIN.out]; exact hlt), List.getElem?_eq_getElem _⟩
      obtain ⟨ib, io, e, hrow⟩ := HT.out.insAt hl
      rw [HIA.out] at e
      subst e
      obtain ⟨hp, hal, hdl, hby⟩ := HT.out.insOk l (List.mem_of_getElem? hl)
      have hdat := HT.out.dat l (List.mem_of_getElem? hl)
      obtain ⟨hlA, hlD⟩ := HF.out.i l (List.mem_of_getElem? hl)
      have HCL : Hid (∀ W, Below w.heap.size w W → W.cell? ⟨ib, io + i * 3, none⟩ = some (.int .u8 (l.p : Int)) ∧ W.cell? ⟨ib, io + i * 3 + 1, none⟩ = some (.slice l.aa l.A.length l.ac) ∧ W.cell? ⟨ib, io + i * 3 + 2, none⟩ = some (.slice l.da l.D.length l.dc)) := Lib.hid fun W hW => insCells (Below.row hW hrow hrow.lt)
      have HLT := Lib.hid hlt
      have hS := hM.drew
      have HO := Lib.hid (hO.keep (Below.refl _ _).drew)
      have HTW := Lib.hid (hTw.mono fun _ _ q => q.keepBut (Below.keepBut (Below.refl _ _).drew 0) (by decide))
      have HK := Lib.hid (hK.keep (Below.refl _ _).drew)
      have HL := Lib.hid hl
      have HBY := Lib.hid hby
      have HDT := Lib.hid hdat
      have HLA' := Lib.hid hlA
      have HLD' := Lib.hid hlD
      clear hrow hp hal hdl hby hdat hlA hlD hl hM hO hTw hK
      go_wp2
      refine wp_regionW (n := 27) (S := fun W => Mk w X (tw X (some ⟨gk, 0, none⟩) (X.K.length + 3) aI I' cI none [] 0) b1 g2 gt W) (late := fun j => j == 26) rfl (by kernel_rfl) ?_
      refine takeW (j := 0) (v := .pointer (some ⟨gt, 37, none⟩)) rfl rfl rfl (by kernel_rfl) (by kernel_rfl) (by kernel_rfl) (by kernel_rfl) (fun _ _ _ h => h) (fun W hW => by go_simp) hS ?_
      simp only [List.set_cons_zero, List.set_cons_succ]
      refine takeW (j := 1) (v := .slice aI I'.length cI) rfl rfl rfl (by kernel_rfl) (by kernel_rfl) (by kernel_rfl) (by kernel_rfl) (fun _ _ _ h => h) (fun W hW => exec_load_cell rfl rfl und28 rfl (msgCells (X := tw X (some ⟨gk, 0, none⟩) (X.K.length + 3) aI I' cI none [] 0) HR.out hW.ht).c37) hS ?_
      simp only [List.set_cons_zero, List.set_cons_succ]
      refine takeW (j := 2) (v := .pointer (some ⟨b1, 37, none⟩)) rfl rfl rfl (by kernel_rfl) (by kernel_rfl) (by kernel_rfl) (by kernel_rfl) (fun _ _ _ h => h) (fun W hW => by go_simp) hS ?_
      simp only [List.set_cons_zero, List.set_cons_succ]
      refine takeW (j := 3) (v := .slice (some ⟨ib, io, none⟩) il X.ic) rfl rfl rfl (by kernel_rfl) (by kernel_rfl) (by kernel_rfl) (by kernel_rfl) (fun _ _ _ h => h) (fun W hW => exec_load_cell rfl rfl und28 rfl (MK.out _ _ hW.hb).2.1) hS ?_
      simp only [List.set_cons_zero, List.set_cons_succ]
      refine takeW (j := 4) (v := .int .i64 (i : Int)) rfl rfl rfl (by kernel_rfl) (by kernel_rfl) (by kernel_rfl) (by kernel_rfl) (fun _ _ _ h => h) (fun W hW => exec_move rfl rfl) hS ?_
      simp only [List.set_cons_zero, List.set_cons_succ]
      refine takeW (j := 5) (v := .pointer (some ⟨ib, io + i * 3, none⟩)) rfl rfl rfl (by kernel_rfl) (by kernel_rfl) (by kernel_rfl) (by kernel_rfl) (fun _ _ _ h => h) (fun W hW => exec_index_rows rfl rfl rfl und28 s47 HLT.out) hS ?_
      simp only [List.set_cons_zero, List.set_cons_succ]
      refine takeW (j := 6) (v := .pointer (some ⟨ib, io + i * 3, none⟩)) rfl rfl rfl (by kernel_rfl) (by kernel_rfl) (by kernel_rfl) (by kernel_rfl) (fun _ _ _ h => h) (fun W hW => by go_simp) hS ?_
      simp only [List.set_cons_zero, List.set_cons_succ]
      refine takeW (j := 7) (v := .int .u8 (l.p : Int)) rfl rfl rfl (by kernel_rfl) (by kernel_rfl) (by kernel_rfl) (by kernel_rfl) (fun _ _ _ h => h) (fun W hW => exec_load_cell rfl rfl und5 rfl (HCL.out W hW.below).1) hS ?_
      simp only [List.set_cons_zero, List.set_cons_succ]
      refine takeW (j := 8) (v := .pointer (some ⟨b1, 37, none⟩)) rfl rfl rfl (by kernel_rfl) (by kernel_rfl) (by kernel_rfl) (by kernel_rfl) (fun _ _ _ h => h) (fun W hW => by go_simp) hS ?_
      simp only [List.set_cons_zero, List.set_cons_succ]
      refine takeW (j := 9) (v := .slice (some ⟨ib, io, none⟩) il X.ic) rfl rfl rfl (by kernel_rfl) (by kernel_rfl) (by kernel_rfl) (by kernel_rfl) (fun _ _ _ h => h) (fun W hW => exec_load_cell rfl rfl und28 rfl (MK.out _ _ hW.hb).2.1) hS ?_
      simp only [List.set_cons_zero, List.set_cons_succ]
      refine takeW (j := 10) (v := .int .i64 (i : Int)) rfl rfl rfl (by kernel_rfl) (by kernel_rfl) (by kernel_rfl) (by kernel_rfl) (fun _ _ _ h => h) (fun W hW => exec_move rfl rfl) hS ?_
      simp only [List.set_cons_zero, List.set_cons_succ]
      refine takeW (j := 11) (v := .pointer (some ⟨ib, io + i * 3, none⟩)) rfl rfl rfl (by kernel_rfl) (by kernel_rfl) (by kernel_rfl) (by kernel_rfl) (fun _ _ _ h => h) (fun W hW => exec_index_rows rfl rfl rfl und28 s47 HLT.out) hS ?_
      simp only [List.set_cons_zero, List.set_cons_succ]
      refine takeW (j := 12) (v := .pointer (some ⟨ib, io + i * 3 + 1, none⟩)) rfl rfl rfl (by kernel_rfl) (by kernel_rfl) (by kernel_rfl) (by kernel_rfl) (fun _ _ _ h => h) (fun W hW => by go_simp) hS ?_
      simp only [List.set_cons_zero, List.set_cons_succ]
      refine takeW (j := 13) (v := .slice l.aa l.A.length l.ac) rfl rfl rfl (by kernel_rfl) (by kernel_rfl) (by kernel_rfl) (by kernel_rfl) (fun _ _ _ h => h) (fun W hW => exec_load_cell rfl rfl und42 rfl (HCL.out W hW.below).2.1) hS ?_
      simp only [List.set_cons_zero, List.set_cons_succ]
      refine takeW (j := 15) (v := .pointer (some ⟨b1, 37, none⟩)) rfl rfl rfl (by kernel_rfl) (by kernel_rfl) (by kernel_rfl) (by kernel_rfl) (fun _ _ _ h => h) (fun W hW => by go_simp) hS ?_
      simp only [List.set_cons_zero, List.set_cons_succ]
      refine takeW (j := 16) (v := .slice (some ⟨ib, io, none⟩) il X.ic) rfl rfl rfl (by kernel_rfl) (by kernel_rfl) (by kernel_rfl) (by kernel_rfl) (fun _ _ _ h => h) (fun W hW => exec_load_cell rfl rfl und28 rfl (MK.out _ _ hW.hb).2.1) hS ?_
      simp only [List.set_cons_zero, List.set_cons_succ]
      refine takeW (j := 17) (v := .int .i64 (i : Int)) rfl rfl rfl (by kernel_rfl) (by kernel_rfl) (by kernel_rfl) (by kernel_rfl) (fun _ _ _ h => h) (fun W hW => exec_move rfl rfl) hS ?_
      simp only [List.set_cons_zero, List.set_cons_succ]
      refine takeW (j := 18) (v := .pointer (some ⟨ib, io + i * 3, none⟩)) rfl rfl rfl (by kernel_rfl) (by kernel_rfl) (by kernel_rfl) (by kernel_rfl) (fun _ _ _ h => h) (fun W hW => exec_index_rows rfl rfl rfl und28 s47 HLT.out) hS ?_
      simp only [List.set_cons_zero, List.set_cons_succ]
      refine takeW (j := 19) (v := .pointer (some ⟨ib, io + i * 3 + 2, none⟩)) rfl rfl rfl (by kernel_rfl) (by kernel_rfl) (by kernel_rfl) (by kernel_rfl) (fun _ _ _ h => h) (fun W hW => by go_simp) hS ?_
      simp only [List.set_cons_zero, List.set_cons_succ]
      refine takeW (j := 20) (v := .slice l.da l.D.length l.dc) rfl rfl rfl (by kernel_rfl) (by kernel_rfl) (by kernel_rfl) (by kernel_rfl) (fun _ _ _ h => h) (fun W hW => exec_load_cell rfl rfl und42 rfl (HCL.out W hW.below).2.2) hS ?_
      simp only [List.set_cons_zero, List.set_cons_succ]
      refine oneW 14 (by kernel_rfl) (run_call (f := 29) (args := #[.slice l.aa l.A.length l.ac]) rfl rfl rfl (exec_call1 rfl rfl Try.func29 (by decide) rfl) (twinBytes_any (c := l.ac) _ (HBY.out.keep hS.below) HLA'.out) ?_)
      rintro e W1 ⟨ga, rfl, hoa, hb1⟩
      have BA := hoa.base hS.below.size
      replace hS := hS.keep hb1
      replace HO := Lib.hid (HO.out.keep hb1)
      replace HTW := Lib.hid (HTW.out.mono fun _ _ q => q.keepBut (Below.keepBut hb1 0) (by decide))
      replace HK := Lib.hid (HK.out.keep hb1)
      refine ⟨_, rfl, fun _ => hS, ?_⟩
      simp only [List.set_cons_zero, List.set_cons_succ]
      clear hoa hb1
      refine oneW 21 (by kernel_rfl) (run_call (f := 29) (args := #[.slice l.da l.D.length l.dc]) rfl rfl rfl (exec_call1 rfl rfl Try.func29 (by decide) rfl) (twinBytes_any (c := l.dc) _ (HDT.out.keep hS.below) HLD'.out) ?_)
      rintro e W2 ⟨gd, rfl, hod, hb2⟩
      have BD := hod.base hS.below.size
      replace BA := BA.keep hb2
      replace hS := hS.keep hb2
      replace HO := Lib.hid (HO.out.keep hb2)
      replace HTW := Lib.hid (HTW.out.mono fun _ _ q => q.keepBut (Below.keepBut hb2 0) (by decide))
      replace HK := Lib.hid (HK.out.keep hb2)
      refine ⟨_, rfl, fun _ => hS, ?_⟩
      simp only [List.set_cons_zero, List.set_cons_succ]
      clear hod hb2
      obtain ⟨l', hl'⟩ : ∃ l' : Ins, l' = ⟨l.p, some ⟨ga, 0, none⟩, l.A, l.A.length + 3, some ⟨gd, 0, none⟩, l.D, l.D.length + 3⟩ := ⟨_, rfl⟩
      have IT : InsTwin W2 w.heap.size l l' := by
        rw [hl']
        exact ⟨rfl, rfl, rfl, ⟨ga, rfl, rfl, BA⟩, ⟨gd, rfl, rfl, BD⟩⟩
      have hc' : l'.cells = #[.int .u8 (l.p : Int), .slice (some ⟨ga, 0, none⟩) l.A.length (l.A.length + 3), .slice (some ⟨gd, 0, none⟩) l.D.length (l.D.length + 3)] := by rw [hl']; rfl
      have HSNOC := Lib.hid (fun (W : World) (k : KeepBut 47 W2 W) => (HTW.out.mono fun _ _ (q : InsTwin W2 w.heap.size _ _) => q.keepBut k (by decide)).snoc HL.out (IT.keepBut k (by decide)))
      have hsz' : l'.cells.size = 3 := rfl
      refine oneW 22 (by kernel_rfl) (run_val (v := .agg l'.cells) rfl rfl rfl (by rw [hc']; exact exec_build47 rfl rfl rfl rfl (vc_int _ _) (vc_slice _ _ _) (vc_slice _ _ _)) ⟨fun _ => hS, ?_⟩)
      simp only [List.set_cons_zero, List.set_cons_succ]
      have hb3 : Below W2.heap.size W2 (W2.alloc (.cells l'.cells 47)) := (Below.refl _ _).alloc (Nat.le_refl _) _
      have hgb := heap_alloc_new W2 (.cells l'.cells 47)
      have hS3 := hS.keep hb3
      refine oneW 23 (by kernel_rfl) (run_val rfl rfl rfl (exec_buildSlice_one rfl rfl und28 i47 hsz' le3) ⟨fun _ => hS3, ?_⟩)
      simp only [List.set_cons_zero, List.set_cons_succ]
      have HO3 := HO.out.keep hb3
      have hIl : (I'.map Ins.cells).length < 4000 := by
        rw [List.length_map, HTW.out.1, List.length_take]; omega
      obtain ⟨v4, W4, hr4, ho4, hb4, hg4⟩ := append_own (w := W2.alloc (.cells l'.cells 47)) (base := w.heap.size) 28 28 und28 i47 cells47 pos3 HO3 (m := 1) (c := 1) (E := [l'.cells]) rfl (RowsAt.one hgb 3) (by simpa using hsz') (by simpa using Ins.one l') someNo (small63 hIl (by simp)) (smallBy hIl (by simp) le56) hS3.below.size
      have hS4 := hS3.keepBut (hb4 _ _ hS3.below (Nat.le_refl _)) (HO3.keepButGrown hg4) (by decide)
      refine oneW 24 (by kernel_rfl) (run_val rfl rfl rfl (hr4 _ _ _ _ rfl rfl rfl rfl) ⟨fun _ => hS4, ?_⟩)
      simp only [List.set_cons_zero, List.set_cons_succ]
      refine oneW 25 (by kernel_rfl) (run_val (v := .pointer (some ⟨gt, 37, none⟩)) rfl rfl rfl (by go_simp) ⟨fun _ => hS4, ?_⟩)
      simp only [List.set_cons_zero, List.set_cons_succ]
      have e1 : I'.map Ins.cells ++ [l'.cells] = (I' ++ [l']).map Ins.cells := by simp
      rw [e1] at ho4
      obtain ⟨ao, c', rfl, -, -⟩ := ho4.rows
      obtain ⟨W5, hr5, h5, hW5⟩ := store_one (w := W4) (ty := 28) (t := 31) (b := gt) (off := 37) (v := .slice ao ((I' ++ [l']).map Ins.cells).length c') (vc_slice _ _ _) (vo_slice _ _ _) hS4.ht (by rw [tw_size HR.out]; decide) size28
      refine oneW 26 (by kernel_rfl) (run_skip rfl rfl rfl (hr5 _ _ _ _ rfl rfl rfl) ⟨fun h => (by cases h), ?_⟩)
      refine doneW (by kernel_rfl) ?_ _
      rw [List.length_map] at h5 ho4
      rw [tw_ins HR.out] at h5
      have k45 : KeepBut 31 W4 W5 := hW5.keepBut hS4.ht
      have k24 : KeepBut 47 W2 W4 := (Below.keepBut hb3 47).trans (HO3.keepButGrown hg4)
      have hM5 := Lib.hid (hS4.wrote hW5 WGT.out (Nat.ne_of_lt (Nat.lt_trans N12.out N2T.out)) (Nat.ne_of_lt N2T.out) h5)
      have hO5 := Lib.hid (k45.own ho4 (by decide))
      have hT5 := Lib.hid ((HSNOC.out _ k24).mono fun _ _ (q : InsTwin W4 w.heap.size _ _) => q.keepBut k45 (by decide))
      have hK5 := Lib.hid (k45.own (k24.own HK.out (by decide)) (by decide))
      clear k45 k24 h5 hW5 hr5 ho4 hr4 hb4 hg4 hS4 hIl HO3 hS3 hgb hb3 hsz' HSNOC hc' IT BA BD HK HTW HO hS e1
      go_wp2_with fail
      go_roundw
      case rel => exact ⟨i + 1, ao, I' ++ [l'], c', by omega, by go_num, hM5.out, hO5.out, hT5.out, hK5.out⟩
      case measure => simp [intOf]; omega
    · obtain rfl : il = i := by omega
      have hlt' : ¬ (il : Int) < (il : Int) := by omega
      have e : X.I.take il = X.I := by rw [← HIN.out, List.take_length]
      rw [e] at hTw
      have HM := Lib.hid hM
      have HO := Lib.hid hO
      have HTW := Lib.hid hTw
      have HK := Lib.hid hK
      clear hM hO hTw hK e hi hlt
      go_wp2_with fail
      clear hlt' c37
      go_loopw [5] (fun v5 wr => ∃ (i : Nat) (aL : Option Addr) (L' : List Lk) (cL : Nat), i ≤ ll ∧ v5 = .int .i64 i ∧ Mk w X (tw X (some ⟨gk, 0, none⟩) (X.K.length + 3) aI I' cI aL L' cL) b1 g2 gt wr ∧
        OwnAt wr w.heap.size 44 34 (.slice aL L'.length cL) (L'.map Lk.cells) ∧ Twins (LkTwin wr w.heap.size) (X.L.take i) L' ∧ OwnAt wr w.heap.size 47 3 (.slice aI I'.length cI) (I'.map Ins.cells) ∧ Twins (InsTwin wr w.heap.size) X.I I' ∧
        OwnAt wr w.heap.size 41 32 (.slice (some ⟨gk, 0, none⟩) (kn + 3) (kn + 3)) (room (X.K.map (icells .u8)) (icells .u8 markK))) (fun v5 _ => ll - (intOf v5).toNat)
      case atStart => exact ⟨0, none, [], 0, Nat.zero_le _, rfl, HM.out, OwnAt.nil _ _ _ _, Twins.nil, HO.out, HTW.out, HK.out⟩
      case round =>
        clear HM HO HTW HK
        obtain ⟨i, aL, L', cL, hi, rfl, hM, hO, hTw, hOi, hTi, hK⟩ := hrel
        obtain ⟨-, -, c38⟩ := MK.out _ _ hM.hb
        by_cases hlt : i < ll
        · have hlt' : (i : Int) < (ll : Int) := by omega
          obtain ⟨l, hl⟩ : ∃ l, X.L[i]? = some l := ⟨X.L[i]'(by rw [HLN.out]; exact hlt), List.getElem?_eq_getElem _⟩
          obtain ⟨ib, io, e, hrow⟩ := HT.out.lkAt hl
          rw [HLA.out] at e
          subst e
          obtain ⟨hT32, -, -⟩ := HT.out.lksOk l (List.mem_of_getElem? hl)
          obtain ⟨hby, hdat⟩ := HT.out.lkb l (List.mem_of_getElem? hl)
          obtain ⟨hlA, hlD⟩ := HF.out.l l (List.mem_of_getElem? hl)
          have HCT : Hid (∀ W, Below w.heap.size w W → RowAt W ib (io + i * 34) (icells .u8 l.T)) := Lib.hid fun W hW => lkRow (Below.row hW hrow hrow.lt)
          have HCL : Hid (∀ W, Below w.heap.size w W → W.cell? ⟨ib, io + i * 34 + 32, none⟩ = some (.slice l.wa l.W.length l.wc) ∧ W.cell? ⟨ib, io + i * 34 + 33, none⟩ = some (.slice l.ra l.Rd.length l.rc)) := Lib.hid fun W hW => lkCells hT32 (Below.row hW hrow hrow.lt)
          have HLT := Lib.hid hlt
          have H32 := Lib.hid hT32
          have HSZ : Hid ((icells .u8 l.T).size = 32) := Lib.hid (by rw [size_icells, hT32])
          have hS := hM.drew
          have HO := Lib.hid (hO.keep (Below.refl _ _).drew)
          have HTW := Lib.hid (hTw.mono fun _ _ q => q.keepBut (Below.keepBut (Below.refl _ _).drew 0) (by decide))
          have HOI := Lib.hid (hOi.keep (Below.refl _ _).drew)
          have HTI := Lib.hid (hTi.mono fun _ _ q => q.keepBut (Below.keepBut (Below.refl _ _).drew 0) (by decide))
          have HK := Lib.hid (hK.keep (Below.refl _ _).drew)
          have HL := Lib.hid hl
          have HBY := Lib.hid hby
          have HDT := Lib.hid hdat
          have HLA' := Lib.hid hlA
          have HLD' := Lib.hid hlD
          clear hrow hT32 hby hdat hlA hlD hl hM hO hTw hK hOi hTi
          go_wp2
          refine wp_regionW (n := 27) (S := fun W => Mk w X (tw X (some ⟨gk, 0, none⟩) (X.K.length + 3) aI I' cI aL L' cL) b1 g2 gt W) (late := fun j => j == 26) rfl (by kernel_rfl) ?_
          refine takeW (j := 0) (v := .pointer (some ⟨gt, 38, none⟩)) rfl rfl rfl (by kernel_rfl) (by kernel_rfl) (by kernel_rfl) (by kernel_rfl) (fun _ _ _ h => h) (fun W hW => by go_simp) hS ?_
          simp only [List.set_cons_zero, List.set_cons_succ]
          refine takeW (j := 1) (v := .slice aL L'.length cL) rfl rfl rfl (by kernel_rfl) (by kernel_rfl) (by kernel_rfl) (by kernel_rfl) (fun _ _ _ h => h) (fun W hW => exec_load_cell rfl rfl und29 rfl (msgCells (X := tw X (some ⟨gk, 0, none⟩) (X.K.length + 3) aI I' cI aL L' cL) HR.out hW.ht).c38) hS ?_
          simp only [List.set_cons_zero, List.set_cons_succ]
          refine takeW (j := 2) (v := .pointer (some ⟨b1, 38, none⟩)) rfl rfl rfl (by kernel_rfl) (by kernel_rfl) (by kernel_rfl) (by kernel_rfl) (fun _ _ _ h => h) (fun W hW => by go_simp) hS ?_
          simp only [List.set_cons_zero, List.set_cons_succ]
          refine takeW (j := 3) (v := .slice (some ⟨ib, io, none⟩) ll X.lc) rfl rfl rfl (by kernel_rfl) (by kernel_rfl) (by kernel_rfl) (by kernel_rfl) (fun _ _ _ h => h) (fun W hW => exec_load_cell rfl rfl und29 rfl (MK.out _ _ hW.hb).2.2) hS ?_
          simp only [List.set_cons_zero, List.set_cons_succ]
          refine takeW (j := 4) (v := .int .i64 (i : Int)) rfl rfl rfl (by kernel_rfl) (by kernel_rfl) (by kernel_rfl) (by kernel_rfl) (fun _ _ _ h => h) (fun W hW => exec_move rfl rfl) hS ?_
          simp only [List.set_cons_zero, List.set_cons_succ]
          refine takeW (j := 5) (v := .pointer (some ⟨ib, io + i * 34, none⟩)) rfl rfl rfl (by kernel_rfl) (by kernel_rfl) (by kernel_rfl) (by kernel_rfl) (fun _ _ _ h => h) (fun W hW => exec_index_rows rfl rfl rfl und29 s44 HLT.out) hS ?_
          simp only [List.set_cons_zero, List.set_cons_succ]
          refine takeW (j := 6) (v := .pointer (some ⟨ib, io + i * 34, none⟩)) rfl rfl rfl (by kernel_rfl) (by kernel_rfl) (by kernel_rfl) (by kernel_rfl) (fun _ _ _ h => h) (fun W hW => by go_simp) hS ?_
          simp only [List.set_cons_zero, List.set_cons_succ]
          refine takeW (j := 7) (v := kv l.T) rfl rfl rfl (by kernel_rfl) (by kernel_rfl) (by kernel_rfl) (by kernel_rfl) (fun _ _ _ h => h) (fun W hW => exec_load_sub rfl rfl (HCT.out W hW.below) und41 rfl (by rw [HSZ.out]; exact s41)) hS ?_
          simp only [List.set_cons_zero, List.set_cons_succ]
          refine takeW (j := 8) (v := .pointer (some ⟨b1, 38, none⟩)) rfl rfl rfl (by kernel_rfl) (by kernel_rfl) (by kernel_rfl) (by kernel_rfl) (fun _ _ _ h => h) (fun W hW => by go_simp) hS ?_
          simp only [List.set_cons_zero, List.set_cons_succ]
          refine takeW (j := 9) (v := .slice (some ⟨ib, io, none⟩) ll X.lc) rfl rfl rfl (by kernel_rfl) (by kernel_rfl) (by kernel_rfl) (by kernel_rfl) (fun _ _ _ h => h) (fun W hW => exec_load_cell rfl rfl und29 rfl (MK.out _ _ hW.hb).2.2) hS ?_
          simp only [List.set_cons_zero, List.set_cons_succ]
          refine takeW (j := 10) (v := .int .i64 (i : Int)) rfl rfl rfl (by kernel_rfl) (by kernel_rfl) (by kernel_rfl) (by kernel_rfl) (fun _ _ _ h => h) (fun W hW => exec_move rfl rfl) hS ?_
          simp only [List.set_cons_zero, List.set_cons_succ]
          refine takeW (j := 11) (v := .pointer (some ⟨ib, io + i * 34, none⟩)) rfl rfl rfl (by kernel_rfl) (by kernel_rfl) (by kernel_rfl) (by kernel_rfl) (fun _ _ _ h => h) (fun W hW => exec_index_rows rfl rfl rfl und29 s44 HLT.out) hS ?_
          simp only [List.set_cons_zero, List.set_cons_succ]
          refine takeW (j := 12) (v := .pointer (some ⟨ib, io + i * 34 + 32, none⟩)) rfl rfl rfl (by kernel_rfl) (by kernel_rfl) (by kernel_rfl) (by kernel_rfl) (fun _ _ _ h => h) (fun W hW => by go_simp) hS ?_
          simp only [List.set_cons_zero, List.set_cons_succ]
          refine takeW (j := 13) (v := .slice l.wa l.W.length l.wc) rfl rfl rfl (by kernel_rfl) (by kernel_rfl) (by kernel_rfl) (by kernel_rfl) (fun _ _ _ h => h) (fun W hW => exec_load_cell rfl rfl und42 rfl (HCL.out W hW.below).1) hS ?_
          simp only [List.set_cons_zero, List.set_cons_succ]
          refine takeW (j := 15) (v := .pointer (some ⟨b1, 38, none⟩)) rfl rfl rfl (by kernel_rfl) (by kernel_rfl) (by kernel_rfl) (by kernel_rfl) (fun _ _ _ h => h) (fun W hW => by go_simp) hS ?_
          simp only [List.set_cons_zero, List.set_cons_succ]
          refine takeW (j := 16) (v := .slice (some ⟨ib, io, none⟩) ll X.lc) rfl rfl rfl (by kernel_rfl) (by kernel_rfl) (by kernel_rfl) (by kernel_rfl) (fun _ _ _ h => h) (fun W hW => exec_load_cell rfl rfl und29 rfl (MK.out _ _ hW.hb).2.2) hS ?_
          simp only [List.set_cons_zero, List.set_cons_succ]
          refine takeW (j := 17) (v := .int .i64 (i : Int)) rfl rfl rfl (by kernel_rfl) (by kernel_rfl) (by kernel_rfl) (by kernel_rfl) (fun _ _ _ h => h) (fun W hW => exec_move rfl rfl) hS ?_
          simp only [List.set_cons_zero, List.set_cons_succ]
          refine takeW (j := 18) (v := .pointer (some ⟨ib, io + i * 34, none⟩)) rfl rfl rfl (by kernel_rfl) (by kernel_rfl) (by kernel_rfl) (by kernel_rfl) (fun _ _ _ h => h) (fun W hW => exec_index_rows rfl rfl rfl und29 s44 HLT.out) hS ?_
          simp only [List.set_cons_zero, List.set_cons_succ]
          refine takeW (j := 19) (v := .pointer (some ⟨ib, io + i * 34 + 33, none⟩)) rfl rfl rfl (by kernel_rfl) (by kernel_rfl) (by kernel_rfl) (by kernel_rfl) (fun _ _ _ h => h) (fun W hW => by go_simp) hS ?_
          simp only [List.set_cons_zero, List.set_cons_succ]
          refine takeW (j := 20) (v := .slice l.ra l.Rd.length l.rc) rfl rfl rfl (by kernel_rfl) (by kernel_rfl) (by kernel_rfl) (by kernel_rfl) (fun _ _ _ h => h) (fun W hW => exec_load_cell rfl rfl und42 rfl (HCL.out W hW.below).2) hS ?_
          simp only [List.set_cons_zero, List.set_cons_succ]
          refine oneW 14 (by kernel_rfl) (run_call (f := 29) (args := #[.slice l.wa l.W.length l.wc]) rfl rfl rfl (exec_call1 rfl rfl Try.func29 (by decide) rfl) (twinBytes_any (c := l.wc) _ (HBY.out.keep hS.below) HLA'.out) ?_)
          rintro e W1 ⟨ga, rfl, hoa, hb1⟩
          have BA := hoa.base hS.below.size
          replace hS := hS.keep hb1
          replace HO := Lib.hid (HO.out.keep hb1)
          replace HTW := Lib.hid (HTW.out.mono fun _ _ q => q.keepBut (Below.keepBut hb1 0) (by decide))
          replace HOI := Lib.hid (HOI.out.keep hb1)
          replace HTI := Lib.hid (HTI.out.mono fun _ _ q => q.keepBut (Below.keepBut hb1 0) (by decide))
          replace HK := Lib.hid (HK.out.keep hb1)
          refine ⟨_, rfl, fun _ => hS, ?_⟩
          simp only [List.set_cons_zero, List.set_cons_succ]
          clear hoa hb1
          refine oneW 21 (by kernel_rfl) (run_call (f := 29) (args := #[.slice l.ra l.Rd.length l.rc]) rfl rfl rfl (exec_call1 rfl rfl Try.func29 (by decide) rfl) (twinBytes_any (c := l.rc) _ (HDT.out.keep hS.below) HLD'.out) ?_)
          rintro e W2 ⟨gd, rfl, hod, hb2⟩
          have BD := hod.base hS.below.size
          replace BA := BA.keep hb2
          replace hS := hS.keep hb2
          replace HO := Lib.hid (HO.out.keep hb2)
          replace HTW := Lib.hid (HTW.out.mono fun _ _ q => q.keepBut (Below.keepBut hb2 0) (by decide))
          replace HOI := Lib.hid (HOI.out.keep hb2)
          replace HTI := Lib.hid (HTI.out.mono fun _ _ q => q.keepBut (Below.keepBut hb2 0) (by decide))
          replace HK := Lib.hid (HK.out.keep hb2)
          refine ⟨_, rfl, fun _ => hS, ?_⟩
          simp only [List.set_cons_zero, List.set_cons_succ]
          clear hod hb2
          obtain ⟨l', hl'⟩ : ∃ l' : Lk, l' = ⟨l.T, some ⟨ga, 0, none⟩, l.W, l.W.length + 3, some ⟨gd, 0, none⟩, l.Rd, l.Rd.length + 3⟩ := ⟨_, rfl⟩
          have IT : LkTwin W2 w.heap.size l l' := by
            rw [hl']
            exact ⟨rfl, rfl, rfl, ⟨ga, rfl, rfl, BA⟩, ⟨gd, rfl, rfl, BD⟩⟩
          have hc' : l'.cells = icells .u8 l.T ++ #[.slice (some ⟨ga, 0, none⟩) l.W.length (l.W.length + 3), .slice (some ⟨gd, 0, none⟩) l.Rd.length (l.Rd.length + 3)] := by rw [hl']; rfl
          have HSNOC := Lib.hid (fun (W : World) (k : KeepBut 44 W2 W) => (HTW.out.mono fun _ _ (q : LkTwin W2 w.heap.size _ _) => q.keepBut k (by decide)).snoc HL.out (IT.keepBut k (by decide)))
          have hsz' : l'.cells.size = 34 := Lk.size (by rw [IT.T, H32.out])
          refine oneW 22 (by kernel_rfl) (run_val (v := .agg l'.cells) rfl rfl rfl (by rw [hc']; exact exec_build44 rfl rfl rfl rfl H32.out (vc_slice _ _ _) (vc_slice _ _ _)) ⟨fun _ => hS, ?_⟩)
          simp only [List.set_cons_zero, List.set_cons_succ]
          have hb3 : Below W2.heap.size W2 (W2.alloc (.cells l'.cells 44)) := (Below.refl _ _).alloc (Nat.le_refl _) _
          have hgb := heap_alloc_new W2 (.cells l'.cells 44)
          have hS3 := hS.keep hb3
          refine oneW 23 (by kernel_rfl) (run_val rfl rfl rfl (exec_buildSlice_one rfl rfl und29 i44 hsz' le34) ⟨fun _ => hS3, ?_⟩)
          simp only [List.set_cons_zero, List.set_cons_succ]
          have HO3 := HO.out.keep hb3
          have hIl : (L'.map Lk.cells).length < 4000 := by
            rw [List.length_map, HTW.out.1, List.length_take]; omega
          obtain ⟨v4, W4, hr4, ho4, hb4, hg4⟩ := append_own (w := W2.alloc (.cells l'.cells 44)) (base := w.heap.size) 29 29 und29 i44 cells44 pos34 HO3 (m := 1) (c := 1) (E := [l'.cells]) rfl (RowsAt.one hgb 34) (by simpa using hsz') (by simpa using Lk.one l') someNo (small63 hIl (by simp)) (smallBy80 hIl (by simp)) hS3.below.size
          have hS4 := hS3.keepBut (hb4 _ _ hS3.below (Nat.le_refl _)) (HO3.keepButGrown hg4) (by decide)
          refine oneW 24 (by kernel_rfl) (run_val rfl rfl rfl (hr4 _ _ _ _ rfl rfl rfl rfl) ⟨fun _ => hS4, ?_⟩)
          simp only [List.set_cons_zero, List.set_cons_succ]
          refine oneW 25 (by kernel_rfl) (run_val (v := .pointer (some ⟨gt, 38, none⟩)) rfl rfl rfl (by go_simp) ⟨fun _ => hS4, ?_⟩)
          simp only [List.set_cons_zero, List.set_cons_succ]
          have e1 : L'.map Lk.cells ++ [l'.cells] = (L' ++ [l']).map Lk.cells := by simp
          rw [e1] at ho4
          obtain ⟨ao, c', rfl, -, -⟩ := ho4.rows
          obtain ⟨W5, hr5, h5, hW5⟩ := store_one (w := W4) (ty := 29) (t := 31) (b := gt) (off := 38) (v := .slice ao ((L' ++ [l']).map Lk.cells).length c') (vc_slice _ _ _) (vo_slice _ _ _) hS4.ht (by rw [tw_size HR.out]; decide) size29
          refine oneW 26 (by kernel_rfl) (run_skip rfl rfl rfl (hr5 _ _ _ _ rfl rfl rfl) ⟨fun h => (by cases h), ?_⟩)
          refine doneW (by kernel_rfl) ?_ _
          rw [List.length_map] at h5 ho4
          rw [tw_lks HR.out] at h5
          have k45 : KeepBut 31 W4 W5 := hW5.keepBut hS4.ht
          have k24 : KeepBut 44 W2 W4 := (Below.keepBut hb3 44).trans (HO3.keepButGrown hg4)
          have hM5 := Lib.hid (hS4.wrote hW5 WGT.out (Nat.ne_of_lt (Nat.lt_trans N12.out N2T.out)) (Nat.ne_of_lt N2T.out) h5)
          have hO5 := Lib.hid (k45.own ho4 (by decide))
          have hT5 := Lib.hid ((HSNOC.out _ k24).mono fun _ _ (q : LkTwin W4 w.heap.size _ _) => q.keepBut k45 (by decide))
          have hOi5 := Lib.hid (k45.own (k24.own HOI.out (by decide)) (by decide))
          have hTi5 := Lib.hid (HTI.out.mono fun _ _ q => (q.keepBut k24 (by decide)).keepBut k45 (by decide))
          have hK5 := Lib.hid (k45.own (k24.own HK.out (by decide)) (by decide))
          clear k45 k24 h5 hW5 hr5 ho4 hr4 hb4 hg4 hS4 hIl HO3 hS3 hgb hb3 hsz' HSNOC hc' IT BA BD HK HTW HO HOI HTI hS e1
          go_wp2_with fail
          go_roundw
          case rel => exact ⟨i + 1, ao, L' ++ [l'], c', by omega, by go_num, hM5.out, hO5.out, hT5.out, hOi5.out, hTi5.out, hK5.out⟩
          case measure => simp [intOf]; omega
        · obtain rfl : ll = i := by omega
          have hlt' : ¬ (ll : Int) < (ll : Int) := by omega
          have e : X.L.take ll = X.L := by rw [← HLN.out, List.take_length]
          rw [e] at hTw
          have RY := Lib.hid (RowAt.of_cells hM.ht)
          obtain ⟨Z9, hz9, hz9s⟩ := hM.hz
          have RR : Hid ((tw X (some ⟨gk, 0, none⟩) (X.K.length + 3) aI I' cI aL L' cL).R.length = 32) := HR
          have MS : Hid ((tw X (some ⟨gk, 0, none⟩) (X.K.length + 3) aI I' cI aL L' cL).mcells.size = 39) := Lib.hid (tw_size HR.out)
          have HM := Lib.hid hM
          have HTW : Hid (MsgTwin wr w.heap.size X (tw X (some ⟨gk, 0, none⟩) (X.K.length + 3) aI I' cI aL L' cL)) := Lib.hid { v0 := rfl, hs := rfl, hr := rfl, ho := rfl, K := rfl, R := rfl, keys := ⟨gk, rfl, rfl, by rw [HKN.out]; exact hK⟩, own := hOi, ins := hTi, ownL := hO, lks := hTw }
          generalize tw X (some ⟨gk, 0, none⟩) (X.K.length + 3) aI I' cI aL L' cL = Y at RY RR MS HM HTW
          clear hM hO hTw hK hOi hTi e hi hlt
          go_wp2_with (first
            | ((with_reducible refine wl_load31 (b := gt) (off := 0) (X := Y) ?_ RY.out RR.out ?_); (exact rfl))
            | ((with_reducible refine wl_storeN (t := 31) (n := 39) (b := g2) (A := Y.mcells) (Z := Z9) ?_ ?_ hz9 hz9s MS.out Y.mone s31 ?_); (exact rfl); (exact rfl); intro w10 h10 hW10))
          refine bodyPost_ret (results_cell_row rfl _ w10 g2 31 _ (0, 0) _ rfl h10 Try.underlying31 rfl (by rw [MS.out]; exact s31)) rfl ?_
          have k := hW10.keepBut hz9
          exact ⟨Y, rfl, HTW.out.keepBut k (by decide) (by decide) (by decide) (by decide), hW10.below HM.out.below WG2.out⟩
end Go.Proofs.Ytgjijoielfpmkaa
