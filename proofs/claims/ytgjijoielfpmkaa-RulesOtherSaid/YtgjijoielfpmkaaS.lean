/- RulesOther, walked. -/
import Derived.Test.YtgjijoielfpmkaaS1
import Derived.Deep.CutRange
import Derived.Deep.CutBlock
set_option linter.unusedVariables false
namespace Go.Proofs.Ytgjijoielfpmkaa
open Go.RowKit

set_option maxRecDepth 20000 in
set_option maxHeartbeats 3200000 in
theorem other_any {X : Tx} {s : List Int} {a2 : Option Addr} {D : List Nat} {c2 : Nat} (w : World) (hT : TxAt w X) (hs : s.length = 64) (hD : BytesAt w a2 D) (hDl : D.length ≤ lenMax) :
    Calls Try.prog 5 #[X.val, kv s, .slice a2 D.length c2] w fun e w' => e = .returned (.bool true) ∧ Below w.heap.size w w' := by
  have HR := Lib.hid hT.R
  have HT := Lib.hid hT
  have H64 := Lib.hid hs
  have HD := Lib.hid hD
  have HDL := Lib.hid hDl
  obtain ⟨dl, hdl⟩ : ∃ dl, D.length = dl := ⟨_, rfl⟩
  rw [hdl]
  have HDN := Lib.hid hdl
  clear hT hs hD hDl hdl
  go_enter Try.func5, Try.ntmps5
  go_wp2_with (first
    | ((with_reducible refine wl_box33 (X := X) ?_ ?_); (exact rfl); intro b w1 hb hle hB; have G := Lib.hid (Got.mk hb (HT.out.keep hB)); replace hB := Lib.hid hB; clear hle hb)
    | ((with_reducible refine wl_box49 (k := s) ?_ ?_); (exact rfl); intro b4 u hbk hlek hBk; replace G := Lib.hid (G.out.keep hBk); have HBK := Lib.hid hbk; have R1 := Lib.hid G.out.row; replace hB := Lib.hid (hB.out.trans (hBk.mono hB.out.size)); clear hbk hlek hBk)
    | ((with_reducible refine wl_load33 (b := b) (off := 0) (X := X) ?_ R1.out HR.out ?_); (exact rfl)))
  go_at_call 7
  refine (great_any _ G.out.T).mono ?_
  rintro e w2 ⟨r, rfl, hr, hB2⟩
  have BU := Lib.hid hB2
  clear hB2 R1
  replace hr := Lib.hid hr
  cases r with
  | true =>
    go_wp2_with fail
    go_at_call 8
    refine (lives_any _).mono ?_
    rintro e w3 ⟨rfl, hB3⟩
    go_wp2_with fail
    go_ret
    exact ⟨rfl, hB.out.trans ((BU.out.trans (hB3.mono BU.out.size)).mono hB.out.size)⟩
  | false =>
    have hsm := Lib.hid (hr.out rfl)
    have hbig := Lib.hid hsm.out.tot
    clear hr
    have R1 := Lib.hid (G.out.keep BU.out).row
    go_wp2_with ((with_reducible refine wl_load33 (b := b) (off := 0) (X := X) ?_ R1.out HR.out ?_); (exact rfl))
    go_at_call 12
    refine (check_any _ (G.out.keep BU.out).T hbig.out).mono ?_
    rintro e w3 ⟨rfl, hB3⟩
    replace BU := Lib.hid (BU.out.trans (hB3.mono BU.out.size))
    clear hB3 R1
    obtain ⟨cx, hcx⟩ : ∃ cx, chk X = cx := ⟨_, rfl⟩
    rw [hcx]
    have HCX := Lib.hid hcx
    obtain ⟨sl, hsl⟩ : ∃ sl, X.SG.length = sl := ⟨_, rfl⟩
    obtain ⟨kn, hkn⟩ : ∃ kn, X.K.length = kn := ⟨_, rfl⟩
    obtain ⟨il, hil⟩ : ∃ il, X.I.length = il := ⟨_, rfl⟩
    obtain ⟨sa, hsa⟩ : ∃ sa, X.sa = sa := ⟨_, rfl⟩
    obtain ⟨ka, hka⟩ : ∃ ka, X.ka = ka := ⟨_, rfl⟩
    obtain ⟨ia, hia⟩ : ∃ ia, X.ia = ia := ⟨_, rfl⟩
    have MK : Hid (∀ W, Below u.heap.size u W → W.cell? ⟨b, 0, none⟩ = some (.slice sa sl X.sc) ∧ W.cell? ⟨b, 5, none⟩ = some (.slice ka kn X.kc) ∧ W.cell? ⟨b, 38, none⟩ = some (.slice ia il X.ic) ∧ W.cell? ⟨b, 1, none⟩ = some (.bool X.v0)) := Lib.hid fun W hW => by
      have h := txCells HR.out (G.out.keep hW).h
      rw [← hkn, ← hka, ← hil, ← hia, ← hsl, ← hsa]
      exact ⟨h.c0, h.c5, h.c38, h.c1⟩
    have bsl : sl ≤ 300 := by
      have := hsm.out.1
      unfold Tx.sl at this
      omega
    have bkn : kn < 3000 := by
      have := hsm.out.2
      omega
    have bil : il < 3000 := by
      have := hsm.out.2
      omega
    have HSN := Lib.hid hsl
    have HKN := Lib.hid hkn
    have HKA := Lib.hid hka
    have HIL := Lib.hid hil
    have HIA := Lib.hid hia
    have HSA := Lib.hid hsa
    have HSB : Hid (∀ W, Below u.heap.size u W → RowAt W b4 0 (icells .u8 s)) := Lib.hid fun W hW => Below.row hW (RowAt.of_cells HBK.out) (Array.getElem?_eq_some_iff.1 HBK.out).1
    have HSX : Hid (∀ W, Below u.heap.size u W → RowsAt W sa 64 (X.SG.map (icells .u8))) := Lib.hid fun W hW => by
      rw [← hsa]; exact (G.out.keep hW).T.sigs
    have HSL : Hid (sl = (X.SG.map (icells .u8)).length) := Lib.hid (by rw [List.length_map]; exact hsl.symm)
    have HSLT : Hid ((X.SG.map (icells .u8)).length < 4000) := Lib.hid (by rw [List.length_map, hsl]; omega)
    have HSNIL : Hid (sa = none → X.sc = 0) := Lib.hid fun e => G.out.T.nilS (by rw [hsa, e])
    have HSZ := Lib.hid (sigs_size G.out.T.sig)
    have R1 := Lib.hid (G.out.keep BU.out).row
    clear hcx hsl hkn hil hsa hka hia
    go_wp2_with (first
      | ((with_reducible refine wl_load33 (b := b) (off := 0) (X := X) ?_ R1.out HR.out ?_); (exact rfl))
      | ((with_reducible refine wl_allocN zero33 ?_); intro gy w4 Z hZ1 hZ2 hle4 hB4)
      | ((with_reducible refine wl_storeN (n := 40) (A := X.cells) (Z := Z) ?_ ?_ hZ1 hZ2 (Tx.size HR.out) X.one s33 ?_); (exact rfl); (exact rfl); intro w5 h5 hW5; have UY := Lib.hid (Nat.le_trans BU.out.size hle4); have B5 := Lib.hid (hW5.below (BU.out.trans (hB4.mono BU.out.size)) UY.out); have gylt := Lib.hid (Array.getElem?_eq_some_iff.1 h5).1; have H5 := Lib.hid h5; clear hZ1 hZ2 hle4 hB4 hW5 R1 BU h5; have d0 := (MK.out w5 B5.out).1)
      | ((with_reducible refine wl_append_rows (base := w5.heap.size) (t := 22) (e := 49) (s := 64) (bytes := 64) (v := .slice none 0 0) (D := []) (E := X.SG.map (icells .u8)) (m := sl) (c := X.sc) (ao := sa) und22 i49 cells49 pos64 (OwnAt.nil _ _ _ _) ?_ ?_ HSL.out (HSX.out w5 B5.out) HSZ.out keys_one HSNIL.out (small63 lt0 HSLT.out) (smallBy lt0 HSLT.out le64') (Nat.le_refl _) ?_); (exact rfl); (exact rfl); intro v6 w6 hO6 hG6; have hB6 := Lib.hid (Below.grownBy (Below.refl w5.heap.size w5) hG6 (fun k e => by cases e) (Nat.le_refl _)); obtain ⟨aS, cS, ev6, _, _⟩ := hO6.rows; rw [List.nil_append, ← HSL.out] at ev6; subst ev6; have hO6' : Hid (OwnAt w6 w5.heap.size 49 64 (.slice aS sl cS) (X.SG.map (icells .u8))) := Lib.hid hO6; have hg6 := (hB6.out.block gy gylt.out).trans H5.out; clear hO6 hG6 d0)
      | ((with_reducible refine wl_store1 (off := 0) (t := 33) (C := X.cells) (v := .slice aS sl cS) ?_ ?_ (vc_slice _ _ _) (vo_slice _ _ _) hg6 (lt0X HR.out) size22 ?_); (exact rfl); (exact rfl); intro w7 h7 hW7; have hO7 := Lib.hid (hO6'.out.keepW hW7 hg6 (by decide)); have B7 := Lib.hid (hW7.below (B5.out.trans (hB6.out.mono B5.out.size)) UY.out); have hs57 := Lib.hid (Nat.le_trans hB6.out.size (Nat.le_of_eq hW7.size.symm)); clear hO6' hB6 hW7 hg6))
    obtain ⟨X1, hX1⟩ : ∃ X1, withSigs X aS (List.replicate sl s) cS = X1 := ⟨_, rfl⟩
    have H7 : Hid (w7.heap[gy]? = some (.cells X1.cells 33)) := Lib.hid (by
      have := withSigs_cells HR.out aS (List.replicate sl s) cS
      rw [List.length_replicate, hX1] at this
      rw [h7, this])
    have RX1 : Hid (X1.R.length = 32) := Lib.hid (by rw [← hX1]; exact HR.out)
    have MY : Hid (∀ W : World, W.heap[gy]? = some (.cells X1.cells 33) → W.cell? ⟨gy, 0, none⟩ = some (.slice aS sl cS)) := Lib.hid fun W hW => by
      have h := (txCells RX1.out hW).c0
      rw [h, ← hX1]
      show some (Value.slice aS (List.replicate sl s).length cS) = _
      rw [List.length_replicate]
    have HX1 := Lib.hid hX1
    have d0 := MY.out _ H7.out
    clear hX1 h7
    go_loopw [9] (fun v9 wr => ∃ i : Nat, i ≤ sl ∧ v9 = .int .i64 i ∧ OwnAt wr w5.heap.size 49 64 (.slice aS sl cS) ((List.replicate i s ++ X.SG.drop i).map (icells .u8)) ∧ wr.heap[gy]? = some (.cells X1.cells 33) ∧ Below u.heap.size u wr ∧ w5.heap.size ≤ wr.heap.size) (fun v9 _ => sl - (intOf v9).toNat)
    case atStart => exact ⟨0, Nat.zero_le _, rfl, by rw [rep_none]; exact hO7.out, H7.out, B7.out, hs57.out⟩
    case round =>
      clear d0 H7 hO7 B7 hs57
      obtain ⟨i, hi, rfl, hO, hy, hBr, hs5⟩ := hrel
      have d0 := MY.out _ hy
      by_cases hlt : i < sl
      · have hlt' : (i : Int) < (sl : Int) := by omega
        have hiL : Hid (i < X.SG.length) := Lib.hid (by rw [HSN.out]; exact hlt)
        have hlen := rep_length (L := X.SG) s (i := i) (by rw [HSN.out]; exact hi)
        obtain ⟨g1, c1, C1, e1, e2, e3, e4⟩ := hO.at_ (by rw [List.length_map, hlen, HSN.out]; omega)
        rw [List.length_map, hlen, HSN.out] at e1 e4
        simp only [Value.slice.injEq, true_and] at e1
        obtain ⟨ea, rfl⟩ := e1
        have hO1 : Hid (OwnAt wr w5.heap.size 49 64 (.slice (some ⟨g1, 0, none⟩) sl cS) ((List.replicate i s ++ X.SG.drop i).map (icells .u8))) := Lib.hid (by rw [← ea]; exact hO)
        have hea := Lib.hid ea
        have d0' : wr.cell? ⟨gy, 0, none⟩ = some (.slice (some ⟨g1, 0, none⟩) sl cS) := by rw [d0, ea]
        have hfit : i * 64 + 64 ≤ C1.size := by
          have : (i + 1) * 64 ≤ sl * 64 := Nat.mul_le_mul_right 64 hlt
          omega
        have hb4 := Lib.hid (HSB.out wr hBr)
        replace hy := Lib.hid hy
        replace hBr := Lib.hid hBr
        have hlt64 := Lib.hid (size64 H64.out)
        have hug : Hid (u.heap.size ≤ g1) := Lib.hid (Nat.le_trans B5.out.size e2)
        have hne8 : Hid (gy ≠ g1) := Lib.hid (Nat.ne_of_lt (Nat.lt_of_lt_of_le gylt.out e2))
        have hs5' := Lib.hid hs5
        clear hO ea hlen e4 d0 e2 hi hs5
        go_wp2_with (first
          | ((with_reducible refine wl_load49 (b := b4) (off := 0) (k := s) ?_ hb4.out H64.out ?_); (exact rfl))
          | ((with_reducible refine wl_storeRow (t := 49) (n := 64) (b := g1) (off := i * 64) (A := icells .u8 s) (C := C1) ?_ ?_ e3 hfit hlt64.out (icells_one _ _) s49 ?_); (first | exact rfl | (simp; done)); (exact rfl); intro w8 h8 hW8))
        go_roundw
        case rel => exact ⟨i + 1, by omega, by go_num, by rw [hea.out]; exact hO1.out.setSig hiL.out H64.out e3 h8, (hW8.block gy hne8.out).trans hy.out, hW8.below hBr.out hug.out, by rw [hW8.size]; exact hs5'.out⟩
        case measure => simp [intOf]; omega
      · obtain rfl : sl = i := by omega
        have hlt' : ¬ (sl : Int) < (sl : Int) := by omega
        have eS : List.replicate sl s ++ X.SG.drop sl = List.replicate sl s := by
          have := rep_all (L := X.SG) s
          rw [HSN.out] at this
          exact this
        rw [eS] at hO
        have HIX : Hid (∀ W, Below u.heap.size u W → RowsAt W ia 3 (X.I.map Ins.cells)) := Lib.hid fun W hW => by
          rw [← HIA.out]; exact (G.out.keep hW).T.ins
        have HILL : Hid (il = (X.I.map Ins.cells).length) := Lib.hid (by rw [List.length_map]; exact HIL.out.symm)
        have HILT : Hid ((X.I.map Ins.cells).length < 4000) := Lib.hid (by rw [← HILL.out]; omega)
        have HINIL : Hid (ia = none → X.ic = 0) := Lib.hid fun e => G.out.T.nilI (by rw [HIA.out, e])
        have d38 := (MK.out wr hBr).2.2.1
        have hO8 := Lib.hid hO
        have H8 := Lib.hid hy
        have B8 := Lib.hid hBr
        have hs8 := Lib.hid hs5
        clear hO hy hBr hs5 eS hlt hi
        go_wp2_with (first
          | ((with_reducible refine wl_append_rows (base := w5.heap.size) (t := 28) (e := 47) (s := 3) (bytes := 56) (v := .slice none 0 0) (D := []) (E := X.I.map Ins.cells) (m := il) (c := X.ic) (ao := ia) und28 i47 cells47 pos3 (OwnAt.nil _ _ _ _) ?_ ?_ HILL.out (HIX.out wr B8.out) ins_size ins_one HINIL.out (small63 lt0 HILT.out) (smallBy lt0 HILT.out le56) hs8.out ?_); (exact rfl); (exact rfl); intro v9 w9 hO9 hG9; have hB9 := Lib.hid (Below.grownBy (Below.refl wr.heap.size wr) hG9 (fun k e => by cases e) (Nat.le_refl _)); obtain ⟨aI, cI, ev9, _, _⟩ := hO9.rows; rw [List.nil_append, ← HILL.out] at ev9; subst ev9; have hO9' : Hid (OwnAt w9 w5.heap.size 47 3 (.slice aI il cI) (X.I.map Ins.cells)) := Lib.hid hO9; have hOs9 := Lib.hid (hO8.out.keep hB9.out); have hg9 := (hB9.out.block gy (Array.getElem?_eq_some_iff.1 H8.out).1).trans H8.out; clear hO9 hG9 hO8 H8 d38)
          | ((with_reducible refine wl_store1 (off := 38) (t := 33) (C := X1.cells) (v := .slice aI il cI) ?_ ?_ (vc_slice _ _ _) (vo_slice _ _ _) hg9 (lt38 RX1.out) size28 ?_); (exact rfl); (exact rfl); intro wa ha hWa; have hOi := Lib.hid (hO9'.out.keepW hWa hg9 (by decide)); have hOs := Lib.hid (hOs9.out.keepW hWa hg9 (by decide)); have Ba := Lib.hid (hWa.below (B8.out.trans (hB9.out.mono B8.out.size)) UY.out); have hsa := Lib.hid (Nat.le_trans hs8.out (Nat.le_trans hB9.out.size (Nat.le_of_eq hWa.size.symm))); clear hO9' hB9 hOs9 hWa hg9 B8 hs8))
        obtain ⟨X2, hX2⟩ : ∃ X2, withIns X1 aI (X.I.map fun q => q.data a2 D c2) cI = X2 := ⟨_, rfl⟩
        have HA : Hid (wa.heap[gy]? = some (.cells X2.cells 33)) := Lib.hid (by
          have := withIns_cells RX1.out aI (X.I.map fun q => q.data a2 D c2) cI
          rw [List.length_map, HIL.out, hX2] at this
          rw [ha, this])
        have RX2 : Hid (X2.R.length = 32) := Lib.hid (by rw [← hX2]; exact RX1.out)
        have MZ : Hid (∀ W : World, W.heap[gy]? = some (.cells X2.cells 33) → W.cell? ⟨gy, 38, none⟩ = some (.slice aI il cI)) := Lib.hid fun W hW => by
          have h := (txCells RX2.out hW).c38
          rw [h, ← hX2]
          show some (Value.slice aI (X.I.map fun q => q.data a2 D c2).length cI) = _
          rw [List.length_map, HIL.out]
        have HX2 := Lib.hid hX2
        clear hX2 ha HIX HILL HILT HINIL
        go_loopw [10] (fun v10 wr => ∃ i : Nat, i ≤ il ∧ v10 = .int .i64 i ∧ OwnAt wr w5.heap.size 47 3 (.slice aI il cI) (((X.I.take i).map (fun q => q.data a2 D c2) ++ X.I.drop i).map Ins.cells) ∧ OwnAt wr w5.heap.size 49 64 (.slice aS sl cS) ((List.replicate sl s).map (icells .u8)) ∧ wr.heap[gy]? = some (.cells X2.cells 33) ∧ Below u.heap.size u wr ∧ w5.heap.size ≤ wr.heap.size) (fun v10 _ => il - (intOf v10).toNat)
        case atStart => exact ⟨0, Nat.zero_le _, rfl, by rw [mapped_none]; exact hOi.out, hOs.out, HA.out, Ba.out, hsa.out⟩
        case round =>
          clear HA hOi hOs Ba hsa
          obtain ⟨i, hi, rfl, hO, hOs, hy, hBr, hs5⟩ := hrel
          have d38 := MZ.out _ hy
          by_cases hlt : i < il
          · have hlt2 : (i : Int) < (il : Int) := by omega
            have hiL : Hid (i < X.I.length) := Lib.hid (by rw [HIL.out]; exact hlt)
            have hlen := mapped_length (L := X.I) (fun q => q.data a2 D c2) (i := i) (by rw [HIL.out]; exact hi)
            obtain ⟨g1, c1, C1, e1, e2, e3, e4⟩ := hO.at_ (by rw [List.length_map, hlen, HIL.out]; omega)
            rw [List.length_map, hlen, HIL.out] at e1 e4
            simp only [Value.slice.injEq, true_and] at e1
            obtain ⟨ea, rfl⟩ := e1
            have hO1 : Hid (OwnAt _ w5.heap.size 47 3 (.slice (some ⟨g1, 0, none⟩) il cI) (((X.I.take i).map (fun q => q.data a2 D c2) ++ X.I.drop i).map Ins.cells)) := Lib.hid (by rw [← ea]; exact hO)
            have hea := Lib.hid ea
            rw [ea] at d38
            have hfit : i * 3 + 2 < C1.size := by
              have : (i + 1) * 3 ≤ il * 3 := Nat.mul_le_mul_right 3 hlt
              omega
            replace hy := Lib.hid hy
            replace hBr := Lib.hid hBr
            replace hOs := Lib.hid hOs
            have hug : Hid (u.heap.size ≤ g1) := Lib.hid (Nat.le_trans B5.out.size e2)
            have hne8 : Hid (gy ≠ g1) := Lib.hid (Nat.ne_of_lt (Nat.lt_of_lt_of_le gylt.out e2))
            have hs5' := Lib.hid hs5
            clear hO ea hlen e4 e2 hi hs5
            go_wp2_with (first
              | ((with_reducible refine wl_store1 (off := i * 3 + 2) (t := 47) (C := C1) (v := .slice a2 dl c2) ?_ ?_ (vc_slice _ _ _) (vo_slice _ _ _) e3 hfit size42 ?_); (first | exact rfl | (simp; done)); (exact rfl); intro w8 h8 hW8))
            go_roundw
            case rel => exact ⟨i + 1, by omega, by go_num, by rw [← HDN.out] at h8; rw [hea.out]; exact hO1.out.setData hiL.out e3 hfit h8, hOs.out.keepW hW8 e3 (by decide), (hW8.block gy hne8.out).trans hy.out, hW8.below hBr.out hug.out, by rw [hW8.size]; exact hs5'.out⟩
            case measure => simp [intOf]; omega
          · obtain rfl : il = i := by omega
            have hlt2 : ¬ (il : Int) < (il : Int) := by omega
            have eI : (X.I.take il).map (fun q => q.data a2 D c2) ++ X.I.drop il = X.I.map fun q => q.data a2 D c2 := by
              have := mapped_all (L := X.I) (fun q => q.data a2 D c2)
              rw [HIL.out] at this
              exact this
            rw [eI] at hO
            have HOI := Lib.hid hO
            have HOS := Lib.hid hOs
            have HY2 := Lib.hid hy
            have BR := Lib.hid hBr
            have HS5 := Lib.hid hs5
            clear hO hOs hy hBr hs5 eI hlt hi
            go_wp2
            try simp only [Act.put, List.setIfInBounds_toArray, List.set_cons_zero, List.set_cons_succ]
            have hS : Below u.heap.size u wr.drew := BR.out.drew
            refine wp_regionW (n := 5) (S := fun W => Below u.heap.size u W) (late := fun _ => false) rfl (by kernel_rfl) ?_
            refine takeW (j := 0) (v := .pointer (some ⟨gy, 1, none⟩)) rfl rfl rfl (by kernel_rfl) (by kernel_rfl) (by kernel_rfl) (by kernel_rfl) (fun _ _ _ h => h) (fun W hW => by go_simp) hS ?_
            simp only [List.set_cons_zero, List.set_cons_succ]
            refine takeW (j := 1) (v := .pointer (some ⟨gy, 6, none⟩)) rfl rfl rfl (by kernel_rfl) (by kernel_rfl) (by kernel_rfl) (by kernel_rfl) (fun _ _ _ h => h) (fun W hW => by go_simp) hS ?_
            simp only [List.set_cons_zero, List.set_cons_succ]
            refine takeW (j := 2) (v := .slice (some ⟨gy, 6, none⟩) 32 32) rfl rfl rfl (by kernel_rfl) (by kernel_rfl) (by kernel_rfl) (by kernel_rfl) (fun _ _ _ h => h) (fun W hW => by go_simp) hS ?_
            simp only [List.set_cons_zero, List.set_cons_succ]
            refine takeW (j := 3) (v := .slice (some ⟨b4, 0, none⟩) 64 64) rfl rfl rfl (by kernel_rfl) (by kernel_rfl) (by kernel_rfl) (by kernel_rfl) (fun _ _ _ h => h) (fun W hW => by go_simp) hS ?_
            simp only [List.set_cons_zero, List.set_cons_succ]
            obtain ⟨wb, hrun, hb6, hWb⟩ := copy_own (w := wr.drew) (g := gy) (b4 := b4) (ty := 3) (C := X2.cells) (s := s) HY2.out (Tx.size RX2.out) (HSB.out _ hS) H64.out
            have hSb : Below u.heap.size u wb := hWb.below hS UY.out
            refine oneW 4 (by kernel_rfl) (run_val (v := goInt 32) rfl rfl rfl (exec_copy rfl rfl rfl hrun) ⟨fun _ => hSb, ?_⟩)
            refine doneW (by kernel_rfl) ?_ _
            obtain ⟨X3, hX3⟩ : ∃ X3, withR X2 (s.take 32) = X3 := ⟨_, rfl⟩
            have s32 : (s.take 32).length = 32 := by
              have := H64.out
              simp; omega
            have RX3 : Hid (X3.R.length = 32) := Lib.hid (by rw [← hX3]; exact s32)
            rw [withR_cells RX2.out s32, hX3] at hb6
            have HX3 := Lib.hid hX3
            have BB := Lib.hid hSb
            have hHb := Lib.hid hb6
            have HOIb : Hid (OwnAt wb w5.heap.size 47 3 (.slice aI il cI) ((X.I.map fun q => q.data a2 D c2).map Ins.cells)) := Lib.hid ((HOI.out.keep (w' := wr.drew) (Below.refl _ _).drew).keepW hWb HY2.out (by decide))
            have HOSb : Hid (OwnAt wb w5.heap.size 49 64 (.slice aS sl cS) ((List.replicate sl s).map (icells .u8))) := Lib.hid ((HOS.out.keep (w' := wr.drew) (Below.refl _ _).drew).keepW hWb HY2.out (by decide))
            have HS5b : Hid (w5.heap.size ≤ wb.heap.size) := Lib.hid (by rw [hWb.size]; exact HS5.out)
            have d1 := (MK.out wb hSb).2.2.2
            clear hS hrun hWb hSb hX3 BR HOI HOS HY2 HS5
            go_upto_region 17 with (first
              | ((with_reducible refine wl_store1 (off := 1) (t := 33) (C := X3.cells) (v := .bool (!X.v0)) ?_ ?_ (vc_bool _) (vo_bool _) hb6 (lt1X RX3.out) size4 ?_); (exact rfl); (first | exact rfl | (simp; done)); intro wc hc hWc))
            simp only [Act.put]
            have BC := Lib.hid (hWc.below BB.out UY.out)
            have HOI := Lib.hid (HOIb.out.keepW hWc hHb.out (by decide))
            have HOS := Lib.hid (HOSb.out.keepW hWc hHb.out (by decide))
            have HS5 : Hid (w5.heap.size ≤ wc.heap.size) := Lib.hid (by rw [hWc.size]; exact HS5b.out)
            have FX : Hid (∀ v0, withV X3 v0 = withV (withR (withIns (withSigs X aS (List.replicate sl s) cS) aI (X.I.map fun q => q.data a2 D c2) cI) (s.take 32)) v0) := Lib.hid fun v0 => by
              rw [← HX3.out, ← HX2.out, ← HX1.out]
            have HRL : Hid ((List.replicate sl s).length ≤ lenMax) := Lib.hid (by rw [List.length_replicate]; unfold lenMax; omega)
            have HR64 : Hid (∀ q ∈ List.replicate sl s, q.length = 64) := Lib.hid fun q hq => by rw [List.eq_of_mem_replicate hq]; exact H64.out
            rw [withV_cells RX3.out] at hc
            have HDC := Lib.hid (HD.out.keep (hB.out.trans (BC.out.mono hB.out.size)))
            have GY : Hid (Got wc gy (withV X3 (!X.v0))) := Lib.hid ⟨hc, by
              rw [FX.out]
              exact otherAt (G.out.keep BC.out).T HOS.out HRL.out HR64.out HOI.out HDC.out HDL.out s32 _⟩
            have HCY : Hid (chk (withV X3 (!X.v0)) = cx) := Lib.hid (by
              rw [FX.out, chk_other _ _ _ _ (by rw [List.length_replicate, HSN.out]), HCX.out])
            have HTY : Hid (tot (withV X3 (!X.v0)) < 9223372036854775808) := Lib.hid (by rw [FX.out]; exact hbig.out)
            have FY := Lib.hid (FX.out (!X.v0))
            generalize withV X3 (!X.v0) = Y at GY HCY HTY FY
            have RY := Lib.hid GY.out.row
            have RYR := Lib.hid GY.out.T.R
            clear hc hWc hb6 d1 HOIb HOSb HS5b BB hHb FX HRL HR64 s32
            go_wp2_with (first
              | ((with_reducible refine wl_load33 (b := gy) (off := 0) (X := Y) ?_ RY.out RYR.out ?_); (exact rfl)))
            go_at_call 12
            refine (check_any _ GY.out.T HTY.out).mono ?_
            rw [HCY.out]
            rintro e wd ⟨rfl, hBd⟩
            replace BC := Lib.hid (BC.out.trans (hBd.mono BC.out.size))
            replace HOI := Lib.hid (HOI.out.keep hBd)
            replace HOS := Lib.hid (HOS.out.keep hBd)
            replace HS5 := Lib.hid (Nat.le_trans HS5.out hBd.size)
            replace GY := Lib.hid (GY.out.keep hBd)
            clear hBd RY
            by_cases hc0 : cx = 0
            · have hc0' : (cx : Int) = 0 := by omega
              subst hc0
              have d0 : wd.cell? ⟨gy, 0, none⟩ = some (.slice aS sl cS) := by
                have h := (txCells GY.out.T.R GY.out.h).c0
                rw [h, FY.out]
                show some (Value.slice aS (List.replicate sl s).length cS) = _
                rw [List.length_replicate]
              have hb4 := Lib.hid (HSB.out wd BC.out)
              have hsz := Lib.hid (size64 H64.out)
              have HRLT : Hid (((List.replicate sl s).map (icells .u8)).length < 4000) := Lib.hid (by rw [List.length_map, List.length_replicate]; omega)
              go_upto_region 22 with (first
                | ((with_reducible refine wl_load49 (b := b4) (off := 0) (k := s) ?_ hb4.out H64.out ?_); (exact rfl))
                | ((with_reducible refine wl_buildSlice_one (A := icells .u8 s) (t := 22) (e := 49) (s := 64) (bytes := 64) ?_ und22 i49 hsz.out le64 ?_); (exact rfl); intro gq wq hgq hlq hBq; have hOSq := Lib.hid (HOS.out.keep hBq); have hOIq := Lib.hid (HOI.out.keep hBq); have hS5q := Lib.hid (Nat.le_trans HS5.out hBq.size); have BQ := Lib.hid (BC.out.trans (hBq.mono BC.out.size)); have hgyq := Lib.hid (GY.out.keep hBq).h; clear hBq hlq)
                | ((with_reducible refine wl_append_rows (base := w5.heap.size) (t := 22) (e := 49) (s := 64) (bytes := 64) (v := .slice aS sl cS) (D := (List.replicate sl s).map (icells .u8)) (E := [icells .u8 s]) (m := 1) (c := 1) (ao := some ⟨gq, 0, none⟩) und22 i49 cells49 pos64 hOSq.out ?_ ?_ one_len (RowsAt.one hgq 64) (oneSig_size H64.out) oneSig_one someNo (small63 HRLT.out lt1) (smallBy HRLT.out lt1 le64') hS5q.out ?_); (exact rfl); (exact rfl); intro vt wt hOt hGt; have BT := Lib.hid (hOSq.out.below BQ.out B5.out.size BQ.out.size hGt); have hOIt := Lib.hid (hOIq.out.keepGrown hOSq.out hGt (by decide)); have hgt : wt.heap[gy]? = some (.cells Y.cells 33) := (hGt.block gy (Array.getElem?_eq_some_iff.1 hgyq.out).1 (fun e => absurd (hOSq.out.ownBlock gy e.symm) (Nat.not_le.2 gylt.out))).trans hgyq.out; have hS5t := Lib.hid (Nat.le_trans hS5q.out hGt.size); obtain ⟨aT, cT, evT, _, _⟩ := hOt.rows; obtain ⟨nT, eT⟩ : ∃ nT, nT = ((List.replicate sl s).map (icells .u8) ++ [icells .u8 s]).length := ⟨_, rfl⟩; rw [← eT] at evT; subst evT; have ET := Lib.hid eT; replace hOt := Lib.hid hOt; clear eT hGt hOSq hOIq hS5q BQ hgyq hgq d0)
                | ((with_reducible refine wl_store1 (off := 0) (t := 33) (C := Y.cells) (v := .slice aT nT cT) ?_ ?_ (vc_slice _ _ _) (vo_slice _ _ _) hgt (lt0X RYR.out) size22 ?_); (exact rfl); (exact rfl); intro wf hf hWf))
              simp only [Act.put]
              have BF := Lib.hid (hWf.below BT.out UY.out)
              have HOI2 := Lib.hid (hOIt.out.keepW hWf hgt (by decide))
              have eRep : (List.replicate sl s).map (icells .u8) ++ [icells .u8 s] = (List.replicate (sl + 1) s).map (icells .u8) := by rw [List.replicate_succ', List.map_append]; rfl
              have HOS2 : Hid (OwnAt wf w5.heap.size 49 64 (.slice aT nT cT) ((List.replicate (sl + 1) s).map (icells .u8))) := Lib.hid (by rw [← eRep]; exact hOt.out.keepW hWf hgt (by decide))
              have eN : nT = (List.replicate (sl + 1) s).length := by rw [ET.out, eRep, List.length_map]
              rw [eN, withSigs_cells RYR.out] at hf
              have FY2 : withSigs Y aT (List.replicate (sl + 1) s) cT = withV (withR (withIns (withSigs X aT (List.replicate (sl + 1) s) cT) aI (X.I.map fun q => q.data a2 D c2) cI) (s.take 32)) (!X.v0) := by rw [FY.out]; rfl
              have HDF := HD.out.keep (hB.out.trans (BF.out.mono hB.out.size))
              have GY2 : Hid (Got wf gy (withSigs Y aT (List.replicate (sl + 1) s) cT)) := Lib.hid ⟨hf, by
                rw [FY2]
                exact otherAt (G.out.keep BF.out).T HOS2.out (by rw [List.length_replicate]; unfold lenMax; omega) (fun q hq => by rw [List.eq_of_mem_replicate hq]; exact H64.out) HOI2.out HDF HDL.out (by have := H64.out; simp; omega) _⟩
              have HCY2 : Hid (chk (withSigs Y aT (List.replicate (sl + 1) s) cT) = 6) := Lib.hid (chk_sig HCX.out (by rw [FY2]; rfl) (by
                rw [FY2]
                show (List.replicate (sl + 1) s).length = X.SG.length + 1
                rw [List.length_replicate, HSN.out]))
              have HTY2 : Hid (tot (withSigs Y aT (List.replicate (sl + 1) s) cT) < 9223372036854775808) := Lib.hid (by rw [FY2]; exact hbig.out)
              generalize withSigs Y aT (List.replicate (sl + 1) s) cT = Y2 at GY2 HCY2 HTY2
              clear hf eN eRep ET hOt hWf hgt hS5t hOIt BT hb4 hsz HRLT FY2 HDF HOI2 HOS2 FY GY HTY HCY HOS HOI RYR HS5 BC
              have R1 := Lib.hid (G.out.keep BF.out).row
              -- the first key
              have hkn0 : 0 < kn := by
                have F := fine HCX.out
                have h1 := F.s0
                have h2 := F.so
                have h3 := HKN.out
                omega
              obtain ⟨q, hq⟩ : ∃ q, X.K[0]? = some q := ⟨X.K[0]'(by rw [HKN.out]; exact hkn0), List.getElem?_eq_getElem _⟩
              obtain ⟨kb, off, e, hrow⟩ := G.out.T.keyAt hq
              rw [HKA.out] at e
              subst e
              have hqm := List.mem_of_getElem? hq
              have hqk := Lib.hid (HT.out.key q hqm)
              have hrow2 : Hid (∀ W, Below u.heap.size u W → RowAt W kb (off + 0 * 32) (icells .u8 q)) := Lib.hid fun W hW => Below.row hW hrow hrow.lt
              have QSZ : Hid ((icells .u8 q).size = 32) := Lib.hid (by rw [size_icells]; exact hqk.out.1)
              have HQM := Lib.hid hqm
              clear hq hrow hqm
              go_upto_region 23 with (first
                | ((with_reducible refine wl_load33 (b := b) (off := 0) (X := X) ?_ R1.out HR.out ?_); (exact rfl))
                | ((with_reducible refine wl_allocN zero33 ?_); intro gz wg Z hZ1 hZ2 hleg hBg)
                | ((with_reducible refine wl_storeN (n := 40) (A := X.cells) (Z := Z) ?_ ?_ hZ1 hZ2 (Tx.size HR.out) X.one s33 ?_); (exact rfl); (exact rfl); intro wh hh hWh))
              simp only [Act.put]
              have UZ := Lib.hid (Nat.le_trans BF.out.size hleg)
              have BFH : Hid (Below wf.heap.size wf wh) := Lib.hid (hWh.below hBg hleg)
              have BH := Lib.hid (BF.out.trans (BFH.out.mono BF.out.size))
              have gzlt := Lib.hid (Array.getElem?_eq_some_iff.1 hh).1
              have HH := Lib.hid hh
              have HGZ := Lib.hid hleg
              clear hZ1 hZ2 hleg hBg hWh R1 hh
              have HBY : Hid (∀ W, Below wh.heap.size wh W → Below u.heap.size u W) := Lib.hid fun W hW => BH.out.trans (hW.mono BH.out.size)
              have HKX : Hid (∀ W, Below wh.heap.size wh W → RowsAt W (some ⟨kb, off, none⟩) 32 (X.K.map (icells .u8))) := Lib.hid fun W hW => by
                rw [← HKA.out]; exact (G.out.keep (HBY.out W hW)).T.keys
              have HKL : Hid (kn = (X.K.map (icells .u8)).length) := Lib.hid (by rw [List.length_map]; exact HKN.out.symm)
              have HKLT : Hid ((X.K.map (icells .u8)).length < 4000) := Lib.hid (by rw [← HKL.out]; omega)
              have hS : Below wh.heap.size wh wh.drew := (Below.refl _ _).drew
              simp only [List.setIfInBounds_toArray, List.set_cons_zero, List.set_cons_succ]
              refine wp_regionW (n := 14) (S := fun W => Below wh.heap.size wh W) (late := fun j => j == 13) rfl (by kernel_rfl) ?_
              refine takeW (j := 0) (v := .pointer (some ⟨b, 1, none⟩)) rfl rfl rfl (by kernel_rfl) (by kernel_rfl) (by kernel_rfl) (by kernel_rfl) (fun _ _ _ h => h) (fun W hW => by go_simp) hS ?_
              simp only [List.set_cons_zero, List.set_cons_succ]
              refine takeW (j := 1) (v := .pointer (some ⟨b, 5, none⟩)) rfl rfl rfl (by kernel_rfl) (by kernel_rfl) (by kernel_rfl) (by kernel_rfl) (fun _ _ _ h => h) (fun W hW => by go_simp) hS ?_
              simp only [List.set_cons_zero, List.set_cons_succ]
              refine takeW (j := 2) (v := .slice (some ⟨kb, off, none⟩) kn X.kc) rfl rfl rfl (by kernel_rfl) (by kernel_rfl) (by kernel_rfl) (by kernel_rfl) (fun _ _ _ h => h) (fun W hW => exec_load_cell rfl rfl Try.underlying25 rfl (MK.out W (HBY.out W hW)).2.1) hS ?_
              simp only [List.set_cons_zero, List.set_cons_succ]
              refine takeW (j := 4) (v := .pointer (some ⟨b, 1, none⟩)) rfl rfl rfl (by kernel_rfl) (by kernel_rfl) (by kernel_rfl) (by kernel_rfl) (fun _ _ _ h => h) (fun W hW => by go_simp) hS ?_
              simp only [List.set_cons_zero, List.set_cons_succ]
              refine takeW (j := 5) (v := .pointer (some ⟨b, 5, none⟩)) rfl rfl rfl (by kernel_rfl) (by kernel_rfl) (by kernel_rfl) (by kernel_rfl) (fun _ _ _ h => h) (fun W hW => by go_simp) hS ?_
              simp only [List.set_cons_zero, List.set_cons_succ]
              refine takeW (j := 6) (v := .slice (some ⟨kb, off, none⟩) kn X.kc) rfl rfl rfl (by kernel_rfl) (by kernel_rfl) (by kernel_rfl) (by kernel_rfl) (fun _ _ _ h => h) (fun W hW => exec_load_cell rfl rfl Try.underlying25 rfl (MK.out W (HBY.out W hW)).2.1) hS ?_
              simp only [List.set_cons_zero, List.set_cons_succ]
              refine takeW (j := 7) (v := .pointer (some ⟨kb, off + 0 * 32, none⟩)) rfl rfl rfl (by kernel_rfl) (by kernel_rfl) (by kernel_rfl) (by kernel_rfl) (fun _ _ _ h => h) (fun W hW => exec_index_rows (k := .i64) (idx := 0) rfl rfl rfl und25 s41 hkn0) hS ?_
              simp only [List.set_cons_zero, List.set_cons_succ]
              refine takeW (j := 8) (v := kv q) rfl rfl rfl (by kernel_rfl) (by kernel_rfl) (by kernel_rfl) (by kernel_rfl) (fun _ _ _ h => h) (fun W hW => exec_load_sub rfl rfl (hrow2.out W (HBY.out W hW)) und41 rfl (by rw [QSZ.out]; exact s41)) hS ?_
              simp only [List.set_cons_zero, List.set_cons_succ]
              refine twoW (i := 3) (j := 9) (fun v1 v2 W => ∃ gb, v2 = .slice (some ⟨gb, 0, none⟩) 1 1 ∧ OwnAt W wh.heap.size 41 32 v1 (X.K.map (icells .u8)) ∧ W.heap[gb]? = some (.cells (icells .u8 q) 41)) rfl rfl rfl rfl rfl rfl (by kernel_rfl) (by kernel_rfl) (by kernel_rfl) (by decide) (by decide) ?_ ?_ ?_
              · obtain ⟨v1, W1, hr1, ho1, hb1, hg1⟩ := append_own (w := wh.drew) (base := wh.heap.size) 25 25 und25 i41 cells41 pos32 (OwnAt.nil _ _ _ _) HKL.out (HKX.out _ hS) (keys_size G.out.T.key) keys_one someNo (small63 (by simp) HKLT.out) (smallBy (by simp) HKLT.out (by decide)) hS.size
                have hS1 := hb1 _ _ hS (Nat.le_refl _)
                refine ⟨v1, W1, hr1 _ _ _ _ rfl rfl rfl rfl, hS1, _, _, exec_buildSlice_one rfl rfl und25 i41 QSZ.out le32, hS1.alloc hS1.size _, _, rfl, ?_, heap_alloc_new _ _⟩
                exact ho1.keep ((Below.refl _ _).alloc (Nat.le_refl _) _)
              · have hS1 := hS.alloc hS.size (.cells (icells .u8 q) 41)
                have hgb := heap_alloc_new wh.drew (.cells (icells .u8 q) 41)
                obtain ⟨v1, W1, hr1, ho1, hb1, hg1⟩ := append_own (w := wh.drew.alloc (.cells (icells .u8 q) 41)) (base := wh.heap.size) 25 25 und25 i41 cells41 pos32 (OwnAt.nil _ _ _ _) HKL.out (HKX.out _ hS1) (keys_size G.out.T.key) keys_one someNo (small63 (by simp) HKLT.out) (smallBy (by simp) HKLT.out (by decide)) hS1.size
                have hS2 := hb1 _ _ hS1 (Nat.le_refl _)
                exact ⟨_, _, exec_buildSlice_one rfl rfl und25 i41 QSZ.out le32, hS1, v1, W1, hr1 _ _ _ _ rfl rfl rfl rfl, hS2, _, rfl, ho1, (hg1.block _ (Array.getElem?_eq_some_iff.1 hgb).1 (fun e => by cases e)).trans hgb⟩
              rintro v1 v2 W2 ⟨gb, rfl, ho, hgb⟩ hS2
              simp only [List.set_cons_zero, List.set_cons_succ]
              obtain ⟨v3, W3, hr3, ho3, hb3, _⟩ := append_own (w := W2) (base := wh.heap.size) 25 25 und25 i41 cells41 pos32 ho rfl (RowsAt.one hgb 32) (by simpa using QSZ.out) (by simpa using icells_one .u8 q) someNo (small63 HKLT.out (by simp)) (smallBy HKLT.out (by simp) (by decide)) hS2.size
              have hS3 := hb3 _ _ hS2 (Nat.le_refl _)
              refine oneW 10 (by kernel_rfl) (run_val rfl rfl rfl (hr3 _ _ _ _ rfl rfl rfl rfl) ⟨fun _ => hS3, ?_⟩)
              simp only [List.set_cons_zero, List.set_cons_succ]
              refine oneW 11 (by kernel_rfl) (run_val (v := .pointer (some ⟨gz, 1, none⟩)) rfl rfl rfl (by go_simp) ⟨fun _ => hS3, ?_⟩)
              simp only [List.set_cons_zero, List.set_cons_succ]
              refine oneW 12 (by kernel_rfl) (run_val (v := .pointer (some ⟨gz, 5, none⟩)) rfl rfl rfl (by go_simp) ⟨fun _ => hS3, ?_⟩)
              simp only [List.set_cons_zero, List.set_cons_succ]
              have hk1 : X.K.map (icells .u8) ++ [icells .u8 q] = (X.K ++ [q]).map (icells .u8) := by simp
              rw [hk1] at ho3
              obtain ⟨ao3, c3, rfl, hrows3, hn3⟩ := ho3.rows
              obtain ⟨W4, hr4, h4, hW4⟩ := store_one (w := W3) (ty := 25) (t := 33) (b := gz) (off := 5) (C := X.cells) (v := .slice ao3 ((X.K ++ [q]).map (icells .u8)).length c3) (vc_slice _ _ _) (vo_slice _ _ _) ((hS3.block gz gzlt.out).trans HH.out) (lt5X HR.out) size25
              refine oneW 13 (by kernel_rfl) (run_skip rfl rfl rfl (hr4 _ _ _ _ rfl rfl rfl) ⟨fun h => (by cases h), ?_⟩)
              refine doneW (by kernel_rfl) ?_ _
              rw [List.length_map, withKeys_cells HR.out] at h4
              have BU4 := Lib.hid (hW4.below (HBY.out _ hS3) UZ.out)
              have kl1 : (X.K ++ [q]).length ≤ lenMax := by
                rw [List.length_append, HKN.out]
                unfold lenMax
                simp; omega
              have kk1 : ∀ x ∈ X.K ++ [q], IsKey x := by
                intro x hx
                rcases List.mem_append.1 hx with hx | hx
                · exact HT.out.key x hx
                · rw [List.mem_singleton.1 hx]; exact hqk.out
              have hrows4 : RowsAt W4 ao3 32 ((X.K ++ [q]).map (icells .u8)) := ho3.rowsWrote hW4 ((hS3.block gz gzlt.out).trans HH.out) (by decide)
              have GZ : Hid (Got W4 gz (withKeys X ao3 (X.K ++ [q]) c3)) := Lib.hid ⟨h4, TxAt.withKeys (G.out.keep BU4.out).T hrows4 kk1 kl1 hn3⟩
              have HCZ := Lib.hid (chk_twice HCX.out HQM.out ao3 c3)
              have HTZ := Lib.hid (tot_addKey X ao3 q c3)
              have BFW := Lib.hid (hW4.below (BFH.out.trans (hS3.mono BFH.out.size)) HGZ.out)
              have GY4 := Lib.hid (GY2.out.keep BFW.out)
              obtain ⟨tn, htn⟩ : ∃ tn, tot X = tn := ⟨_, rfl⟩
              have btn : tn < 9223372036854775800 := by
                have h1 := hsm.out.2
                have h2 := htn
                unfold tot at h2
                omega
              rw [htn] at HCZ HTZ
              have HTN := Lib.hid htn
              generalize withKeys X ao3 (X.K ++ [q]) c3 = Z at GZ HCZ HTZ
              have bZ : Hid (tot Z < 9223372036854775808) := Lib.hid (by rw [HTZ.out]; omega)
              have RZ := Lib.hid GZ.out.row
              have RZR := Lib.hid GZ.out.T.R
              have RYR := Lib.hid GY4.out.T.R
              replace HCZ := HCZ.out
              clear htn hrows4 kk1 kl1 hk1 hrows3 hn3 ho3 hr3 hr4 h4 hb3 hS3 hW4 ho hgb hS2 hS HKX HKL HKLT HBY HH BH UZ gzlt BFW GY2 BFH HGZ hkn0 HTZ
              by_cases h64 : tn = 64
              · rw [if_pos h64] at HCZ
                subst h64
                go_wp2_with ((with_reducible refine wl_load33 (b := gz) (off := 0) (X := Z) ?_ RZ.out RZR.out ?_); (exact rfl))
                go_at_call 12
                refine (check_any _ GZ.out.T bZ.out).mono ?_
                rw [HCZ]
                rintro e W5 ⟨rfl, hB5⟩
                have RY := Lib.hid (GY4.out.keep hB5).row
                go_wp2_with ((with_reducible refine wl_load33 (b := gy) (off := 0) (X := Y2) ?_ RY.out RYR.out ?_); (exact rfl))
                go_at_call 12
                refine (check_any _ (GY4.out.keep hB5).T HTY2.out).mono ?_
                rw [HCY2.out]
                rintro e W6 ⟨rfl, hB6⟩
                have B6 := Lib.hid (hB5.trans (hB6.mono hB5.size))
                clear hB5 hB6
                have BU6 := Lib.hid (BU4.out.trans (B6.out.mono BU4.out.size))
                have RX := Lib.hid (G.out.keep BU6.out).row
                go_wp2_with ((with_reducible refine wl_load33G (b := b) (off := 0) (X := X) ?_ ?_ RX.out HR.out ?_); (kernel_rfl); (exact rfl))
                go_at_call 10
                refine (total_any _ (G.out.keep BU6.out).T hbig.out).mono ?_
                rw [HTN.out]
                rintro e W7 ⟨rfl, hB7⟩
                go_wp2_with fail
                go_at_call 8
                refine (lives_any _).mono ?_
                rintro e W8 ⟨rfl, hB8⟩
                go_wp2_with fail
                go_ret
                exact ⟨rfl, hB.out.trans ((BU6.out.trans ((hB7.trans (hB8.mono hB7.size)).mono BU6.out.size)).mono hB.out.size)⟩
              · rw [if_neg h64] at HCZ
                go_wp2_with ((with_reducible refine wl_load33 (b := gz) (off := 0) (X := Z) ?_ RZ.out RZR.out ?_); (exact rfl))
                go_at_call 12
                refine (check_any _ GZ.out.T bZ.out).mono ?_
                rw [HCZ]
                rintro e W5 ⟨rfl, hB5⟩
                have RY := Lib.hid (GY4.out.keep hB5).row
                go_wp2_with ((with_reducible refine wl_load33 (b := gy) (off := 0) (X := Y2) ?_ RY.out RYR.out ?_); (exact rfl))
                go_at_call 12
                refine (check_any _ (GY4.out.keep hB5).T HTY2.out).mono ?_
                rw [HCY2.out]
                rintro e W6 ⟨rfl, hB6⟩
                have B6 := Lib.hid (hB5.trans (hB6.mono hB5.size))
                clear hB5 hB6
                go_wp2_with fail
                go_at_call 8
                refine (lives_any _).mono ?_
                rintro e W8 ⟨rfl, hB8⟩
                go_wp2_with fail
                go_ret
                exact ⟨rfl, hB.out.trans ((BU4.out.trans ((B6.out.trans (hB8.mono B6.out.size)).mono BU4.out.size)).mono hB.out.size)⟩
            · have hc0' : ¬ (cx : Int) = 0 := by omega
              go_wp2_with fail
              go_at_call 8
              refine (lives_any _).mono ?_
              rintro e we ⟨rfl, hBe⟩
              go_wp2_with fail
              go_ret
              exact ⟨rfl, hB.out.trans ((BC.out.trans (hBe.mono BC.out.size)).mono hB.out.size)⟩
end Go.Proofs.Ytgjijoielfpmkaa
