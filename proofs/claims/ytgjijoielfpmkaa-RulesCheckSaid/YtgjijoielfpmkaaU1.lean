/- LeftMessage, LeftTx, of a transaction and its twin. -/
import Derived.Test.YtgjijoielfpmkaaT9
set_option linter.unusedVariables false
namespace Go.Proofs.Ytgjijoielfpmkaa
open Go.RowKit

set_option maxRecDepth 20000 in
set_option maxHeartbeats 1600000 in
theorem leftMsg_any {X Y : Tx} {base : Nat} (w : World) (hT : TxAt w X) (hF : Fits X) (hY : MsgTwin w base X Y) : Calls Try.prog 27 #[Y.mval, X.mval] w fun e w' => e = .returned (.bool true) ∧ Below w.heap.size w w' := by
  obtain ⟨kn, hkn⟩ : ∃ kn, X.K.length = kn := ⟨_, rfl⟩
  obtain ⟨il, hiln⟩ : ∃ il, X.I.length = il := ⟨_, rfl⟩
  obtain ⟨ll, hlln⟩ : ∃ ll, X.L.length = ll := ⟨_, rfl⟩
  obtain ⟨xa, hxa⟩ : ∃ xa, X.ia = xa := ⟨_, rfl⟩
  obtain ⟨xl, hxl⟩ : ∃ xl, X.la = xl := ⟨_, rfl⟩
  obtain ⟨ya, hya⟩ : ∃ ya, Y.ia = ya := ⟨_, rfl⟩
  obtain ⟨yl, hyl⟩ : ∃ yl, Y.la = yl := ⟨_, rfl⟩
  have bk := hF.K
  have bi := hF.I
  have bl := hF.L
  rw [hkn] at bk
  rw [hiln] at bi
  rw [hlln] at bl
  have HR := Lib.hid hT.R
  have HRY : Hid (Y.R.length = 32) := Lib.hid (by rw [hY.R]; exact hT.R)
  have HIN := Lib.hid hiln
  have HLN := Lib.hid hlln
  have PI := Lib.hid (fun (i : Nat) (l : Ins) (hl : X.I[i]? = some l) => hY.pairI hT hF hl)
  have PL := Lib.hid (fun (i : Nat) (l : Lk) (hl : X.L[i]? = some l) => hY.pairL hT hF hl)
  rw [hxa, hya] at PI
  rw [hxl, hyl] at PL
  have MX : Hid (∀ (b : Nat) (W : World), W.heap[b]? = some (.cells X.mcells 31) → MC W b X X.ka kn X.kc xa il X.ic xl ll X.lc) := Lib.hid fun b W hb => by
    rw [← hkn, ← hiln, ← hlln, ← hxa, ← hxl]; exact mcX HR.out hb
  obtain ⟨gk, k1, k2, k3⟩ := hY.keys
  have MY : Hid (∀ (b : Nat) (W : World), W.heap[b]? = some (.cells Y.mcells 31) → MC W b X (some ⟨gk, 0, none⟩) kn (kn + 3) ya il Y.ic yl ll Y.lc) := Lib.hid fun b W hb => by
    have := mcY HR.out hY hb
    rw [k1, k2, hkn, hiln, hlln, hya, hyl] at this
    exact this
  have SK : Hid (∀ W, Below w.heap.size w W → Calls Try.prog 38 #[.slice (some ⟨gk, 0, none⟩) kn (kn + 3), .slice X.ka kn X.kc] W fun e w' => e = .returned (.bool true) ∧ Below W.heap.size W w') := Lib.hid fun W hW => by
    have := leftKeys_any (c' := X.kc) W (fun k hk => (hT.key k hk).1) (k3.rowsSome.keep hW) (hT.keys.keep hW) (by rw [hkn]; omega)
    rw [hkn] at this
    exact this
  have SM : Hid (∀ W, Below w.heap.size w W → Calls Try.prog 37 #[Y.mval, X.mval] W fun e w' => e = .returned (.bool true) ∧ Below W.heap.size W w') := Lib.hid fun W hW => sameMsg_any W (hT.keep hW) hF (hY.keep hW)
  clear hT hF hY k1 k2 k3 hkn hiln hlln hxa hxl hya hyl
  go_enter Try.func27, Try.ntmps27
  go_wp2_with (first
    | ((with_reducible refine wl_box31 (dst := some 2) (X := Y) ?_ ?_); (exact rfl); intro b2 w1 hb2 hle2 hB2)
    | ((with_reducible refine wl_box31 (dst := some 3) (X := X) ?_ ?_); (exact rfl); intro b3 w2 hb3 hle3 hB3;
       have hb2' := (hB3.block _ (Array.getElem?_eq_some_iff.1 hb2).1).trans hb2;
       have HU : Hid (∀ W, Below w2.heap.size w2 W → Below w.heap.size w W) := (Lib.hid fun W hW => (hB2.trans (hB3.mono hB2.size)).trans (hW.mono (hB2.trans (hB3.mono hB2.size)).size));
       have MM : Hid (∀ W, Below w2.heap.size w2 W → Below w.heap.size w W ∧ MC W b2 X (some ⟨gk, 0, none⟩) kn (kn + 3) ya il Y.ic yl ll Y.lc ∧ MC W b3 X X.ka kn X.kc xa il X.ic xl ll X.lc) := (Lib.hid fun W hW => ⟨HU.out W hW, MY.out _ _ ((hW.block _ (Array.getElem?_eq_some_iff.1 hb2').1).trans hb2'), MX.out _ _ ((hW.block _ (Array.getElem?_eq_some_iff.1 hb3).1).trans hb3)⟩);
       have R2 := Lib.hid (RowAt.of_cells hb2'); have R3 := Lib.hid (RowAt.of_cells hb3);
       clear hb2 hb2' hb3 hle2 hle3 hB2 hB3 MX MY)
    | ((with_reducible refine wl_load31 (b := b2) (off := 0) (X := Y) ?_ R2.out HRY.out ?_); (exact rfl))
    | ((with_reducible refine wl_load31 (b := b3) (off := 0) (X := X) ?_ R3.out HR.out ?_); (exact rfl))
    | (go_at_call 37; refine (SM.out _ (HU.out _ (Below.refl _ _))).mono ?_; rintro e w3 ⟨rfl, hB4⟩; have p4 := (MM.out _ hB4).2.1.c4; have q4 := (MM.out _ hB4).2.2.c4; replace hB4 := Lib.hid hB4)
    | (go_at_call 38; refine (SK.out _ (HU.out _ hB4.out)).mono ?_; rintro e w4 ⟨rfl, hB5⟩; clear p4 q4; have hB6 := Lib.hid (hB4.out.trans (hB5.mono hB4.out.size)); clear hB5 hB4))
  clear R2 R3
  go_loopw [5] (fun v5 wr => ∃ i : Nat, i ≤ il ∧ v5 = .int .i64 i ∧ Below w2.heap.size w2 wr) (fun v5 _ => il - (intOf v5).toNat)
  case atStart => exact ⟨0, Nat.zero_le _, rfl, hB6.out⟩
  case round =>
    clear hB6
    obtain ⟨i, hi, rfl, hB⟩ := hrel
    have q37 := (MM.out _ hB).2.2.c37
    by_cases hlt : i < il
    · have hlt' : (i : Int) < (il : Int) := by omega
      obtain ⟨l, hl⟩ : ∃ l, X.I[i]? = some l := ⟨X.I[i]'(by rw [HIN.out]; exact hlt), List.getElem?_eq_getElem _⟩
      obtain ⟨yb, yo, xb, xo, ga, gd, rfl, rfl, hp⟩ := PI.out i l hl
      have PR := Lib.hid hp
      have HLT := Lib.hid hlt
      have hS : Below w2.heap.size w2 wr.drew := hB.drew
      clear hp hB hi hl hlt
      go_wp2
      clear q37 hlt'
      refine wp_regionW (n := 30) (S := fun W => Below w2.heap.size w2 W) (late := fun _ => false) rfl (by kernel_rfl) ?_
      refine takeW (j := 0) (v := .pointer (some ⟨b2, 37, none⟩)) rfl rfl rfl (by kernel_rfl) (by kernel_rfl) (by kernel_rfl) (by kernel_rfl) (fun _ _ _ h => h) (fun W hW => by go_simp) hS ?_
      simp only [List.set_cons_zero, List.set_cons_succ]
      refine takeW (j := 1) (v := .slice (some ⟨yb, yo, none⟩) il Y.ic) rfl rfl rfl (by kernel_rfl) (by kernel_rfl) (by kernel_rfl) (by kernel_rfl) (fun _ _ _ h => h) (fun W hW => exec_load_cell rfl rfl und28 rfl (MM.out W hW).2.1.c37) hS ?_
      simp only [List.set_cons_zero, List.set_cons_succ]
      refine takeW (j := 2) (v := .int .i64 (i : Int)) rfl rfl rfl (by kernel_rfl) (by kernel_rfl) (by kernel_rfl) (by kernel_rfl) (fun _ _ _ h => h) (fun W hW => exec_move rfl rfl) hS ?_
      simp only [List.set_cons_zero, List.set_cons_succ]
      refine takeW (j := 3) (v := .pointer (some ⟨yb, yo + i * 3, none⟩)) rfl rfl rfl (by kernel_rfl) (by kernel_rfl) (by kernel_rfl) (by kernel_rfl) (fun _ _ _ h => h) (fun W hW => exec_index_rows rfl rfl rfl und28 s47 HLT.out) hS ?_
      simp only [List.set_cons_zero, List.set_cons_succ]
      refine takeW (j := 4) (v := .pointer (some ⟨yb, yo + i * 3 + 1, none⟩)) rfl rfl rfl (by kernel_rfl) (by kernel_rfl) (by kernel_rfl) (by kernel_rfl) (fun _ _ _ h => h) (fun W hW => by go_simp) hS ?_
      simp only [List.set_cons_zero, List.set_cons_succ]
      refine takeW (j := 5) (v := .slice (some ⟨ga, 0, none⟩) l.A.length (l.A.length + 3)) rfl rfl rfl (by kernel_rfl) (by kernel_rfl) (by kernel_rfl) (by kernel_rfl) (fun _ _ _ h => h) (fun W hW => exec_load_cell rfl rfl und42 rfl (PR.out W (MM.out W hW).1).y1) hS ?_
      simp only [List.set_cons_zero, List.set_cons_succ]
      refine takeW (j := 6) (v := .pointer (some ⟨b3, 37, none⟩)) rfl rfl rfl (by kernel_rfl) (by kernel_rfl) (by kernel_rfl) (by kernel_rfl) (fun _ _ _ h => h) (fun W hW => by go_simp) hS ?_
      simp only [List.set_cons_zero, List.set_cons_succ]
      refine takeW (j := 7) (v := .slice (some ⟨xb, xo, none⟩) il X.ic) rfl rfl rfl (by kernel_rfl) (by kernel_rfl) (by kernel_rfl) (by kernel_rfl) (fun _ _ _ h => h) (fun W hW => exec_load_cell rfl rfl und28 rfl (MM.out W hW).2.2.c37) hS ?_
      simp only [List.set_cons_zero, List.set_cons_succ]
      refine takeW (j := 8) (v := .int .i64 (i : Int)) rfl rfl rfl (by kernel_rfl) (by kernel_rfl) (by kernel_rfl) (by kernel_rfl) (fun _ _ _ h => h) (fun W hW => exec_move rfl rfl) hS ?_
      simp only [List.set_cons_zero, List.set_cons_succ]
      refine takeW (j := 9) (v := .pointer (some ⟨xb, xo + i * 3, none⟩)) rfl rfl rfl (by kernel_rfl) (by kernel_rfl) (by kernel_rfl) (by kernel_rfl) (fun _ _ _ h => h) (fun W hW => exec_index_rows rfl rfl rfl und28 s47 HLT.out) hS ?_
      simp only [List.set_cons_zero, List.set_cons_succ]
      refine takeW (j := 10) (v := .pointer (some ⟨xb, xo + i * 3 + 1, none⟩)) rfl rfl rfl (by kernel_rfl) (by kernel_rfl) (by kernel_rfl) (by kernel_rfl) (fun _ _ _ h => h) (fun W hW => by go_simp) hS ?_
      simp only [List.set_cons_zero, List.set_cons_succ]
      refine takeW (j := 11) (v := .slice l.aa l.A.length l.ac) rfl rfl rfl (by kernel_rfl) (by kernel_rfl) (by kernel_rfl) (by kernel_rfl) (fun _ _ _ h => h) (fun W hW => exec_load_cell rfl rfl und42 rfl (PR.out W (MM.out W hW).1).x1) hS ?_
      simp only [List.set_cons_zero, List.set_cons_succ]
      refine oneW 12 (by kernel_rfl) (run_callG (f := 39) (args := #[.slice (some ⟨ga, 0, none⟩) l.A.length (l.A.length + 3), .slice l.aa l.A.length l.ac]) rfl rfl (by kernel_rfl) (exec_call2 rfl rfl rfl Try.func39 (by decide) rfl) ((PR.out _ (MM.out _ hS).1).l1) ?_)
      rintro e Wc12 ⟨rfl, hbc12⟩
      replace hS := hS.trans (hbc12.mono hS.size)
      refine ⟨_, rfl, fun _ => hS, ?_⟩
      simp only [List.set_cons_zero, List.set_cons_succ]
      refine takeW (j := 13) (v := .bool false) rfl rfl rfl (by kernel_rfl) (by kernel_rfl) (by kernel_rfl) (by kernel_rfl) (fun _ _ _ h => h) (fun W hW => by go_simp) hS ?_
      simp only [List.set_cons_zero, List.set_cons_succ]
      refine takeW (j := 14) (v := .bool false) rfl rfl rfl (by kernel_rfl) (by kernel_rfl) (by kernel_rfl) (by kernel_rfl) (fun _ _ _ h => h) (fun W hW => exec_move rfl rfl) hS ?_
      simp only [List.set_cons_zero, List.set_cons_succ]
      refine takeG (j := 15) (v := .pointer (some ⟨b2, 37, none⟩)) rfl rfl (by kernel_rfl) (by kernel_rfl) (by kernel_rfl) (by kernel_rfl) (by kernel_rfl) (fun _ _ _ h => h) (fun W hW => by go_simp) hS ?_
      simp only [List.set_cons_zero, List.set_cons_succ]
      refine takeG (j := 16) (v := .slice (some ⟨yb, yo, none⟩) il Y.ic) rfl rfl (by kernel_rfl) (by kernel_rfl) (by kernel_rfl) (by kernel_rfl) (by kernel_rfl) (fun _ _ _ h => h) (fun W hW => exec_load_cell rfl rfl und28 rfl (MM.out W hW).2.1.c37) hS ?_
      simp only [List.set_cons_zero, List.set_cons_succ]
      refine takeG (j := 17) (v := .int .i64 (i : Int)) rfl rfl (by kernel_rfl) (by kernel_rfl) (by kernel_rfl) (by kernel_rfl) (by kernel_rfl) (fun _ _ _ h => h) (fun W hW => exec_move rfl rfl) hS ?_
      simp only [List.set_cons_zero, List.set_cons_succ]
      refine takeG (j := 18) (v := .pointer (some ⟨yb, yo + i * 3, none⟩)) rfl rfl (by kernel_rfl) (by kernel_rfl) (by kernel_rfl) (by kernel_rfl) (by kernel_rfl) (fun _ _ _ h => h) (fun W hW => exec_index_rows rfl rfl rfl und28 s47 HLT.out) hS ?_
      simp only [List.set_cons_zero, List.set_cons_succ]
      refine takeG (j := 19) (v := .pointer (some ⟨yb, yo + i * 3 + 2, none⟩)) rfl rfl (by kernel_rfl) (by kernel_rfl) (by kernel_rfl) (by kernel_rfl) (by kernel_rfl) (fun _ _ _ h => h) (fun W hW => by go_simp) hS ?_
      simp only [List.set_cons_zero, List.set_cons_succ]
      refine takeG (j := 20) (v := .slice (some ⟨gd, 0, none⟩) l.D.length (l.D.length + 3)) rfl rfl (by kernel_rfl) (by kernel_rfl) (by kernel_rfl) (by kernel_rfl) (by kernel_rfl) (fun _ _ _ h => h) (fun W hW => exec_load_cell rfl rfl und42 rfl (PR.out W (MM.out W hW).1).y2) hS ?_
      simp only [List.set_cons_zero, List.set_cons_succ]
      refine takeG (j := 21) (v := .pointer (some ⟨b3, 37, none⟩)) rfl rfl (by kernel_rfl) (by kernel_rfl) (by kernel_rfl) (by kernel_rfl) (by kernel_rfl) (fun _ _ _ h => h) (fun W hW => by go_simp) hS ?_
      simp only [List.set_cons_zero, List.set_cons_succ]
      refine takeG (j := 22) (v := .slice (some ⟨xb, xo, none⟩) il X.ic) rfl rfl (by kernel_rfl) (by kernel_rfl) (by kernel_rfl) (by kernel_rfl) (by kernel_rfl) (fun _ _ _ h => h) (fun W hW => exec_load_cell rfl rfl und28 rfl (MM.out W hW).2.2.c37) hS ?_
      simp only [List.set_cons_zero, List.set_cons_succ]
      refine takeG (j := 23) (v := .int .i64 (i : Int)) rfl rfl (by kernel_rfl) (by kernel_rfl) (by kernel_rfl) (by kernel_rfl) (by kernel_rfl) (fun _ _ _ h => h) (fun W hW => exec_move rfl rfl) hS ?_
      simp only [List.set_cons_zero, List.set_cons_succ]
      refine takeG (j := 24) (v := .pointer (some ⟨xb, xo + i * 3, none⟩)) rfl rfl (by kernel_rfl) (by kernel_rfl) (by kernel_rfl) (by kernel_rfl) (by kernel_rfl) (fun _ _ _ h => h) (fun W hW => exec_index_rows rfl rfl rfl und28 s47 HLT.out) hS ?_
      simp only [List.set_cons_zero, List.set_cons_succ]
      refine takeG (j := 25) (v := .pointer (some ⟨xb, xo + i * 3 + 2, none⟩)) rfl rfl (by kernel_rfl) (by kernel_rfl) (by kernel_rfl) (by kernel_rfl) (by kernel_rfl) (fun _ _ _ h => h) (fun W hW => by go_simp) hS ?_
      simp only [List.set_cons_zero, List.set_cons_succ]
      refine takeG (j := 26) (v := .slice l.da l.D.length l.dc) rfl rfl (by kernel_rfl) (by kernel_rfl) (by kernel_rfl) (by kernel_rfl) (by kernel_rfl) (fun _ _ _ h => h) (fun W hW => exec_load_cell rfl rfl und42 rfl (PR.out W (MM.out W hW).1).x2) hS ?_
      simp only [List.set_cons_zero, List.set_cons_succ]
      refine oneW 27 (by kernel_rfl) (run_callG (f := 39) (args := #[.slice (some ⟨gd, 0, none⟩) l.D.length (l.D.length + 3), .slice l.da l.D.length l.dc]) rfl rfl (by kernel_rfl) (exec_call2 rfl rfl rfl Try.func39 (by decide) rfl) ((PR.out _ (MM.out _ hS).1).l2) ?_)
      rintro e Wc27 ⟨rfl, hbc27⟩
      replace hS := hS.trans (hbc27.mono hS.size)
      refine ⟨_, rfl, fun _ => hS, ?_⟩
      simp only [List.set_cons_zero, List.set_cons_succ]
      refine takeG (j := 28) (v := .bool false) rfl rfl (by kernel_rfl) (by kernel_rfl) (by kernel_rfl) (by kernel_rfl) (by kernel_rfl) (fun _ _ _ h => h) (fun W hW => by go_simp) hS ?_
      simp only [List.set_cons_zero, List.set_cons_succ]
      refine takeW (j := 29) (v := .bool false) rfl rfl rfl (by kernel_rfl) (by kernel_rfl) (by kernel_rfl) (by kernel_rfl) (fun _ _ _ h => h) (fun W hW => by go_simp) hS ?_
      simp only [List.set_cons_zero, List.set_cons_succ]
      refine doneW (by kernel_rfl) ?_ _
      have HB := Lib.hid hS
      clear hS hbc12 hbc27 PR
      have hlt := HLT.out
      go_wp2_with fail
      go_roundw
      case rel => exact ⟨i + 1, by omega, by go_num, HB.out⟩
      case measure => simp [intOf]; omega
    · obtain rfl : il = i := by omega
      have hlt' : ¬ (il : Int) < (il : Int) := by omega
      have HB := Lib.hid hB
      clear hB hi hlt
      go_wp2_with fail
      clear hlt' q37
      go_loopw [6] (fun v6 wr => ∃ i : Nat, i ≤ ll ∧ v6 = .int .i64 i ∧ Below w2.heap.size w2 wr) (fun v6 _ => ll - (intOf v6).toNat)
      case atStart => exact ⟨0, Nat.zero_le _, rfl, HB.out⟩
      case round =>
        clear HB
        obtain ⟨i, hi, rfl, hB⟩ := hrel
        have q38 := (MM.out _ hB).2.2.c38
        by_cases hlt : i < ll
        · have hlt' : (i : Int) < (ll : Int) := by omega
          obtain ⟨l, hl⟩ : ∃ l, X.L[i]? = some l := ⟨X.L[i]'(by rw [HLN.out]; exact hlt), List.getElem?_eq_getElem _⟩
          obtain ⟨yb, yo, xb, xo, ga, gd, rfl, rfl, hp⟩ := PL.out i l hl
          have PR := Lib.hid hp
          have HLT := Lib.hid hlt
          have hS : Below w2.heap.size w2 wr.drew := hB.drew
          clear hp hB hi hl hlt
          go_wp2
          clear q38 hlt'
          refine wp_regionW (n := 30) (S := fun W => Below w2.heap.size w2 W) (late := fun _ => false) rfl (by kernel_rfl) ?_
          refine takeW (j := 0) (v := .pointer (some ⟨b2, 38, none⟩)) rfl rfl rfl (by kernel_rfl) (by kernel_rfl) (by kernel_rfl) (by kernel_rfl) (fun _ _ _ h => h) (fun W hW => by go_simp) hS ?_
          simp only [List.set_cons_zero, List.set_cons_succ]
          refine takeW (j := 1) (v := .slice (some ⟨yb, yo, none⟩) ll Y.lc) rfl rfl rfl (by kernel_rfl) (by kernel_rfl) (by kernel_rfl) (by kernel_rfl) (fun _ _ _ h => h) (fun W hW => exec_load_cell rfl rfl und29 rfl (MM.out W hW).2.1.c38) hS ?_
          simp only [List.set_cons_zero, List.set_cons_succ]
          refine takeW (j := 2) (v := .int .i64 (i : Int)) rfl rfl rfl (by kernel_rfl) (by kernel_rfl) (by kernel_rfl) (by kernel_rfl) (fun _ _ _ h => h) (fun W hW => exec_move rfl rfl) hS ?_
          simp only [List.set_cons_zero, List.set_cons_succ]
          refine takeW (j := 3) (v := .pointer (some ⟨yb, yo + i * 34, none⟩)) rfl rfl rfl (by kernel_rfl) (by kernel_rfl) (by kernel_rfl) (by kernel_rfl) (fun _ _ _ h => h) (fun W hW => exec_index_rows rfl rfl rfl und29 s44 HLT.out) hS ?_
          simp only [List.set_cons_zero, List.set_cons_succ]
          refine takeW (j := 4) (v := .pointer (some ⟨yb, yo + i * 34 + 32, none⟩)) rfl rfl rfl (by kernel_rfl) (by kernel_rfl) (by kernel_rfl) (by kernel_rfl) (fun _ _ _ h => h) (fun W hW => by go_simp) hS ?_
          simp only [List.set_cons_zero, List.set_cons_succ]
          refine takeW (j := 5) (v := .slice (some ⟨ga, 0, none⟩) l.W.length (l.W.length + 3)) rfl rfl rfl (by kernel_rfl) (by kernel_rfl) (by kernel_rfl) (by kernel_rfl) (fun _ _ _ h => h) (fun W hW => exec_load_cell rfl rfl und42 rfl (PR.out W (MM.out W hW).1).y1) hS ?_
          simp only [List.set_cons_zero, List.set_cons_succ]
          refine takeW (j := 6) (v := .pointer (some ⟨b3, 38, none⟩)) rfl rfl rfl (by kernel_rfl) (by kernel_rfl) (by kernel_rfl) (by kernel_rfl) (fun _ _ _ h => h) (fun W hW => by go_simp) hS ?_
          simp only [List.set_cons_zero, List.set_cons_succ]
          refine takeW (j := 7) (v := .slice (some ⟨xb, xo, none⟩) ll X.lc) rfl rfl rfl (by kernel_rfl) (by kernel_rfl) (by kernel_rfl) (by kernel_rfl) (fun _ _ _ h => h) (fun W hW => exec_load_cell rfl rfl und29 rfl (MM.out W hW).2.2.c38) hS ?_
          simp only [List.set_cons_zero, List.set_cons_succ]
          refine takeW (j := 8) (v := .int .i64 (i : Int)) rfl rfl rfl (by kernel_rfl) (by kernel_rfl) (by kernel_rfl) (by kernel_rfl) (fun _ _ _ h => h) (fun W hW => exec_move rfl rfl) hS ?_
          simp only [List.set_cons_zero, List.set_cons_succ]
          refine takeW (j := 9) (v := .pointer (some ⟨xb, xo + i * 34, none⟩)) rfl rfl rfl (by kernel_rfl) (by kernel_rfl) (by kernel_rfl) (by kernel_rfl) (fun _ _ _ h => h) (fun W hW => exec_index_rows rfl rfl rfl und29 s44 HLT.out) hS ?_
          simp only [List.set_cons_zero, List.set_cons_succ]
          refine takeW (j := 10) (v := .pointer (some ⟨xb, xo + i * 34 + 32, none⟩)) rfl rfl rfl (by kernel_rfl) (by kernel_rfl) (by kernel_rfl) (by kernel_rfl) (fun _ _ _ h => h) (fun W hW => by go_simp) hS ?_
          simp only [List.set_cons_zero, List.set_cons_succ]
          refine takeW (j := 11) (v := .slice l.wa l.W.length l.wc) rfl rfl rfl (by kernel_rfl) (by kernel_rfl) (by kernel_rfl) (by kernel_rfl) (fun _ _ _ h => h) (fun W hW => exec_load_cell rfl rfl und42 rfl (PR.out W (MM.out W hW).1).x1) hS ?_
          simp only [List.set_cons_zero, List.set_cons_succ]
          refine oneW 12 (by kernel_rfl) (run_callG (f := 39) (args := #[.slice (some ⟨ga, 0, none⟩) l.W.length (l.W.length + 3), .slice l.wa l.W.length l.wc]) rfl rfl (by kernel_rfl) (exec_call2 rfl rfl rfl Try.func39 (by decide) rfl) ((PR.out _ (MM.out _ hS).1).l1) ?_)
          rintro e Wc12 ⟨rfl, hbc12⟩
          replace hS := hS.trans (hbc12.mono hS.size)
          refine ⟨_, rfl, fun _ => hS, ?_⟩
          simp only [List.set_cons_zero, List.set_cons_succ]
          refine takeW (j := 13) (v := .bool false) rfl rfl rfl (by kernel_rfl) (by kernel_rfl) (by kernel_rfl) (by kernel_rfl) (fun _ _ _ h => h) (fun W hW => by go_simp) hS ?_
          simp only [List.set_cons_zero, List.set_cons_succ]
          refine takeW (j := 14) (v := .bool false) rfl rfl rfl (by kernel_rfl) (by kernel_rfl) (by kernel_rfl) (by kernel_rfl) (fun _ _ _ h => h) (fun W hW => exec_move rfl rfl) hS ?_
          simp only [List.set_cons_zero, List.set_cons_succ]
          refine takeG (j := 15) (v := .pointer (some ⟨b2, 38, none⟩)) rfl rfl (by kernel_rfl) (by kernel_rfl) (by kernel_rfl) (by kernel_rfl) (by kernel_rfl) (fun _ _ _ h => h) (fun W hW => by go_simp) hS ?_
          simp only [List.set_cons_zero, List.set_cons_succ]
          refine takeG (j := 16) (v := .slice (some ⟨yb, yo, none⟩) ll Y.lc) rfl rfl (by kernel_rfl) (by kernel_rfl) (by kernel_rfl) (by kernel_rfl) (by kernel_rfl) (fun _ _ _ h => h) (fun W hW => exec_load_cell rfl rfl und29 rfl (MM.out W hW).2.1.c38) hS ?_
          simp only [List.set_cons_zero, List.set_cons_succ]
          refine takeG (j := 17) (v := .int .i64 (i : Int)) rfl rfl (by kernel_rfl) (by kernel_rfl) (by kernel_rfl) (by kernel_rfl) (by kernel_rfl) (fun _ _ _ h => h) (fun W hW => exec_move rfl rfl) hS ?_
          simp only [List.set_cons_zero, List.set_cons_succ]
          refine takeG (j := 18) (v := .pointer (some ⟨yb, yo + i * 34, none⟩)) rfl rfl (by kernel_rfl) (by kernel_rfl) (by kernel_rfl) (by kernel_rfl) (by kernel_rfl) (fun _ _ _ h => h) (fun W hW => exec_index_rows rfl rfl rfl und29 s44 HLT.out) hS ?_
          simp only [List.set_cons_zero, List.set_cons_succ]
          refine takeG (j := 19) (v := .pointer (some ⟨yb, yo + i * 34 + 33, none⟩)) rfl rfl (by kernel_rfl) (by kernel_rfl) (by kernel_rfl) (by kernel_rfl) (by kernel_rfl) (fun _ _ _ h => h) (fun W hW => by go_simp) hS ?_
          simp only [List.set_cons_zero, List.set_cons_succ]
          refine takeG (j := 20) (v := .slice (some ⟨gd, 0, none⟩) l.Rd.length (l.Rd.length + 3)) rfl rfl (by kernel_rfl) (by kernel_rfl) (by kernel_rfl) (by kernel_rfl) (by kernel_rfl) (fun _ _ _ h => h) (fun W hW => exec_load_cell rfl rfl und42 rfl (PR.out W (MM.out W hW).1).y2) hS ?_
          simp only [List.set_cons_zero, List.set_cons_succ]
          refine takeG (j := 21) (v := .pointer (some ⟨b3, 38, none⟩)) rfl rfl (by kernel_rfl) (by kernel_rfl) (by kernel_rfl) (by kernel_rfl) (by kernel_rfl) (fun _ _ _ h => h) (fun W hW => by go_simp) hS ?_
          simp only [List.set_cons_zero, List.set_cons_succ]
          refine takeG (j := 22) (v := .slice (some ⟨xb, xo, none⟩) ll X.lc) rfl rfl (by kernel_rfl) (by kernel_rfl) (by kernel_rfl) (by kernel_rfl) (by kernel_rfl) (fun _ _ _ h => h) (fun W hW => exec_load_cell rfl rfl und29 rfl (MM.out W hW).2.2.c38) hS ?_
          simp only [List.set_cons_zero, List.set_cons_succ]
          refine takeG (j := 23) (v := .int .i64 (i : Int)) rfl rfl (by kernel_rfl) (by kernel_rfl) (by kernel_rfl) (by kernel_rfl) (by kernel_rfl) (fun _ _ _ h => h) (fun W hW => exec_move rfl rfl) hS ?_
          simp only [List.set_cons_zero, List.set_cons_succ]
          refine takeG (j := 24) (v := .pointer (some ⟨xb, xo + i * 34, none⟩)) rfl rfl (by kernel_rfl) (by kernel_rfl) (by kernel_rfl) (by kernel_rfl) (by kernel_rfl) (fun _ _ _ h => h) (fun W hW => exec_index_rows rfl rfl rfl und29 s44 HLT.out) hS ?_
          simp only [List.set_cons_zero, List.set_cons_succ]
          refine takeG (j := 25) (v := .pointer (some ⟨xb, xo + i * 34 + 33, none⟩)) rfl rfl (by kernel_rfl) (by kernel_rfl) (by kernel_rfl) (by kernel_rfl) (by kernel_rfl) (fun _ _ _ h => h) (fun W hW => by go_simp) hS ?_
          simp only [List.set_cons_zero, List.set_cons_succ]
          refine takeG (j := 26) (v := .slice l.ra l.Rd.length l.rc) rfl rfl (by kernel_rfl) (by kernel_rfl) (by kernel_rfl) (by kernel_rfl) (by kernel_rfl) (fun _ _ _ h => h) (fun W hW => exec_load_cell rfl rfl und42 rfl (PR.out W (MM.out W hW).1).x2) hS ?_
          simp only [List.set_cons_zero, List.set_cons_succ]
          refine oneW 27 (by kernel_rfl) (run_callG (f := 39) (args := #[.slice (some ⟨gd, 0, none⟩) l.Rd.length (l.Rd.length + 3), .slice l.ra l.Rd.length l.rc]) rfl rfl (by kernel_rfl) (exec_call2 rfl rfl rfl Try.func39 (by decide) rfl) ((PR.out _ (MM.out _ hS).1).l2) ?_)
          rintro e Wc27 ⟨rfl, hbc27⟩
          replace hS := hS.trans (hbc27.mono hS.size)
          refine ⟨_, rfl, fun _ => hS, ?_⟩
          simp only [List.set_cons_zero, List.set_cons_succ]
          refine takeG (j := 28) (v := .bool false) rfl rfl (by kernel_rfl) (by kernel_rfl) (by kernel_rfl) (by kernel_rfl) (by kernel_rfl) (fun _ _ _ h => h) (fun W hW => by go_simp) hS ?_
          simp only [List.set_cons_zero, List.set_cons_succ]
          refine takeW (j := 29) (v := .bool false) rfl rfl rfl (by kernel_rfl) (by kernel_rfl) (by kernel_rfl) (by kernel_rfl) (fun _ _ _ h => h) (fun W hW => by go_simp) hS ?_
          simp only [List.set_cons_zero, List.set_cons_succ]
          refine doneW (by kernel_rfl) ?_ _
          have HB := Lib.hid hS
          clear hS hbc12 hbc27 PR
          have hlt := HLT.out
          go_wp2_with fail
          go_roundw
          case rel => exact ⟨i + 1, by omega, by go_num, HB.out⟩
          case measure => simp [intOf]; omega
        · obtain rfl : ll = i := by omega
          have hlt' : ¬ (ll : Int) < (ll : Int) := by omega
          have HB := Lib.hid hB
          clear hB hi hlt
          go_wp2_with fail
          go_ret
          exact ⟨rfl, HU.out _ HB.out⟩

set_option maxRecDepth 20000 in
set_option maxHeartbeats 1600000 in
theorem leftTx_any {X Y : Tx} {base : Nat} (w : World) (hT : TxAt w X) (hF : Fits X) (hY : TxTwin w base X Y) : Calls Try.prog 14 #[Y.val, X.val] w fun e w' => e = .returned (.bool true) ∧ Below w.heap.size w w' := by
  obtain ⟨sl, hsl⟩ : ∃ sl, X.sl = sl := ⟨_, rfl⟩
  have HR := Lib.hid hT.R
  have HRY : Hid (Y.R.length = 32) := Lib.hid (by rw [hY.R]; exact hT.R)
  obtain ⟨gs, s1, s2, s3⟩ := hY.sigs
  have MX : Hid (∀ (b : Nat) (W : World), W.heap[b]? = some (.cells X.cells 33) → W.cell? ⟨b, 0, none⟩ = some (.slice X.sa sl X.sc)) := Lib.hid fun b W hb => by
    rw [← hsl]; exact (txCells HR.out hb).c0
  have MY : Hid (∀ (b : Nat) (W : World), W.heap[b]? = some (.cells Y.cells 33) → W.cell? ⟨b, 0, none⟩ = some (.slice (some ⟨gs, 0, none⟩) sl (sl + 3))) := Lib.hid fun b W hb => by
    have := (txCells HRY.out hb).c0
    have e : Y.sl = X.sl := by unfold Tx.sl; rw [hY.SG]
    rw [e, s1, s2, hsl] at this
    exact this
  have SL : Hid (∀ W, Below w.heap.size w W → Calls Try.prog 26 #[.slice (some ⟨gs, 0, none⟩) sl (sl + 3), .slice X.sa sl X.sc, kv markS] W fun e w' => e = .returned (.bool true) ∧ Below W.heap.size W w') := Lib.hid fun W hW => by
    have e : X.SG.length = sl := hsl
    have := left26_any (c' := X.sc) W (fun k hk => hT.sig k hk) markS_len (s3.rowsSome.keep hW) (hT.sigs.keep hW) (by have := hF.S; omega)
    rw [e] at this
    exact this
  have SM : Hid (∀ W, Below w.heap.size w W → Calls Try.prog 27 #[Y.mval, X.mval] W fun e w' => e = .returned (.bool true) ∧ Below W.heap.size W w') := Lib.hid fun W hW => leftMsg_any W (hT.keep hW) hF (hY.toMsgTwin.keep hW)
  clear hT hF hY s1 s2 s3 hsl
  go_enter Try.func14, Try.ntmps14
  go_wp2_with (first
    | ((with_reducible refine wl_box33 (dst := some 2) (X := Y) ?_ ?_); (exact rfl); intro b2 w1 hb2 hle2 hB2)
    | ((with_reducible refine wl_box33 (dst := some 3) (X := X) ?_ ?_); (exact rfl); intro b3 w2 hb3 hle3 hB3;
       have hb2' := (hB3.block _ (Array.getElem?_eq_some_iff.1 hb2).1).trans hb2;
       have HU : Hid (∀ W, Below w2.heap.size w2 W → Below w.heap.size w W) := (Lib.hid fun W hW => (hB2.trans (hB3.mono hB2.size)).trans (hW.mono (hB2.trans (hB3.mono hB2.size)).size));
       have K2 : Hid (∀ W, Below w2.heap.size w2 W → W.heap[b2]? = some (.cells Y.cells 33)) := (Lib.hid fun W hW => (hW.block _ (Array.getElem?_eq_some_iff.1 hb2').1).trans hb2');
       have K3 : Hid (∀ W, Below w2.heap.size w2 W → W.heap[b3]? = some (.cells X.cells 33)) := (Lib.hid fun W hW => (hW.block _ (Array.getElem?_eq_some_iff.1 hb3).1).trans hb3);
       clear hb2 hb2' hb3 hle2 hle3 hB2 hB3))
  have hS : Below w2.heap.size w2 w2.drew := (Below.refl _ _).drew
  try simp only [Act.put, List.setIfInBounds_toArray, List.set_cons_zero, List.set_cons_succ]
  refine wp_regionW (n := 14) (S := fun W => Below w2.heap.size w2 W) (late := fun _ => false) rfl (by kernel_rfl) ?_
  refine takeW (j := 0) (v := .pointer (some ⟨b2, 0, none⟩)) rfl rfl rfl (by kernel_rfl) (by kernel_rfl) (by kernel_rfl) (by kernel_rfl) (fun _ _ _ h => h) (fun W hW => by go_simp) hS ?_
  simp only [List.set_cons_zero, List.set_cons_succ]
  refine takeW (j := 1) (v := .slice (some ⟨gs, 0, none⟩) sl (sl + 3)) rfl rfl rfl (by kernel_rfl) (by kernel_rfl) (by kernel_rfl) (by kernel_rfl) (fun _ _ _ h => h) (fun W hW => exec_load_cell rfl rfl und22 rfl (MY.out _ _ (K2.out W hW))) hS ?_
  simp only [List.set_cons_zero, List.set_cons_succ]
  refine takeW (j := 2) (v := .pointer (some ⟨b3, 0, none⟩)) rfl rfl rfl (by kernel_rfl) (by kernel_rfl) (by kernel_rfl) (by kernel_rfl) (fun _ _ _ h => h) (fun W hW => by go_simp) hS ?_
  simp only [List.set_cons_zero, List.set_cons_succ]
  refine takeW (j := 3) (v := .slice X.sa sl X.sc) rfl rfl rfl (by kernel_rfl) (by kernel_rfl) (by kernel_rfl) (by kernel_rfl) (fun _ _ _ h => h) (fun W hW => exec_load_cell rfl rfl und22 rfl (MX.out _ _ (K3.out W hW))) hS ?_
  simp only [List.set_cons_zero, List.set_cons_succ]
  refine oneW 4 (by kernel_rfl) (run_callG (f := 18) (args := #[]) rfl rfl (by kernel_rfl) (exec_call0 rfl Try.func18 (by decide) rfl) (markSig_any _) ?_)
  rintro e Wc4 ⟨rfl, hbc4⟩
  replace hS := hS.trans (hbc4.mono hS.size)
  refine ⟨_, rfl, fun _ => hS, ?_⟩
  simp only [List.set_cons_zero, List.set_cons_succ]
  refine oneW 5 (by kernel_rfl) (run_callG (f := 26) (args := #[.slice (some ⟨gs, 0, none⟩) sl (sl + 3), .slice X.sa sl X.sc, kv markS]) rfl rfl (by kernel_rfl) (exec_call3 rfl rfl rfl rfl Try.func26 (by decide) rfl) (SL.out _ (HU.out _ hS)) ?_)
  rintro e Wc5 ⟨rfl, hbc5⟩
  replace hS := hS.trans (hbc5.mono hS.size)
  refine ⟨_, rfl, fun _ => hS, ?_⟩
  simp only [List.set_cons_zero, List.set_cons_succ]
  refine takeW (j := 6) (v := .bool true) rfl rfl rfl (by kernel_rfl) (by kernel_rfl) (by kernel_rfl) (by kernel_rfl) (fun _ _ _ h => h) (fun W hW => exec_move rfl rfl) hS ?_
  simp only [List.set_cons_zero, List.set_cons_succ]
  refine takeG (j := 7) (v := .pointer (some ⟨b2, 1, none⟩)) rfl rfl (by kernel_rfl) (by kernel_rfl) (by kernel_rfl) (by kernel_rfl) (by kernel_rfl) (fun _ _ _ h => h) (fun W hW => by go_simp) hS ?_
  simp only [List.set_cons_zero, List.set_cons_succ]
  refine takeG (j := 8) (v := Y.mval) rfl rfl (by kernel_rfl) (by kernel_rfl) (by kernel_rfl) (by kernel_rfl) (by kernel_rfl) (fun _ _ _ h => h) (fun W hW => exec_load_sub rfl rfl (txMRow (K2.out W hW)) Try.underlying31 rfl (by rw [Tx.msize HRY.out]; exact s31)) hS ?_
  simp only [List.set_cons_zero, List.set_cons_succ]
  refine takeG (j := 9) (v := .pointer (some ⟨b3, 1, none⟩)) rfl rfl (by kernel_rfl) (by kernel_rfl) (by kernel_rfl) (by kernel_rfl) (by kernel_rfl) (fun _ _ _ h => h) (fun W hW => by go_simp) hS ?_
  simp only [List.set_cons_zero, List.set_cons_succ]
  refine takeG (j := 10) (v := X.mval) rfl rfl (by kernel_rfl) (by kernel_rfl) (by kernel_rfl) (by kernel_rfl) (by kernel_rfl) (fun _ _ _ h => h) (fun W hW => exec_load_sub rfl rfl (txMRow (K3.out W hW)) Try.underlying31 rfl (by rw [Tx.msize HR.out]; exact s31)) hS ?_
  simp only [List.set_cons_zero, List.set_cons_succ]
  refine oneW 11 (by kernel_rfl) (run_callG (f := 27) (args := #[Y.mval, X.mval]) rfl rfl (by kernel_rfl) (exec_call2 rfl rfl rfl Try.func27 (by decide) rfl) (SM.out _ (HU.out _ hS)) ?_)
  rintro e Wc11 ⟨rfl, hbc11⟩
  replace hS := hS.trans (hbc11.mono hS.size)
  refine ⟨_, rfl, fun _ => hS, ?_⟩
  simp only [List.set_cons_zero, List.set_cons_succ]
  refine takeW (j := 12) (v := .bool true) rfl rfl rfl (by kernel_rfl) (by kernel_rfl) (by kernel_rfl) (by kernel_rfl) (fun _ _ _ h => h) (fun W hW => by go_simp) hS ?_
  simp only [List.set_cons_zero, List.set_cons_succ]
  refine takeW (j := 13) (v := .bool true) rfl rfl rfl (by kernel_rfl) (by kernel_rfl) (by kernel_rfl) (by kernel_rfl) (fun _ _ _ h => h) (fun W hW => exec_assign rfl rfl) hS ?_
  simp only [List.set_cons_zero, List.set_cons_succ]
  refine doneW (by kernel_rfl) ?_ _
  have HB := Lib.hid hS
  clear hS hbc4 hbc5 hbc11
  go_wp2_with fail
  go_ret
  exact ⟨rfl, HU.out _ HB.out⟩
end Go.Proofs.Ytgjijoielfpmkaa
