/- RulesCheck. -/
import Derived.Test.YtgjijoielfpmkaaU1
import Derived.Test.YtgjijoielfpmkaaT1b
set_option linter.unusedVariables false
namespace Go.Proofs.Ytgjijoielfpmkaa
open Go.RowKit

set_option maxRecDepth 20000 in
set_option maxHeartbeats 1600000 in
theorem rulesCheck_any {X : Tx} (w : World) (hT : TxAt w X) : Calls Try.prog 3 #[X.val] w fun e w' => e = .returned (.bool true) ∧ Below w.heap.size w w' := by
  have HR := Lib.hid hT.R
  have HT := Lib.hid hT
  have GR : Hid (∀ W, Below w.heap.size w W → Calls Try.prog 7 #[X.val] W (GreatSaid (Small X) W)) := Lib.hid fun W hW => great_any W (HT.out.keep hW)
  clear hT
  go_enter Try.func3, Try.ntmps3
  go_wp2_with (first
    | ((with_reducible refine wl_box33 (X := X) ?_ ?_); (exact rfl); intro b1 w1 hb1 hle1 hB1; have R1 := Lib.hid (RowAt.of_cells hb1))
    | ((with_reducible refine wl_load33 (b := b1) (off := 0) (X := X) ?_ R1.out HR.out ?_); (exact rfl)))
  go_at_call 7
  refine (GR.out _ hB1).mono ?_
  rintro e w2 ⟨r, rfl, hr, hB2⟩
  have hb2 := (hB2.block _ (Array.getElem?_eq_some_iff.1 hb1).1).trans hb1
  have hB3 := Lib.hid (hB1.trans (hB2.mono hB1.size))
  replace hb2 := Lib.hid hb2
  replace hr := Lib.hid hr
  clear hB1 hB2 hb1 hle1 R1
  cases r with
  | true =>
    go_wp2_with (go_at_call 8; refine (lives_any _).mono ?_; rintro e w3 ⟨rfl, hB4⟩)
    go_ret
    exact ⟨rfl, hB3.out.trans (hB4.mono hB3.out.size)⟩
  | false =>
    have HS := Lib.hid (hr.out rfl)
    have R2 := Lib.hid (RowAt.of_cells hb2.out)
    have TW := Lib.hid (twinTx_any w2 (HT.out.keep hB3.out) HS.out.fits)
    clear hr
    go_wp2_with (first
      | ((with_reducible refine wl_load33 (b := b1) (off := 0) (X := X) ?_ R2.out HR.out ?_); (exact rfl))
      | (go_at_call 9; refine TW.out.mono ?_; rintro e w3 ⟨Y, rfl, hY, hB4⟩;
         have SY : Y.cells.size = 40 := (Tx.size (by rw [hY.R]; exact HR.out)))
      | ((with_reducible refine wl_allocN zero33 ?_); intro g w4 Z hZ1 hZ2 hle5 hB5)
      | ((with_reducible refine wl_storeN (t := 33) (n := 40) (b := g) (A := Y.cells) (Z := Z) ?_ ?_ hZ1 hZ2 SY Y.one s33 ?_); (exact rfl); (exact rfl); intro w5 h5 hW5))
    have hB6 : Below w3.heap.size w3 w5 := hW5.below hB5 hle5
    have hY5 := hY.keep hB6
    have hB7 : Below w2.heap.size w2 w5 := hB4.trans (hB6.mono hB4.size)
    have hb5 := (hB7.block _ (Array.getElem?_eq_some_iff.1 hb2.out).1).trans hb2.out
    have hB8 := hB3.out.trans (hB7.mono hB3.out.size)
    have hT5 := HT.out.keep hB8
    have HRY : Hid (Y.R.length = 32) := Lib.hid (by rw [hY5.R]; exact HR.out)
    have KX : Hid (∀ W, Below w5.heap.size w5 W → RowAt W b1 0 X.cells) := Lib.hid fun W hW => RowAt.of_cells ((hW.block _ (Array.getElem?_eq_some_iff.1 hb5).1).trans hb5)
    have KY : Hid (∀ W, Below w5.heap.size w5 W → RowAt W g 0 Y.cells) := Lib.hid fun W hW => RowAt.of_cells ((hW.block _ (Array.getElem?_eq_some_iff.1 h5).1).trans h5)
    have HBX := HS.out.tot
    have eT := hY5.tot
    have eC := hY5.chk
    obtain ⟨tn, htn⟩ : ∃ tn, tot X = tn := ⟨_, rfl⟩
    obtain ⟨cn, hcn⟩ : ∃ cn, chk X = cn := ⟨_, rfl⟩
    have C10 : Hid (∀ W, Below w5.heap.size w5 W → Calls Try.prog 10 #[Y.val] W fun e w' => e = .returned (.int .i64 (tn : Int)) ∧ Below W.heap.size W w') := Lib.hid fun W hW => by
      have := total_any W ((hY5.tx hT5).keep hW) (by rw [eT]; exact HBX)
      rw [eT, htn] at this
      exact this
    have C11 : Hid (∀ W, Below w5.heap.size w5 W → Calls Try.prog 11 #[X.val] W fun e w' => e = .returned (.int .i64 (tn : Int)) ∧ Below W.heap.size W w') := Lib.hid fun W hW => by
      have := rtotal_any W (hT5.keep hW) HBX
      rw [htn] at this
      exact this
    have C12 : Hid (∀ W, Below w5.heap.size w5 W → Calls Try.prog 12 #[Y.val] W fun e w' => e = .returned (.int .i64 (cn : Int)) ∧ Below W.heap.size W w') := Lib.hid fun W hW => by
      have := check_any W ((hY5.tx hT5).keep hW) (by rw [eT]; exact HBX)
      rw [eC, hcn] at this
      exact this
    have C13 : Hid (∀ W, Below w5.heap.size w5 W → Calls Try.prog 13 #[X.val] W fun e w' => e = .returned (.int .i64 (cn : Int)) ∧ Below W.heap.size W w') := Lib.hid fun W hW => by
      have := rcheck_any W (hT5.keep hW) HBX
      rw [hcn] at this
      exact this
    have C14 : Hid (∀ W, Below w5.heap.size w5 W → Calls Try.prog 14 #[Y.val, X.val] W fun e w' => e = .returned (.bool true) ∧ Below W.heap.size W w') := Lib.hid fun W hW => leftTx_any W (hT5.keep hW) HS.out.fits (hY5.keep hW)
    replace hB8 := Lib.hid hB8
    have hS : Below w5.heap.size w5 w5.drew := (Below.refl _ _).drew
    clear eT eC htn hcn HBX hT5 hb5 hB7 hB6 hY5 hY h5 hW5 hZ1 hZ2 hle5 hB5 SY hB4 TW R2 hb2 hB3 GR
    try simp only [Act.put, List.setIfInBounds_toArray, List.set_cons_zero, List.set_cons_succ]
    refine wp_regionW (n := 21) (S := fun W => Below w5.heap.size w5 W) (late := fun _ => false) rfl (by kernel_rfl) ?_
    refine takeW (j := 0) (v := Y.val) rfl rfl rfl (by kernel_rfl) (by kernel_rfl) (by kernel_rfl) (by kernel_rfl) (fun _ _ _ h => h) (fun W hW => load33_exec rfl rfl (KY.out W hW) HRY.out) hS ?_
    simp only [List.set_cons_zero, List.set_cons_succ]
    refine takeW (j := 2) (v := X.val) rfl rfl rfl (by kernel_rfl) (by kernel_rfl) (by kernel_rfl) (by kernel_rfl) (fun _ _ _ h => h) (fun W hW => load33_exec rfl rfl (KX.out W hW) HR.out) hS ?_
    simp only [List.set_cons_zero, List.set_cons_succ]
    refine oneW 1 (by kernel_rfl) (run_callG (f := 10) (args := #[Y.val]) rfl rfl (by kernel_rfl) (exec_call1 rfl rfl Try.func10 (by decide) rfl) (C10.out _ hS) ?_)
    rintro e Wc1 ⟨rfl, hbc1⟩
    replace hS := hS.trans (hbc1.mono hS.size)
    refine ⟨_, rfl, fun _ => hS, ?_⟩
    simp only [List.set_cons_zero, List.set_cons_succ]
    refine oneW 3 (by kernel_rfl) (run_callG (f := 11) (args := #[X.val]) rfl rfl (by kernel_rfl) (exec_call1 rfl rfl Try.func11 (by decide) rfl) (C11.out _ hS) ?_)
    rintro e Wc3 ⟨rfl, hbc3⟩
    replace hS := hS.trans (hbc3.mono hS.size)
    refine ⟨_, rfl, fun _ => hS, ?_⟩
    simp only [List.set_cons_zero, List.set_cons_succ]
    refine takeW (j := 4) (v := .bool true) rfl rfl rfl (by kernel_rfl) (by kernel_rfl) (by kernel_rfl) (by kernel_rfl) (fun _ _ _ h => h) (fun W hW => by go_simp) hS ?_
    simp only [List.set_cons_zero, List.set_cons_succ]
    refine takeW (j := 5) (v := .bool true) rfl rfl rfl (by kernel_rfl) (by kernel_rfl) (by kernel_rfl) (by kernel_rfl) (fun _ _ _ h => h) (fun W hW => exec_move rfl rfl) hS ?_
    simp only [List.set_cons_zero, List.set_cons_succ]
    refine takeG (j := 6) (v := Y.val) rfl rfl (by kernel_rfl) (by kernel_rfl) (by kernel_rfl) (by kernel_rfl) (by kernel_rfl) (fun _ _ _ h => h) (fun W hW => load33_exec rfl rfl (KY.out W hW) HRY.out) hS ?_
    simp only [List.set_cons_zero, List.set_cons_succ]
    refine takeG (j := 8) (v := X.val) rfl rfl (by kernel_rfl) (by kernel_rfl) (by kernel_rfl) (by kernel_rfl) (by kernel_rfl) (fun _ _ _ h => h) (fun W hW => load33_exec rfl rfl (KX.out W hW) HR.out) hS ?_
    simp only [List.set_cons_zero, List.set_cons_succ]
    refine oneW 7 (by kernel_rfl) (run_callG (f := 12) (args := #[Y.val]) rfl rfl (by kernel_rfl) (exec_call1 rfl rfl Try.func12 (by decide) rfl) (C12.out _ hS) ?_)
    rintro e Wc7 ⟨rfl, hbc7⟩
    replace hS := hS.trans (hbc7.mono hS.size)
    refine ⟨_, rfl, fun _ => hS, ?_⟩
    simp only [List.set_cons_zero, List.set_cons_succ]
    refine oneW 9 (by kernel_rfl) (run_callG (f := 13) (args := #[X.val]) rfl rfl (by kernel_rfl) (exec_call1 rfl rfl Try.func13 (by decide) rfl) (C13.out _ hS) ?_)
    rintro e Wc9 ⟨rfl, hbc9⟩
    replace hS := hS.trans (hbc9.mono hS.size)
    refine ⟨_, rfl, fun _ => hS, ?_⟩
    simp only [List.set_cons_zero, List.set_cons_succ]
    refine takeG (j := 10) (v := .bool true) rfl rfl (by kernel_rfl) (by kernel_rfl) (by kernel_rfl) (by kernel_rfl) (by kernel_rfl) (fun _ _ _ h => h) (fun W hW => by go_simp) hS ?_
    simp only [List.set_cons_zero, List.set_cons_succ]
    refine takeW (j := 11) (v := .bool true) rfl rfl rfl (by kernel_rfl) (by kernel_rfl) (by kernel_rfl) (by kernel_rfl) (fun _ _ _ h => h) (fun W hW => by go_simp) hS ?_
    simp only [List.set_cons_zero, List.set_cons_succ]
    refine takeW (j := 12) (v := .bool true) rfl rfl rfl (by kernel_rfl) (by kernel_rfl) (by kernel_rfl) (by kernel_rfl) (fun _ _ _ h => h) (fun W hW => exec_move rfl rfl) hS ?_
    simp only [List.set_cons_zero, List.set_cons_succ]
    refine takeG (j := 13) (v := Y.val) rfl rfl (by kernel_rfl) (by kernel_rfl) (by kernel_rfl) (by kernel_rfl) (by kernel_rfl) (fun _ _ _ h => h) (fun W hW => load33_exec rfl rfl (KY.out W hW) HRY.out) hS ?_
    simp only [List.set_cons_zero, List.set_cons_succ]
    refine takeG (j := 14) (v := X.val) rfl rfl (by kernel_rfl) (by kernel_rfl) (by kernel_rfl) (by kernel_rfl) (by kernel_rfl) (fun _ _ _ h => h) (fun W hW => load33_exec rfl rfl (KX.out W hW) HR.out) hS ?_
    simp only [List.set_cons_zero, List.set_cons_succ]
    refine oneW 15 (by kernel_rfl) (run_callG (f := 14) (args := #[Y.val, X.val]) rfl rfl (by kernel_rfl) (exec_call2 rfl rfl rfl Try.func14 (by decide) rfl) (C14.out _ hS) ?_)
    rintro e Wc15 ⟨rfl, hbc15⟩
    replace hS := hS.trans (hbc15.mono hS.size)
    refine ⟨_, rfl, fun _ => hS, ?_⟩
    simp only [List.set_cons_zero, List.set_cons_succ]
    refine takeW (j := 16) (v := .bool true) rfl rfl rfl (by kernel_rfl) (by kernel_rfl) (by kernel_rfl) (by kernel_rfl) (fun _ _ _ h => h) (fun W hW => by go_simp) hS ?_
    simp only [List.set_cons_zero, List.set_cons_succ]
    refine takeW (j := 17) (v := .bool true) rfl rfl rfl (by kernel_rfl) (by kernel_rfl) (by kernel_rfl) (by kernel_rfl) (fun _ _ _ h => h) (fun W hW => exec_move rfl rfl) hS ?_
    simp only [List.set_cons_zero, List.set_cons_succ]
    refine oneW 18 (by kernel_rfl) (run_callG (f := 8) (args := #[]) rfl rfl (by kernel_rfl) (exec_call0 rfl Try.func8 (by decide) rfl) (lives_any _) ?_)
    rintro e Wc18 ⟨rfl, hbc18⟩
    replace hS := hS.trans (hbc18.mono hS.size)
    refine ⟨_, rfl, fun _ => hS, ?_⟩
    simp only [List.set_cons_zero, List.set_cons_succ]
    refine takeW (j := 19) (v := .bool true) rfl rfl rfl (by kernel_rfl) (by kernel_rfl) (by kernel_rfl) (by kernel_rfl) (fun _ _ _ h => h) (fun W hW => by go_simp) hS ?_
    simp only [List.set_cons_zero, List.set_cons_succ]
    refine takeW (j := 20) (v := .bool true) rfl rfl rfl (by kernel_rfl) (by kernel_rfl) (by kernel_rfl) (by kernel_rfl) (fun _ _ _ h => h) (fun W hW => exec_assign rfl rfl) hS ?_
    simp only [List.set_cons_zero, List.set_cons_succ]
    refine doneW (by kernel_rfl) ?_ _
    have HB := Lib.hid hS
    clear hS hbc1 hbc3 hbc7 hbc9 hbc15 hbc18 C10 C11 C12 C13 C14
    go_wp2_with fail
    go_ret
    exact ⟨rfl, hB8.out.trans (HB.out.mono hB8.out.size)⟩
end Go.Proofs.Ytgjijoielfpmkaa
