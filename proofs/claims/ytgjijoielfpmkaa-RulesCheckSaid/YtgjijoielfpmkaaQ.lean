/- RulesMore, walked. -/
import Derived.Test.YtgjijoielfpmkaaQ1
import Derived.Deep.CutRange
import Derived.Deep.CutBlock
set_option linter.unusedVariables false
namespace Go.Proofs.Ytgjijoielfpmkaa
open Go.RowKit

set_option maxRecDepth 20000 in
set_option maxHeartbeats 3200000 in
theorem more_any {X : Tx} {k : List Int} {p : Nat} (w : World) (hT : TxAt w X) (hk : IsKey k) (hp : p < 256) : Calls Try.prog 6 #[X.val, kv k, .int .u8 (p : Int)] w fun e w' => e = .returned (.bool true) ∧ Below w.heap.size w w' := by
  have HR := Lib.hid hT.R
  have HT := Lib.hid hT
  have H32 := Lib.hid hk.1
  have HKEY := Lib.hid hk
  clear hT hk
  go_enter Try.func6, Try.ntmps6
  go_wp2_with (first
    | ((with_reducible refine wl_box33 (X := X) ?_ ?_); (exact rfl); intro b w1 hb hle hB; have G := Lib.hid (Got.mk hb (HT.out.keep hB)); replace hB := Lib.hid hB; clear hle hb)
    | ((with_reducible refine wl_box41 (k := k) ?_ ?_); (exact rfl); intro bk u hbk hlek hBk; replace G := Lib.hid (G.out.keep hBk); have HBK := Lib.hid hbk; have R1 := Lib.hid G.out.row; replace hB := Lib.hid (hB.out.trans (hBk.mono hB.out.size)); clear hbk hlek hBk)
    | ((with_reducible refine wl_load33 (b := b) (off := 0) (X := X) ?_ R1.out HR.out ?_); (exact rfl)))
  go_at_call 7
  refine (great_any _ G.out.T).mono ?_
  rintro e w2 ⟨r, rfl, hr, hB2⟩
  have BU := Lib.hid hB2
  clear hB2 R1
  replace hr := Lib.hid hr
  cases r with
  | true =>
    go_wp2_with fail
    go_at_call 8
    refine (lives_any _).mono ?_
    rintro e w3 ⟨rfl, hB3⟩
    go_wp2_with fail
    go_ret
    exact ⟨rfl, hB.out.trans ((BU.out.trans (hB3.mono BU.out.size)).mono hB.out.size)⟩
  | false =>
    have hsm := Lib.hid (hr.out rfl)
    have hbig := Lib.hid hsm.out.tot
    clear hr
    have R1 := Lib.hid (G.out.keep BU.out).row
    go_wp2_with ((with_reducible refine wl_load33G (b := b) (off := 0) (X := X) ?_ ?_ R1.out HR.out ?_); (kernel_rfl); (exact rfl))
    go_at_call 12
    refine (check_any _ (G.out.keep BU.out).T hbig.out).mono ?_
    rintro e w3 ⟨rfl, hB3⟩
    replace BU := Lib.hid (BU.out.trans (hB3.mono BU.out.size))
    clear hB3 R1
    by_cases hc : chk X = 0
    · have hc' : (chk X : Int) = 0 := by rw [hc]; rfl
      have HC := Lib.hid hc
      obtain ⟨kn, hkn⟩ : ∃ kn, X.K.length = kn := ⟨_, rfl⟩
      obtain ⟨ka, hka⟩ : ∃ ka, X.ka = ka := ⟨_, rfl⟩
      obtain ⟨il, hil⟩ : ∃ il, X.I.length = il := ⟨_, rfl⟩
      obtain ⟨ia, hia⟩ : ∃ ia, X.ia = ia := ⟨_, rfl⟩
      have MK : Hid (∀ W, Below u.heap.size u W → W.cell? ⟨b, 5, none⟩ = some (.slice ka kn X.kc) ∧ W.cell? ⟨b, 38, none⟩ = some (.slice ia il X.ic)) := Lib.hid fun W hW => by
        have h := txCells HR.out (G.out.keep hW).h
        rw [← hkn, ← hka, ← hil, ← hia]
        exact ⟨h.c5, h.c38⟩
      have bkn : kn < 3000 := by
        have := hsm.out.2
        omega
      have bil : il < 3000 := by
        have := hsm.out.2
        omega
      have HKN := Lib.hid hkn
      have HKA := Lib.hid hka
      have HIL := Lib.hid hil
      have HIA := Lib.hid hia
      have HKB : Hid (∀ W, Below u.heap.size u W → RowAt W bk 0 (icells .u8 k)) := Lib.hid fun W hW => Below.row hW (RowAt.of_cells HBK.out) (Array.getElem?_eq_some_iff.1 HBK.out).1
      have HSZ : Hid ((icells .u8 k).size = 32) := Lib.hid (by rw [size_icells]; exact H32.out)
      clear hkn hka hil hia hc
      go_wp2_with fail
      go_loopw [7] (fun v7 wr => ∃ i : Nat, i ≤ kn ∧ v7 = .int .i64 i ∧ k ∉ X.K.take i ∧ Below u.heap.size u wr) (fun v7 _ => kn - (intOf v7).toNat)
      case atStart => exact ⟨0, Nat.zero_le _, rfl, by simp, BU.out⟩
      case round =>
        clear BU
        obtain ⟨i, hi, rfl, hno, BU⟩ := hrel
        obtain ⟨d5, d38⟩ := MK.out _ BU
        by_cases hlt : i < kn
        · have hlt' : (i : Int) < (kn : Int) := by omega
          obtain ⟨q, hq⟩ : ∃ q, X.K[i]? = some q := ⟨X.K[i]'(by rw [HKN.out]; exact hlt), List.getElem?_eq_getElem _⟩
          obtain ⟨kb, off, e, hrow⟩ := G.out.T.keyAt hq
          rw [HKA.out] at e
          subst e
          have hqk := HT.out.key q (List.mem_of_getElem? hq)
          have hrow2 : Hid (∀ W, Below u.heap.size u W → RowAt W kb (off + i * 32) (icells .u8 q)) := Lib.hid fun W hW => Below.row hW hrow hrow.lt
          have Q32 := Lib.hid hqk.1
          have QSZ : Hid ((icells .u8 q).size = 32) := Lib.hid (by rw [size_icells]; exact hqk.1)
          have HNX : Hid ((q == k) = false → k ∉ X.K.take (i + 1)) := Lib.hid fun h => by
            obtain ⟨hi', e⟩ := List.getElem?_eq_some_iff.1 hq
            rw [List.take_succ_eq_append_getElem hi', List.mem_append, e]
            rintro (h1 | h1)
            · exact hno h1
            · rw [List.mem_singleton.1 h1, beq_self_eq_true] at h; cases h
          have hS : Below u.heap.size u wr.drew := BU.drew
          have HBU := Lib.hid BU
          have hdr := Lib.hid hS
          clear hno hq hrow hqk BU
          go_wp2
          try simp only [Act.put, List.setIfInBounds_toArray, List.set_cons_zero, List.set_cons_succ]
          refine wp_regionW (n := 8) (S := fun W => Below u.heap.size u W) (late := fun _ => false) rfl (by kernel_rfl) ?_
          refine takeW (j := 0) (v := .pointer (some ⟨b, 1, none⟩)) rfl rfl rfl (by kernel_rfl) (by kernel_rfl) (by kernel_rfl) (by kernel_rfl) (fun _ _ _ h => h) (fun W hW => by go_simp) hS ?_
          simp only [List.set_cons_zero, List.set_cons_succ]
          refine takeW (j := 1) (v := .pointer (some ⟨b, 5, none⟩)) rfl rfl rfl (by kernel_rfl) (by kernel_rfl) (by kernel_rfl) (by kernel_rfl) (fun _ _ _ h => h) (fun W hW => by go_simp) hS ?_
          simp only [List.set_cons_zero, List.set_cons_succ]
          refine takeW (j := 2) (v := .slice (some ⟨kb, off, none⟩) kn X.kc) rfl rfl rfl (by kernel_rfl) (by kernel_rfl) (by kernel_rfl) (by kernel_rfl) (fun _ _ _ h => h) (fun W hW => exec_load_cell rfl rfl Try.underlying25 rfl (MK.out W hW).1) hS ?_
          simp only [List.set_cons_zero, List.set_cons_succ]
          refine takeW (j := 3) (v := .int .i64 (i : Int)) rfl rfl rfl (by kernel_rfl) (by kernel_rfl) (by kernel_rfl) (by kernel_rfl) (fun _ _ _ h => h) (fun W hW => exec_move rfl rfl) hS ?_
          simp only [List.set_cons_zero, List.set_cons_succ]
          refine takeW (j := 4) (v := .pointer (some ⟨kb, off + i * 32, none⟩)) rfl rfl rfl (by kernel_rfl) (by kernel_rfl) (by kernel_rfl) (by kernel_rfl) (fun _ _ _ h => h) (fun W hW => exec_index_rows rfl rfl rfl und25 s41 hlt) hS ?_
          simp only [List.set_cons_zero, List.set_cons_succ]
          refine takeW (j := 5) (v := kv q) rfl rfl rfl (by kernel_rfl) (by kernel_rfl) (by kernel_rfl) (by kernel_rfl) (fun _ _ _ h => h) (fun W hW => exec_load_sub rfl rfl (hrow2.out W hW) und41 rfl (by rw [QSZ.out]; exact s41)) hS ?_
          simp only [List.set_cons_zero, List.set_cons_succ]
          refine takeW (j := 6) (v := kv k) rfl rfl rfl (by kernel_rfl) (by kernel_rfl) (by kernel_rfl) (by kernel_rfl) (fun _ _ _ h => h) (fun W hW => exec_load_sub rfl rfl (HKB.out W hW) und41 rfl (by rw [HSZ.out]; exact s41)) hS ?_
          simp only [List.set_cons_zero, List.set_cons_succ]
          refine takeW (j := 7) (v := .bool (q == k)) rfl rfl rfl (by kernel_rfl) (by kernel_rfl) (by kernel_rfl) (by kernel_rfl) (fun _ _ _ h => h) (fun W hW => exec_eql_ints rfl rfl rfl eqGuard41 und41 u5 s5 Q32.out H32.out) hS ?_
          simp only [List.set_cons_zero, List.set_cons_succ]
          refine doneW (by kernel_rfl) ?_ _
          cases hqk : q == k with
          | true =>
            clear hS
            go_wp2_with fail
            go_at_call 8
            refine (lives_any _).mono ?_
            rintro e w9 ⟨rfl, hB9⟩
            go_wp2_with fail
            go_ret
            exact ⟨rfl, hB.out.trans ((hdr.out.trans (hB9.mono hdr.out.size)).mono hB.out.size)⟩
          | false =>
            have HN2 := Lib.hid (HNX.out hqk)
            clear hS
            go_wp2
            go_roundw
            case rel => exact ⟨i + 1, by omega, by go_num, HN2.out, hdr.out⟩
            case measure => simp [intOf]; omega
        · obtain rfl : kn = i := by omega
          have hlt' : ¬ (kn : Int) < (kn : Int) := by omega
          have e : X.K.take kn = X.K := by rw [← HKN.out, List.take_length]
          rw [e] at hno
          have HNO := Lib.hid hno
          have R1 := Lib.hid (G.out.keep BU).row
          replace BU := Lib.hid BU
          clear hno e hlt
          go_wp2_with (first
            | ((with_reducible refine wl_load33 (b := b) (off := 0) (X := X) ?_ R1.out HR.out ?_); (exact rfl))
            | ((with_reducible refine wl_allocN zero33 ?_); intro gy w4 Z hZ1 hZ2 hle4 hB4)
            | ((with_reducible refine wl_storeN (n := 40) (A := X.cells) (Z := Z) ?_ ?_ hZ1 hZ2 (Tx.size HR.out) X.one s33 ?_); (exact rfl); (exact rfl); intro w5 h5 hW5))
          have ugy : u.heap.size ≤ gy := Nat.le_trans BU.out.size hle4
          have B5 : Below u.heap.size u w5 := hW5.below (BU.out.trans (hB4.mono BU.out.size)) ugy
          have gylt : gy < w5.heap.size := (Array.getElem?_eq_some_iff.1 h5).1
          have UY := Lib.hid ugy
          replace B5 := Lib.hid B5
          have H5 := Lib.hid h5
          clear hZ1 hZ2 hle4 hB4 hW5 R1 BU h5 ugy
          have HBY : Hid (∀ W, Below w5.heap.size w5 W → Below u.heap.size u W) := Lib.hid fun W hW => B5.out.trans (hW.mono B5.out.size)
          have HKX : Hid (∀ W, Below w5.heap.size w5 W → RowsAt W ka 32 (X.K.map (icells .u8))) := Lib.hid fun W hW => by
            rw [← HKA.out]; exact (G.out.keep (HBY.out W hW)).T.keys
          have HKL : Hid (kn = (X.K.map (icells .u8)).length) := Lib.hid (by rw [List.length_map]; exact HKN.out.symm)
          have HKLT : Hid ((X.K.map (icells .u8)).length < 4000) := Lib.hid (by rw [← HKL.out]; omega)
          have HKNIL : Hid (ka = none → X.kc = 0) := Lib.hid fun e => G.out.T.nilK (by rw [HKA.out, e])
          have hS : Below w5.heap.size w5 w5.drew := (Below.refl _ _).drew
          try simp only [Act.put, List.setIfInBounds_toArray, List.set_cons_zero, List.set_cons_succ]
          refine wp_regionW (n := 10) (S := fun W => Below w5.heap.size w5 W) (late := fun j => j == 9) rfl (by kernel_rfl) ?_
          refine takeW (j := 0) (v := .pointer (some ⟨b, 1, none⟩)) rfl rfl rfl (by kernel_rfl) (by kernel_rfl) (by kernel_rfl) (by kernel_rfl) (fun _ _ _ h => h) (fun W hW => by go_simp) hS ?_
          simp only [List.set_cons_zero, List.set_cons_succ]
          refine takeW (j := 1) (v := .pointer (some ⟨b, 5, none⟩)) rfl rfl rfl (by kernel_rfl) (by kernel_rfl) (by kernel_rfl) (by kernel_rfl) (fun _ _ _ h => h) (fun W hW => by go_simp) hS ?_
          simp only [List.set_cons_zero, List.set_cons_succ]
          refine takeW (j := 2) (v := .slice ka kn X.kc) rfl rfl rfl (by kernel_rfl) (by kernel_rfl) (by kernel_rfl) (by kernel_rfl) (fun _ _ _ h => h) (fun W hW => exec_load_cell rfl rfl Try.underlying25 rfl (MK.out W (HBY.out W hW)).1) hS ?_
          simp only [List.set_cons_zero, List.set_cons_succ]
          refine takeW (j := 4) (v := kv k) rfl rfl rfl (by kernel_rfl) (by kernel_rfl) (by kernel_rfl) (by kernel_rfl) (fun _ _ _ h => h) (fun W hW => exec_load_sub rfl rfl (HKB.out W (HBY.out W hW)) und41 rfl (by rw [HSZ.out]; exact s41)) hS ?_
          simp only [List.set_cons_zero, List.set_cons_succ]
          refine twoW (i := 3) (j := 5) (fun v1 v2 W => ∃ gb, v2 = .slice (some ⟨gb, 0, none⟩) 1 1 ∧ OwnAt W w5.heap.size 41 32 v1 (X.K.map (icells .u8)) ∧ W.heap[gb]? = some (.cells (icells .u8 k) 41)) rfl rfl rfl rfl rfl rfl (by kernel_rfl) (by kernel_rfl) (by kernel_rfl) (by decide) (by decide) ?_ ?_ ?_
          · obtain ⟨v1, W1, hr1, ho1, hb1, hg1⟩ := append_own (w := w5.drew) (base := w5.heap.size) 25 25 und25 i41 cells41 pos32 (OwnAt.nil _ _ _ _) HKL.out (HKX.out _ hS) (keys_size G.out.T.key) keys_one HKNIL.out (small63 (by simp) HKLT.out) (smallBy (by simp) HKLT.out (by decide)) hS.size
            have hS1 := hb1 _ _ hS (Nat.le_refl _)
            refine ⟨v1, W1, hr1 _ _ _ _ rfl rfl rfl rfl, hS1, _, _, exec_buildSlice_one rfl rfl und25 i41 HSZ.out le32, hS1.alloc hS1.size _, _, rfl, ?_, heap_alloc_new _ _⟩
            exact ho1.keep ((Below.refl _ _).alloc (Nat.le_refl _) _)
          · have hS1 := hS.alloc hS.size (.cells (icells .u8 k) 41)
            have hgb := heap_alloc_new w5.drew (.cells (icells .u8 k) 41)
            obtain ⟨v1, W1, hr1, ho1, hb1, hg1⟩ := append_own (w := w5.drew.alloc (.cells (icells .u8 k) 41)) (base := w5.heap.size) 25 25 und25 i41 cells41 pos32 (OwnAt.nil _ _ _ _) HKL.out (HKX.out _ hS1) (keys_size G.out.T.key) keys_one HKNIL.out (small63 (by simp) HKLT.out) (smallBy (by simp) HKLT.out (by decide)) hS1.size
            have hS2 := hb1 _ _ hS1 (Nat.le_refl _)
            refine ⟨_, _, exec_buildSlice_one rfl rfl und25 i41 HSZ.out le32, hS1, v1, W1, hr1 _ _ _ _ rfl rfl rfl rfl, hS2, _, rfl, ho1, (hg1.block _ (Array.getElem?_eq_some_iff.1 hgb).1 (fun e => by cases e)).trans hgb⟩
          rintro v1 v2 W2 ⟨gb, rfl, ho, hgb⟩ hS2
          simp only [List.set_cons_zero, List.set_cons_succ]
          obtain ⟨v3, W3, hr3, ho3, hb3, _⟩ := append_own (w := W2) (base := w5.heap.size) 25 25 und25 i41 cells41 pos32 ho rfl (RowsAt.one hgb 32) (by simpa using HSZ.out) (by simpa using icells_one .u8 k) someNo (small63 HKLT.out (by simp)) (smallBy HKLT.out (by simp) (by decide)) hS2.size
          have hS3 := hb3 _ _ hS2 (Nat.le_refl _)
          refine oneW 6 (by kernel_rfl) (run_val rfl rfl rfl (hr3 _ _ _ _ rfl rfl rfl rfl) ⟨fun _ => hS3, ?_⟩)
          simp only [List.set_cons_zero, List.set_cons_succ]
          refine oneW 7 (by kernel_rfl) (run_val (v := .pointer (some ⟨gy, 1, none⟩)) rfl rfl rfl (by go_simp) ⟨fun _ => hS3, ?_⟩)
          simp only [List.set_cons_zero, List.set_cons_succ]
          refine oneW 8 (by kernel_rfl) (run_val (v := .pointer (some ⟨gy, 5, none⟩)) rfl rfl rfl (by go_simp) ⟨fun _ => hS3, ?_⟩)
          simp only [List.set_cons_zero, List.set_cons_succ]
          have hk1 : X.K.map (icells .u8) ++ [icells .u8 k] = (X.K ++ [k]).map (icells .u8) := by simp
          rw [hk1] at ho3
          obtain ⟨ao3, c3, rfl, hrows3, hn3⟩ := ho3.rows
          obtain ⟨W4, hr4, h4, hW4⟩ := store_one (w := W3) (ty := 25) (t := 33) (b := gy) (off := 5) (C := X.cells) (v := .slice ao3 ((X.K ++ [k]).map (icells .u8)).length c3) (vc_slice _ _ _) (vo_slice _ _ _) ((hS3.block gy gylt).trans H5.out) (by rw [Tx.size HR.out]; decide) size25
          refine oneW 9 (by kernel_rfl) (run_skip rfl rfl rfl (hr4 _ _ _ _ rfl rfl rfl) ⟨fun h => (by cases h), ?_⟩)
          refine doneW (by kernel_rfl) ?_ _
          rw [List.length_map, withKeys_cells HR.out] at h4
          have BU4 := Lib.hid (hW4.below (HBY.out _ hS3) UY.out)
          have kl1 : (X.K ++ [k]).length ≤ lenMax := by
            rw [List.length_append, HKN.out]
            unfold lenMax
            simp; omega
          have kk1 : ∀ q ∈ X.K ++ [k], IsKey q := by
            intro q hq
            rcases List.mem_append.1 hq with hq | hq
            · exact HT.out.key q hq
            · rw [List.mem_singleton.1 hq]; exact HKEY.out
          have hrows4 : RowsAt W4 ao3 32 ((X.K ++ [k]).map (icells .u8)) := ho3.rowsWrote hW4 ((hS3.block gy gylt).trans H5.out) (by decide)
          have GY : Hid (Got W4 gy (withKeys X ao3 (X.K ++ [k]) c3)) := Lib.hid ⟨h4, TxAt.withKeys (G.out.keep BU4.out).T hrows4 kk1 kl1 hn3⟩
          have HCY := Lib.hid (chk_addKey HC.out HNO.out ao3 c3)
          have HTY := Lib.hid (tot_addKey X ao3 k c3)
          generalize withKeys X ao3 (X.K ++ [k]) c3 = Y at GY HCY HTY
          clear hrows4 kk1 kl1 hk1 hrows3 hn3 ho3 hr3 hr4 h4 hb3 hS3 hW4 ho hgb hS2 hS HKX HKL HKLT HKNIL HBY H5 B5 UY gylt
          have R1 := Lib.hid (G.out.keep BU4.out).row
          have HTX := Lib.hid (total_any W4 (G.out.keep BU4.out).T hbig.out)
          obtain ⟨tn, htn⟩ : ∃ tn, tot X = tn := ⟨_, rfl⟩
          rw [htn] at HCY HTY HTX
          have HTN := Lib.hid htn
          clear htn
          go_upto_if 49 with (first
            | ((with_reducible refine wl_load33 (b := b) (off := 0) (X := X) ?_ R1.out HR.out ?_); (exact rfl))
            | (go_at_call 10; refine HTX.out.mono ?_; rintro e W5 ⟨rfl, hB5⟩))
          replace GY := Lib.hid (GY.out.keep hB5)
          have BU5 := Lib.hid (BU4.out.trans (hB5.mono BU4.out.size))
          clear hB5 R1 HTX BU4
          go_cut [9] from 47 to 49 (fun v9 wx => v9 = .int .i64 ((if tn = 64 then 3 else 0 : Nat) : Int) ∧ wx = W5)
          case first =>
            by_cases h64 : tn = 64
            · have h64' : (tn : Int) = 64 := by omega
              go_wp2_with fail
              go_meet
              exact ⟨by rw [if_pos h64]; rfl, rfl⟩
            · have h64' : ¬ (tn : Int) = 64 := by omega
              go_wp2_with fail
              go_meet
              exact ⟨by rw [if_neg h64]; rfl, rfl⟩
          case rest =>
            obtain ⟨rfl, ecut⟩ := hcut
            replace ecut := ecut.symm
            subst ecut
            generalize (if tn = 64 then 3 else 0 : Nat) = want at HCY ⊢
            have R1 := Lib.hid (G.out.keep BU5.out).row
            have HIX : Hid (∀ W, Below u.heap.size u W → RowsAt W ia 3 (X.I.map Ins.cells)) := Lib.hid fun W hW => by
              rw [← HIA.out]; exact (G.out.keep hW).T.ins
            have HILL : Hid (il = (X.I.map Ins.cells).length) := Lib.hid (by rw [List.length_map]; exact HIL.out.symm)
            have HILT : Hid ((X.I.map Ins.cells).length < 4000) := Lib.hid (by rw [← HILL.out]; omega)
            have HINIL : Hid (ia = none → X.ic = 0) := Lib.hid fun e => G.out.T.nilI (by rw [HIA.out, e])
            go_upto_region 15 with (first
              | ((with_reducible refine wl_load33 (b := b) (off := 0) (X := X) ?_ R1.out HR.out ?_); (exact rfl))
              | ((with_reducible refine wl_allocN zero33 ?_); intro gz w6 Z hZ1 hZ2 hle6 hB6)
              | ((with_reducible refine wl_storeN (n := 40) (A := X.cells) (Z := Z) ?_ ?_ hZ1 hZ2 (Tx.size HR.out) X.one s33 ?_); (exact rfl); (exact rfl); intro w7 h7 hW7; have B57 := Lib.hid (hW7.below hB6 hle6); have BU7 := Lib.hid (BU5.out.trans (B57.out.mono BU5.out.size)); have h7' := Lib.hid h7; have gzlt := Lib.hid (Array.getElem?_eq_some_iff.1 h7).1; have hle6' := Lib.hid hle6; clear hZ1 hZ2 hle6 hB6 hW7 h7; have d38 := (MK.out w7 BU7.out).2)
              | ((with_reducible refine wl_append_rows (base := w7.heap.size) (t := 28) (e := 47) (s := 3) (bytes := 56) (v := .slice none 0 0) (D := []) (E := X.I.map Ins.cells) (m := il) (c := X.ic) (ao := ia) und28 i47 cells47 pos3 (OwnAt.nil _ _ _ _) ?_ ?_ HILL.out (HIX.out w7 BU7.out) ins_size ins_one HINIL.out (small63 lt0 HILT.out) (smallBy lt0 HILT.out le56) (Nat.le_refl _) ?_); (exact rfl); (exact rfl); intro v8 W8 hO8 hG8; have hB8 := Lib.hid (Below.grownBy (Below.refl w7.heap.size w7) hG8 (fun k e => by cases e) (Nat.le_refl _)); have hO8' : Hid (OwnAt W8 w7.heap.size 47 3 v8 (X.I.map Ins.cells)) := Lib.hid hO8; clear hO8 hG8 d38)
              | ((with_reducible refine wl_buildSlice_one (A := (newIns p).cells) (t := 28) (e := 47) (s := 3) (bytes := 56) ?_ und28 i47 (newIns_size p) le3 ?_); (exact rfl); intro gq W9 hgq hlq hBq; have hO9 := Lib.hid (hO8'.out.keep hBq); have hB9 := Lib.hid (hB8.out.trans (hBq.mono hB8.out.size)); clear hO8' hB8 hlq hBq)
              | ((with_reducible refine wl_append_rows (base := w7.heap.size) (t := 28) (e := 47) (s := 3) (bytes := 56) (v := v8) (D := X.I.map Ins.cells) (E := [(newIns p).cells]) (m := 1) (c := 1) (ao := some ⟨gq, 0, none⟩) und28 i47 cells47 pos3 hO9.out ?_ ?_ one_len (RowsAt.one hgq 3) oneNew_size oneNew_one someNo (small63 HILT.out lt1) (smallBy HILT.out lt1 le56) hB9.out.size ?_); (exact rfl); (exact rfl); intro v10 W10 hO10 hG10; have hB10 := Lib.hid (hO9.out.below hB9.out (Nat.le_refl _) hB9.out.size hG10); obtain ⟨ao10, c10, ev10, hr10, hn10⟩ := hO10.rows; obtain ⟨n10, e10⟩ : ∃ n10, n10 = (X.I.map Ins.cells ++ [(newIns p).cells]).length := ⟨_, rfl⟩; rw [← e10] at ev10; subst ev10; have E10 := Lib.hid e10; clear e10; have hg10 := (hB10.out.block gz gzlt.out).trans h7'.out; replace hO10 := Lib.hid hO10; replace hn10 := Lib.hid hn10; clear hr10 hG10 hO9 hB9 hgq)
              | ((with_reducible refine wl_store1 (off := 38) (t := 33) (C := X.cells) (v := .slice ao10 n10 c10) ?_ ?_ (vc_slice _ _ _) (vo_slice _ _ _) hg10 (lt38 HR.out) size28 ?_); (exact rfl); (exact rfl); intro W11 h11 hW11))
            rw [E10.out, ← List.map_singleton (f := Ins.cells), ← List.map_append, List.length_map, withIns_cells HR.out] at h11
            have hrows : RowsAt W11 ao10 3 ((X.I ++ [newIns p]).map Ins.cells) := by
              have := hO10.out.rowsWrote hW11 hg10 (by decide)
              rwa [← List.map_singleton (f := Ins.cells), ← List.map_append] at this
            have B711 : Below w7.heap.size w7 W10 := hB10.out
            have B511 : Below W5.heap.size W5 W11 := hW11.below (B57.out.trans (B711.mono B57.out.size)) hle6'.out
            have BU11 := Lib.hid (BU5.out.trans (B511.mono BU5.out.size))
            have GX11 := G.out.keep BU11.out
            have GZ : Hid (Got W11 gz (withIns X ao10 (X.I ++ [newIns p]) c10)) := Lib.hid ⟨h11, TxAt.withIns GX11.T hrows (fun i hi => by
              rcases List.mem_append.1 hi with hi | hi
              · exact GX11.T.insOk i hi
              · rw [List.mem_singleton.1 hi]; exact newIns_at hp) (fun i hi => by
              rcases List.mem_append.1 hi with hi | hi
              · exact GX11.T.dat i hi
              · rw [List.mem_singleton.1 hi]; exact fun j hj => absurd hj (Nat.not_lt_zero _)) (by
              rw [List.length_append, HIL.out]
              unfold lenMax
              simp; omega) hn10.out⟩
            have HCZ := Lib.hid (chk_addIns HC.out p ao10 c10)
            replace GY := Lib.hid (GY.out.keep B511)
            rw [HKN.out] at HCZ
            have HTZ : Hid (tot (withIns X ao10 (X.I ++ [newIns p]) c10) = tn) := Lib.hid HTN.out
            generalize withIns X ao10 (X.I ++ [newIns p]) c10 = Z at GZ HCZ HTZ
            obtain ⟨d5, _⟩ := MK.out W11 BU11.out
            clear hrows B711 B511 hW11 h11 GX11 hg10 hO10 E10 hn10 hB10 h7' gzlt hle6' BU7 B57 BU5 R1 HIX HILL HILT HINIL
            simp only [Act.put]
            go_cut [11] from 61 to 71 (fun v11 wx => v11 = .bool (decide (0 < p ∧ p < kn)) ∧ wx = W11)
            case first =>
              by_cases p0 : 0 < p
              · have p0' : (p : Int) > 0 := by omega
                by_cases p1 : p < kn
                · have p1' : (p : Int) < (kn : Int) := by omega
                  go_wp2_with fail
                  go_meet
                  exact ⟨by simp [p0, p1], rfl⟩
                · have p1' : ¬ (p : Int) < (kn : Int) := by omega
                  go_wp2_with fail
                  go_meet
                  exact ⟨by simp [p1], rfl⟩
              · have p0' : ¬ (p : Int) > 0 := by omega
                go_wp2_with fail
                go_meet
                exact ⟨by simp [p0], rfl⟩
            case rest =>
              obtain ⟨rfl, ecut⟩ := hcut
              replace ecut := ecut.symm
              subst ecut
              obtain ⟨mb, hmb⟩ : ∃ mb, decide (0 < p ∧ p < kn) = mb := ⟨_, rfl⟩
              obtain ⟨cz, hcz⟩ : ∃ cz, chk Z = cz := ⟨_, rfl⟩
              have hcm : ((cz : Int) == 0) = mb := by
                have h := HCZ.out
                rw [hcz] at h
                by_cases hpp : 0 < p ∧ p < kn
                · rw [if_pos hpp] at h
                  rw [← hmb, h]; simp [hpp]
                · rw [if_neg hpp] at h
                  rw [← hmb, h]; simp; omega
              rw [hmb]
              have HCZ2 := Lib.hid hcz
              have HCM := Lib.hid hcm
              clear hmb hcz hcm HCZ d5
              obtain ⟨ty, hty⟩ : ∃ ty, tot Y = ty := ⟨_, rfl⟩
              have hty2 : ty = tn + 1 := by rw [← hty, HTY.out]
              subst hty2
              have HTY2 := Lib.hid hty
              have HWANT : Hid (chk Y = want) := HCY
              have btn : tn < 9223372036854775800 := by
                have h1 := hsm.out.2
                have h2 := HTN.out
                unfold tot at h2
                omega
              have bY : Hid (tot Y < 9223372036854775808) := Lib.hid (by rw [hty]; omega)
              have bZ : Hid (tot Z < 9223372036854775808) := Lib.hid (by rw [HTZ.out]; omega)
              have C12Y : Hid (∀ W, Below W11.heap.size W11 W → Calls Try.prog 12 #[Y.val] W fun e w' => e = .returned (.int .i64 (want : Int)) ∧ Below W.heap.size W w') := Lib.hid fun W hW => by rw [← HWANT.out]; exact check_any W (GY.out.keep hW).T bY.out
              have C10Y : Hid (∀ W, Below W11.heap.size W11 W → Calls Try.prog 10 #[Y.val] W fun e w' => e = .returned (.int .i64 ((tn + 1 : Nat) : Int)) ∧ Below W.heap.size W w') := Lib.hid fun W hW => by rw [← hty]; exact total_any W (GY.out.keep hW).T bY.out
              have C10X : Hid (∀ W, Below W11.heap.size W11 W → Calls Try.prog 10 #[X.val] W fun e w' => e = .returned (.int .i64 (tn : Int)) ∧ Below W.heap.size W w') := Lib.hid fun W hW => by rw [← HTN.out]; exact total_any W (G.out.keep (BU11.out.trans (hW.mono BU11.out.size))).T hbig.out
              have C12Z : Hid (∀ W, Below W11.heap.size W11 W → Calls Try.prog 12 #[Z.val] W fun e w' => e = .returned (.int .i64 (cz : Int)) ∧ Below W.heap.size W w') := Lib.hid fun W hW => by rw [← HCZ2.out]; exact check_any W (GZ.out.keep hW).T bZ.out
              have LX : Hid (∀ W, Below W11.heap.size W11 W → RowAt W b 0 X.cells) := Lib.hid fun W hW => (G.out.keep (BU11.out.trans (hW.mono BU11.out.size))).row
              have LY : Hid (∀ W, Below W11.heap.size W11 W → RowAt W gy 0 Y.cells) := Lib.hid fun W hW => (GY.out.keep hW).row
              have LZ : Hid (∀ W, Below W11.heap.size W11 W → RowAt W gz 0 Z.cells) := Lib.hid fun W hW => (GZ.out.keep hW).row
              have RY := Lib.hid GY.out.T.R
              have RZ := Lib.hid GZ.out.T.R
              have HB0 : Hid (∀ W, Below W11.heap.size W11 W → Below w.heap.size w W) := Lib.hid fun W hW => hB.out.trans ((BU11.out.trans (hW.mono BU11.out.size)).mono hB.out.size)
              clear hty HCY HTY HTZ HTN hsm bkn bil BU11
              have hS : Below W11.heap.size W11 W11.drew := (Below.refl _ _).drew
              go_wp2_with fail
              try simp only [Act.put, List.setIfInBounds_toArray, List.set_cons_zero, List.set_cons_succ]
              refine wp_regionW (n := 23) (S := fun W => Below W11.heap.size W11 W) (late := fun _ => false) rfl (by kernel_rfl) ?_
              refine takeG (j := 0) (v := Y.val) rfl rfl (by kernel_rfl) (by kernel_rfl) (by kernel_rfl) (by kernel_rfl) (by kernel_rfl) (fun _ _ _ h => h) (fun W hW => load33_exec rfl rfl (LY.out W hW) RY.out) hS ?_
              simp only [List.set_cons_zero, List.set_cons_succ]
              refine takeG (j := 2) (v := .int .i64 (want : Int)) rfl rfl (by kernel_rfl) (by kernel_rfl) (by kernel_rfl) (by kernel_rfl) (by kernel_rfl) (fun _ _ _ h => h) (fun W hW => exec_move rfl rfl) hS ?_
              simp only [List.set_cons_zero, List.set_cons_succ]
              refine oneW 1 (by kernel_rfl) (run_callG (f := 12) (args := #[Y.val]) rfl rfl (by kernel_rfl) (exec_call1 rfl rfl Try.func12 (by decide) rfl) (C12Y.out _ hS) ?_)
              rintro e Wc1 ⟨rfl, hbc1⟩
              replace hS := hS.trans (hbc1.mono hS.size)
              refine ⟨_, rfl, fun _ => hS, ?_⟩
              simp only [List.set_cons_zero, List.set_cons_succ]
              refine takeG (j := 3) (v := .bool true) rfl rfl (by kernel_rfl) (by kernel_rfl) (by kernel_rfl) (by kernel_rfl) (by kernel_rfl) (fun _ _ _ h => h) (fun W hW => by go_simp) hS ?_
              simp only [List.set_cons_zero, List.set_cons_succ]
              refine takeG (j := 4) (v := .bool true) rfl rfl (by kernel_rfl) (by kernel_rfl) (by kernel_rfl) (by kernel_rfl) (by kernel_rfl) (fun _ _ _ h => h) (fun W hW => exec_move rfl rfl) hS ?_
              simp only [List.set_cons_zero, List.set_cons_succ]
              refine takeG (j := 5) (v := Y.val) rfl rfl (by kernel_rfl) (by kernel_rfl) (by kernel_rfl) (by kernel_rfl) (by kernel_rfl) (fun _ _ _ h => h) (fun W hW => load33_exec rfl rfl (LY.out W hW) RY.out) hS ?_
              simp only [List.set_cons_zero, List.set_cons_succ]
              refine takeG (j := 7) (v := X.val) rfl rfl (by kernel_rfl) (by kernel_rfl) (by kernel_rfl) (by kernel_rfl) (by kernel_rfl) (fun _ _ _ h => h) (fun W hW => load33_exec rfl rfl (LX.out W hW) HR.out) hS ?_
              simp only [List.set_cons_zero, List.set_cons_succ]
              refine oneW 6 (by kernel_rfl) (run_callG (f := 10) (args := #[Y.val]) rfl rfl (by kernel_rfl) (exec_call1 rfl rfl Try.func10 (by decide) rfl) (C10Y.out _ hS) ?_)
              rintro e Wc6 ⟨rfl, hbc6⟩
              replace hS := hS.trans (hbc6.mono hS.size)
              refine ⟨_, rfl, fun _ => hS, ?_⟩
              simp only [List.set_cons_zero, List.set_cons_succ]
              refine oneW 8 (by kernel_rfl) (run_callG (f := 10) (args := #[X.val]) rfl rfl (by kernel_rfl) (exec_call1 rfl rfl Try.func10 (by decide) rfl) (C10X.out _ hS) ?_)
              rintro e Wc8 ⟨rfl, hbc8⟩
              replace hS := hS.trans (hbc8.mono hS.size)
              refine ⟨_, rfl, fun _ => hS, ?_⟩
              simp only [List.set_cons_zero, List.set_cons_succ]
              refine takeG (j := 9) (v := .int .i64 ((tn + 1 : Nat) : Int)) rfl rfl (by kernel_rfl) (by kernel_rfl) (by kernel_rfl) (by kernel_rfl) (by kernel_rfl) (fun _ _ _ h => h) (fun W hW => by go_simp; rw [IntKind.wrap_i64]; omega) hS ?_
              simp only [List.set_cons_zero, List.set_cons_succ]
              refine takeG (j := 10) (v := .bool true) rfl rfl (by kernel_rfl) (by kernel_rfl) (by kernel_rfl) (by kernel_rfl) (by kernel_rfl) (fun _ _ _ h => h) (fun W hW => by go_simp) hS ?_
              simp only [List.set_cons_zero, List.set_cons_succ]
              refine takeG (j := 11) (v := .bool true) rfl rfl (by kernel_rfl) (by kernel_rfl) (by kernel_rfl) (by kernel_rfl) (by kernel_rfl) (fun _ _ _ h => h) (fun W hW => by go_simp) hS ?_
              simp only [List.set_cons_zero, List.set_cons_succ]
              refine takeG (j := 12) (v := .bool true) rfl rfl (by kernel_rfl) (by kernel_rfl) (by kernel_rfl) (by kernel_rfl) (by kernel_rfl) (fun _ _ _ h => h) (fun W hW => exec_move rfl rfl) hS ?_
              simp only [List.set_cons_zero, List.set_cons_succ]
              refine takeG (j := 13) (v := Z.val) rfl rfl (by kernel_rfl) (by kernel_rfl) (by kernel_rfl) (by kernel_rfl) (by kernel_rfl) (fun _ _ _ h => h) (fun W hW => load33_exec rfl rfl (LZ.out W hW) RZ.out) hS ?_
              simp only [List.set_cons_zero, List.set_cons_succ]
              refine takeG (j := 16) (v := .bool mb) rfl rfl (by kernel_rfl) (by kernel_rfl) (by kernel_rfl) (by kernel_rfl) (by kernel_rfl) (fun _ _ _ h => h) (fun W hW => exec_move rfl rfl) hS ?_
              simp only [List.set_cons_zero, List.set_cons_succ]
              refine oneW 14 (by kernel_rfl) (run_callG (f := 12) (args := #[Z.val]) rfl rfl (by kernel_rfl) (exec_call1 rfl rfl Try.func12 (by decide) rfl) (C12Z.out _ hS) ?_)
              rintro e Wc14 ⟨rfl, hbc14⟩
              replace hS := hS.trans (hbc14.mono hS.size)
              refine ⟨_, rfl, fun _ => hS, ?_⟩
              simp only [List.set_cons_zero, List.set_cons_succ]
              refine takeG (j := 15) (v := .bool mb) rfl rfl (by kernel_rfl) (by kernel_rfl) (by kernel_rfl) (by kernel_rfl) (by kernel_rfl) (fun _ _ _ h => h) (fun W hW => by have := HCM.out; go_simp) hS ?_
              simp only [List.set_cons_zero, List.set_cons_succ]
              refine takeG (j := 17) (v := .bool true) rfl rfl (by kernel_rfl) (by kernel_rfl) (by kernel_rfl) (by kernel_rfl) (by kernel_rfl) (fun _ _ _ h => h) (fun W hW => by go_simp) hS ?_
              simp only [List.set_cons_zero, List.set_cons_succ]
              refine takeG (j := 18) (v := .bool true) rfl rfl (by kernel_rfl) (by kernel_rfl) (by kernel_rfl) (by kernel_rfl) (by kernel_rfl) (fun _ _ _ h => h) (fun W hW => by go_simp) hS ?_
              simp only [List.set_cons_zero, List.set_cons_succ]
              refine takeG (j := 19) (v := .bool true) rfl rfl (by kernel_rfl) (by kernel_rfl) (by kernel_rfl) (by kernel_rfl) (by kernel_rfl) (fun _ _ _ h => h) (fun W hW => exec_move rfl rfl) hS ?_
              simp only [List.set_cons_zero, List.set_cons_succ]
              refine oneW 20 (by kernel_rfl) (run_callG (f := 8) (args := #[]) rfl rfl (by kernel_rfl) (exec_call0 rfl Try.func8 (by decide) rfl) (lives_any _) ?_)
              rintro e Wc20 ⟨rfl, hbc20⟩
              replace hS := hS.trans (hbc20.mono hS.size)
              refine ⟨_, rfl, fun _ => hS, ?_⟩
              simp only [List.set_cons_zero, List.set_cons_succ]
              refine takeG (j := 21) (v := .bool true) rfl rfl (by kernel_rfl) (by kernel_rfl) (by kernel_rfl) (by kernel_rfl) (by kernel_rfl) (fun _ _ _ h => h) (fun W hW => by go_simp) hS ?_
              simp only [List.set_cons_zero, List.set_cons_succ]
              refine takeG (j := 22) (v := .bool true) rfl rfl (by kernel_rfl) (by kernel_rfl) (by kernel_rfl) (by kernel_rfl) (by kernel_rfl) (fun _ _ _ h => h) (fun W hW => exec_assign rfl rfl) hS ?_
              simp only [List.set_cons_zero, List.set_cons_succ]
              refine doneW (by kernel_rfl) ?_ _
              go_wp2_with fail
              go_ret
              exact ⟨rfl, HB0.out _ hS⟩
    · have hc' : ¬ (chk X : Int) = 0 := by omega
      go_wp2_with fail
      go_at_call 8
      refine (lives_any _).mono ?_
      rintro e w4 ⟨rfl, hB4⟩
      go_wp2_with fail
      go_ret
      exact ⟨rfl, hB.out.trans ((BU.out.trans (hB4.mono BU.out.size)).mono hB.out.size)⟩
end Go.Proofs.Ytgjijoielfpmkaa
