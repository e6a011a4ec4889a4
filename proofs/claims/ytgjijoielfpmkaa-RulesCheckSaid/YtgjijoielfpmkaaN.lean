/- RulesHold, walked. -/
import Derived.Test.YtgjijoielfpmkaaN0
set_option linter.unusedVariables false
namespace Go.Proofs.Ytgjijoielfpmkaa
open Go.RowKit

set_option maxRecDepth 20000 in
set_option maxHeartbeats 3200000 in
theorem hold_any {X : Tx} (w : World) (hT : TxAt w X) : Calls Try.prog 4 #[X.val] w fun e w' => e = .returned (.bool true) ∧ Below w.heap.size w w' := by
  have HR := Lib.hid hT.R
  have HT := Lib.hid hT
  clear hT
  go_enter Try.func4, Try.ntmps4
  go_wp2_with (first
    | ((with_reducible refine wl_box33 (X := X) ?_ ?_); (exact rfl); intro b w1 hb hle hB; have G := Lib.hid (Got.mk hb (HT.out.keep hB)); have R1 := Lib.hid G.out.row; clear hb; replace hB := Lib.hid hB; replace hle := Lib.hid hle)
    | ((with_reducible refine wl_load33 (b := b) (off := 0) (X := X) ?_ R1.out HR.out ?_); (exact rfl)))
  go_at_call 7
  refine (great_any _ G.out.T).mono ?_
  rintro e w2 ⟨r, rfl, hr, hB2⟩
  replace G := Lib.hid (G.out.keep hB2)
  replace hB := Lib.hid (hB.out.trans (hB2.mono hB.out.size))
  replace R1 := Lib.hid G.out.row
  clear hB2
  replace hr := Lib.hid hr
  cases r with
  | true =>
    go_wp2_with fail
    go_at_call 8
    refine (lives_any _).mono ?_
    rintro e w3 ⟨rfl, hB3⟩
    go_wp2_with fail
    go_ret
    exact ⟨rfl, hB.out.trans (hB3.mono hB.out.size)⟩
  | false =>
    have hbig := Lib.hid (hr.out rfl).tot
    clear hr
    go_wp2_with ((with_reducible refine wl_load33G (b := b) (off := 0) (X := X) ?_ ?_ R1.out HR.out ?_); (kernel_rfl); (exact rfl))
    go_at_call 12
    refine (check_any _ G.out.T hbig.out).mono ?_
    rintro e w3 ⟨rfl, hB3⟩
    replace G := Lib.hid (G.out.keep hB3)
    replace hB := Lib.hid (hB.out.trans (hB3.mono hB.out.size))
    replace R1 := Lib.hid G.out.row
    clear hB3
    by_cases hc : chk X = 0
    · have hc' : (chk X : Int) = 0 := by rw [hc]; rfl
      have F := Lib.hid (fine hc)
      have R2 := Lib.hid (txHRow G.out.h)
      obtain ⟨kn, hkn⟩ : ∃ kn, X.K.length = kn := ⟨_, rfl⟩
      obtain ⟨ll, hll⟩ : ∃ ll, X.L.length = ll := ⟨_, rfl⟩
      obtain ⟨il, hil⟩ : ∃ il, X.I.length = il := ⟨_, rfl⟩
      obtain ⟨sl, hsl⟩ : ∃ sl, X.sl = sl := ⟨_, rfl⟩
      obtain ⟨la, hla⟩ : ∃ la, X.la = la := ⟨_, rfl⟩
      obtain ⟨ia, hia⟩ : ∃ ia, X.ia = ia := ⟨_, rfl⟩
      obtain ⟨ka, hka⟩ : ∃ ka, X.ka = ka := ⟨_, rfl⟩
      have MK : Hid (∀ u, Got u b X → u.cell? ⟨b, 0, none⟩ = some (.slice X.sa sl X.sc) ∧ u.cell? ⟨b, 5, none⟩ = some (.slice ka kn X.kc) ∧ u.cell? ⟨b, 38, none⟩ = some (.slice ia il X.ic) ∧ u.cell? ⟨b, 39, none⟩ = some (.slice la ll X.lc)) := Lib.hid fun u hu => by
        have h := txCells HR.out hu.h
        rw [← hkn, ← hll, ← hil, ← hsl, ← hla, ← hia, ← hka]
        exact ⟨h.c0, h.c5, h.c38, h.c39⟩
      have bk := HT.out.kl
      have bl := HT.out.ll
      have bi := HT.out.il
      have bs := HT.out.sl
      unfold lenMax at bk bl bi bs
      rw [hkn] at bk
      rw [hll] at bl
      rw [hil] at bi
      rw [hsl] at bs
      have HKN := Lib.hid hkn
      have HLL := Lib.hid hll
      have HIL := Lib.hid hil
      have HSL := Lib.hid hsl
      have HLA := Lib.hid hla
      have HIA := Lib.hid hia
      have HKA := Lib.hid hka
      clear hkn hll hil hsl hla hia hka hc
      go_wp2_with (first
        | ((with_reducible refine wl_load24 (b := b) (off := 2) (X := X) ?_ R2.out ?_); (exact rfl))
        | ((with_reducible refine wl_allocN zero24 ?_); intro g w4 Z hZ1 hZ2 hle4 hB4)
        | ((with_reducible refine wl_storeN (n := 3) (A := X.hcells) (Z := Z) ?_ ?_ hZ1 hZ2 X.hsize X.hone s24 ?_); (exact rfl); (exact rfl); intro w5 h5 hW5; replace G := Lib.hid (G.out.keep (hW5.below hB4 hle4)); have hge : Hid (w.heap.size ≤ g) := Lib.hid (Nat.le_trans hB.out.size hle4); replace hB := Lib.hid (hW5.below (hB.out.trans (hB4.mono hB.out.size)) hge.out); replace h5 := Lib.hid h5; clear hZ1 hZ2 hle4 hB4 hW5 R1 R2; obtain ⟨d0, d5, d38, d39⟩ := MK.out _ G.out))
      clear d0 d5 d38 d39
      go_loopw [5, 6, 7] (fun v5 v6 v7 wr => ∃ i, i ≤ ll ∧ v6 = .int .i64 i ∧ v5 = .int .i64 ((kn + lsum (X.L.take i) : Nat) : Int) ∧ wr.heap[g]? = some (.cells X.hcells 24) ∧ Got wr b X ∧ Below w.heap.size w wr) (fun _ v6 _ _ => ll - (intOf v6).toNat)
      case atStart => exact ⟨0, Nat.zero_le _, rfl, by simp [lsum], h5.out, G.out, hB.out⟩
      case round =>
        clear h5 G hB hle
        obtain ⟨i, hi, rfl, rfl, h5, G, hB⟩ := hrel
        obtain ⟨d0, d5, d38, d39⟩ := MK.out _ G
        by_cases hlt : i < ll
        · have hlt' : (i : Int) < (ll : Int) := by omega
          obtain ⟨l, hl⟩ : ∃ l, X.L[i]? = some l := ⟨X.L[i]'(by rw [HLL.out]; exact hlt), List.getElem?_eq_getElem _⟩
          obtain ⟨b2, off, e, hrow⟩ := G.T.lkAt hl
          rw [HLA.out] at e
          subst e
          obtain ⟨hT32, hwl, hrl⟩ := G.T.lksOk l (List.mem_of_getElem? hl)
          obtain ⟨q1, q2⟩ := lkCells hT32 hrow
          unfold lenMax at hwl hrl
          have hbnd := lsum_at hl
          have hnz := F.out.lk l (List.mem_of_getElem? hl)
          have HB := F.out.few
          unfold tot at HB
          have HS := Lib.hid (lsum_take hl)
          generalize l.wl = al at hwl hbnd HS q1 hnz
          generalize l.rl = dl at hrl hbnd HS q2 hnz
          generalize lsum (X.L.take i) = s at hbnd HS
          generalize lsum X.L = all at hbnd HB
          have hnz' : ¬ (al : Int) + (dl : Int) = 0 := by omega
          replace h5 := Lib.hid h5
          replace hB := Lib.hid hB
          replace G := Lib.hid G
          clear hl hrow hT32 hnz
          go_wp2
          refine wp_region_quiet_lit (by kernel_rfl) (by kernel_rfl) ?_
          repeat go_big_quiet_step (fail)
          refine wpQuiet_nil ?_
          intro wz hwz
          have hB2 := Below.drewN hB.out hwz
          have hB3 : Below wr.heap.size wr wz := Below.drewN (Below.refl _ _) hwz
          obtain ⟨dn, rfl⟩ := hwz
          go_wp2
          go_roundw
          case rel => exact ⟨i + 1, by omega, by go_num, by rw [HS.out]; go_num, h5.out, G.out.keep hB3, hB2⟩
          case measure => simp [intOf]; omega
        · obtain rfl : i = ll := by omega
          have hlt' : ¬ (i : Int) < (i : Int) := by omega
          have e : kn + lsum (X.L.take i) = tot X := by rw [← HLL.out, List.take_length, ← HKN.out]; rfl
          rw [e]
          obtain ⟨k0, k1, k2⟩ := hCells h5
          have f1 := F.out.sg
          have f2 := F.out.s0
          have f3 := F.out.rs
          have f4 := F.out.so
          have f5 := F.out.few
          have b1 := HT.out.hs
          have b2 := HT.out.hr
          have b3 := HT.out.ho
          have HTOT := Lib.hid (total_any wr G.T hbig.out)
          have HTT : Hid (∀ i ∈ X.I, i.p ≠ 0 ∧ i.p < kn ∧ ∀ a ∈ i.A, a < tot X) := Lib.hid fun i hi => by rw [← HKN.out]; exact F.out.ins i hi
          have HON := Lib.hid F.out.once
          rw [HSL.out] at f1
          rw [HKN.out] at f4
          clear F e
          generalize X.hs = hs at f1 f2 f3 f4 k0 b1
          generalize X.hr = hr at f3 k1 b2
          generalize X.ho = ho at f4 k2 b3
          generalize tot X = all at f5 HTOT HTT
          subst f1
          have g1 : ¬ (sl : Int) < 1 := by omega
          have g2 : ¬ (sl : Int) - (hr : Int) < 1 := by omega
          have g3 : ¬ (kn : Int) - (sl : Int) - (ho : Int) < 0 := by omega
          have g4 : ¬ (all : Int) > 64 := by omega
          have R1 := Lib.hid G.row
          replace G := Lib.hid G
          replace hB := Lib.hid hB
          clear h5
          go_wp2_with ((with_reducible refine wl_load33G (b := b) (off := 0) (X := X) ?_ ?_ R1.out HR.out ?_); (kernel_rfl); (exact rfl))
          go_at_call 10
          refine HTOT.out.mono ?_
          rintro e w6 ⟨rfl, hB6⟩
          replace G := Lib.hid (G.out.keep hB6)
          replace hB := Lib.hid (hB.out.trans (hB6.mono hB.out.size))
          clear hB6 HTOT R1 d0 d5 d38 d39 g1 g2 g3 k0 k1 k2
          go_wp2_with ((with_reducible refine wl_makeMap ?_); intro r w7 es cl hM hle7 hB7)
          replace hM := Lib.hid hM
          replace hB7 := Lib.hid hB7
          replace hle7 := Lib.hid hle7
          have e0 : keysOf (X.K.take 0) = [] := rfl
          go_loopw [9] (fun v9 wr => ∃ (i : Nat) (es : Array MapEntry) (cl : Nat), i ≤ kn ∧ v9 = .int .i64 i ∧ MapOf wr r (keysOf (X.K.take i)) i es cl ∧ Below w6.heap.size w6 wr) (fun v9 _ => kn - (intOf v9).toNat)
          case atStart => exact ⟨0, _, _, Nat.zero_le _, rfl, hM.out, hB7.out⟩
          case round =>
            clear hM hB7 e0 w7 es cl hi hlt hlt'
            obtain ⟨j, es, cl, hj, rfl, hM, hBr⟩ := hrel
            by_cases hlt : j < kn
            · have hlt' : (j : Int) < (kn : Int) := by omega
              obtain ⟨k, hk⟩ : ∃ k, X.K[j]? = some k := ⟨X.K[j]'(by rw [HKN.out]; exact hlt), List.getElem?_eq_getElem _⟩
              obtain ⟨kb, off, e, hrow⟩ := G.out.T.keyAt hk
              rw [HKA.out] at e
              subst e
              have hkey := HT.out.key k (List.mem_of_getElem? hk)
              have hrow2 : Hid (∀ W, Below w6.heap.size w6 W → RowAt W kb (off + j * 32) (icells .u8 k)) := Lib.hid fun W hW => Below.row hW hrow hrow.lt
              have HNEXT : Hid (keysOf (X.K.take (j + 1)) = ins (keysOf (X.K.take j)) k) := Lib.hid (keysOf_take hk)
              have HS : Hid (∀ x ∈ keysOf (X.K.take j), IsKey x) := Lib.hid fun x hx => by
                have := ((keysOf_spec X.K j (by rw [HKN.out]; exact hj)).1 x).1 hx
                exact HT.out.key x (List.mem_of_mem_take this)
              have HKEY := Lib.hid hkey
              have HSZ : Hid ((icells .u8 k).size = 32) := Lib.hid (by rw [size_icells]; exact hkey.1)
              have hMd := hM.of_block (w' := wr.drew) rfl
              generalize keysOf (X.K.take j) = S at hMd HNEXT HS
              obtain ⟨c, st, es1, cl1, w8, hrun, hM8, hst, hW8, hlk, hlk8, p1, p2⟩ := hMd.entry HS.out HKEY.out (by omega)
              have hcw : (IntKind.i64.wrap (c + 1)) = c + 1 := by rw [IntKind.wrap_i64]; omega
              clear hM hk hkey hrow
              have hBd : Below w6.heap.size w6 wr.drew := hBr.drew
              go_wp2
              try simp only [Act.put, List.setIfInBounds_toArray, List.set_cons_zero, List.set_cons_succ]
              refine wp_regionW (n := 12) (S := fun W => Below w6.heap.size w6 W ∧ Looks W r k c) (late := fun j => j == 11) rfl (by kernel_rfl) ?_
              have hS : Below w6.heap.size w6 wr.drew ∧ Looks wr.drew r k c := ⟨hBd, hlk⟩
              refine takeW (j := 0) (v := .map (some r)) rfl rfl rfl (by kernel_rfl) (by kernel_rfl) (by kernel_rfl) (by kernel_rfl) (fun _ _ _ h => h) (fun W hW => exec_move rfl rfl) hS ?_
              simp only [List.set_cons_zero, List.set_cons_succ]
              refine takeW (j := 1) (v := .pointer (some ⟨b, 1, none⟩)) rfl rfl rfl (by kernel_rfl) (by kernel_rfl) (by kernel_rfl) (by kernel_rfl) (fun _ _ _ h => h) (fun W hW => by go_simp) hS ?_
              simp only [List.set_cons_zero, List.set_cons_succ]
              refine takeW (j := 2) (v := .pointer (some ⟨b, 5, none⟩)) rfl rfl rfl (by kernel_rfl) (by kernel_rfl) (by kernel_rfl) (by kernel_rfl) (fun _ _ _ h => h) (fun W hW => by go_simp) hS ?_
              simp only [List.set_cons_zero, List.set_cons_succ]
              refine takeW (j := 3) (v := .slice (some ⟨kb, off, none⟩) kn X.kc) rfl rfl rfl (by kernel_rfl) (by kernel_rfl) (by kernel_rfl) (by kernel_rfl) (fun _ _ _ h => h) (fun W hW => exec_load_cell rfl rfl Try.underlying25 rfl (MK.out W (G.out.keep hW.1)).2.1) hS ?_
              simp only [List.set_cons_zero, List.set_cons_succ]
              refine takeW (j := 4) (v := .int .i64 (j : Int)) rfl rfl rfl (by kernel_rfl) (by kernel_rfl) (by kernel_rfl) (by kernel_rfl) (fun _ _ _ h => h) (fun W hW => exec_move rfl rfl) hS ?_
              simp only [List.set_cons_zero, List.set_cons_succ]
              refine takeW (j := 5) (v := .pointer (some ⟨kb, off + j * 32, none⟩)) rfl rfl rfl (by kernel_rfl) (by kernel_rfl) (by kernel_rfl) (by kernel_rfl) (fun _ _ _ h => h) (fun W hW => exec_index_rows rfl rfl rfl und25 s41 hlt) hS ?_
              simp only [List.set_cons_zero, List.set_cons_succ]
              refine takeW (j := 6) (v := kv k) rfl rfl rfl (by kernel_rfl) (by kernel_rfl) (by kernel_rfl) (by kernel_rfl) (fun _ _ _ h => h) (fun W hW => exec_load_sub rfl rfl (hrow2.out W hW.1) und41 rfl (by rw [HSZ.out]; exact s41)) hS ?_
              simp only [List.set_cons_zero, List.set_cons_succ]
              refine takeW (j := 7) (v := .int .i64 c) rfl rfl rfl (by kernel_rfl) (by kernel_rfl) (by kernel_rfl) (by kernel_rfl) (fun _ _ _ h => h) (fun W hW => exec_lookup rfl rfl rfl hW.2) hS ?_
              simp only [List.set_cons_zero, List.set_cons_succ]
              refine takeW (j := 8) (v := .int .i64 (c + 1)) rfl rfl rfl (by kernel_rfl) (by kernel_rfl) (by kernel_rfl) (by kernel_rfl) (fun _ _ _ h => h) (fun W hW => by go_simp) hS ?_
              simp only [List.set_cons_zero, List.set_cons_succ]
              refine oneW 9 (by kernel_rfl) (run_val (v := .tuple #[.int .i64 c, goInt st]) rfl rfl rfl (exec_mapEntry rfl rfl rfl hrun) ?_)
              have hS8 : Below w6.heap.size w6 w8 ∧ Looks w8 r k c := ⟨hW8.below hBd hle7.out, hlk8⟩
              refine ⟨fun _ => hS8, ?_⟩
              simp only [List.set_cons_zero, List.set_cons_succ]
              refine takeW (j := 10) (v := goInt st) rfl rfl rfl (by kernel_rfl) (by kernel_rfl) (by kernel_rfl) (by kernel_rfl) (fun _ _ _ h => h) (fun W hW => exec_extract rfl rfl rfl) hS8 ?_
              simp only [List.set_cons_zero, List.set_cons_succ]
              obtain ⟨es9, cl9, w9, hrun9, hM9, hW9⟩ := (hM8.mono (M := (j : Int) + 1) (by omega)).store hst (c := c + 1) (by omega) (by omega)
              refine oneW 11 (by kernel_rfl) (run_skip rfl rfl rfl (exec_entryStore rfl rfl rfl rfl hrun9) ⟨fun h => (by cases h), ?_⟩)
              refine doneW (by kernel_rfl) ?_ _
              have hBl : Below w6.heap.size w6 w9 := hW9.below hS8.1 hle7.out
              go_wp2
              go_roundw
              case rel => exact ⟨j + 1, _, _, by omega, by go_num, by rw [HNEXT.out]; exact hM9, hBl⟩
              case measure => simp [intOf]; omega
            · obtain rfl : j = kn := by omega
              have hlt' : ¬ (j : Int) < (j : Int) := by omega
              have e : X.K.take j = X.K := by rw [← HKN.out, List.take_length]
              rw [e] at hM
              have hkl : (keysOf X.K).length = j := by
                have := (keysOf_whole X.K).2 HON.out
                rw [HKN.out] at this
                exact this
              replace hM := Lib.hid hM
              replace HLN := Lib.hid hkl
              replace G := Lib.hid (G.out.keep hBr)
              have HB := Lib.hid (hB.out.trans (hBr.mono hB.out.size))
              clear hB hBr hkl e hj hlt
              go_wp2
              go_loopw [10, 11, 12] (fun v10 v11 v12 wq => ∃ i : Nat, i ≤ il ∧ v10 = .int .i64 i ∧ Below wr.heap.size wr wq) (fun v10 _ _ _ => il - (intOf v10).toNat)
              case atStart => exact ⟨0, Nat.zero_le _, rfl, Below.refl _ _⟩
              case round =>
                clear hlt'
                obtain ⟨i, hi, rfl, hBq⟩ := hrel
                obtain ⟨d0, d5, d38, d39⟩ := MK.out _ (G.out.keep hBq)
                by_cases hlt : i < il
                · have hlt' : (i : Int) < (il : Int) := by omega
                  obtain ⟨l, hl⟩ : ∃ l, X.I[i]? = some l := ⟨X.I[i]'(by rw [HIL.out]; exact hlt), List.getElem?_eq_getElem _⟩
                  have Gq := G.out.keep hBq
                  obtain ⟨b2, off, e, hrow⟩ := Gq.T.insAt hl
                  rw [HIA.out] at e
                  subst e
                  obtain ⟨hp, hal, hdl, hby⟩ := Gq.T.insOk l (List.mem_of_getElem? hl)
                  obtain ⟨t1, t2, t3⟩ := HTT.out l (List.mem_of_getElem? hl)
                  have hr2 := Lib.hid hrow
                  unfold lenMax at hal
                  obtain ⟨p, hpp⟩ : ∃ p, l.p = p := ⟨_, rfl⟩
                  obtain ⟨al, hll⟩ : ∃ al, l.A.length = al := ⟨_, rfl⟩
                  obtain ⟨aa, haa⟩ : ∃ aa, l.aa = aa := ⟨_, rfl⟩
                  obtain ⟨A, hA⟩ : ∃ A, l.A = A := ⟨_, rfl⟩
                  have QK : Hid (∀ (u : World) (g : Nat), u.heap[g]? = some (.cells l.cells 47) → u.cell? ⟨g, 0, none⟩ = some (.int .u8 (p : Int)) ∧ u.cell? ⟨g, 1, none⟩ = some (.slice aa al l.ac)) := Lib.hid fun u g hu => by
                    obtain ⟨q0, q1, _⟩ := insCells (RowAt.of_cells hu)
                    simp only [Nat.zero_add] at q1
                    rw [← hpp, ← hll, ← haa]
                    exact ⟨q0, q1⟩
                  rw [hll] at hal
                  rw [hA] at hby t3 hll
                  rw [haa] at hby
                  rw [hpp] at hp t1 t2
                  have s1 : ¬ (p : Int) < 1 := by omega
                  have s2 : ¬ (p : Int) > (j : Int) - 1 := by omega
                  have HBY := Lib.hid hby
                  have HT3 := Lib.hid t3
                  have HAL := Lib.hid hll
                  replace hBq := Lib.hid hBq
                  clear hl hrow Gq hpp haa hA hby t3 hll hdl
                  go_wp2_with (first
                    | ((with_reducible refine wl_load47 (i := l) ?_ hr2.out ?_); (exact rfl))
                    | ((with_reducible refine wl_allocN zero47 ?_); intro g3 w3 Z hZ1 hZ2 hle3 hB3)
                    | ((with_reducible refine wl_storeN (n := 3) (A := l.cells) (Z := Z) ?_ ?_ hZ1 hZ2 (Ins.size _) l.one s47 ?_); (exact rfl); (exact rfl); intro w4 h4 hW4; obtain ⟨q0, q1⟩ := QK.out _ _ h4; have hB4 := Lib.hid (hW4.below hB3 hle3); clear h4 hZ1 hW4 hB3 hle3 QK))
                  go_loopw [12] (fun v12 wz => ∃ m : Nat, m ≤ al ∧ v12 = .int .i64 m ∧ wz = w4) (fun v12 _ => al - (intOf v12).toNat)
                  case atStart => exact ⟨0, Nat.zero_le _, rfl, rfl⟩
                  case round =>
                    obtain ⟨m, hm, rfl, rfl⟩ := hrel
                    by_cases hlm : m < al
                    · have hlm' : (m : Int) < (al : Int) := by omega
                      obtain ⟨z1, zb, zo, rfl, z2, z3⟩ := HBY.out m (by rw [HAL.out]; exact hlm)
                      have z4 : A.getD m 0 < all := HT3.out _ (by
                        rw [List.getD_eq_getElem?_getD, List.getElem?_eq_getElem (by rw [HAL.out]; exact hlm)]
                        exact List.getElem_mem _)
                      replace z3 := Below.keepCell hB4.out (Nat.le_refl _) z3
                      generalize A.getD m 0 = v at z1 z3 z4
                      have s3 : ¬ (v : Int) > (all : Int) - 1 := by omega
                      go_wp2
                      go_roundw
                      case rel => exact ⟨m + 1, by omega, by go_num, trivial⟩
                      case measure => simp [intOf]; omega
                    · obtain rfl : m = al := by omega
                      have hlm' : ¬ (m : Int) < (m : Int) := by omega
                      go_wp2
                      go_roundw
                      case rel => exact ⟨i + 1, by omega, by go_num, hBq.out.trans (hB4.out.mono hBq.out.size)⟩
                      case measure => simp [intOf]; omega
                · obtain rfl : i = il := by omega
                  have hlt' : ¬ (i : Int) < (i : Int) := by omega
                  have hln := len_map (hM.out.of_block (hBq.block _ (Array.getElem?_eq_some_iff.1 hM.out.heap).1))
                  rw [HLN.out] at hln
                  have HBZ := Lib.hid (HB.out.trans (hBq.mono HB.out.size))
                  clear hM
                  go_wp2_with fail
                  go_at_call 8
                  refine (lives_any _).mono ?_
                  rintro e w9 ⟨rfl, hB9⟩
                  go_wp2_with fail
                  go_ret
                  exact ⟨rfl, HBZ.out.trans (hB9.mono HBZ.out.size)⟩
    · have hc' : ¬ (chk X : Int) = 0 := by omega
      go_wp2_with fail
      go_at_call 8
      refine (lives_any _).mono ?_
      rintro e w4 ⟨rfl, hB4⟩
      go_wp2_with fail
      go_ret
      exact ⟨rfl, hB.out.trans (hB4.mono hB.out.size)⟩
end Go.Proofs.Ytgjijoielfpmkaa
