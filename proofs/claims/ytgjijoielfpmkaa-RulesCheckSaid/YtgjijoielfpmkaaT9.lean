/- SameMessage, of a message and its twin. -/
import Derived.Test.YtgjijoielfpmkaaT8
set_option linter.unusedVariables false
namespace Go.Proofs.Ytgjijoielfpmkaa
open Go.RowKit

set_option maxRecDepth 20000 in
set_option maxHeartbeats 1600000 in
theorem sameMsg_any {X Y : Tx} {base : Nat} (w : World) (hT : TxAt w X) (hF : Fits X) (hY : MsgTwin w base X Y) : Calls Try.prog 37 #[Y.mval, X.mval] w fun e w' => e = .returned (.bool true) ∧ Below w.heap.size w w' := by
  obtain ⟨kn, hkn⟩ : ∃ kn, X.K.length = kn := ⟨_, rfl⟩
  obtain ⟨il, hiln⟩ : ∃ il, X.I.length = il := ⟨_, rfl⟩
  obtain ⟨ll, hlln⟩ : ∃ ll, X.L.length = ll := ⟨_, rfl⟩
  obtain ⟨xa, hxa⟩ : ∃ xa, X.ia = xa := ⟨_, rfl⟩
  obtain ⟨xl, hxl⟩ : ∃ xl, X.la = xl := ⟨_, rfl⟩
  obtain ⟨ya, hya⟩ : ∃ ya, Y.ia = ya := ⟨_, rfl⟩
  obtain ⟨yl, hyl⟩ : ∃ yl, Y.la = yl := ⟨_, rfl⟩
  obtain ⟨v0, hv0⟩ : ∃ v0, X.v0 = v0 := ⟨_, rfl⟩
  have bk := hF.K
  have bi := hF.I
  have bl := hF.L
  rw [hkn] at bk
  rw [hiln] at bi
  rw [hlln] at bl
  have HR := Lib.hid hT.R
  have HIN := Lib.hid hiln
  have HLN := Lib.hid hlln
  have PI := Lib.hid (fun (i : Nat) (l : Ins) (hl : X.I[i]? = some l) => hY.pairI hT hF hl)
  have PL := Lib.hid (fun (i : Nat) (l : Lk) (hl : X.L[i]? = some l) => hY.pairL hT hF hl)
  rw [hxa, hya] at PI
  rw [hxl, hyl] at PL
  have HL32 := Lib.hid (fun l hl => (hT.lksOk l hl).1)
  have MX : Hid (∀ (b : Nat) (W : World), W.heap[b]? = some (.cells X.mcells 31) → MC W b X X.ka kn X.kc xa il X.ic xl ll X.lc) := Lib.hid fun b W hb => by
    rw [← hkn, ← hiln, ← hlln, ← hxa, ← hxl]; exact mcX HR.out hb
  obtain ⟨gk, k1, k2, k3⟩ := hY.keys
  have MY : Hid (∀ (b : Nat) (W : World), W.heap[b]? = some (.cells Y.mcells 31) → MC W b X (some ⟨gk, 0, none⟩) kn (kn + 3) ya il Y.ic yl ll Y.lc) := Lib.hid fun b W hb => by
    have := mcY HR.out hY hb
    rw [k1, k2, hkn, hiln, hlln, hya, hyl] at this
    exact this
  have SK : Hid (∀ W, Below w.heap.size w W → Calls Try.prog 46 #[.slice (some ⟨gk, 0, none⟩) kn (kn + 3), .slice X.ka kn X.kc] W fun e w' => e = .returned (.bool true) ∧ Below W.heap.size W w') := Lib.hid fun W hW => by
    have := same46_any (c := X.K.length + 3) (c' := X.kc) W (fun k hk => (hT.key k hk).1) (k3.rowsSome.low.keep hW) (hT.keys.keep hW) (by rw [hkn]; omega)
    rw [hkn] at this
    exact this
  have HV := Lib.hid hv0
  clear hT hF hY k1 k2 k3 hkn hiln hlln hxa hxl hya hyl hv0
  go_enter Try.func37, Try.ntmps37
  have bne : (v0 != v0) = false := by simp
  have kne : ((il : Int) != (il : Int)) = false := by simp
  have lne : ((ll : Int) != (ll : Int)) = false := by simp
  go_wp2_with (first
    | ((with_reducible refine wl_box31 (dst := some 2) (X := Y) ?_ ?_); (exact rfl); intro b2 w1 hb2 hle2 hB2)
    | ((with_reducible refine wl_box31 (dst := some 3) (X := X) ?_ ?_); (exact rfl); intro b3 w2 hb3 hle3 hB3;
       have hb2' := (hB3.block _ (Array.getElem?_eq_some_iff.1 hb2).1).trans hb2;
       have HU : Hid (∀ W, Below w2.heap.size w2 W → Below w.heap.size w W) := (Lib.hid fun W hW => (hB2.trans (hB3.mono hB2.size)).trans (hW.mono (hB2.trans (hB3.mono hB2.size)).size));
       have MM : Hid (∀ W, Below w2.heap.size w2 W → Below w.heap.size w W ∧ MC W b2 X (some ⟨gk, 0, none⟩) kn (kn + 3) ya il Y.ic yl ll Y.lc ∧ MC W b3 X X.ka kn X.kc xa il X.ic xl ll X.lc) := (Lib.hid fun W hW => ⟨HU.out W hW, MY.out _ _ ((hW.block _ (Array.getElem?_eq_some_iff.1 hb2').1).trans hb2'), MX.out _ _ ((hW.block _ (Array.getElem?_eq_some_iff.1 hb3).1).trans hb3)⟩);
       clear hb2 hb2' hb3 hle2 hle3 hB2 hB3 MX MY;
       obtain ⟨p0, p1, p4, p2, p37, p38⟩ := (MM.out _ (Below.refl _ _)).2.1;
       obtain ⟨q0, q1, q4, q2, q37, q38⟩ := (MM.out _ (Below.refl _ _)).2.2;
       rw [HV.out] at p0 q0;
       replace p1 := Lib.hid p1; replace p2 := Lib.hid p2; replace q1 := Lib.hid q1; replace q2 := Lib.hid q2)
    | ((with_reducible refine wl_load24G (b := b2) (off := 1) (X := X) ?_ ?_ p1.out ?_); (kernel_rfl); (exact rfl))
    | ((with_reducible refine wl_load24G (b := b3) (off := 1) (X := X) ?_ ?_ q1.out ?_); (kernel_rfl); (exact rfl))
    | ((with_reducible refine wl_neq24G (X := X) ?_ ?_ ?_ ?_); (kernel_rfl); (exact rfl); (exact rfl))
    | ((with_reducible refine wl_load27G (b := b2) (off := 5) (k := X.R) ?_ ?_ p2.out HR.out ?_); (kernel_rfl); (exact rfl))
    | ((with_reducible refine wl_load27G (b := b3) (off := 5) (k := X.R) ?_ ?_ q2.out HR.out ?_); (kernel_rfl); (exact rfl))
    | ((with_reducible refine wl_neq27G (k := X.R) ?_ ?_ ?_ HR.out ?_); (kernel_rfl); (exact rfl); (exact rfl))
    | (go_at_call 46; refine (SK.out _ (HU.out _ (Below.refl _ _))).mono ?_; rintro e w3 ⟨rfl, hB4⟩; clear p0 p1 p2 p4 p37 p38 q0 q1 q2 q4 q37 q38; obtain ⟨p0, -, p4, -, p37, p38⟩ := (MM.out _ hB4).2.1; obtain ⟨q0, -, q4, -, q37, q38⟩ := (MM.out _ hB4).2.2; replace hB4 := Lib.hid hB4))
  clear bne kne lne p0 p4 p37 p38 q0 q4 q37 q38
  go_loopw [5] (fun v5 wr => ∃ i : Nat, i ≤ il ∧ v5 = .int .i64 i ∧ Below w2.heap.size w2 wr) (fun v5 _ => il - (intOf v5).toNat)
  case atStart => exact ⟨0, Nat.zero_le _, rfl, hB4.out⟩
  case round =>
    clear hB4
    obtain ⟨i, hi, rfl, hB⟩ := hrel
    have p37 := (MM.out _ hB).2.1.c37
    have q37 := (MM.out _ hB).2.2.c37
    by_cases hlt : i < il
    · have hlt' : (i : Int) < (il : Int) := by omega
      obtain ⟨l, hl⟩ : ∃ l, X.I[i]? = some l := ⟨X.I[i]'(by rw [HIN.out]; exact hlt), List.getElem?_eq_getElem _⟩
      obtain ⟨yb, yo, xb, xo, ga, gd, rfl, rfl, hp⟩ := PI.out i l hl
      have PR := Lib.hid hp
      have HLT := Lib.hid hlt
      have hS : Below w2.heap.size w2 wr.drew := hB.drew
      clear hp hB hi hl hlt
      go_wp2
      clear p37 q37 hlt'
      refine wp_regionW (n := 45) (S := fun W => Below w2.heap.size w2 W) (late := fun _ => false) rfl (by kernel_rfl) ?_
      refine takeW (j := 0) (v := .pointer (some ⟨b2, 37, none⟩)) rfl rfl rfl (by kernel_rfl) (by kernel_rfl) (by kernel_rfl) (by kernel_rfl) (fun _ _ _ h => h) (fun W hW => by go_simp) hS ?_
      simp only [List.set_cons_zero, List.set_cons_succ]
      refine takeW (j := 1) (v := .slice (some ⟨yb, yo, none⟩) il Y.ic) rfl rfl rfl (by kernel_rfl) (by kernel_rfl) (by kernel_rfl) (by kernel_rfl) (fun _ _ _ h => h) (fun W hW => exec_load_cell rfl rfl und28 rfl (MM.out W hW).2.1.c37) hS ?_
      simp only [List.set_cons_zero, List.set_cons_succ]
      refine takeW (j := 2) (v := .int .i64 (i : Int)) rfl rfl rfl (by kernel_rfl) (by kernel_rfl) (by kernel_rfl) (by kernel_rfl) (fun _ _ _ h => h) (fun W hW => exec_move rfl rfl) hS ?_
      simp only [List.set_cons_zero, List.set_cons_succ]
      refine takeW (j := 3) (v := .pointer (some ⟨yb, yo + i * 3, none⟩)) rfl rfl rfl (by kernel_rfl) (by kernel_rfl) (by kernel_rfl) (by kernel_rfl) (fun _ _ _ h => h) (fun W hW => exec_index_rows rfl rfl rfl und28 s47 HLT.out) hS ?_
      simp only [List.set_cons_zero, List.set_cons_succ]
      refine takeW (j := 4) (v := .pointer (some ⟨yb, yo + i * 3, none⟩)) rfl rfl rfl (by kernel_rfl) (by kernel_rfl) (by kernel_rfl) (by kernel_rfl) (fun _ _ _ h => h) (fun W hW => by go_simp) hS ?_
      simp only [List.set_cons_zero, List.set_cons_succ]
      refine takeW (j := 5) (v := .int .u8 (l.p : Int)) rfl rfl rfl (by kernel_rfl) (by kernel_rfl) (by kernel_rfl) (by kernel_rfl) (fun _ _ _ h => h) (fun W hW => exec_load_cell rfl rfl u5 rfl (PR.out W (MM.out W hW).1).y0) hS ?_
      simp only [List.set_cons_zero, List.set_cons_succ]
      refine takeW (j := 6) (v := .pointer (some ⟨b3, 37, none⟩)) rfl rfl rfl (by kernel_rfl) (by kernel_rfl) (by kernel_rfl) (by kernel_rfl) (fun _ _ _ h => h) (fun W hW => by go_simp) hS ?_
      simp only [List.set_cons_zero, List.set_cons_succ]
      refine takeW (j := 7) (v := .slice (some ⟨xb, xo, none⟩) il X.ic) rfl rfl rfl (by kernel_rfl) (by kernel_rfl) (by kernel_rfl) (by kernel_rfl) (fun _ _ _ h => h) (fun W hW => exec_load_cell rfl rfl und28 rfl (MM.out W hW).2.2.c37) hS ?_
      simp only [List.set_cons_zero, List.set_cons_succ]
      refine takeW (j := 8) (v := .int .i64 (i : Int)) rfl rfl rfl (by kernel_rfl) (by kernel_rfl) (by kernel_rfl) (by kernel_rfl) (fun _ _ _ h => h) (fun W hW => exec_move rfl rfl) hS ?_
      simp only [List.set_cons_zero, List.set_cons_succ]
      refine takeW (j := 9) (v := .pointer (some ⟨xb, xo + i * 3, none⟩)) rfl rfl rfl (by kernel_rfl) (by kernel_rfl) (by kernel_rfl) (by kernel_rfl) (fun _ _ _ h => h) (fun W hW => exec_index_rows rfl rfl rfl und28 s47 HLT.out) hS ?_
      simp only [List.set_cons_zero, List.set_cons_succ]
      refine takeW (j := 10) (v := .pointer (some ⟨xb, xo + i * 3, none⟩)) rfl rfl rfl (by kernel_rfl) (by kernel_rfl) (by kernel_rfl) (by kernel_rfl) (fun _ _ _ h => h) (fun W hW => by go_simp) hS ?_
      simp only [List.set_cons_zero, List.set_cons_succ]
      refine takeW (j := 11) (v := .int .u8 (l.p : Int)) rfl rfl rfl (by kernel_rfl) (by kernel_rfl) (by kernel_rfl) (by kernel_rfl) (fun _ _ _ h => h) (fun W hW => exec_load_cell rfl rfl u5 rfl (PR.out W (MM.out W hW).1).x0) hS ?_
      simp only [List.set_cons_zero, List.set_cons_succ]
      refine takeW (j := 12) (v := .bool false) rfl rfl rfl (by kernel_rfl) (by kernel_rfl) (by kernel_rfl) (by kernel_rfl) (fun _ _ _ h => h) (fun W hW => by go_simp) hS ?_
      simp only [List.set_cons_zero, List.set_cons_succ]
      refine takeW (j := 13) (v := .bool false) rfl rfl rfl (by kernel_rfl) (by kernel_rfl) (by kernel_rfl) (by kernel_rfl) (fun _ _ _ h => h) (fun W hW => exec_move rfl rfl) hS ?_
      simp only [List.set_cons_zero, List.set_cons_succ]
      refine takeG (j := 14) (v := .pointer (some ⟨b2, 37, none⟩)) rfl rfl (by kernel_rfl) (by kernel_rfl) (by kernel_rfl) (by kernel_rfl) (by kernel_rfl) (fun _ _ _ h => h) (fun W hW => by go_simp) hS ?_
      simp only [List.set_cons_zero, List.set_cons_succ]
      refine takeG (j := 15) (v := .slice (some ⟨yb, yo, none⟩) il Y.ic) rfl rfl (by kernel_rfl) (by kernel_rfl) (by kernel_rfl) (by kernel_rfl) (by kernel_rfl) (fun _ _ _ h => h) (fun W hW => exec_load_cell rfl rfl und28 rfl (MM.out W hW).2.1.c37) hS ?_
      simp only [List.set_cons_zero, List.set_cons_succ]
      refine takeG (j := 16) (v := .int .i64 (i : Int)) rfl rfl (by kernel_rfl) (by kernel_rfl) (by kernel_rfl) (by kernel_rfl) (by kernel_rfl) (fun _ _ _ h => h) (fun W hW => exec_move rfl rfl) hS ?_
      simp only [List.set_cons_zero, List.set_cons_succ]
      refine takeG (j := 17) (v := .pointer (some ⟨yb, yo + i * 3, none⟩)) rfl rfl (by kernel_rfl) (by kernel_rfl) (by kernel_rfl) (by kernel_rfl) (by kernel_rfl) (fun _ _ _ h => h) (fun W hW => exec_index_rows rfl rfl rfl und28 s47 HLT.out) hS ?_
      simp only [List.set_cons_zero, List.set_cons_succ]
      refine takeG (j := 18) (v := .pointer (some ⟨yb, yo + i * 3 + 1, none⟩)) rfl rfl (by kernel_rfl) (by kernel_rfl) (by kernel_rfl) (by kernel_rfl) (by kernel_rfl) (fun _ _ _ h => h) (fun W hW => by go_simp) hS ?_
      simp only [List.set_cons_zero, List.set_cons_succ]
      refine takeG (j := 19) (v := .slice (some ⟨ga, 0, none⟩) l.A.length (l.A.length + 3)) rfl rfl (by kernel_rfl) (by kernel_rfl) (by kernel_rfl) (by kernel_rfl) (by kernel_rfl) (fun _ _ _ h => h) (fun W hW => exec_load_cell rfl rfl und42 rfl (PR.out W (MM.out W hW).1).y1) hS ?_
      simp only [List.set_cons_zero, List.set_cons_succ]
      refine takeG (j := 20) (v := .pointer (some ⟨b3, 37, none⟩)) rfl rfl (by kernel_rfl) (by kernel_rfl) (by kernel_rfl) (by kernel_rfl) (by kernel_rfl) (fun _ _ _ h => h) (fun W hW => by go_simp) hS ?_
      simp only [List.set_cons_zero, List.set_cons_succ]
      refine takeG (j := 21) (v := .slice (some ⟨xb, xo, none⟩) il X.ic) rfl rfl (by kernel_rfl) (by kernel_rfl) (by kernel_rfl) (by kernel_rfl) (by kernel_rfl) (fun _ _ _ h => h) (fun W hW => exec_load_cell rfl rfl und28 rfl (MM.out W hW).2.2.c37) hS ?_
      simp only [List.set_cons_zero, List.set_cons_succ]
      refine takeG (j := 22) (v := .int .i64 (i : Int)) rfl rfl (by kernel_rfl) (by kernel_rfl) (by kernel_rfl) (by kernel_rfl) (by kernel_rfl) (fun _ _ _ h => h) (fun W hW => exec_move rfl rfl) hS ?_
      simp only [List.set_cons_zero, List.set_cons_succ]
      refine takeG (j := 23) (v := .pointer (some ⟨xb, xo + i * 3, none⟩)) rfl rfl (by kernel_rfl) (by kernel_rfl) (by kernel_rfl) (by kernel_rfl) (by kernel_rfl) (fun _ _ _ h => h) (fun W hW => exec_index_rows rfl rfl rfl und28 s47 HLT.out) hS ?_
      simp only [List.set_cons_zero, List.set_cons_succ]
      refine takeG (j := 24) (v := .pointer (some ⟨xb, xo + i * 3 + 1, none⟩)) rfl rfl (by kernel_rfl) (by kernel_rfl) (by kernel_rfl) (by kernel_rfl) (by kernel_rfl) (fun _ _ _ h => h) (fun W hW => by go_simp) hS ?_
      simp only [List.set_cons_zero, List.set_cons_succ]
      refine takeG (j := 25) (v := .slice l.aa l.A.length l.ac) rfl rfl (by kernel_rfl) (by kernel_rfl) (by kernel_rfl) (by kernel_rfl) (by kernel_rfl) (fun _ _ _ h => h) (fun W hW => exec_load_cell rfl rfl und42 rfl (PR.out W (MM.out W hW).1).x1) hS ?_
      simp only [List.set_cons_zero, List.set_cons_succ]
      refine oneW 26 (by kernel_rfl) (run_callG (f := 47) (args := #[.slice (some ⟨ga, 0, none⟩) l.A.length (l.A.length + 3), .slice l.aa l.A.length l.ac]) rfl rfl (by kernel_rfl) (exec_call2 rfl rfl rfl Try.func47 (by decide) rfl) ((PR.out _ (MM.out _ hS).1).s1) ?_)
      rintro e Wc26 ⟨rfl, hbc26⟩
      replace hS := hS.trans (hbc26.mono hS.size)
      refine ⟨_, rfl, fun _ => hS, ?_⟩
      simp only [List.set_cons_zero, List.set_cons_succ]
      refine takeG (j := 27) (v := .bool false) rfl rfl (by kernel_rfl) (by kernel_rfl) (by kernel_rfl) (by kernel_rfl) (by kernel_rfl) (fun _ _ _ h => h) (fun W hW => by go_simp) hS ?_
      simp only [List.set_cons_zero, List.set_cons_succ]
      refine takeW (j := 28) (v := .bool false) rfl rfl rfl (by kernel_rfl) (by kernel_rfl) (by kernel_rfl) (by kernel_rfl) (fun _ _ _ h => h) (fun W hW => by go_simp) hS ?_
      simp only [List.set_cons_zero, List.set_cons_succ]
      refine takeW (j := 29) (v := .bool false) rfl rfl rfl (by kernel_rfl) (by kernel_rfl) (by kernel_rfl) (by kernel_rfl) (fun _ _ _ h => h) (fun W hW => exec_move rfl rfl) hS ?_
      simp only [List.set_cons_zero, List.set_cons_succ]
      refine takeG (j := 30) (v := .pointer (some ⟨b2, 37, none⟩)) rfl rfl (by kernel_rfl) (by kernel_rfl) (by kernel_rfl) (by kernel_rfl) (by kernel_rfl) (fun _ _ _ h => h) (fun W hW => by go_simp) hS ?_
      simp only [List.set_cons_zero, List.set_cons_succ]
      refine takeG (j := 31) (v := .slice (some ⟨yb, yo, none⟩) il Y.ic) rfl rfl (by kernel_rfl) (by kernel_rfl) (by kernel_rfl) (by kernel_rfl) (by kernel_rfl) (fun _ _ _ h => h) (fun W hW => exec_load_cell rfl rfl und28 rfl (MM.out W hW).2.1.c37) hS ?_
      simp only [List.set_cons_zero, List.set_cons_succ]
      refine takeG (j := 32) (v := .int .i64 (i : Int)) rfl rfl (by kernel_rfl) (by kernel_rfl) (by kernel_rfl) (by kernel_rfl) (by kernel_rfl) (fun _ _ _ h => h) (fun W hW => exec_move rfl rfl) hS ?_
      simp only [List.set_cons_zero, List.set_cons_succ]
      refine takeG (j := 33) (v := .pointer (some ⟨yb, yo + i * 3, none⟩)) rfl rfl (by kernel_rfl) (by kernel_rfl) (by kernel_rfl) (by kernel_rfl) (by kernel_rfl) (fun _ _ _ h => h) (fun W hW => exec_index_rows rfl rfl rfl und28 s47 HLT.out) hS ?_
      simp only [List.set_cons_zero, List.set_cons_succ]
      refine takeG (j := 34) (v := .pointer (some ⟨yb, yo + i * 3 + 2, none⟩)) rfl rfl (by kernel_rfl) (by kernel_rfl) (by kernel_rfl) (by kernel_rfl) (by kernel_rfl) (fun _ _ _ h => h) (fun W hW => by go_simp) hS ?_
      simp only [List.set_cons_zero, List.set_cons_succ]
      refine takeG (j := 35) (v := .slice (some ⟨gd, 0, none⟩) l.D.length (l.D.length + 3)) rfl rfl (by kernel_rfl) (by kernel_rfl) (by kernel_rfl) (by kernel_rfl) (by kernel_rfl) (fun _ _ _ h => h) (fun W hW => exec_load_cell rfl rfl und42 rfl (PR.out W (MM.out W hW).1).y2) hS ?_
      simp only [List.set_cons_zero, List.set_cons_succ]
      refine takeG (j := 36) (v := .pointer (some ⟨b3, 37, none⟩)) rfl rfl (by kernel_rfl) (by kernel_rfl) (by kernel_rfl) (by kernel_rfl) (by kernel_rfl) (fun _ _ _ h => h) (fun W hW => by go_simp) hS ?_
      simp only [List.set_cons_zero, List.set_cons_succ]
      refine takeG (j := 37) (v := .slice (some ⟨xb, xo, none⟩) il X.ic) rfl rfl (by kernel_rfl) (by kernel_rfl) (by kernel_rfl) (by kernel_rfl) (by kernel_rfl) (fun _ _ _ h => h) (fun W hW => exec_load_cell rfl rfl und28 rfl (MM.out W hW).2.2.c37) hS ?_
      simp only [List.set_cons_zero, List.set_cons_succ]
      refine takeG (j := 38) (v := .int .i64 (i : Int)) rfl rfl (by kernel_rfl) (by kernel_rfl) (by kernel_rfl) (by kernel_rfl) (by kernel_rfl) (fun _ _ _ h => h) (fun W hW => exec_move rfl rfl) hS ?_
      simp only [List.set_cons_zero, List.set_cons_succ]
      refine takeG (j := 39) (v := .pointer (some ⟨xb, xo + i * 3, none⟩)) rfl rfl (by kernel_rfl) (by kernel_rfl) (by kernel_rfl) (by kernel_rfl) (by kernel_rfl) (fun _ _ _ h => h) (fun W hW => exec_index_rows rfl rfl rfl und28 s47 HLT.out) hS ?_
      simp only [List.set_cons_zero, List.set_cons_succ]
      refine takeG (j := 40) (v := .pointer (some ⟨xb, xo + i * 3 + 2, none⟩)) rfl rfl (by kernel_rfl) (by kernel_rfl) (by kernel_rfl) (by kernel_rfl) (by kernel_rfl) (fun _ _ _ h => h) (fun W hW => by go_simp) hS ?_
      simp only [List.set_cons_zero, List.set_cons_succ]
      refine takeG (j := 41) (v := .slice l.da l.D.length l.dc) rfl rfl (by kernel_rfl) (by kernel_rfl) (by kernel_rfl) (by kernel_rfl) (by kernel_rfl) (fun _ _ _ h => h) (fun W hW => exec_load_cell rfl rfl und42 rfl (PR.out W (MM.out W hW).1).x2) hS ?_
      simp only [List.set_cons_zero, List.set_cons_succ]
      refine oneW 42 (by kernel_rfl) (run_callG (f := 47) (args := #[.slice (some ⟨gd, 0, none⟩) l.D.length (l.D.length + 3), .slice l.da l.D.length l.dc]) rfl rfl (by kernel_rfl) (exec_call2 rfl rfl rfl Try.func47 (by decide) rfl) ((PR.out _ (MM.out _ hS).1).s2) ?_)
      rintro e Wc42 ⟨rfl, hbc42⟩
      replace hS := hS.trans (hbc42.mono hS.size)
      refine ⟨_, rfl, fun _ => hS, ?_⟩
      simp only [List.set_cons_zero, List.set_cons_succ]
      refine takeG (j := 43) (v := .bool false) rfl rfl (by kernel_rfl) (by kernel_rfl) (by kernel_rfl) (by kernel_rfl) (by kernel_rfl) (fun _ _ _ h => h) (fun W hW => by go_simp) hS ?_
      simp only [List.set_cons_zero, List.set_cons_succ]
      refine takeW (j := 44) (v := .bool false) rfl rfl rfl (by kernel_rfl) (by kernel_rfl) (by kernel_rfl) (by kernel_rfl) (fun _ _ _ h => h) (fun W hW => by go_simp) hS ?_
      simp only [List.set_cons_zero, List.set_cons_succ]
      refine doneW (by kernel_rfl) ?_ _
      have HB := Lib.hid hS
      clear hS hbc26 hbc42 PR
      have hlt := HLT.out
      go_wp2_with fail
      go_roundw
      case rel => exact ⟨i + 1, by omega, by go_num, HB.out⟩
      case measure => simp [intOf]; omega
    · obtain rfl : il = i := by omega
      have hlt' : ¬ (il : Int) < (il : Int) := by omega
      have HB := Lib.hid hB
      clear hB hi hlt
      go_wp2_with fail
      clear hlt' p37 q37
      go_loopw [6] (fun v6 wr => ∃ i : Nat, i ≤ ll ∧ v6 = .int .i64 i ∧ Below w2.heap.size w2 wr) (fun v6 _ => ll - (intOf v6).toNat)
      case atStart => exact ⟨0, Nat.zero_le _, rfl, HB.out⟩
      case round =>
        clear HB
        obtain ⟨i, hi, rfl, hB⟩ := hrel
        have p38 := (MM.out _ hB).2.1.c38
        have q38 := (MM.out _ hB).2.2.c38
        by_cases hlt : i < ll
        · have hlt' : (i : Int) < (ll : Int) := by omega
          obtain ⟨l, hl⟩ : ∃ l, X.L[i]? = some l := ⟨X.L[i]'(by rw [HLN.out]; exact hlt), List.getElem?_eq_getElem _⟩
          obtain ⟨yb, yo, xb, xo, ga, gd, rfl, rfl, hp⟩ := PL.out i l hl
          have H32 := Lib.hid (HL32.out l (List.mem_of_getElem? hl))
          have HSZ : Hid ((icells .u8 l.T).size = 32) := Lib.hid (by rw [size_icells]; exact H32.out)
          have PR := Lib.hid hp
          have HLT := Lib.hid hlt
          have hS : Below w2.heap.size w2 wr.drew := hB.drew
          clear hp hB hi hl hlt
          go_wp2
          clear p38 q38 hlt'
          refine wp_regionW (n := 45) (S := fun W => Below w2.heap.size w2 W) (late := fun _ => false) rfl (by kernel_rfl) ?_
          refine takeW (j := 0) (v := .pointer (some ⟨b2, 38, none⟩)) rfl rfl rfl (by kernel_rfl) (by kernel_rfl) (by kernel_rfl) (by kernel_rfl) (fun _ _ _ h => h) (fun W hW => by go_simp) hS ?_
          simp only [List.set_cons_zero, List.set_cons_succ]
          refine takeW (j := 1) (v := .slice (some ⟨yb, yo, none⟩) ll Y.lc) rfl rfl rfl (by kernel_rfl) (by kernel_rfl) (by kernel_rfl) (by kernel_rfl) (fun _ _ _ h => h) (fun W hW => exec_load_cell rfl rfl und29 rfl (MM.out W hW).2.1.c38) hS ?_
          simp only [List.set_cons_zero, List.set_cons_succ]
          refine takeW (j := 2) (v := .int .i64 (i : Int)) rfl rfl rfl (by kernel_rfl) (by kernel_rfl) (by kernel_rfl) (by kernel_rfl) (fun _ _ _ h => h) (fun W hW => exec_move rfl rfl) hS ?_
          simp only [List.set_cons_zero, List.set_cons_succ]
          refine takeW (j := 3) (v := .pointer (some ⟨yb, yo + i * 34, none⟩)) rfl rfl rfl (by kernel_rfl) (by kernel_rfl) (by kernel_rfl) (by kernel_rfl) (fun _ _ _ h => h) (fun W hW => exec_index_rows rfl rfl rfl und29 s44 HLT.out) hS ?_
          simp only [List.set_cons_zero, List.set_cons_succ]
          refine takeW (j := 4) (v := .pointer (some ⟨yb, yo + i * 34, none⟩)) rfl rfl rfl (by kernel_rfl) (by kernel_rfl) (by kernel_rfl) (by kernel_rfl) (fun _ _ _ h => h) (fun W hW => by go_simp) hS ?_
          simp only [List.set_cons_zero, List.set_cons_succ]
          refine takeW (j := 5) (v := kv l.T) rfl rfl rfl (by kernel_rfl) (by kernel_rfl) (by kernel_rfl) (by kernel_rfl) (fun _ _ _ h => h) (fun W hW => exec_load_sub rfl rfl (PR.out W (MM.out W hW).1).y0 und41 rfl (by rw [HSZ.out]; exact s41)) hS ?_
          simp only [List.set_cons_zero, List.set_cons_succ]
          refine takeW (j := 6) (v := .pointer (some ⟨b3, 38, none⟩)) rfl rfl rfl (by kernel_rfl) (by kernel_rfl) (by kernel_rfl) (by kernel_rfl) (fun _ _ _ h => h) (fun W hW => by go_simp) hS ?_
          simp only [List.set_cons_zero, List.set_cons_succ]
          refine takeW (j := 7) (v := .slice (some ⟨xb, xo, none⟩) ll X.lc) rfl rfl rfl (by kernel_rfl) (by kernel_rfl) (by kernel_rfl) (by kernel_rfl) (fun _ _ _ h => h) (fun W hW => exec_load_cell rfl rfl und29 rfl (MM.out W hW).2.2.c38) hS ?_
          simp only [List.set_cons_zero, List.set_cons_succ]
          refine takeW (j := 8) (v := .int .i64 (i : Int)) rfl rfl rfl (by kernel_rfl) (by kernel_rfl) (by kernel_rfl) (by kernel_rfl) (fun _ _ _ h => h) (fun W hW => exec_move rfl rfl) hS ?_
          simp only [List.set_cons_zero, List.set_cons_succ]
          refine takeW (j := 9) (v := .pointer (some ⟨xb, xo + i * 34, none⟩)) rfl rfl rfl (by kernel_rfl) (by kernel_rfl) (by kernel_rfl) (by kernel_rfl) (fun _ _ _ h => h) (fun W hW => exec_index_rows rfl rfl rfl und29 s44 HLT.out) hS ?_
          simp only [List.set_cons_zero, List.set_cons_succ]
          refine takeW (j := 10) (v := .pointer (some ⟨xb, xo + i * 34, none⟩)) rfl rfl rfl (by kernel_rfl) (by kernel_rfl) (by kernel_rfl) (by kernel_rfl) (fun _ _ _ h => h) (fun W hW => by go_simp) hS ?_
          simp only [List.set_cons_zero, List.set_cons_succ]
          refine takeW (j := 11) (v := kv l.T) rfl rfl rfl (by kernel_rfl) (by kernel_rfl) (by kernel_rfl) (by kernel_rfl) (fun _ _ _ h => h) (fun W hW => exec_load_sub rfl rfl (PR.out W (MM.out W hW).1).x0 und41 rfl (by rw [HSZ.out]; exact s41)) hS ?_
          simp only [List.set_cons_zero, List.set_cons_succ]
          refine takeW (j := 12) (v := .bool false) rfl rfl rfl (by kernel_rfl) (by kernel_rfl) (by kernel_rfl) (by kernel_rfl) (fun _ _ _ h => h) (fun W hW => (exec_neq_ints rfl rfl rfl eqGuard41 und41 u5 s5 H32.out H32.out).trans (by rw [neq_self])) hS ?_
          simp only [List.set_cons_zero, List.set_cons_succ]
          refine takeW (j := 13) (v := .bool false) rfl rfl rfl (by kernel_rfl) (by kernel_rfl) (by kernel_rfl) (by kernel_rfl) (fun _ _ _ h => h) (fun W hW => exec_move rfl rfl) hS ?_
          simp only [List.set_cons_zero, List.set_cons_succ]
          refine takeG (j := 14) (v := .pointer (some ⟨b2, 38, none⟩)) rfl rfl (by kernel_rfl) (by kernel_rfl) (by kernel_rfl) (by kernel_rfl) (by kernel_rfl) (fun _ _ _ h => h) (fun W hW => by go_simp) hS ?_
          simp only [List.set_cons_zero, List.set_cons_succ]
          refine takeG (j := 15) (v := .slice (some ⟨yb, yo, none⟩) ll Y.lc) rfl rfl (by kernel_rfl) (by kernel_rfl) (by kernel_rfl) (by kernel_rfl) (by kernel_rfl) (fun _ _ _ h => h) (fun W hW => exec_load_cell rfl rfl und29 rfl (MM.out W hW).2.1.c38) hS ?_
          simp only [List.set_cons_zero, List.set_cons_succ]
          refine takeG (j := 16) (v := .int .i64 (i : Int)) rfl rfl (by kernel_rfl) (by kernel_rfl) (by kernel_rfl) (by kernel_rfl) (by kernel_rfl) (fun _ _ _ h => h) (fun W hW => exec_move rfl rfl) hS ?_
          simp only [List.set_cons_zero, List.set_cons_succ]
          refine takeG (j := 17) (v := .pointer (some ⟨yb, yo + i * 34, none⟩)) rfl rfl (by kernel_rfl) (by kernel_rfl) (by kernel_rfl) (by kernel_rfl) (by kernel_rfl) (fun _ _ _ h => h) (fun W hW => exec_index_rows rfl rfl rfl und29 s44 HLT.out) hS ?_
          simp only [List.set_cons_zero, List.set_cons_succ]
          refine takeG (j := 18) (v := .pointer (some ⟨yb, yo + i * 34 + 32, none⟩)) rfl rfl (by kernel_rfl) (by kernel_rfl) (by kernel_rfl) (by kernel_rfl) (by kernel_rfl) (fun _ _ _ h => h) (fun W hW => by go_simp) hS ?_
          simp only [List.set_cons_zero, List.set_cons_succ]
          refine takeG (j := 19) (v := .slice (some ⟨ga, 0, none⟩) l.W.length (l.W.length + 3)) rfl rfl (by kernel_rfl) (by kernel_rfl) (by kernel_rfl) (by kernel_rfl) (by kernel_rfl) (fun _ _ _ h => h) (fun W hW => exec_load_cell rfl rfl und42 rfl (PR.out W (MM.out W hW).1).y1) hS ?_
          simp only [List.set_cons_zero, List.set_cons_succ]
          refine takeG (j := 20) (v := .pointer (some ⟨b3, 38, none⟩)) rfl rfl (by kernel_rfl) (by kernel_rfl) (by kernel_rfl) (by kernel_rfl) (by kernel_rfl) (fun _ _ _ h => h) (fun W hW => by go_simp) hS ?_
          simp only [List.set_cons_zero, List.set_cons_succ]
          refine takeG (j := 21) (v := .slice (some ⟨xb, xo, none⟩) ll X.lc) rfl rfl (by kernel_rfl) (by kernel_rfl) (by kernel_rfl) (by kernel_rfl) (by kernel_rfl) (fun _ _ _ h => h) (fun W hW => exec_load_cell rfl rfl und29 rfl (MM.out W hW).2.2.c38) hS ?_
          simp only [List.set_cons_zero, List.set_cons_succ]
          refine takeG (j := 22) (v := .int .i64 (i : Int)) rfl rfl (by kernel_rfl) (by kernel_rfl) (by kernel_rfl) (by kernel_rfl) (by kernel_rfl) (fun _ _ _ h => h) (fun W hW => exec_move rfl rfl) hS ?_
          simp only [List.set_cons_zero, List.set_cons_succ]
          refine takeG (j := 23) (v := .pointer (some ⟨xb, xo + i * 34, none⟩)) rfl rfl (by kernel_rfl) (by kernel_rfl) (by kernel_rfl) (by kernel_rfl) (by kernel_rfl) (fun _ _ _ h => h) (fun W hW => exec_index_rows rfl rfl rfl und29 s44 HLT.out) hS ?_
          simp only [List.set_cons_zero, List.set_cons_succ]
          refine takeG (j := 24) (v := .pointer (some ⟨xb, xo + i * 34 + 32, none⟩)) rfl rfl (by kernel_rfl) (by kernel_rfl) (by kernel_rfl) (by kernel_rfl) (by kernel_rfl) (fun _ _ _ h => h) (fun W hW => by go_simp) hS ?_
          simp only [List.set_cons_zero, List.set_cons_succ]
          refine takeG (j := 25) (v := .slice l.wa l.W.length l.wc) rfl rfl (by kernel_rfl) (by kernel_rfl) (by kernel_rfl) (by kernel_rfl) (by kernel_rfl) (fun _ _ _ h => h) (fun W hW => exec_load_cell rfl rfl und42 rfl (PR.out W (MM.out W hW).1).x1) hS ?_
          simp only [List.set_cons_zero, List.set_cons_succ]
          refine oneW 26 (by kernel_rfl) (run_callG (f := 47) (args := #[.slice (some ⟨ga, 0, none⟩) l.W.length (l.W.length + 3), .slice l.wa l.W.length l.wc]) rfl rfl (by kernel_rfl) (exec_call2 rfl rfl rfl Try.func47 (by decide) rfl) ((PR.out _ (MM.out _ hS).1).s1) ?_)
          rintro e Wc26 ⟨rfl, hbc26⟩
          replace hS := hS.trans (hbc26.mono hS.size)
          refine ⟨_, rfl, fun _ => hS, ?_⟩
          simp only [List.set_cons_zero, List.set_cons_succ]
          refine takeG (j := 27) (v := .bool false) rfl rfl (by kernel_rfl) (by kernel_rfl) (by kernel_rfl) (by kernel_rfl) (by kernel_rfl) (fun _ _ _ h => h) (fun W hW => by go_simp) hS ?_
          simp only [List.set_cons_zero, List.set_cons_succ]
          refine takeW (j := 28) (v := .bool false) rfl rfl rfl (by kernel_rfl) (by kernel_rfl) (by kernel_rfl) (by kernel_rfl) (fun _ _ _ h => h) (fun W hW => by go_simp) hS ?_
          simp only [List.set_cons_zero, List.set_cons_succ]
          refine takeW (j := 29) (v := .bool false) rfl rfl rfl (by kernel_rfl) (by kernel_rfl) (by kernel_rfl) (by kernel_rfl) (fun _ _ _ h => h) (fun W hW => exec_move rfl rfl) hS ?_
          simp only [List.set_cons_zero, List.set_cons_succ]
          refine takeG (j := 30) (v := .pointer (some ⟨b2, 38, none⟩)) rfl rfl (by kernel_rfl) (by kernel_rfl) (by kernel_rfl) (by kernel_rfl) (by kernel_rfl) (fun _ _ _ h => h) (fun W hW => by go_simp) hS ?_
          simp only [List.set_cons_zero, List.set_cons_succ]
          refine takeG (j := 31) (v := .slice (some ⟨yb, yo, none⟩) ll Y.lc) rfl rfl (by kernel_rfl) (by kernel_rfl) (by kernel_rfl) (by kernel_rfl) (by kernel_rfl) (fun _ _ _ h => h) (fun W hW => exec_load_cell rfl rfl und29 rfl (MM.out W hW).2.1.c38) hS ?_
          simp only [List.set_cons_zero, List.set_cons_succ]
          refine takeG (j := 32) (v := .int .i64 (i : Int)) rfl rfl (by kernel_rfl) (by kernel_rfl) (by kernel_rfl) (by kernel_rfl) (by kernel_rfl) (fun _ _ _ h => h) (fun W hW => exec_move rfl rfl) hS ?_
          simp only [List.set_cons_zero, List.set_cons_succ]
          refine takeG (j := 33) (v := .pointer (some ⟨yb, yo + i * 34, none⟩)) rfl rfl (by kernel_rfl) (by kernel_rfl) (by kernel_rfl) (by kernel_rfl) (by kernel_rfl) (fun _ _ _ h => h) (fun W hW => exec_index_rows rfl rfl rfl und29 s44 HLT.out) hS ?_
          simp only [List.set_cons_zero, List.set_cons_succ]
          refine takeG (j := 34) (v := .pointer (some ⟨yb, yo + i * 34 + 33, none⟩)) rfl rfl (by kernel_rfl) (by kernel_rfl) (by kernel_rfl) (by kernel_rfl) (by kernel_rfl) (fun _ _ _ h => h) (fun W hW => by go_simp) hS ?_
          simp only [List.set_cons_zero, List.set_cons_succ]
          refine takeG (j := 35) (v := .slice (some ⟨gd, 0, none⟩) l.Rd.length (l.Rd.length + 3)) rfl rfl (by kernel_rfl) (by kernel_rfl) (by kernel_rfl) (by kernel_rfl) (by kernel_rfl) (fun _ _ _ h => h) (fun W hW => exec_load_cell rfl rfl und42 rfl (PR.out W (MM.out W hW).1).y2) hS ?_
          simp only [List.set_cons_zero, List.set_cons_succ]
          refine takeG (j := 36) (v := .pointer (some ⟨b3, 38, none⟩)) rfl rfl (by kernel_rfl) (by kernel_rfl) (by kernel_rfl) (by kernel_rfl) (by kernel_rfl) (fun _ _ _ h => h) (fun W hW => by go_simp) hS ?_
          simp only [List.set_cons_zero, List.set_cons_succ]
          refine takeG (j := 37) (v := .slice (some ⟨xb, xo, none⟩) ll X.lc) rfl rfl (by kernel_rfl) (by kernel_rfl) (by kernel_rfl) (by kernel_rfl) (by kernel_rfl) (fun _ _ _ h => h) (fun W hW => exec_load_cell rfl rfl und29 rfl (MM.out W hW).2.2.c38) hS ?_
          simp only [List.set_cons_zero, List.set_cons_succ]
          refine takeG (j := 38) (v := .int .i64 (i : Int)) rfl rfl (by kernel_rfl) (by kernel_rfl) (by kernel_rfl) (by kernel_rfl) (by kernel_rfl) (fun _ _ _ h => h) (fun W hW => exec_move rfl rfl) hS ?_
          simp only [List.set_cons_zero, List.set_cons_succ]
          refine takeG (j := 39) (v := .pointer (some ⟨xb, xo + i * 34, none⟩)) rfl rfl (by kernel_rfl) (by kernel_rfl) (by kernel_rfl) (by kernel_rfl) (by kernel_rfl) (fun _ _ _ h => h) (fun W hW => exec_index_rows rfl rfl rfl und29 s44 HLT.out) hS ?_
          simp only [List.set_cons_zero, List.set_cons_succ]
          refine takeG (j := 40) (v := .pointer (some ⟨xb, xo + i * 34 + 33, none⟩)) rfl rfl (by kernel_rfl) (by kernel_rfl) (by kernel_rfl) (by kernel_rfl) (by kernel_rfl) (fun _ _ _ h => h) (fun W hW => by go_simp) hS ?_
          simp only [List.set_cons_zero, List.set_cons_succ]
          refine takeG (j := 41) (v := .slice l.ra l.Rd.length l.rc) rfl rfl (by kernel_rfl) (by kernel_rfl) (by kernel_rfl) (by kernel_rfl) (by kernel_rfl) (fun _ _ _ h => h) (fun W hW => exec_load_cell rfl rfl und42 rfl (PR.out W (MM.out W hW).1).x2) hS ?_
          simp only [List.set_cons_zero, List.set_cons_succ]
          refine oneW 42 (by kernel_rfl) (run_callG (f := 47) (args := #[.slice (some ⟨gd, 0, none⟩) l.Rd.length (l.Rd.length + 3), .slice l.ra l.Rd.length l.rc]) rfl rfl (by kernel_rfl) (exec_call2 rfl rfl rfl Try.func47 (by decide) rfl) ((PR.out _ (MM.out _ hS).1).s2) ?_)
          rintro e Wc42 ⟨rfl, hbc42⟩
          replace hS := hS.trans (hbc42.mono hS.size)
          refine ⟨_, rfl, fun _ => hS, ?_⟩
          simp only [List.set_cons_zero, List.set_cons_succ]
          refine takeG (j := 43) (v := .bool false) rfl rfl (by kernel_rfl) (by kernel_rfl) (by kernel_rfl) (by kernel_rfl) (by kernel_rfl) (fun _ _ _ h => h) (fun W hW => by go_simp) hS ?_
          simp only [List.set_cons_zero, List.set_cons_succ]
          refine takeW (j := 44) (v := .bool false) rfl rfl rfl (by kernel_rfl) (by kernel_rfl) (by kernel_rfl) (by kernel_rfl) (fun _ _ _ h => h) (fun W hW => by go_simp) hS ?_
          simp only [List.set_cons_zero, List.set_cons_succ]
          refine doneW (by kernel_rfl) ?_ _
          have HB := Lib.hid hS
          clear hS hbc26 hbc42 PR H32 HSZ
          have hlt := HLT.out
          go_wp2_with fail
          go_roundw
          case rel => exact ⟨i + 1, by omega, by go_num, HB.out⟩
          case measure => simp [intOf]; omega
        · obtain rfl : ll = i := by omega
          have hlt' : ¬ (ll : Int) < (ll : Int) := by omega
          have HB := Lib.hid hB
          clear hB hi hlt
          go_wp2_with fail
          go_ret
          exact ⟨rfl, HU.out _ HB.out⟩
end Go.Proofs.Ytgjijoielfpmkaa
