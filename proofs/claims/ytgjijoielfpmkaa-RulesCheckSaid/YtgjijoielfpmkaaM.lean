/- lives. -/
import Derived.Test.YtgjijoielfpmkaaM1
set_option linter.unusedVariables false
namespace Go.Proofs.Ytgjijoielfpmkaa
open Go.RowKit

set_option maxRecDepth 20000 in
set_option maxHeartbeats 1600000 in
theorem lives_any (w : World) : Calls Try.prog 8 #[] w fun e w' => e = .returned (.bool true) ∧ Below w.heap.size w w' := by
  go_enter Try.func8, Try.ntmps8
  go_wp2_with fail
  go_at_call 16
  refine (example_abs _).mono ?_
  rintro e u1 ⟨X1, s1, k1, i1, a1, rfl, hO1⟩
  go_wp2_with (first
    | ((with_reducible refine wl_allocN zero33 ?_); intro g1 x1 Z1 hZ1 hY1 hl1 hC1)
    | ((with_reducible refine wl_storeN (n := 40) (A := X1.cells) (Z := Z1) ?_ ?_ hZ1 hY1 hO1.size (Tx.one _) s33 ?_); (exact rfl); (exact rfl); intro v1 hv1 hW1; have hE1 := hO1.stored hl1 hC1 hW1 hv1; clear hO1 hl1 hC1 hW1 hZ1 hY1 hv1; have A1 := hE1.got; have C1 := Lib.hid hE1.chk; have D1 := Lib.hid hE1.tot; have P1 := hE1.o.below; clear hE1; replace A1 := Lib.hid A1; replace P1 := Lib.hid P1))
  go_at_call 16
  refine (example_abs _).mono ?_
  rintro e u2 ⟨X2, s2, k2, i2, a2, rfl, hO2⟩
  go_wp2_with (first
    | ((with_reducible refine wl_allocN zero33 ?_); intro g2 x2 Z2 hZ2 hY2 hl2 hC2)
    | ((with_reducible refine wl_storeN (n := 40) (A := X2.cells) (Z := Z2) ?_ ?_ hZ2 hY2 hO2.size (Tx.one _) s33 ?_); (exact rfl); (exact rfl); intro v2 hv2 hW2; have hE2 := hO2.stored hl2 hC2 hW2 hv2; clear hO2 hl2 hC2 hW2 hZ2 hY2 hv2; have q38 := hE2.c38; obtain ⟨Cb, hCb, lb, K2⟩ := hE2.second; replace K2 := Lib.hid K2; clear hE2)
    | ((with_reducible refine wl_store1 (off := 0) (t := 47) (C := Cb) (v := .int .u8 0) ?_ ?_ (vc_int _ _) (vo_int _ _) hCb lb size5 ?_); (exact rfl); (exact rfl); intro y2 hy2 hW2; obtain ⟨Y2, A2, C2, D2, P2⟩ := K2.out y2 hy2 hW2; clear hy2 hW2 hCb lb K2 q38; replace A2 := Lib.hid A2; replace C2 := Lib.hid C2; replace D2 := Lib.hid D2; replace P2 := Lib.hid P2))
  go_at_call 16
  refine (example_abs _).mono ?_
  rintro e u3 ⟨X3, s3, k3, i3, a3, rfl, hO3⟩
  go_wp2_with (first
    | ((with_reducible refine wl_allocN zero33 ?_); intro g3 x3 Z3 hZ3 hY3 hl3 hC3)
    | ((with_reducible refine wl_storeN (n := 40) (A := X3.cells) (Z := Z3) ?_ ?_ hZ3 hY3 hO3.size (Tx.one _) s33 ?_); (exact rfl); (exact rfl); intro v3 hv3 hW3; have hE3 := hO3.stored hl3 hC3 hW3 hv3; clear hO3 hl3 hC3 hW3 hZ3 hY3 hv3; have q38 := hE3.c38; have q1 := hE3.i1; obtain ⟨Cb, hCb, lb, K3⟩ := hE3.third; replace K3 := Lib.hid K3; clear hE3)
    | ((with_reducible refine wl_store1 (off := 0) (t := 5) (C := Cb) (v := .int .u8 2) ?_ ?_ (vc_int _ _) (vo_int _ _) hCb lb size5 ?_); (exact rfl); (exact rfl); intro y3 hy3 hW3; obtain ⟨Y3, A3, C3, D3, P3⟩ := K3.out y3 hy3 hW3; clear hy3 hW3 hCb lb K3 q38 q1; replace A3 := Lib.hid A3; replace C3 := Lib.hid C3; replace D3 := Lib.hid D3; replace P3 := Lib.hid P3))
  go_at_call 16
  refine (example_abs _).mono ?_
  rintro e u4 ⟨X4, s4, k4, i4, a4, rfl, hO4⟩
  go_wp2_with (first
    | ((with_reducible refine wl_allocN zero33 ?_); intro g4 x4 Z4 hZ4 hY4 hl4 hC4)
    | ((with_reducible refine wl_storeN (n := 40) (A := X4.cells) (Z := Z4) ?_ ?_ hZ4 hY4 hO4.size (Tx.one _) s33 ?_); (exact rfl); (exact rfl); intro v4 hv4 hW4; have hE4 := hO4.stored hl4 hC4 hW4 hv4; clear hO4 hl4 hC4 hW4 hZ4 hY4 hv4; have q5 := hE4.c5; replace hE4 := Lib.hid hE4)
    | ((with_reducible refine wl_buildSlice_one (A := icells .u8 key2) (t := 25) (e := 41) (s := 32) (bytes := 32) ?_ und25 i41 key2_size le32 ?_); (kernel_rfl); intro gb m4 hgb hlb hBb)
    | ((with_reducible refine wl_append_rows (base := y3.heap.size) (t := 25) (e := 41) (s := 32) (bytes := 32) (v := .slice (some ⟨k4, 0, none⟩) 2 2) (D := exD) (E := exE) (m := 1) (c := 1) (ao := some ⟨gb, 0, none⟩) und25 i41 cells41 pos32 (hE4.out.own.keep hBb) ?_ ?_ exE_len (exE_rows hgb) exE_size exE_one someNo ap63 apby (Nat.le_trans hE4.out.o.below.size hBb.size) ?_); (exact rfl); (exact rfl); intro v5 m5 hO5 hG5; obtain ⟨kg, cap, rfl, h6, q6, lt6, K4⟩ := hE4.out.appended hBb hO5 hG5; replace K4 := Lib.hid K4; clear q5 hE4 hgb hlb hBb hO5 hG5)
    | ((with_reducible refine wl_store1 (off := 5) (t := 33) (C := X4.cells) (v := .slice (some ⟨kg, 0, none⟩) 3 cap) ?_ ?_ (vc_slice _ _ _) (vo_slice _ _ _) h6 lt6 size25 ?_); (exact rfl); (exact rfl); intro y4 hy4 hW4; obtain ⟨Y4, A4, C4, D4, P4⟩ := K4.out y4 hy4 hW4; clear hy4 hW4 h6 lt6 K4 q6; replace A4 := Lib.hid A4; replace C4 := Lib.hid C4; replace D4 := Lib.hid D4; have P04 := Lib.hid (P1.out.trans ((P2.out.trans ((P3.out.trans (P4.mono P3.out.size)).mono P2.out.size)).mono P1.out.size)); have P14 := (P2.out.trans ((P3.out.trans (P4.mono P3.out.size)).mono P2.out.size)); have P24 := (P3.out.trans (P4.mono P3.out.size)); replace A1 := Lib.hid (A1.out.keep P14); replace A2 := Lib.hid (A2.out.keep P24); replace A3 := Lib.hid (A3.out.keep P4); clear P1 P2 P3 P4 P14 P24; have R1 := Lib.hid A1.out.row; have U1 := Lib.hid A1.out.T.R)
    | ((with_reducible refine wl_load33 (b := g1) (off := 0) (X := X1) ?_ R1.out U1.out ?_); (exact rfl))
    )
  go_at_call 12
  refine (A1.out.check C1.out D1.out big2).mono ?_
  rintro e z1 ⟨rfl, B1⟩
  replace P04 := Lib.hid (P04.out.trans (B1.mono P04.out.size))
  replace A1 := Lib.hid (A1.out.keep B1)
  replace A2 := Lib.hid (A2.out.keep B1)
  replace A3 := Lib.hid (A3.out.keep B1)
  replace A4 := Lib.hid (A4.out.keep B1)
  clear B1 R1 U1
  have R1 := Lib.hid A1.out.row
  have U1 := Lib.hid A1.out.T.R
  go_wp2_with ((with_reducible refine wl_load33G (b := g1) (off := 0) (X := X1) ?_ ?_ R1.out U1.out ?_); (kernel_rfl); (exact rfl))
  go_at_call 10
  refine (A1.out.total D1.out big2).mono ?_
  rintro e z2 ⟨rfl, B2⟩
  replace P04 := Lib.hid (P04.out.trans (B2.mono P04.out.size))
  replace A2 := Lib.hid (A2.out.keep B2)
  replace A3 := Lib.hid (A3.out.keep B2)
  replace A4 := Lib.hid (A4.out.keep B2)
  clear B2 A1 R1 U1
  have R2 := Lib.hid A2.out.row
  have U2 := Lib.hid A2.out.T.R
  go_wp2_with ((with_reducible refine wl_load33G (b := g2) (off := 0) (X := Y2) ?_ ?_ R2.out U2.out ?_); (kernel_rfl); (exact rfl))
  go_at_call 12
  refine (A2.out.check C2.out D2.out big2).mono ?_
  rintro e z3 ⟨rfl, B3⟩
  replace P04 := Lib.hid (P04.out.trans (B3.mono P04.out.size))
  replace A3 := Lib.hid (A3.out.keep B3)
  replace A4 := Lib.hid (A4.out.keep B3)
  clear B3 A2 R2 U2
  have R3 := Lib.hid A3.out.row
  have U3 := Lib.hid A3.out.T.R
  go_wp2_with ((with_reducible refine wl_load33G (b := g3) (off := 0) (X := Y3) ?_ ?_ R3.out U3.out ?_); (kernel_rfl); (exact rfl))
  go_at_call 12
  refine (A3.out.check C3.out D3.out big2).mono ?_
  rintro e z4 ⟨rfl, B4⟩
  replace P04 := Lib.hid (P04.out.trans (B4.mono P04.out.size))
  replace A4 := Lib.hid (A4.out.keep B4)
  clear B4 A3 R3 U3
  have R4 := Lib.hid A4.out.row
  have U4 := Lib.hid A4.out.T.R
  go_wp2_with ((with_reducible refine wl_load33G (b := g4) (off := 0) (X := Y4) ?_ ?_ R4.out U4.out ?_); (kernel_rfl); (exact rfl))
  go_at_call 12
  refine (A4.out.check C4.out D4.out big3).mono ?_
  rintro e z5 ⟨rfl, B5⟩
  replace P04 := Lib.hid (P04.out.trans (B5.mono P04.out.size))
  clear B5 A4 R4 U4
  go_wp2_with fail
  go_ret
  exact ⟨rfl, P04.out⟩
end Go.Proofs.Ytgjijoielfpmkaa
