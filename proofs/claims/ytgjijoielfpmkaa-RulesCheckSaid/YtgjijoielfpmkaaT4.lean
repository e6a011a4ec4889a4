/- same, left: lists that are the same; a twin's room. -/
import Derived.Test.YtgjijoielfpmkaaT3
set_option linter.unusedVariables false
namespace Go.Proofs.Ytgjijoielfpmkaa
open Go.RowKit

/-- Keys that are the same: the drawn comparison of two of them is settled. -/
theorem neq_self {l : List Int} : (!(l == l)) = false := by simp

set_option maxRecDepth 20000 in
set_option maxHeartbeats 800000 in
theorem same46_any {K : List (List Int)} {a a' : Option Addr} {c c' : Nat} (w : World) (hK : ∀ k ∈ K, k.length = 32) (hr : RowsAt w a 32 (K.map (icells .u8))) (hr' : RowsAt w a' 32 (K.map (icells .u8))) (hlt : K.length < 4000) :
    Calls Try.prog 46 #[.slice a K.length c, .slice a' K.length c'] w fun e w' => e = .returned (.bool true) ∧ Below w.heap.size w w' := by
  obtain ⟨n, hn⟩ : ∃ n, K.length = n := ⟨_, rfl⟩
  rw [hn] at hlt ⊢
  have HK := Lib.hid (fun (i : Nat) (hi : i < n) => show ∃ (k : List Int) (b o b' o' : Nat), k.length = 32 ∧ a = some ⟨b, o, none⟩ ∧ a' = some ⟨b', o', none⟩ ∧ RowAt w b (o + i * 32) (icells .u8 k) ∧ RowAt w b' (o' + i * 32) (icells .u8 k) from by
    have hi' : i < K.length := by omega
    have e : (K.map (icells .u8))[i]? = some (icells .u8 K[i]) := by rw [List.getElem?_map, List.getElem?_eq_getElem hi']; rfl
    obtain ⟨b, o, e1, e2⟩ := hr i _ e
    obtain ⟨b', o', e3, e4⟩ := hr' i _ e
    exact ⟨K[i], b, o, b', o', hK _ (List.getElem_mem _), e1, e3, e2, e4⟩)
  clear hK hr hr' hn K
  go_enter Try.func46, Try.ntmps46
  have hne : ((n : Int) != (n : Int)) = false := by simp
  go_wp2_with fail
  clear hne
  go_loopw [5] (fun v5 wr => ∃ (i : Nat), i ≤ n ∧ v5 = .int .i64 i ∧ Below w.heap.size w wr) (fun v5 _ => n - (intOf v5).toNat)
  case atStart => exact ⟨0, Nat.zero_le _, rfl, Below.refl _ _⟩
  case round =>
    obtain ⟨i, hi, rfl, hB⟩ := hrel
    by_cases hlt2 : i < n
    · have hlt' : (i : Int) < (n : Int) := by omega
      obtain ⟨k, b, o, b', o', hk, rfl, rfl, h1, h2⟩ := HK.out i hlt2
      have HW1 : Hid (∀ W, Below w.heap.size w W → RowAt W b (o + i * 32) (icells .u8 k)) := Lib.hid fun W hW => Below.row hW h1 h1.lt
      have HW2 : Hid (∀ W, Below w.heap.size w W → RowAt W b' (o' + i * 32) (icells .u8 k)) := Lib.hid fun W hW => Below.row hW h2 h2.lt
      have HSZ : Hid ((icells .u8 k).size = 32) := Lib.hid (by rw [size_icells, hk])
      have H32 := Lib.hid hk
      have HLT := Lib.hid hlt2
      have hS : Below w.heap.size w wr.drew := hB.drew
      clear h1 h2 hk hB hi
      go_wp2_with fail
      refine wp_regionW (n := 9) (S := fun W => Below w.heap.size w W) (late := fun _ => false) rfl (by kernel_rfl) ?_
      refine takeW (j := 0) (v := .slice (some ⟨b, o, none⟩) n c) rfl rfl rfl (by kernel_rfl) (by kernel_rfl) (by kernel_rfl) (by kernel_rfl) (fun _ _ _ h => h) (fun W hW => exec_move rfl rfl) hS ?_
      simp only [List.set_cons_zero, List.set_cons_succ]
      refine takeW (j := 1) (v := .int .i64 (i : Int)) rfl rfl rfl (by kernel_rfl) (by kernel_rfl) (by kernel_rfl) (by kernel_rfl) (fun _ _ _ h => h) (fun W hW => exec_move rfl rfl) hS ?_
      simp only [List.set_cons_zero, List.set_cons_succ]
      refine takeW (j := 2) (v := .pointer (some ⟨b, o + i * 32, none⟩)) rfl rfl rfl (by kernel_rfl) (by kernel_rfl) (by kernel_rfl) (by kernel_rfl) (fun _ _ _ h => h) (fun W hW => exec_index_rows rfl rfl rfl und25 s41 HLT.out) hS ?_
      simp only [List.set_cons_zero, List.set_cons_succ]
      refine takeW (j := 3) (v := kv k) rfl rfl rfl (by kernel_rfl) (by kernel_rfl) (by kernel_rfl) (by kernel_rfl) (fun _ _ _ h => h) (fun W hW => exec_load_sub rfl rfl (HW1.out W hW) und41 rfl (by rw [HSZ.out]; exact s41)) hS ?_
      simp only [List.set_cons_zero, List.set_cons_succ]
      refine takeW (j := 4) (v := .slice (some ⟨b', o', none⟩) n c') rfl rfl rfl (by kernel_rfl) (by kernel_rfl) (by kernel_rfl) (by kernel_rfl) (fun _ _ _ h => h) (fun W hW => exec_move rfl rfl) hS ?_
      simp only [List.set_cons_zero, List.set_cons_succ]
      refine takeW (j := 5) (v := .int .i64 (i : Int)) rfl rfl rfl (by kernel_rfl) (by kernel_rfl) (by kernel_rfl) (by kernel_rfl) (fun _ _ _ h => h) (fun W hW => exec_move rfl rfl) hS ?_
      simp only [List.set_cons_zero, List.set_cons_succ]
      refine takeW (j := 6) (v := .pointer (some ⟨b', o' + i * 32, none⟩)) rfl rfl rfl (by kernel_rfl) (by kernel_rfl) (by kernel_rfl) (by kernel_rfl) (fun _ _ _ h => h) (fun W hW => exec_index_rows rfl rfl rfl und25 s41 HLT.out) hS ?_
      simp only [List.set_cons_zero, List.set_cons_succ]
      refine takeW (j := 7) (v := kv k) rfl rfl rfl (by kernel_rfl) (by kernel_rfl) (by kernel_rfl) (by kernel_rfl) (fun _ _ _ h => h) (fun W hW => exec_load_sub rfl rfl (HW2.out W hW) und41 rfl (by rw [HSZ.out]; exact s41)) hS ?_
      simp only [List.set_cons_zero, List.set_cons_succ]
      refine takeW (j := 8) (v := .bool false) rfl rfl rfl (by kernel_rfl) (by kernel_rfl) (by kernel_rfl) (by kernel_rfl) (fun _ _ _ h => h) (fun W hW => (exec_neq_ints rfl rfl rfl eqGuard41 und41 u5 s5 H32.out H32.out).trans (by rw [neq_self])) hS ?_
      simp only [List.set_cons_zero, List.set_cons_succ]
      refine doneW (by kernel_rfl) ?_ _
      have HBL := Lib.hid hS
      clear hS
      go_wp2_with fail
      go_roundw
      case rel => exact ⟨i + 1, by omega, by go_num, HBL.out⟩
      case measure => simp [intOf]; omega
    · obtain rfl : n = i := by omega
      have hlt' : ¬ (n : Int) < (n : Int) := by omega
      have HBL := Lib.hid hB
      clear hB hi hlt2 HK
      go_wp2_with fail
      go_ret
      exact ⟨rfl, HBL.out⟩

set_option maxRecDepth 20000 in
set_option maxHeartbeats 800000 in
theorem left48_any {K : List (List Int)} {m : List Int} {a' : Option Addr} {g c' : Nat} (w : World) (hK : ∀ k ∈ K, k.length = 32) (hm : m.length = 32) (hr : RowsAt w (some ⟨g, 0, none⟩) 32 (room (K.map (icells .u8)) (icells .u8 m))) (hr' : RowsAt w a' 32 (K.map (icells .u8))) (hlt : K.length < 4000) :
    Calls Try.prog 48 #[.slice (some ⟨g, 0, none⟩) K.length (K.length + 3), .slice a' K.length c', kv m] w fun e w' => e = .returned (.bool true) ∧ Below w.heap.size w w' := by
  have HS := Lib.hid (fun w1 (hB : Below w.heap.size w w1) => same46_any (c := K.length + 3) (c' := c') w1 hK (RowsAt.keep (fun j C hj => hr j C (by rw [room_low (List.getElem?_eq_some_iff.1 hj).1]; exact hj)) hB) (hr'.keep hB) hlt)
  obtain ⟨n, hn⟩ : ∃ n, K.length = n := ⟨_, rfl⟩
  rw [hn] at hlt HS ⊢
  have HK := Lib.hid (fun (i : Nat) (hi : i < 3) => show RowAt w g ((n + i) * 32) (icells .u8 m) from by
    obtain ⟨b, o, e1, e2⟩ := hr (n + i) _ (room_high (D := K.map (icells .u8)) (by rw [List.length_map, hn]; omega) (by rw [List.length_map, hn]; omega))
    simp only [Option.some.injEq, Addr.mk.injEq, and_true] at e1
    obtain ⟨rfl, rfl⟩ := e1
    rw [Nat.zero_add] at e2
    exact e2)
  have HSZ : Hid ((icells .u8 m).size = 32) := Lib.hid (by rw [size_icells, hm])
  have H32 := Lib.hid hm
  clear hK hr hr' hn hm K
  go_enter Try.func48, Try.ntmps48
  have hnl : ¬ ((n : Int) + 3 < (n : Int) + 3) := by omega
  go_wp2_with (first
    | ((with_reducible refine wl_box41 (k := m) ?_ ?_); (exact rfl); intro b w1 hb hle hB)
    | (go_at_call 46; refine (HS.out _ hB).mono ?_; rintro e w2 ⟨rfl, hB2⟩))
  clear hnl
  replace hb := (hB2.block b (Array.getElem?_eq_some_iff.1 hb).1).trans hb
  have HB : Hid (∀ W, Below w2.heap.size w2 W → RowAt W b 0 (icells .u8 m)) := Lib.hid fun W hW => Below.row hW (RowAt.of_cells hb) (Array.getElem?_eq_some_iff.1 hb).1
  have hB0 := hB.trans (hB2.mono hB.size)
  have HK2 : Hid (∀ W, Below w2.heap.size w2 W → ∀ i, i < 3 → RowAt W g ((n + i) * 32) (icells .u8 m)) := Lib.hid fun W hW i hi => Below.row (hB0.trans (hW.mono hB0.size)) (HK.out i hi) (HK.out i hi).lt
  replace hB0 := Lib.hid hB0
  clear hb hle hB hB2 HK HS
  go_loopw [8] (fun v8 wr => ∃ (i : Nat), i ≤ 3 ∧ v8 = .int .i64 i ∧ Below w2.heap.size w2 wr) (fun v8 _ => 3 - (intOf v8).toNat)
  case atStart => exact ⟨0, Nat.zero_le _, rfl, Below.refl _ _⟩
  case round =>
    obtain ⟨i, hi, rfl, hB⟩ := hrel
    by_cases hlt2 : i < 3
    · have hlt' : (i : Int) < 3 := by omega
      have hS : Below w2.heap.size w2 wr.drew := hB.drew
      have HLT : Hid (n + i < n + 3) := Lib.hid (by omega)
      have HI := Lib.hid hlt2
      clear hB hi
      go_wp2_with fail
      refine wp_regionW (n := 9) (S := fun W => Below w2.heap.size w2 W) (late := fun _ => false) rfl (by kernel_rfl) ?_
      refine takeW (j := 0) (v := .slice (some ⟨g, 0, none⟩) (n + 3) (n + 3)) rfl rfl rfl (by kernel_rfl) (by kernel_rfl) (by kernel_rfl) (by kernel_rfl) (fun _ _ _ h => h) (fun W hW => exec_move rfl rfl) hS ?_
      simp only [List.set_cons_zero, List.set_cons_succ]
      refine takeW (j := 1) (v := .slice a' n c') rfl rfl rfl (by kernel_rfl) (by kernel_rfl) (by kernel_rfl) (by kernel_rfl) (fun _ _ _ h => h) (fun W hW => exec_move rfl rfl) hS ?_
      simp only [List.set_cons_zero, List.set_cons_succ]
      refine takeW (j := 2) (v := .int .i64 (n : Int)) rfl rfl rfl (by kernel_rfl) (by kernel_rfl) (by kernel_rfl) (by kernel_rfl) (fun _ _ _ h => h) (fun W hW => by go_simp) hS ?_
      simp only [List.set_cons_zero, List.set_cons_succ]
      refine takeW (j := 3) (v := .int .i64 (i : Int)) rfl rfl rfl (by kernel_rfl) (by kernel_rfl) (by kernel_rfl) (by kernel_rfl) (fun _ _ _ h => h) (fun W hW => exec_move rfl rfl) hS ?_
      simp only [List.set_cons_zero, List.set_cons_succ]
      refine takeW (j := 4) (v := .int .i64 ((n + i : Nat) : Int)) rfl rfl rfl (by kernel_rfl) (by kernel_rfl) (by kernel_rfl) (by kernel_rfl) (fun _ _ _ h => h) (fun W hW => by go_simp; rw [IntKind.wrap_i64] <;> omega) hS ?_
      simp only [List.set_cons_zero, List.set_cons_succ]
      refine takeW (j := 5) (v := .pointer (some ⟨g, 0 + (n + i) * 32, none⟩)) rfl rfl rfl (by kernel_rfl) (by kernel_rfl) (by kernel_rfl) (by kernel_rfl) (fun _ _ _ h => h) (fun W hW => exec_index_rows rfl rfl rfl und25 s41 HLT.out) hS ?_
      simp only [List.set_cons_zero, List.set_cons_succ]
      refine takeW (j := 6) (v := kv m) rfl rfl rfl (by kernel_rfl) (by kernel_rfl) (by kernel_rfl) (by kernel_rfl) (fun _ _ _ h => h) (fun W hW => exec_load_sub rfl rfl (by rw [Nat.zero_add]; exact HK2.out W hW i HI.out) und41 rfl (by rw [HSZ.out]; exact s41)) hS ?_
      simp only [List.set_cons_zero, List.set_cons_succ]
      refine takeW (j := 7) (v := kv m) rfl rfl rfl (by kernel_rfl) (by kernel_rfl) (by kernel_rfl) (by kernel_rfl) (fun _ _ _ h => h) (fun W hW => exec_load_sub rfl rfl (HB.out W hW) und41 rfl (by rw [HSZ.out]; exact s41)) hS ?_
      simp only [List.set_cons_zero, List.set_cons_succ]
      refine takeW (j := 8) (v := .bool false) rfl rfl rfl (by kernel_rfl) (by kernel_rfl) (by kernel_rfl) (by kernel_rfl) (fun _ _ _ h => h) (fun W hW => (exec_neq_ints rfl rfl rfl eqGuard41 und41 u5 s5 H32.out H32.out).trans (by rw [neq_self])) hS ?_
      simp only [List.set_cons_zero, List.set_cons_succ]
      refine doneW (by kernel_rfl) ?_ _
      have HBL := Lib.hid hS
      clear hS
      go_wp2_with fail
      go_roundw
      case rel => exact ⟨i + 1, by omega, by go_num, HBL.out⟩
      case measure => simp [intOf]; omega
    · obtain rfl : i = 3 := by omega
      have hlt' : ¬ ((3 : Nat) : Int) < 3 := by omega
      have HBL := Lib.hid hB
      clear hB hi hlt2 HK2 HB
      go_wp2_with fail
      go_ret
      exact ⟨rfl, hB0.out.trans (HBL.out.mono hB0.out.size)⟩

theorem eqGuard49 : Try.prog.eqGuardType Try.prog.depth 49 = false := by kernel_rfl
set_option maxRecDepth 20000 in
set_option maxHeartbeats 800000 in
theorem same36_any {K : List (List Int)} {a a' : Option Addr} {c c' : Nat} (w : World) (hK : ∀ k ∈ K, k.length = 64) (hr : RowsAt w a 64 (K.map (icells .u8))) (hr' : RowsAt w a' 64 (K.map (icells .u8))) (hlt : K.length < 4000) :
    Calls Try.prog 36 #[.slice a K.length c, .slice a' K.length c'] w fun e w' => e = .returned (.bool true) ∧ Below w.heap.size w w' := by
  obtain ⟨n, hn⟩ : ∃ n, K.length = n := ⟨_, rfl⟩
  rw [hn] at hlt ⊢
  have HK := Lib.hid (fun (i : Nat) (hi : i < n) => show ∃ (k : List Int) (b o b' o' : Nat), k.length = 64 ∧ a = some ⟨b, o, none⟩ ∧ a' = some ⟨b', o', none⟩ ∧ RowAt w b (o + i * 64) (icells .u8 k) ∧ RowAt w b' (o' + i * 64) (icells .u8 k) from by
    have hi' : i < K.length := by omega
    have e : (K.map (icells .u8))[i]? = some (icells .u8 K[i]) := by rw [List.getElem?_map, List.getElem?_eq_getElem hi']; rfl
    obtain ⟨b, o, e1, e2⟩ := hr i _ e
    obtain ⟨b', o', e3, e4⟩ := hr' i _ e
    exact ⟨K[i], b, o, b', o', hK _ (List.getElem_mem _), e1, e3, e2, e4⟩)
  clear hK hr hr' hn K
  go_enter Try.func36, Try.ntmps36
  have hne : ((n : Int) != (n : Int)) = false := by simp
  go_wp2_with fail
  clear hne
  go_loopw [5] (fun v5 wr => ∃ (i : Nat), i ≤ n ∧ v5 = .int .i64 i ∧ Below w.heap.size w wr) (fun v5 _ => n - (intOf v5).toNat)
  case atStart => exact ⟨0, Nat.zero_le _, rfl, Below.refl _ _⟩
  case round =>
    obtain ⟨i, hi, rfl, hB⟩ := hrel
    by_cases hlt2 : i < n
    · have hlt' : (i : Int) < (n : Int) := by omega
      obtain ⟨k, b, o, b', o', hk, rfl, rfl, h1, h2⟩ := HK.out i hlt2
      have HW1 : Hid (∀ W, Below w.heap.size w W → RowAt W b (o + i * 64) (icells .u8 k)) := Lib.hid fun W hW => Below.row hW h1 h1.lt
      have HW2 : Hid (∀ W, Below w.heap.size w W → RowAt W b' (o' + i * 64) (icells .u8 k)) := Lib.hid fun W hW => Below.row hW h2 h2.lt
      have HSZ : Hid ((icells .u8 k).size = 64) := Lib.hid (by rw [size_icells, hk])
      have H32 := Lib.hid hk
      have HLT := Lib.hid hlt2
      have hS : Below w.heap.size w wr.drew := hB.drew
      clear h1 h2 hk hB hi
      go_wp2_with fail
      refine wp_regionW (n := 9) (S := fun W => Below w.heap.size w W) (late := fun _ => false) rfl (by kernel_rfl) ?_
      refine takeW (j := 0) (v := .slice (some ⟨b, o, none⟩) n c) rfl rfl rfl (by kernel_rfl) (by kernel_rfl) (by kernel_rfl) (by kernel_rfl) (fun _ _ _ h => h) (fun W hW => exec_move rfl rfl) hS ?_
      simp only [List.set_cons_zero, List.set_cons_succ]
      refine takeW (j := 1) (v := .int .i64 (i : Int)) rfl rfl rfl (by kernel_rfl) (by kernel_rfl) (by kernel_rfl) (by kernel_rfl) (fun _ _ _ h => h) (fun W hW => exec_move rfl rfl) hS ?_
      simp only [List.set_cons_zero, List.set_cons_succ]
      refine takeW (j := 2) (v := .pointer (some ⟨b, o + i * 64, none⟩)) rfl rfl rfl (by kernel_rfl) (by kernel_rfl) (by kernel_rfl) (by kernel_rfl) (fun _ _ _ h => h) (fun W hW => exec_index_rows rfl rfl rfl und22 s49 HLT.out) hS ?_
      simp only [List.set_cons_zero, List.set_cons_succ]
      refine takeW (j := 3) (v := kv k) rfl rfl rfl (by kernel_rfl) (by kernel_rfl) (by kernel_rfl) (by kernel_rfl) (fun _ _ _ h => h) (fun W hW => exec_load_sub rfl rfl (HW1.out W hW) und49 rfl (by rw [HSZ.out]; exact s49)) hS ?_
      simp only [List.set_cons_zero, List.set_cons_succ]
      refine takeW (j := 4) (v := .slice (some ⟨b', o', none⟩) n c') rfl rfl rfl (by kernel_rfl) (by kernel_rfl) (by kernel_rfl) (by kernel_rfl) (fun _ _ _ h => h) (fun W hW => exec_move rfl rfl) hS ?_
      simp only [List.set_cons_zero, List.set_cons_succ]
      refine takeW (j := 5) (v := .int .i64 (i : Int)) rfl rfl rfl (by kernel_rfl) (by kernel_rfl) (by kernel_rfl) (by kernel_rfl) (fun _ _ _ h => h) (fun W hW => exec_move rfl rfl) hS ?_
      simp only [List.set_cons_zero, List.set_cons_succ]
      refine takeW (j := 6) (v := .pointer (some ⟨b', o' + i * 64, none⟩)) rfl rfl rfl (by kernel_rfl) (by kernel_rfl) (by kernel_rfl) (by kernel_rfl) (fun _ _ _ h => h) (fun W hW => exec_index_rows rfl rfl rfl und22 s49 HLT.out) hS ?_
      simp only [List.set_cons_zero, List.set_cons_succ]
      refine takeW (j := 7) (v := kv k) rfl rfl rfl (by kernel_rfl) (by kernel_rfl) (by kernel_rfl) (by kernel_rfl) (fun _ _ _ h => h) (fun W hW => exec_load_sub rfl rfl (HW2.out W hW) und49 rfl (by rw [HSZ.out]; exact s49)) hS ?_
      simp only [List.set_cons_zero, List.set_cons_succ]
      refine takeW (j := 8) (v := .bool false) rfl rfl rfl (by kernel_rfl) (by kernel_rfl) (by kernel_rfl) (by kernel_rfl) (fun _ _ _ h => h) (fun W hW => (exec_neq_ints rfl rfl rfl eqGuard49 und49 u5 s5 H32.out H32.out).trans (by rw [neq_self])) hS ?_
      simp only [List.set_cons_zero, List.set_cons_succ]
      refine doneW (by kernel_rfl) ?_ _
      have HBL := Lib.hid hS
      clear hS
      go_wp2_with fail
      go_roundw
      case rel => exact ⟨i + 1, by omega, by go_num, HBL.out⟩
      case measure => simp [intOf]; omega
    · obtain rfl : n = i := by omega
      have hlt' : ¬ (n : Int) < (n : Int) := by omega
      have HBL := Lib.hid hB
      clear hB hi hlt2 HK
      go_wp2_with fail
      go_ret
      exact ⟨rfl, HBL.out⟩

set_option maxRecDepth 20000 in
set_option maxHeartbeats 800000 in
theorem left26_any {K : List (List Int)} {m : List Int} {a' : Option Addr} {g c' : Nat} (w : World) (hK : ∀ k ∈ K, k.length = 64) (hm : m.length = 64) (hr : RowsAt w (some ⟨g, 0, none⟩) 64 (room (K.map (icells .u8)) (icells .u8 m))) (hr' : RowsAt w a' 64 (K.map (icells .u8))) (hlt : K.length < 4000) :
    Calls Try.prog 26 #[.slice (some ⟨g, 0, none⟩) K.length (K.length + 3), .slice a' K.length c', kv m] w fun e w' => e = .returned (.bool true) ∧ Below w.heap.size w w' := by
  have HS := Lib.hid (fun w1 (hB : Below w.heap.size w w1) => same36_any (c := K.length + 3) (c' := c') w1 hK (RowsAt.keep (fun j C hj => hr j C (by rw [room_low (List.getElem?_eq_some_iff.1 hj).1]; exact hj)) hB) (hr'.keep hB) hlt)
  obtain ⟨n, hn⟩ : ∃ n, K.length = n := ⟨_, rfl⟩
  rw [hn] at hlt HS ⊢
  have HK := Lib.hid (fun (i : Nat) (hi : i < 3) => show RowAt w g ((n + i) * 64) (icells .u8 m) from by
    obtain ⟨b, o, e1, e2⟩ := hr (n + i) _ (room_high (D := K.map (icells .u8)) (by rw [List.length_map, hn]; omega) (by rw [List.length_map, hn]; omega))
    simp only [Option.some.injEq, Addr.mk.injEq, and_true] at e1
    obtain ⟨rfl, rfl⟩ := e1
    rw [Nat.zero_add] at e2
    exact e2)
  have HSZ : Hid ((icells .u8 m).size = 64) := Lib.hid (by rw [size_icells, hm])
  have H32 := Lib.hid hm
  clear hK hr hr' hn hm K
  go_enter Try.func26, Try.ntmps26
  have hnl : ¬ ((n : Int) + 3 < (n : Int) + 3) := by omega
  go_wp2_with (first
    | ((with_reducible refine wl_box49 (k := m) ?_ ?_); (exact rfl); intro b w1 hb hle hB)
    | (go_at_call 36; refine (HS.out _ hB).mono ?_; rintro e w2 ⟨rfl, hB2⟩))
  clear hnl
  replace hb := (hB2.block b (Array.getElem?_eq_some_iff.1 hb).1).trans hb
  have HB : Hid (∀ W, Below w2.heap.size w2 W → RowAt W b 0 (icells .u8 m)) := Lib.hid fun W hW => Below.row hW (RowAt.of_cells hb) (Array.getElem?_eq_some_iff.1 hb).1
  have hB0 := hB.trans (hB2.mono hB.size)
  have HK2 : Hid (∀ W, Below w2.heap.size w2 W → ∀ i, i < 3 → RowAt W g ((n + i) * 64) (icells .u8 m)) := Lib.hid fun W hW i hi => Below.row (hB0.trans (hW.mono hB0.size)) (HK.out i hi) (HK.out i hi).lt
  replace hB0 := Lib.hid hB0
  clear hb hle hB hB2 HK HS
  go_loopw [8] (fun v8 wr => ∃ (i : Nat), i ≤ 3 ∧ v8 = .int .i64 i ∧ Below w2.heap.size w2 wr) (fun v8 _ => 3 - (intOf v8).toNat)
  case atStart => exact ⟨0, Nat.zero_le _, rfl, Below.refl _ _⟩
  case round =>
    obtain ⟨i, hi, rfl, hB⟩ := hrel
    by_cases hlt2 : i < 3
    · have hlt' : (i : Int) < 3 := by omega
      have hS : Below w2.heap.size w2 wr.drew := hB.drew
      have HLT : Hid (n + i < n + 3) := Lib.hid (by omega)
      have HI := Lib.hid hlt2
      clear hB hi
      go_wp2_with fail
      refine wp_regionW (n := 9) (S := fun W => Below w2.heap.size w2 W) (late := fun _ => false) rfl (by kernel_rfl) ?_
      refine takeW (j := 0) (v := .slice (some ⟨g, 0, none⟩) (n + 3) (n + 3)) rfl rfl rfl (by kernel_rfl) (by kernel_rfl) (by kernel_rfl) (by kernel_rfl) (fun _ _ _ h => h) (fun W hW => exec_move rfl rfl) hS ?_
      simp only [List.set_cons_zero, List.set_cons_succ]
      refine takeW (j := 1) (v := .slice a' n c') rfl rfl rfl (by kernel_rfl) (by kernel_rfl) (by kernel_rfl) (by kernel_rfl) (fun _ _ _ h => h) (fun W hW => exec_move rfl rfl) hS ?_
      simp only [List.set_cons_zero, List.set_cons_succ]
      refine takeW (j := 2) (v := .int .i64 (n : Int)) rfl rfl rfl (by kernel_rfl) (by kernel_rfl) (by kernel_rfl) (by kernel_rfl) (fun _ _ _ h => h) (fun W hW => by go_simp) hS ?_
      simp only [List.set_cons_zero, List.set_cons_succ]
      refine takeW (j := 3) (v := .int .i64 (i : Int)) rfl rfl rfl (by kernel_rfl) (by kernel_rfl) (by kernel_rfl) (by kernel_rfl) (fun _ _ _ h => h) (fun W hW => exec_move rfl rfl) hS ?_
      simp only [List.set_cons_zero, List.set_cons_succ]
      refine takeW (j := 4) (v := .int .i64 ((n + i : Nat) : Int)) rfl rfl rfl (by kernel_rfl) (by kernel_rfl) (by kernel_rfl) (by kernel_rfl) (fun _ _ _ h => h) (fun W hW => by go_simp; rw [IntKind.wrap_i64] <;> omega) hS ?_
      simp only [List.set_cons_zero, List.set_cons_succ]
      refine takeW (j := 5) (v := .pointer (some ⟨g, 0 + (n + i) * 64, none⟩)) rfl rfl rfl (by kernel_rfl) (by kernel_rfl) (by kernel_rfl) (by kernel_rfl) (fun _ _ _ h => h) (fun W hW => exec_index_rows rfl rfl rfl und22 s49 HLT.out) hS ?_
      simp only [List.set_cons_zero, List.set_cons_succ]
      refine takeW (j := 6) (v := kv m) rfl rfl rfl (by kernel_rfl) (by kernel_rfl) (by kernel_rfl) (by kernel_rfl) (fun _ _ _ h => h) (fun W hW => exec_load_sub rfl rfl (by rw [Nat.zero_add]; exact HK2.out W hW i HI.out) und49 rfl (by rw [HSZ.out]; exact s49)) hS ?_
      simp only [List.set_cons_zero, List.set_cons_succ]
      refine takeW (j := 7) (v := kv m) rfl rfl rfl (by kernel_rfl) (by kernel_rfl) (by kernel_rfl) (by kernel_rfl) (fun _ _ _ h => h) (fun W hW => exec_load_sub rfl rfl (HB.out W hW) und49 rfl (by rw [HSZ.out]; exact s49)) hS ?_
      simp only [List.set_cons_zero, List.set_cons_succ]
      refine takeW (j := 8) (v := .bool false) rfl rfl rfl (by kernel_rfl) (by kernel_rfl) (by kernel_rfl) (by kernel_rfl) (fun _ _ _ h => h) (fun W hW => (exec_neq_ints rfl rfl rfl eqGuard49 und49 u5 s5 H32.out H32.out).trans (by rw [neq_self])) hS ?_
      simp only [List.set_cons_zero, List.set_cons_succ]
      refine doneW (by kernel_rfl) ?_ _
      have HBL := Lib.hid hS
      clear hS
      go_wp2_with fail
      go_roundw
      case rel => exact ⟨i + 1, by omega, by go_num, HBL.out⟩
      case measure => simp [intOf]; omega
    · obtain rfl : i = 3 := by omega
      have hlt' : ¬ ((3 : Nat) : Int) < 3 := by omega
      have HBL := Lib.hid hB
      clear hB hi hlt2 HK2 HB
      go_wp2_with fail
      go_ret
      exact ⟨rfl, hB0.out.trans (HBL.out.mono hB0.out.size)⟩

theorem exec_index_bytes {a : Act} {w : World} {o : Oper} {x i : Operand} {k : IntKind} {b off n c idx : Nat} (ho : o.op = .indexAddr 42 x i) (hx : a.eval x = .slice (some ⟨b, off, none⟩) n c) (hi : a.eval i = .int k (idx : Int))
    (hlt : idx < n) : (execOp a.eval o).run Try.prog w = .ok (.value (.pointer (some ⟨b, off + idx, none⟩))) w := by
  have h := exec_index_rows (w := w) ho hx hi und42 s5 hlt
  rwa [Nat.mul_one] at h

set_option maxRecDepth 20000 in
set_option maxHeartbeats 800000 in
theorem same47_any {A : List Nat} {a a' : Option Addr} {c c' : Nat} (w : World) (hr : BytesAt w a A) (hr' : BytesAt w a' A) (hlt : A.length < 4000) :
    Calls Try.prog 47 #[.slice a A.length c, .slice a' A.length c'] w fun e w' => e = .returned (.bool true) ∧ Below w.heap.size w w' := by
  obtain ⟨n, hn⟩ : ∃ n, A.length = n := ⟨_, rfl⟩
  rw [hn] at hlt ⊢
  have HK := Lib.hid (fun (i : Nat) (hi : i < n) => show ∃ (q b o b' o' : Nat), q < 256 ∧ a = some ⟨b, o, none⟩ ∧ a' = some ⟨b', o', none⟩ ∧ w.cell? ⟨b, o + i, none⟩ = some (.int .u8 (q : Int)) ∧ w.cell? ⟨b', o' + i, none⟩ = some (.int .u8 (q : Int)) from by
    have hi' : i < A.length := by omega
    obtain ⟨hq, b, o, e1, _, e2⟩ := hr i hi'
    obtain ⟨_, b', o', e3, _, e4⟩ := hr' i hi'
    exact ⟨A.getD i 0, b, o, b', o', hq, e1, e3, e2, e4⟩)
  clear hr hr' hn A
  go_enter Try.func47, Try.ntmps47
  have hne : ((n : Int) != (n : Int)) = false := by simp
  go_wp2_with fail
  clear hne
  go_loopw [5] (fun v5 wr => ∃ (i : Nat), i ≤ n ∧ v5 = .int .i64 i ∧ Below w.heap.size w wr) (fun v5 _ => n - (intOf v5).toNat)
  case atStart => exact ⟨0, Nat.zero_le _, rfl, Below.refl _ _⟩
  case round =>
    obtain ⟨i, hi, rfl, hB⟩ := hrel
    by_cases hlt2 : i < n
    · have hlt' : (i : Int) < (n : Int) := by omega
      obtain ⟨q, b, o, b', o', hq, rfl, rfl, h1, h2⟩ := HK.out i hlt2
      have HW1 : Hid (∀ W, Below w.heap.size w W → W.cell? ⟨b, o + i, none⟩ = some (.int .u8 (q : Int))) := Lib.hid fun W hW => Below.keepCell hW (Nat.le_refl _) h1
      have HW2 : Hid (∀ W, Below w.heap.size w W → W.cell? ⟨b', o' + i, none⟩ = some (.int .u8 (q : Int))) := Lib.hid fun W hW => Below.keepCell hW (Nat.le_refl _) h2
      have HLT := Lib.hid hlt2
      have hS : Below w.heap.size w wr.drew := hB.drew
      clear h1 h2 hB hi
      go_wp2_with fail
      refine wp_regionW (n := 9) (S := fun W => Below w.heap.size w W) (late := fun _ => false) rfl (by kernel_rfl) ?_
      refine takeW (j := 0) (v := .slice (some ⟨b, o, none⟩) n c) rfl rfl rfl (by kernel_rfl) (by kernel_rfl) (by kernel_rfl) (by kernel_rfl) (fun _ _ _ h => h) (fun W hW => exec_move rfl rfl) hS ?_
      simp only [List.set_cons_zero, List.set_cons_succ]
      refine takeW (j := 1) (v := .int .i64 (i : Int)) rfl rfl rfl (by kernel_rfl) (by kernel_rfl) (by kernel_rfl) (by kernel_rfl) (fun _ _ _ h => h) (fun W hW => exec_move rfl rfl) hS ?_
      simp only [List.set_cons_zero, List.set_cons_succ]
      refine takeW (j := 2) (v := .pointer (some ⟨b, o + i, none⟩)) rfl rfl rfl (by kernel_rfl) (by kernel_rfl) (by kernel_rfl) (by kernel_rfl) (fun _ _ _ h => h) (fun W hW => exec_index_bytes rfl rfl rfl HLT.out) hS ?_
      simp only [List.set_cons_zero, List.set_cons_succ]
      refine takeW (j := 3) (v := .int .u8 (q : Int)) rfl rfl rfl (by kernel_rfl) (by kernel_rfl) (by kernel_rfl) (by kernel_rfl) (fun _ _ _ h => h) (fun W hW => exec_load_cell rfl rfl u5 rfl (HW1.out W hW)) hS ?_
      simp only [List.set_cons_zero, List.set_cons_succ]
      refine takeW (j := 4) (v := .slice (some ⟨b', o', none⟩) n c') rfl rfl rfl (by kernel_rfl) (by kernel_rfl) (by kernel_rfl) (by kernel_rfl) (fun _ _ _ h => h) (fun W hW => exec_move rfl rfl) hS ?_
      simp only [List.set_cons_zero, List.set_cons_succ]
      refine takeW (j := 5) (v := .int .i64 (i : Int)) rfl rfl rfl (by kernel_rfl) (by kernel_rfl) (by kernel_rfl) (by kernel_rfl) (fun _ _ _ h => h) (fun W hW => exec_move rfl rfl) hS ?_
      simp only [List.set_cons_zero, List.set_cons_succ]
      refine takeW (j := 6) (v := .pointer (some ⟨b', o' + i, none⟩)) rfl rfl rfl (by kernel_rfl) (by kernel_rfl) (by kernel_rfl) (by kernel_rfl) (fun _ _ _ h => h) (fun W hW => exec_index_bytes rfl rfl rfl HLT.out) hS ?_
      simp only [List.set_cons_zero, List.set_cons_succ]
      refine takeW (j := 7) (v := .int .u8 (q : Int)) rfl rfl rfl (by kernel_rfl) (by kernel_rfl) (by kernel_rfl) (by kernel_rfl) (fun _ _ _ h => h) (fun W hW => exec_load_cell rfl rfl u5 rfl (HW2.out W hW)) hS ?_
      simp only [List.set_cons_zero, List.set_cons_succ]
      refine takeW (j := 8) (v := .bool false) rfl rfl rfl (by kernel_rfl) (by kernel_rfl) (by kernel_rfl) (by kernel_rfl) (fun _ _ _ h => h) (fun W hW => by go_simp) hS ?_
      simp only [List.set_cons_zero, List.set_cons_succ]
      refine doneW (by kernel_rfl) ?_ _
      have HBL := Lib.hid hS
      clear hS
      go_wp2_with fail
      go_roundw
      case rel => exact ⟨i + 1, by omega, by go_num, HBL.out⟩
      case measure => simp [intOf]; omega
    · obtain rfl : n = i := by omega
      have hlt' : ¬ (n : Int) < (n : Int) := by omega
      have HBL := Lib.hid hB
      clear hB hi hlt2 HK
      go_wp2_with fail
      go_ret
      exact ⟨rfl, HBL.out⟩

/-- A twin of bytes: its room is marked. -/
def RoomAt (w : World) (g n : Nat) : Prop := ∀ i, i < 3 → w.cell? ⟨g, n + i, none⟩ = some (.int .u8 165)

set_option maxRecDepth 20000 in
set_option maxHeartbeats 800000 in
theorem left49_any {A : List Nat} {a' : Option Addr} {g c' : Nat} (w : World) (hr : BytesAt w (some ⟨g, 0, none⟩) A) (hm : RoomAt w g A.length) (hr' : BytesAt w a' A) (hlt : A.length < 4000) :
    Calls Try.prog 49 #[.slice (some ⟨g, 0, none⟩) A.length (A.length + 3), .slice a' A.length c', .int .u8 165] w fun e w' => e = .returned (.bool true) ∧ Below w.heap.size w w' := by
  have HS := Lib.hid (same47_any (c := A.length + 3) (c' := c') w hr hr' hlt)
  generalize A.length = n at hlt HS hm ⊢
  have HK := Lib.hid hm
  clear hr hr' hm A
  go_enter Try.func49, Try.ntmps49
  have hnl : ¬ ((n : Int) + 3 < (n : Int) + 3) := by omega
  go_wp2_with (first
    | (go_at_call 47; refine HS.out.mono ?_; rintro e w2 ⟨rfl, hB2⟩))
  clear hnl
  have HB := Lib.hid hB2
  clear HS hB2
  go_loopw [8] (fun v8 wr => ∃ (i : Nat), i ≤ 3 ∧ v8 = .int .i64 i ∧ Below w.heap.size w wr) (fun v8 _ => 3 - (intOf v8).toNat)
  case atStart => exact ⟨0, Nat.zero_le _, rfl, HB.out⟩
  case round =>
    clear HB
    obtain ⟨i, hi, rfl, hB⟩ := hrel
    by_cases hlt2 : i < 3
    · have hlt' : (i : Int) < 3 := by omega
      have HLT : Hid (n + i < n + 3) := Lib.hid (by omega)
      have hcell := Below.keepCell hB (Nat.le_refl _) (HK.out i hlt2)
      have HBL := Lib.hid hB
      clear hi hB
      go_wp2_with fail
      go_roundw
      case rel => exact ⟨i + 1, by omega, by go_num, HBL.out⟩
      case measure => simp [intOf]; omega
    · obtain rfl : i = 3 := by omega
      have hlt' : ¬ ((3 : Nat) : Int) < 3 := by omega
      have HBL := Lib.hid hB
      clear hB hi hlt2
      go_wp2_with fail
      go_ret
      exact ⟨rfl, HBL.out⟩

theorem leftBytes_any {A : List Nat} {a' : Option Addr} {g c' : Nat} (w : World) (hr : BytesAt w (some ⟨g, 0, none⟩) A) (hm : RoomAt w g A.length) (hr' : BytesAt w a' A) (hlt : A.length < 4000) :
    Calls Try.prog 39 #[.slice (some ⟨g, 0, none⟩) A.length (A.length + 3), .slice a' A.length c'] w fun e w' => e = .returned (.bool true) ∧ Below w.heap.size w w' := by
  have H := Lib.hid (left49_any (c' := c') w hr hm hr' hlt)
  clear hr hr' hm hlt
  generalize A.length = n at H ⊢
  go_enter Try.func39, Try.ntmps39
  go_wp2_with (go_at_call 49; refine H.out.mono ?_; rintro e w2 ⟨rfl, h2⟩)
  go_ret
  exact ⟨rfl, h2⟩
theorem leftKeys_any {K : List (List Int)} {a' : Option Addr} {g c' : Nat} (w : World) (hK : ∀ k ∈ K, k.length = 32) (hr : RowsAt w (some ⟨g, 0, none⟩) 32 (room (K.map (icells .u8)) (icells .u8 markK))) (hr' : RowsAt w a' 32 (K.map (icells .u8))) (hlt : K.length < 4000) :
    Calls Try.prog 38 #[.slice (some ⟨g, 0, none⟩) K.length (K.length + 3), .slice a' K.length c'] w fun e w' => e = .returned (.bool true) ∧ Below w.heap.size w w' := by
  have H := Lib.hid (fun w1 (hB : Below w.heap.size w w1) => left48_any (c' := c') w1 hK markK_len (hr.keep hB) (hr'.keep hB) hlt)
  have M := Lib.hid (markKey_any w)
  clear hr hr' hK hlt
  generalize K.length = n at H ⊢
  generalize markK = m at H M ⊢
  go_enter Try.func38, Try.ntmps38
  go_wp2_with (first
    | (go_at_call 41; refine M.out.mono ?_; rintro e w1 ⟨rfl, hB⟩)
    | (go_at_call 48; refine (H.out _ hB).mono ?_; rintro e w2 ⟨rfl, h2⟩))
  go_ret
  exact ⟨rfl, hB.trans (h2.mono hB.size)⟩
end Go.Proofs.Ytgjijoielfpmkaa
