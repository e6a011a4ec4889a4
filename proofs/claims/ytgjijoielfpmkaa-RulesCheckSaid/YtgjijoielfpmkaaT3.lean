/- twin of keys, of signatures; the marks; TwinKeys. -/
import Derived.Test.YtgjijoielfpmkaaT2
set_option linter.unusedVariables false
namespace Go.Proofs.Ytgjijoielfpmkaa
open Go.RowKit

theorem OwnAt.base {w : World} {base b0 e s : Nat} {v : Value} {D : List (Array Value)} (h : OwnAt w base e s v D) (hb : b0 ≤ base) : OwnAt w b0 e s v D := by
  refine ⟨⟨h.own.1, ?_⟩, h.size⟩
  rcases h.own.2 with h1 | ⟨g, c, cur, e1, e2, e3⟩
  · exact .inl h1
  · exact .inr ⟨g, c, cur, e1, Nat.le_trans hb e2, e3⟩

set_option maxRecDepth 20000 in
set_option maxHeartbeats 800000 in
theorem twin40_any {K : List (List Int)} {m : List Int} {a : Option Addr} {c : Nat} (w : World) (hK : ∀ k ∈ K, k.length = 32) (hm : m.length = 32) (hr : RowsAt w a 32 (K.map (icells .u8))) (hlt : K.length < 4000) :
    Calls Try.prog 40 #[.slice a K.length c, kv m] w fun e w' => ∃ g, e = .returned (.slice (some ⟨g, 0, none⟩) K.length (K.length + 3)) ∧
      OwnAt w' w.heap.size 41 32 (.slice (some ⟨g, 0, none⟩) (K.length + 3) (K.length + 3)) (room (K.map (icells .u8)) (icells .u8 m)) ∧ Below w.heap.size w w' := by
  obtain ⟨n, hn⟩ : ∃ n, K.length = n := ⟨_, rfl⟩
  obtain ⟨D, hD⟩ : ∃ D, K.map (icells .u8) = D := ⟨_, rfl⟩
  have hDn : D.length = n := by rw [← hD, List.length_map, hn]
  rw [hD] at hr ⊢
  rw [hn] at hlt ⊢
  have HDN := Lib.hid hDn
  have HM := Lib.hid hm
  have HMS : Hid ((icells .u8 m).size = 32) := Lib.hid (by rw [size_icells, hm])
  have HR := Lib.hid hr
  have HK := Lib.hid (fun (i : Nat) (hi : i < n) => show ∃ k : List Int, k.length = 32 ∧ D[i]? = some (icells .u8 k) from by
    have hi' : i < K.length := by omega
    refine ⟨K[i], hK _ (List.getElem_mem _), ?_⟩
    rw [← hD, List.getElem?_map, List.getElem?_eq_getElem hi']; rfl)
  clear hK hm hr hn hD hDn K
  go_enter Try.func40, Try.ntmps40
  go_wp2_with (first
    | ((with_reducible refine wl_box41 (k := m) ?_ ?_); (exact rfl); intro b w1 hb hle hB)
    | ((with_reducible refine wl_makeRows (c := n + 3) (t := 25) (e := 41) (s := 32) (bytes := 32) ?_ und25 i41 pos32 ?_ le32' ?_); (exact rfl); (omega); intro g w2 L hO hL hle2 hB2))
  have hbg : b ≠ g := by have := (Array.getElem?_eq_some_iff.1 hb).1; omega
  replace hb := (hB2.block b (Array.getElem?_eq_some_iff.1 hb).1).trans hb
  have HB2 := Lib.hid (hB.trans (hB2.mono hB.size))
  have HO := Lib.hid (hO.base hB.size)
  have HL := Lib.hid hL
  have HG := Lib.hid (Nat.le_trans hB.size hle2)
  have HBG := Lib.hid hbg
  have HB := Lib.hid hb
  clear hb hle hB hO hL hle2 hB2 hbg w1
  go_loopw [6] (fun v6 wr => ∃ (i : Nat) (L : List (Array Value)), i ≤ n ∧ v6 = .int .i64 i ∧ OwnAt wr w.heap.size 41 32 (.slice (some ⟨g, 0, none⟩) (n + 3) (n + 3)) L ∧ L.length = n + 3 ∧ Upto L (room D (icells .u8 m)) i ∧ wr.heap[b]? = some (.cells (icells .u8 m) 41) ∧ Below w.heap.size w wr) (fun v6 _ => n - (intOf v6).toNat)
  case atStart => exact ⟨0, L, Nat.zero_le _, rfl, HO.out, HL.out, Upto.zero _ _, HB.out, HB2.out⟩
  case round =>
    clear HO HL HB HB2
    obtain ⟨i, L, hi, rfl, hO, hL, hU, hb, hB⟩ := hrel
    by_cases hlt2 : i < n
    · have hlt' : (i : Int) < (n : Int) := by omega
      obtain ⟨k, hk, hDi⟩ := HK.out i hlt2
      obtain ⟨kb, off, e, hrow⟩ := HR.out i _ hDi
      subst e
      obtain ⟨C, hC, hCs, -, -⟩ := hO.block
      have hrow2 := Lib.hid (Below.row hB hrow hrow.lt)
      have hlt3 : i < n + 3 := by omega
      have hfit : i * 32 + 32 ≤ C.size := fit hlt3 (by rw [← hL]; exact hCs)
      have HO := Lib.hid hO
      have HL := Lib.hid hL
      have HU := Lib.hid hU
      have HB := Lib.hid hb
      have HBL := Lib.hid hB
      have HSZ : Hid ((icells .u8 k).size = 32) := Lib.hid (by rw [size_icells, hk])
      have HDI : Hid ((room D (icells .u8 m))[i]? = some (icells .u8 k)) := Lib.hid (by rw [room_low (by rw [HDN.out]; exact hlt2)]; exact hDi)
      clear hrow hO hL hU hb hB hDi hi
      go_wp2_with (first
        | ((with_reducible refine wl_load41 (b := kb) (off := off + i * 32) (k := k) ?_ hrow2.out hk ?_); (exact rfl))
        | ((with_reducible refine wl_storeRow (t := 41) (n := 32) (b := g) (off := i * 32) (A := icells .u8 k) (C := C) ?_ ?_ hC hfit HSZ.out (icells_one _ _) s41 ?_); (first | exact rfl | (simp; done)); (exact rfl); intro w8 h8 hW8))
      go_roundw
      case rel => exact ⟨i + 1, L.set i (icells .u8 k), by omega, by go_num, HO.out.setRow (by rw [HL.out]; exact hlt3) pos32 HSZ.out hC h8, by rw [List.length_set]; exact HL.out, HU.out.set (by rw [HL.out]; exact hlt3) HDI.out, (hW8.block b HBG.out).trans HB.out, hW8.below HBL.out HG.out⟩
      case measure => simp [intOf]; omega
    · obtain rfl : n = i := by omega
      have hlt' : ¬ (n : Int) < (n : Int) := by omega
      have HO := Lib.hid hO
      have HL := Lib.hid hL
      have HU := Lib.hid hU
      have HB := Lib.hid hb
      have HBL := Lib.hid hB
      clear hO hL hU hb hB hi hlt2 HK HR
      go_wp2_with fail
      go_loopw [7] (fun v7 wr => ∃ (i : Nat) (L : List (Array Value)), i ≤ 3 ∧ v7 = .int .i64 i ∧ OwnAt wr w.heap.size 41 32 (.slice (some ⟨g, 0, none⟩) (n + 3) (n + 3)) L ∧ L.length = n + 3 ∧ Upto L (room D (icells .u8 m)) (n + i) ∧ wr.heap[b]? = some (.cells (icells .u8 m) 41) ∧ Below w.heap.size w wr) (fun v7 _ => 3 - (intOf v7).toNat)
      case atStart => exact ⟨0, L, Nat.zero_le _, rfl, HO.out, HL.out, HU.out, HB.out, HBL.out⟩
      case round =>
        clear HO HL HU HB HBL hlt'
        obtain ⟨i, L, hi, rfl, hO, hL, hU, hb, hB⟩ := hrel
        by_cases hlt2 : i < 3
        · have hlt' : (i : Int) < 3 := by omega
          obtain ⟨C, hC, hCs, -, -⟩ := hO.block
          have hlt3 : n + i < n + 3 := by omega
          have hfit : (n + i) * 32 + 32 ≤ C.size := fit hlt3 (by rw [← hL]; exact hCs)
          have hrow2 : Hid (RowAt _ b 0 (icells .u8 m)) := Lib.hid (RowAt.of_cells hb)
          have HO := Lib.hid hO
          have HL := Lib.hid hL
          have HU := Lib.hid hU
          have HB := Lib.hid hb
          have HBL := Lib.hid hB
          have HDI : Hid ((room D (icells .u8 m))[n + i]? = some (icells .u8 m)) := Lib.hid (room_high (by rw [HDN.out]; omega) (by rw [HDN.out]; exact hlt3))
          clear hO hL hU hb hB hi
          go_wp2_with (first
            | ((with_reducible refine wl_load41 (b := b) (off := 0) (k := m) ?_ hrow2.out HM.out ?_); (exact rfl))
            | ((with_reducible refine wl_storeRow (t := 41) (n := 32) (b := g) (off := (n + i) * 32) (A := icells .u8 m) (C := C) ?_ ?_ hC hfit HMS.out (icells_one _ _) s41 ?_); (first | exact rfl | (simp; done)); (exact rfl); intro w8 h8 hW8))
          go_roundw
          case rel => exact ⟨i + 1, L.set (n + i) (icells .u8 m), by omega, by go_num, HO.out.setRow (by rw [HL.out]; exact hlt3) pos32 HMS.out hC h8, by rw [List.length_set]; exact HL.out, HU.out.set (by rw [HL.out]; exact hlt3) HDI.out, (hW8.block b HBG.out).trans HB.out, hW8.below HBL.out HG.out⟩
          case measure => simp [intOf]; omega
        · obtain rfl : i = 3 := by omega
          have hlt' : ¬ ((3 : Nat) : Int) < 3 := by omega
          have hLD : L = room D (icells .u8 m) := Upto.all (by rw [room_length, HDN.out]; exact hU) (by rw [room_length, HDN.out]; exact hL)
          rw [hLD] at hO
          have HO := Lib.hid hO
          have HBL := Lib.hid hB
          clear hO hL hU hb hB hi hlt2 hLD
          go_wp2_with fail
          go_ret
          exact ⟨g, rfl, HO.out, HBL.out⟩

set_option maxRecDepth 20000 in
set_option maxHeartbeats 800000 in
theorem twin17_any {K : List (List Int)} {m : List Int} {a : Option Addr} {c : Nat} (w : World) (hK : ∀ k ∈ K, k.length = 64) (hm : m.length = 64) (hr : RowsAt w a 64 (K.map (icells .u8))) (hlt : K.length < 4000) :
    Calls Try.prog 17 #[.slice a K.length c, kv m] w fun e w' => ∃ g, e = .returned (.slice (some ⟨g, 0, none⟩) K.length (K.length + 3)) ∧
      OwnAt w' w.heap.size 49 64 (.slice (some ⟨g, 0, none⟩) (K.length + 3) (K.length + 3)) (room (K.map (icells .u8)) (icells .u8 m)) ∧ Below w.heap.size w w' := by
  obtain ⟨n, hn⟩ : ∃ n, K.length = n := ⟨_, rfl⟩
  obtain ⟨D, hD⟩ : ∃ D, K.map (icells .u8) = D := ⟨_, rfl⟩
  have hDn : D.length = n := by rw [← hD, List.length_map, hn]
  rw [hD] at hr ⊢
  rw [hn] at hlt ⊢
  have HDN := Lib.hid hDn
  have HM := Lib.hid hm
  have HMS : Hid ((icells .u8 m).size = 64) := Lib.hid (by rw [size_icells, hm])
  have HR := Lib.hid hr
  have HK := Lib.hid (fun (i : Nat) (hi : i < n) => show ∃ k : List Int, k.length = 64 ∧ D[i]? = some (icells .u8 k) from by
    have hi' : i < K.length := by omega
    refine ⟨K[i], hK _ (List.getElem_mem _), ?_⟩
    rw [← hD, List.getElem?_map, List.getElem?_eq_getElem hi']; rfl)
  clear hK hm hr hn hD hDn K
  go_enter Try.func17, Try.ntmps17
  go_wp2_with (first
    | ((with_reducible refine wl_box49 (k := m) ?_ ?_); (exact rfl); intro b w1 hb hle hB)
    | ((with_reducible refine wl_makeRows (c := n + 3) (t := 22) (e := 49) (s := 64) (bytes := 64) ?_ und22 i49 pos64 ?_ le64' ?_); (exact rfl); (omega); intro g w2 L hO hL hle2 hB2))
  have hbg : b ≠ g := by have := (Array.getElem?_eq_some_iff.1 hb).1; omega
  replace hb := (hB2.block b (Array.getElem?_eq_some_iff.1 hb).1).trans hb
  have HB2 := Lib.hid (hB.trans (hB2.mono hB.size))
  have HO := Lib.hid (hO.base hB.size)
  have HL := Lib.hid hL
  have HG := Lib.hid (Nat.le_trans hB.size hle2)
  have HBG := Lib.hid hbg
  have HB := Lib.hid hb
  clear hb hle hB hO hL hle2 hB2 hbg w1
  go_loopw [6] (fun v6 wr => ∃ (i : Nat) (L : List (Array Value)), i ≤ n ∧ v6 = .int .i64 i ∧ OwnAt wr w.heap.size 49 64 (.slice (some ⟨g, 0, none⟩) (n + 3) (n + 3)) L ∧ L.length = n + 3 ∧ Upto L (room D (icells .u8 m)) i ∧ wr.heap[b]? = some (.cells (icells .u8 m) 49) ∧ Below w.heap.size w wr) (fun v6 _ => n - (intOf v6).toNat)
  case atStart => exact ⟨0, L, Nat.zero_le _, rfl, HO.out, HL.out, Upto.zero _ _, HB.out, HB2.out⟩
  case round =>
    clear HO HL HB HB2
    obtain ⟨i, L, hi, rfl, hO, hL, hU, hb, hB⟩ := hrel
    by_cases hlt2 : i < n
    · have hlt' : (i : Int) < (n : Int) := by omega
      obtain ⟨k, hk, hDi⟩ := HK.out i hlt2
      obtain ⟨kb, off, e, hrow⟩ := HR.out i _ hDi
      subst e
      obtain ⟨C, hC, hCs, -, -⟩ := hO.block
      have hrow2 := Lib.hid (Below.row hB hrow hrow.lt)
      have hlt3 : i < n + 3 := by omega
      have hfit : i * 64 + 64 ≤ C.size := fit hlt3 (by rw [← hL]; exact hCs)
      have HO := Lib.hid hO
      have HL := Lib.hid hL
      have HU := Lib.hid hU
      have HB := Lib.hid hb
      have HBL := Lib.hid hB
      have HSZ : Hid ((icells .u8 k).size = 64) := Lib.hid (by rw [size_icells, hk])
      have HDI : Hid ((room D (icells .u8 m))[i]? = some (icells .u8 k)) := Lib.hid (by rw [room_low (by rw [HDN.out]; exact hlt2)]; exact hDi)
      clear hrow hO hL hU hb hB hDi hi
      go_wp2_with (first
        | ((with_reducible refine wl_load49 (b := kb) (off := off + i * 64) (k := k) ?_ hrow2.out hk ?_); (exact rfl))
        | ((with_reducible refine wl_storeRow (t := 49) (n := 64) (b := g) (off := i * 64) (A := icells .u8 k) (C := C) ?_ ?_ hC hfit HSZ.out (icells_one _ _) s49 ?_); (first | exact rfl | (simp; done)); (exact rfl); intro w8 h8 hW8))
      go_roundw
      case rel => exact ⟨i + 1, L.set i (icells .u8 k), by omega, by go_num, HO.out.setRow (by rw [HL.out]; exact hlt3) pos64 HSZ.out hC h8, by rw [List.length_set]; exact HL.out, HU.out.set (by rw [HL.out]; exact hlt3) HDI.out, (hW8.block b HBG.out).trans HB.out, hW8.below HBL.out HG.out⟩
      case measure => simp [intOf]; omega
    · obtain rfl : n = i := by omega
      have hlt' : ¬ (n : Int) < (n : Int) := by omega
      have HO := Lib.hid hO
      have HL := Lib.hid hL
      have HU := Lib.hid hU
      have HB := Lib.hid hb
      have HBL := Lib.hid hB
      clear hO hL hU hb hB hi hlt2 HK HR
      go_wp2_with fail
      go_loopw [7] (fun v7 wr => ∃ (i : Nat) (L : List (Array Value)), i ≤ 3 ∧ v7 = .int .i64 i ∧ OwnAt wr w.heap.size 49 64 (.slice (some ⟨g, 0, none⟩) (n + 3) (n + 3)) L ∧ L.length = n + 3 ∧ Upto L (room D (icells .u8 m)) (n + i) ∧ wr.heap[b]? = some (.cells (icells .u8 m) 49) ∧ Below w.heap.size w wr) (fun v7 _ => 3 - (intOf v7).toNat)
      case atStart => exact ⟨0, L, Nat.zero_le _, rfl, HO.out, HL.out, HU.out, HB.out, HBL.out⟩
      case round =>
        clear HO HL HU HB HBL hlt'
        obtain ⟨i, L, hi, rfl, hO, hL, hU, hb, hB⟩ := hrel
        by_cases hlt2 : i < 3
        · have hlt' : (i : Int) < 3 := by omega
          obtain ⟨C, hC, hCs, -, -⟩ := hO.block
          have hlt3 : n + i < n + 3 := by omega
          have hfit : (n + i) * 64 + 64 ≤ C.size := fit hlt3 (by rw [← hL]; exact hCs)
          have hrow2 : Hid (RowAt _ b 0 (icells .u8 m)) := Lib.hid (RowAt.of_cells hb)
          have HO := Lib.hid hO
          have HL := Lib.hid hL
          have HU := Lib.hid hU
          have HB := Lib.hid hb
          have HBL := Lib.hid hB
          have HDI : Hid ((room D (icells .u8 m))[n + i]? = some (icells .u8 m)) := Lib.hid (room_high (by rw [HDN.out]; omega) (by rw [HDN.out]; exact hlt3))
          clear hO hL hU hb hB hi
          go_wp2_with (first
            | ((with_reducible refine wl_load49 (b := b) (off := 0) (k := m) ?_ hrow2.out HM.out ?_); (exact rfl))
            | ((with_reducible refine wl_storeRow (t := 49) (n := 64) (b := g) (off := (n + i) * 64) (A := icells .u8 m) (C := C) ?_ ?_ hC hfit HMS.out (icells_one _ _) s49 ?_); (first | exact rfl | (simp; done)); (exact rfl); intro w8 h8 hW8))
          go_roundw
          case rel => exact ⟨i + 1, L.set (n + i) (icells .u8 m), by omega, by go_num, HO.out.setRow (by rw [HL.out]; exact hlt3) pos64 HMS.out hC h8, by rw [List.length_set]; exact HL.out, HU.out.set (by rw [HL.out]; exact hlt3) HDI.out, (hW8.block b HBG.out).trans HB.out, hW8.below HBL.out HG.out⟩
          case measure => simp [intOf]; omega
        · obtain rfl : i = 3 := by omega
          have hlt' : ¬ ((3 : Nat) : Int) < 3 := by omega
          have hLD : L = room D (icells .u8 m) := Upto.all (by rw [room_length, HDN.out]; exact hU) (by rw [room_length, HDN.out]; exact hL)
          rw [hLD] at hO
          have HO := Lib.hid hO
          have HBL := Lib.hid hB
          clear hO hL hU hb hB hi hlt2 hLD
          go_wp2_with fail
          go_ret
          exact ⟨g, rfl, HO.out, HBL.out⟩

theorem bcells_length (A : List Nat) : (bcells A).length = A.length := by simp [bcells]
theorem bcells_get {A : List Nat} {j : Nat} (h : j < A.length) : (bcells A)[j]? = some (#[Value.int .u8 ((A.getD j 0 : Nat) : Int)] : Array Value) := by
  simp [bcells, List.getElem?_map, List.getElem?_eq_getElem h, List.getD_eq_getElem?_getD]
theorem size1 (v : Value) : (#[v] : Array Value).size = 1 := rfl

set_option maxRecDepth 20000 in
set_option maxHeartbeats 800000 in
theorem twin42_any {A : List Nat} {a : Option Addr} {c : Nat} (w : World) (hr : BytesAt w a A) (hlt : A.length < 4000) :
    Calls Try.prog 42 #[.slice a A.length c, .int .u8 165] w fun e w' => ∃ g, e = .returned (.slice (some ⟨g, 0, none⟩) A.length (A.length + 3)) ∧
      OwnAt w' w.heap.size 5 1 (.slice (some ⟨g, 0, none⟩) (A.length + 3) (A.length + 3)) (room (bcells A) #[.int .u8 165]) ∧ Below w.heap.size w w' := by
  obtain ⟨n, hn⟩ : ∃ n, A.length = n := ⟨_, rfl⟩
  obtain ⟨D, hD⟩ : ∃ D, bcells A = D := ⟨_, rfl⟩
  have hDn : D.length = n := by rw [← hD, bcells_length, hn]
  rw [hD]
  rw [hn] at hlt ⊢
  have HDN := Lib.hid hDn
  have HK := Lib.hid (fun (i : Nat) (hi : i < n) => show ∃ (q : Nat) (kb off : Nat), a = some ⟨kb, off, none⟩ ∧ kb < w.heap.size ∧ w.cell? ⟨kb, off + i, none⟩ = some (.int .u8 (q : Int)) ∧ D[i]? = some #[.int .u8 (q : Int)] from by
    have hi' : i < A.length := by omega
    obtain ⟨_, kb, off, e1, e2, e3⟩ := hr i hi'
    exact ⟨_, kb, off, e1, e2, e3, by rw [← hD]; exact bcells_get hi'⟩)
  clear hr hn hD hDn A
  go_enter Try.func42, Try.ntmps42
  go_wp2_with (first
    | ((with_reducible refine wl_makeRows (c := n + 3) (t := 42) (e := 5) (s := 1) (bytes := 1) ?_ und42 i5 pos1 ?_ le1 ?_); (exact rfl); (omega); intro g w2 L hO hL hle2 hB2))
  have HB2 := Lib.hid hB2
  have HO := Lib.hid hO
  have HL := Lib.hid hL
  have HG := Lib.hid hle2
  clear hO hL hle2 hB2
  go_loopw [6] (fun v6 wr => ∃ (i : Nat) (L : List (Array Value)), i ≤ n ∧ v6 = .int .i64 i ∧ OwnAt wr w.heap.size 5 1 (.slice (some ⟨g, 0, none⟩) (n + 3) (n + 3)) L ∧ L.length = n + 3 ∧ Upto L (room D #[.int .u8 165]) i ∧ Below w.heap.size w wr) (fun v6 _ => n - (intOf v6).toNat)
  case atStart => exact ⟨0, L, Nat.zero_le _, rfl, HO.out, HL.out, Upto.zero _ _, HB2.out⟩
  case round =>
    clear HO HL HB2
    obtain ⟨i, L, hi, rfl, hO, hL, hU, hB⟩ := hrel
    by_cases hlt2 : i < n
    · have hlt' : (i : Int) < (n : Int) := by omega
      obtain ⟨q, kb, off, e, hkb, hcell, hDi⟩ := HK.out i hlt2
      subst e
      obtain ⟨C, hC, hCs, -, -⟩ := hO.block
      have hlt3 : i < n + 3 := by omega
      have hfit : i < C.size := by
        have := fit hlt3 (by rw [← hL]; exact hCs)
        omega
      have hcell2 := Below.keepCell hB (Nat.le_refl _) hcell
      have HO := Lib.hid hO
      have HL := Lib.hid hL
      have HU := Lib.hid hU
      have HBL := Lib.hid hB
      have HDI : Hid ((room D #[.int .u8 165])[i]? = some #[.int .u8 (q : Int)]) := Lib.hid (by rw [room_low (by rw [HDN.out]; exact hlt2)]; exact hDi)
      clear hcell hO hL hU hB hDi hi hkb
      go_wp2_with (first
        | ((with_reducible refine wl_store1 (t := 5) (b := g) (off := i) (v := .int .u8 (q : Int)) (C := C) ?_ ?_ (vc_int _ _) (vo_int _ _) hC hfit size5 ?_); (first | exact rfl | (simp; done)); (exact rfl); intro w8 h8 hW8))
      have h9 : w8.heap[g]? = some (.cells (splice C (i * 1) #[.int .u8 (q : Int)]) 5) := by rw [Nat.mul_one, splice_one hfit]; exact h8
      go_roundw
      case rel => exact ⟨i + 1, L.set i #[.int .u8 (q : Int)], by omega, by go_num, HO.out.setRow (by rw [HL.out]; exact hlt3) pos1 (size1 _) hC h9, by rw [List.length_set]; exact HL.out, HU.out.set (by rw [HL.out]; exact hlt3) HDI.out, hW8.below HBL.out HG.out⟩
      case measure => simp [intOf]; omega
    · obtain rfl : n = i := by omega
      have hlt' : ¬ (n : Int) < (n : Int) := by omega
      have HO := Lib.hid hO
      have HL := Lib.hid hL
      have HU := Lib.hid hU
      have HBL := Lib.hid hB
      clear hO hL hU hB hi hlt2 HK
      go_wp2_with fail
      go_loopw [7] (fun v7 wr => ∃ (i : Nat) (L : List (Array Value)), i ≤ 3 ∧ v7 = .int .i64 i ∧ OwnAt wr w.heap.size 5 1 (.slice (some ⟨g, 0, none⟩) (n + 3) (n + 3)) L ∧ L.length = n + 3 ∧ Upto L (room D #[.int .u8 165]) (n + i) ∧ Below w.heap.size w wr) (fun v7 _ => 3 - (intOf v7).toNat)
      case atStart => exact ⟨0, L, Nat.zero_le _, rfl, HO.out, HL.out, HU.out, HBL.out⟩
      case round =>
        clear HO HL HU HBL hlt'
        obtain ⟨i, L, hi, rfl, hO, hL, hU, hB⟩ := hrel
        by_cases hlt2 : i < 3
        · have hlt' : (i : Int) < 3 := by omega
          obtain ⟨C, hC, hCs, -, -⟩ := hO.block
          have hlt3 : n + i < n + 3 := by omega
          have hfit : n + i < C.size := by
            have := fit hlt3 (by rw [← hL]; exact hCs)
            omega
          have HO := Lib.hid hO
          have HL := Lib.hid hL
          have HU := Lib.hid hU
          have HBL := Lib.hid hB
          have HDI : Hid ((room D #[.int .u8 165])[n + i]? = some (#[.int .u8 165] : Array Value)) := Lib.hid (room_high (by rw [HDN.out]; omega) (by rw [HDN.out]; exact hlt3))
          clear hO hL hU hB hi
          go_wp2_with (first
            | ((with_reducible refine wl_store1 (t := 5) (b := g) (off := n + i) (v := .int .u8 165) (C := C) ?_ ?_ (vc_int _ _) (vo_int _ _) hC hfit size5 ?_); (first | exact rfl | (simp; done)); (exact rfl); intro w8 h8 hW8))
          have h9 : w8.heap[g]? = some (.cells (splice C ((n + i) * 1) #[.int .u8 165]) 5) := by rw [Nat.mul_one, splice_one hfit]; exact h8
          go_roundw
          case rel => exact ⟨i + 1, L.set (n + i) #[.int .u8 165], by omega, by go_num, HO.out.setRow (by rw [HL.out]; exact hlt3) pos1 (size1 _) hC h9, by rw [List.length_set]; exact HL.out, HU.out.set (by rw [HL.out]; exact hlt3) HDI.out, hW8.below HBL.out HG.out⟩
          case measure => simp [intOf]; omega
        · obtain rfl : i = 3 := by omega
          have hlt' : ¬ ((3 : Nat) : Int) < 3 := by omega
          have hLD : L = room D #[.int .u8 165] := Upto.all (by rw [room_length, HDN.out]; exact hU) (by rw [room_length, HDN.out]; exact hL)
          rw [hLD] at hO
          have HO := Lib.hid hO
          have HBL := Lib.hid hB
          clear hO hL hU hB hi hlt2 hLD
          go_wp2_with fail
          go_ret
          exact ⟨g, rfl, HO.out, HBL.out⟩

theorem twinBytes_any {A : List Nat} {a : Option Addr} {c : Nat} (w : World) (hr : BytesAt w a A) (hlt : A.length < 4000) :
    Calls Try.prog 29 #[.slice a A.length c] w fun e w' => ∃ g, e = .returned (.slice (some ⟨g, 0, none⟩) A.length (A.length + 3)) ∧
      OwnAt w' w.heap.size 5 1 (.slice (some ⟨g, 0, none⟩) (A.length + 3) (A.length + 3)) (room (bcells A) #[.int .u8 165]) ∧ Below w.heap.size w w' := by
  have H := Lib.hid (twin42_any (c := c) w hr hlt)
  clear hr hlt
  generalize A.length = n at H ⊢
  go_enter Try.func29, Try.ntmps29
  go_wp2_with (go_at_call 42; refine H.out.mono ?_; rintro e w2 ⟨g, rfl, h1, h2⟩)
  go_ret
  exact ⟨g, rfl, h1, h2⟩

/-- The marks of rooms. -/
def markK : List Int := 165 :: 90 :: List.replicate 30 0
def markS : List Int := 165 :: 90 :: List.replicate 62 0
theorem markK_len : markK.length = 32 := by decide
theorem markS_len : markS.length = 64 := by decide
theorem zero49 : ∃ z, (Try.prog.info? 49).bind (·.zero) = some z ∧ z.cells.size = 64 := ⟨_, rfl, by kernel_rfl⟩

set_option maxRecDepth 20000 in
theorem markKey_any (w : World) : Calls Try.prog 41 #[] w fun e w' => e = .returned (kv markK) ∧ Below w.heap.size w w' := by
  go_enter Try.func41, Try.ntmps41
  go_wp2_with (first
    | ((with_reducible refine wl_allocN zero41 ?_); intro g w1 Z hZ1 hZ2 hle hB)
    | ((with_reducible refine wl_storeN (t := 41) (n := 32) (b := g) (A := icells .u8 markK) (Z := Z) ?_ ?_ hZ1 hZ2 (by rw [size_icells]; exact markK_len) (icells_one _ _) s41 ?_); (exact rfl); (exact rfl); intro w2 h2 hW2))
  refine bodyPost_ret (results_cell_row rfl _ w2 g 41 _ (0, 0) _ rfl h2 u41 rfl (by rw [size_icells, markK_len]; exact s41)) rfl ?_
  exact ⟨rfl, hW2.below hB hle⟩
set_option maxRecDepth 20000 in
theorem markSig_any (w : World) : Calls Try.prog 18 #[] w fun e w' => e = .returned (kv markS) ∧ Below w.heap.size w w' := by
  go_enter Try.func18, Try.ntmps18
  go_wp2_with (first
    | ((with_reducible refine wl_allocN zero49 ?_); intro g w1 Z hZ1 hZ2 hle hB)
    | ((with_reducible refine wl_storeN (t := 49) (n := 64) (b := g) (A := icells .u8 markS) (Z := Z) ?_ ?_ hZ1 hZ2 (by rw [size_icells]; exact markS_len) (icells_one _ _) s49 ?_); (exact rfl); (exact rfl); intro w2 h2 hW2))
  refine bodyPost_ret (results_cell_row rfl _ w2 g 49 _ (0, 0) _ rfl h2 u49 rfl (by rw [size_icells, markS_len]; exact s49)) rfl ?_
  exact ⟨rfl, hW2.below hB hle⟩

theorem twinKeys_any {K : List (List Int)} {a : Option Addr} {c : Nat} (w : World) (hK : ∀ k ∈ K, k.length = 32) (hr : RowsAt w a 32 (K.map (icells .u8))) (hlt : K.length < 4000) :
    Calls Try.prog 28 #[.slice a K.length c] w fun e w' => ∃ g, e = .returned (.slice (some ⟨g, 0, none⟩) K.length (K.length + 3)) ∧
      OwnAt w' w.heap.size 41 32 (.slice (some ⟨g, 0, none⟩) (K.length + 3) (K.length + 3)) (room (K.map (icells .u8)) (icells .u8 markK)) ∧ Below w.heap.size w w' := by
  have H := Lib.hid (fun w1 (hB : Below w.heap.size w w1) => twin40_any (c := c) w1 hK markK_len (hr.keep hB) hlt)
  have M := Lib.hid (markKey_any w)
  clear hr hlt hK
  generalize K.length = n at H ⊢
  generalize markK = m at H M ⊢
  go_enter Try.func28, Try.ntmps28
  go_wp2_with (first
    | (go_at_call 41; refine M.out.mono ?_; rintro e w1 ⟨rfl, hB⟩)
    | (go_at_call 40; refine (H.out _ hB).mono ?_; rintro e w2 ⟨g, rfl, h1, h2⟩))
  go_ret
  exact ⟨g, rfl, h1.base hB.size, hB.trans (h2.mono hB.size)⟩
end Go.Proofs.Ytgjijoielfpmkaa
