/- The document's Check. -/
import Derived.Test.YtgjijoielfpmkaaT1
set_option linter.unusedVariables false
namespace Go.Proofs.Ytgjijoielfpmkaa
open Go.RowKit

theorem sgn_false {X : Tx} (h : X.hs = 0 ∨ X.sl ≠ X.hs) : chk X = 6 := by
  have e : sgn X = false := by
    unfold sgn
    simp only [Bool.and_eq_false_iff, decide_eq_false_iff_not]
    omega
  unfold chk
  simp [e]
theorem hdr_false {X : Tx} (h1 : sgn X = true) (h : X.hs ≤ X.hr ∨ X.K.length < X.hs + X.ho) : chk X = 7 := by
  have e : hdr X = false := by
    unfold hdr
    simp only [Bool.and_eq_false_iff, decide_eq_false_iff_not]
    omega
  unfold chk
  simp [h1, e]
theorem lookd_false {X : Tx} (h1 : sgn X = true) (h2 : hdr X = true) {l : Lk} (hl : l ∈ X.L) (h : l.wl = 0 ∧ l.rl = 0) : chk X = 10 := by
  have e : lookd X = false := by
    unfold lookd
    rw [List.any_eq_true.2 ⟨l, hl, by unfold Lk.void; simp [h.1, h.2]⟩]
    rfl
  unfold chk
  simp [h1, h2, e]
theorem few_false {X : Tx} (h1 : sgn X = true) (h2 : hdr X = true) (h3 : lookd X = true) (h : 64 < tot X) : chk X = 3 := by
  have e : few X = false := by
    unfold few
    simp; omega
  unfold chk
  simp [h1, h2, h3, e]
theorem pointd_false {X : Tx} (h1 : sgn X = true) (h2 : hdr X = true) (h3 : lookd X = true) (h4 : few X = true) {i : Ins} (hi : i ∈ X.I) (h : i.bad X.K.length (tot X) = true) : chk X = 8 := by
  have e : pointd X = false := by
    unfold pointd
    rw [List.any_eq_true.2 ⟨i, hi, h⟩]
    rfl
  unfold chk
  simp [h1, h2, h3, h4, e]
theorem onc_false {X : Tx} (h1 : sgn X = true) (h2 : hdr X = true) (h3 : lookd X = true) (h4 : few X = true) (h5 : pointd X = true) (h : ¬ X.K.Nodup) : chk X = 9 := by
  have e : onc X = false := by
    unfold onc
    simp [h]
  unfold chk
  simp [h1, h2, h3, h4, h5, e]
theorem bad_true {keys all : Nat} {i : Ins} (h : i.p = 0 ∨ keys ≤ i.p ∨ ∃ a ∈ i.A, all ≤ a) : i.bad keys all = true := by
  unfold Ins.bad
  simp only [Bool.or_eq_true, decide_eq_true_eq]
  rcases h with h | h | ⟨a, ha, h⟩
  · exact .inl (.inl h)
  · exact .inl (.inr h)
  · exact .inr (List.any_eq_true.2 ⟨a, ha, by unfold beyond; simpa using h⟩)
theorem nodup_take {K : List (List Int)} {i : Nat} {q : List Int} (hq : K[i]? = some q) (h : (K.take i).Nodup) (hn : q ∉ K.take i) : (K.take (i + 1)).Nodup := by
  obtain ⟨hi, e⟩ := List.getElem?_eq_some_iff.1 hq
  rw [List.take_succ_eq_append_getElem hi, e]
  refine List.nodup_append.2 ⟨h, by simp, fun a ha b hb => ?_⟩
  rw [List.mem_singleton.1 hb]
  rintro rfl
  exact hn ha
theorem not_nodup {K : List (List Int)} {i j : Nat} {q : List Int} (hi : K[i]? = some q) (hj : K[j]? = some q) (hlt : j < i) : ¬ K.Nodup := fun h => by
  obtain ⟨h1, e1⟩ := List.getElem?_eq_some_iff.1 hi
  obtain ⟨h2, e2⟩ := List.getElem?_eq_some_iff.1 hj
  have := (List.nodup_iff_pairwise_ne.1 h)
  have := List.pairwise_iff_getElem.1 this j i h2 h1 hlt
  rw [e1, e2] at this
  exact this rfl

set_option maxRecDepth 20000 in
set_option maxHeartbeats 3200000 in
theorem rcheck_any {X : Tx} (w : World) (hT : TxAt w X) (hbig : tot X < 9223372036854775808) : Calls Try.prog 13 #[X.val] w fun e w' => e = .returned (.int .i64 (chk X : Int)) ∧ Below w.heap.size w w' := by
  have HR := Lib.hid hT.R
  have HT := Lib.hid hT
  have HBIG := Lib.hid hbig
  obtain ⟨kn, hkn⟩ : ∃ kn, X.K.length = kn := ⟨_, rfl⟩
  obtain ⟨ll, hll⟩ : ∃ ll, X.L.length = ll := ⟨_, rfl⟩
  obtain ⟨il, hil⟩ : ∃ il, X.I.length = il := ⟨_, rfl⟩
  obtain ⟨sl, hsl⟩ : ∃ sl, X.sl = sl := ⟨_, rfl⟩
  obtain ⟨la, hla⟩ : ∃ la, X.la = la := ⟨_, rfl⟩
  obtain ⟨ia, hia⟩ : ∃ ia, X.ia = ia := ⟨_, rfl⟩
  obtain ⟨ka, hka⟩ : ∃ ka, X.ka = ka := ⟨_, rfl⟩
  obtain ⟨hs, hhs⟩ : ∃ hs, X.hs = hs := ⟨_, rfl⟩
  obtain ⟨hr, hhr⟩ : ∃ hr, X.hr = hr := ⟨_, rfl⟩
  obtain ⟨ho, hho⟩ : ∃ ho, X.ho = ho := ⟨_, rfl⟩
  obtain ⟨all, hall⟩ : ∃ all, tot X = all := ⟨_, rfl⟩
  have bk := hT.kl
  have bl := hT.ll
  have bi := hT.il
  have bs := hT.sl
  have b1 := hT.hs
  have b2 := hT.hr
  have b3 := hT.ho
  unfold lenMax at bk bl bi bs
  rw [hkn] at bk
  rw [hll] at bl
  rw [hil] at bi
  rw [hsl] at bs
  rw [hhs] at b1
  rw [hhr] at b2
  rw [hho] at b3
  have MH : Hid (∀ (u : World) (g : Nat), u.heap[g]? = some (.cells X.hcells 24) → u.cell? ⟨g, 0, none⟩ = some (.int .u8 (hs : Int)) ∧ u.cell? ⟨g, 1, none⟩ = some (.int .u8 (hr : Int)) ∧ u.cell? ⟨g, 2, none⟩ = some (.int .u8 (ho : Int))) := Lib.hid fun u g hu => by
    rw [← hhs, ← hhr, ← hho]
    exact hCells hu
  have HKN := Lib.hid hkn
  have HLL := Lib.hid hll
  have HIL := Lib.hid hil
  have HSL := Lib.hid hsl
  have HLA := Lib.hid hla
  have HIA := Lib.hid hia
  have HKA := Lib.hid hka
  have HHS := Lib.hid hhs
  have HHR := Lib.hid hhr
  have HHO := Lib.hid hho
  have HALL := Lib.hid hall
  clear hT hbig hkn hll hil hsl hla hia hka hhs hhr hho hall
  go_enter Try.func13, Try.ntmps13
  go_wp2_with (first
    | ((with_reducible refine wl_box33 (X := X) ?_ ?_); (exact rfl); intro b w1 hb hle hB; have G := Lib.hid (Got.mk hb (HT.out.keep hB)); have R2 := Lib.hid (txHRow hb); replace hB := Lib.hid hB; clear hle hb)
    | ((with_reducible refine wl_load24 (b := b) (off := 2) (X := X) ?_ R2.out ?_); (exact rfl))
    | ((with_reducible refine wl_allocN zero24 ?_); intro g w4 Z hZ1 hZ2 hle4 hB4)
    | ((with_reducible refine wl_storeN (n := 3) (A := X.hcells) (Z := Z) ?_ ?_ hZ1 hZ2 X.hsize X.hone s24 ?_); (exact rfl); (exact rfl); intro w5 h5 hW5; replace G := Lib.hid (G.out.keep (hW5.below hB4 hle4)); replace hB := Lib.hid (hW5.below (hB.out.trans (hB4.mono hB.out.size)) (Nat.le_trans hB.out.size hle4)); replace h5 := Lib.hid h5; have R1 := Lib.hid G.out.row; have d5 := (txCells HR.out G.out.h).c5; rw [HKA.out, HKN.out] at d5; clear hZ1 hZ2 hle4 hB4 hW5 R2)
    | ((with_reducible refine wl_load33 (b := b) (off := 0) (X := X) ?_ R1.out HR.out ?_); (exact rfl)))
  go_at_call 11
  refine (rtotal_any _ G.out.T HBIG.out).mono ?_
  rw [HALL.out]
  rintro e u ⟨rfl, hBu⟩
  replace G := Lib.hid (G.out.keep hBu)
  replace h5 := Lib.hid ((hBu.block g (Array.getElem?_eq_some_iff.1 h5.out).1).trans h5.out)
  replace hB := Lib.hid (hB.out.trans (hBu.mono hB.out.size))
  have MK : Hid (∀ W, Below u.heap.size u W → W.cell? ⟨b, 0, none⟩ = some (.slice X.sa sl X.sc) ∧ W.cell? ⟨b, 5, none⟩ = some (.slice ka kn X.kc) ∧ W.cell? ⟨b, 38, none⟩ = some (.slice ia il X.ic) ∧ W.cell? ⟨b, 39, none⟩ = some (.slice la ll X.lc)) := Lib.hid fun W hW => by
    have h := txCells HR.out (G.out.keep hW).h
    rw [← HKN.out, ← HLL.out, ← HIL.out, ← HSL.out, ← HLA.out, ← HIA.out, ← HKA.out]
    exact ⟨h.c0, h.c5, h.c38, h.c39⟩
  have HB0 : Hid (∀ W, Below u.heap.size u W → Below w.heap.size w W) := Lib.hid fun W hW => hB.out.trans (hW.mono hB.out.size)
  obtain ⟨k0, k1, k2⟩ := MH.out _ _ h5.out
  obtain ⟨d0, _, _, _⟩ := MK.out u (Below.refl _ _)
  clear hBu d5 R1 hB
  by_cases c1 : hs = 0 ∨ sl ≠ hs
  · have hx : Hid (chk X = 6) := Lib.hid (sgn_false (by rw [HHS.out, HSL.out]; exact c1))
    have c1' : hs = 0 ∨ (hs ≠ 0 ∧ ¬ sl = hs) := by omega
    clear c1
    rcases c1' with rfl | ⟨e0, e1⟩
    · go_wp2_with fail
      go_ret
      refine ⟨?_, HB0.out _ (Below.refl _ _)⟩
      rw [hx.out]; rfl
    · have e0' : ¬ (hs : Int) = 0 := by omega
      have e1' : ¬ (sl : Int) = (hs : Int) := by omega
      have f0 : ((hs : Int) == 0) = false := by simp; omega
      have f1 : ((sl : Int) != (hs : Int)) = true := by simp; omega
      go_wp2_with fail
      go_ret
      refine ⟨?_, HB0.out _ (Below.refl _ _)⟩
      rw [hx.out]; rfl
  obtain ⟨hs0, rfl⟩ : hs ≠ 0 ∧ sl = hs := by omega
  have hs0' : ¬ (sl : Int) = 0 := by omega
  have f0 : ((sl : Int) == 0) = false := by simp; omega
  have S1 : Hid (sgn X = true) := Lib.hid (by
    unfold sgn
    rw [HHS.out, HSL.out]
    simp; omega)
  by_cases c2 : sl ≤ hr ∨ kn < sl + ho
  · have hx : Hid (chk X = 7) := Lib.hid (hdr_false S1.out (by rw [HHS.out, HHR.out, HHO.out, HKN.out]; exact c2))
    have c2' : sl ≤ hr ∨ (¬ sl ≤ hr ∧ kn < sl + ho) := by omega
    clear c2
    rcases c2' with e0 | ⟨e0, e1⟩
    · have e0' : (sl : Int) ≤ (hr : Int) := by omega
      go_wp2_with fail
      go_ret
      refine ⟨?_, HB0.out _ (Below.refl _ _)⟩
      rw [hx.out]; rfl
    · have e0' : ¬ (sl : Int) ≤ (hr : Int) := by omega
      have e1' : (kn : Int) < (sl : Int) + (ho : Int) := by omega
      go_wp2_with fail
      go_ret
      refine ⟨?_, HB0.out _ (Below.refl _ _)⟩
      rw [hx.out]; rfl
  have e2 : ¬ sl ≤ hr := by omega
  have c2' : ¬ (sl : Int) ≤ (hr : Int) := by omega
  have c3' : ¬ (kn : Int) < (sl : Int) + (ho : Int) := by omega
  have S2 : Hid (hdr X = true) := Lib.hid (by
    unfold hdr
    rw [HHS.out, HHR.out, HHO.out, HKN.out]
    simp; omega)
  go_wp2_with fail
  clear k0 k1 k2 d0 h5 e2 c2' c3' f0 hs0' MH
  go_loopw [6] (fun v6 wr => ∃ i : Nat, i ≤ ll ∧ v6 = .int .i64 i ∧ (X.L.take i).any Lk.void = false ∧ Below u.heap.size u wr) (fun v6 _ => ll - (intOf v6).toNat)
  case atStart => exact ⟨0, Nat.zero_le _, rfl, by simp, Below.refl _ _⟩
  case round =>
    obtain ⟨i, hi, rfl, hno, hBr⟩ := hrel
    obtain ⟨_, _, _, d39⟩ := MK.out _ hBr
    by_cases hlt : i < ll
    · have hlt' : (i : Int) < (ll : Int) := by omega
      obtain ⟨l, hl⟩ : ∃ l, X.L[i]? = some l := ⟨X.L[i]'(by rw [HLL.out]; exact hlt), List.getElem?_eq_getElem _⟩
      obtain ⟨b2, off, e, hrow⟩ := (G.out.keep hBr).T.lkAt hl
      rw [HLA.out] at e
      subst e
      obtain ⟨hT32, hwl, hrl⟩ := HT.out.lksOk l (List.mem_of_getElem? hl)
      unfold lenMax at hwl hrl
      obtain ⟨q1, q2⟩ := lkCells hT32 hrow
      have HHIT : Hid (l.wl = 0 ∧ l.rl = 0 → chk X = 10) := Lib.hid fun h => lookd_false S1.out S2.out (List.mem_of_getElem? hl) h
      have HNX : Hid (¬ (l.wl = 0 ∧ l.rl = 0) → (X.L.take (i + 1)).any Lk.void = false) := Lib.hid fun h => by
        obtain ⟨hi', e⟩ := List.getElem?_eq_some_iff.1 hl
        rw [List.take_succ_eq_append_getElem hi', List.any_append, hno, e]
        have : l.void = false := by
          unfold Lk.void
          simp; omega
        simp [this]
      generalize l.wl = al at hwl q1 HHIT HNX
      generalize l.rl = dl at hrl q2 HHIT HNX
      have HBR := Lib.hid hBr
      clear hl hrow hT32 hno hBr
      by_cases ha : al = 0
      · subst ha
        by_cases hd : dl = 0
        · subst hd
          have hx := Lib.hid (HHIT.out ⟨rfl, rfl⟩)
          go_wp2_with fail
          go_ret
          refine ⟨?_, HB0.out _ HBR.out⟩
          rw [hx.out]; rfl
        · have hd' : ¬ (dl : Int) = 0 := by omega
          have hd2 : ((dl : Int) == 0) = false := by simp; omega
          have hn := Lib.hid (HNX.out (fun h => hd h.2))
          go_wp2_with fail
          go_roundw
          case rel => exact ⟨i + 1, by omega, by go_num, hn.out, HBR.out⟩
          case measure => simp [intOf]; omega
      · have ha' : ¬ (al : Int) = 0 := by omega
        have ha2 : ((al : Int) == 0) = false := by simp; omega
        have hn := Lib.hid (HNX.out (fun h => ha h.1))
        go_wp2_with fail
        go_roundw
        case rel => exact ⟨i + 1, by omega, by go_num, hn.out, HBR.out⟩
        case measure => simp [intOf]; omega
    · obtain rfl : ll = i := by omega
      have hlt' : ¬ (ll : Int) < (ll : Int) := by omega
      have e : X.L.take ll = X.L := by rw [← HLL.out, List.take_length]
      rw [e] at hno
      have S3 : Hid (lookd X = true) := Lib.hid (by unfold lookd; rw [hno]; rfl)
      have HBR := Lib.hid hBr
      clear e hno hBr hlt hi
      by_cases h64 : 64 < all
      · have h64' : (64 : Int) < (all : Int) := by omega
        have hx : Hid (chk X = 3) := Lib.hid (few_false S1.out S2.out S3.out (by rw [HALL.out]; exact h64))
        go_wp2_with fail
        go_ret
        refine ⟨?_, HB0.out _ HBR.out⟩
        rw [hx.out]; rfl
      have h64' : ¬ (64 : Int) < (all : Int) := by omega
      have S4 : Hid (few X = true) := Lib.hid (by unfold few; rw [HALL.out]; simp; omega)
      go_wp2_with fail
      clear d39 hlt'
      go_loopw [7, 8, 9] (fun v7 v8 v9 wr => ∃ i : Nat, i ≤ il ∧ v7 = .int .i64 i ∧ (X.I.take i).any (Ins.bad kn all) = false ∧ Below u.heap.size u wr) (fun v7 _ _ _ => il - (intOf v7).toNat)
      case atStart => exact ⟨0, Nat.zero_le _, rfl, by simp, HBR.out⟩
      case round =>
        clear HBR
        obtain ⟨i, hi, rfl, hno, hBr⟩ := hrel
        obtain ⟨_, _, d38, _⟩ := MK.out _ hBr
        by_cases hlt : i < il
        · have hlt' : (i : Int) < (il : Int) := by omega
          obtain ⟨l, hl⟩ : ∃ l, X.I[i]? = some l := ⟨X.I[i]'(by rw [HIL.out]; exact hlt), List.getElem?_eq_getElem _⟩
          have Gq := G.out.keep hBr
          obtain ⟨b2, off, e, hrow⟩ := Gq.T.insAt hl
          rw [HIA.out] at e
          subst e
          obtain ⟨hp, hal, hdl, hby⟩ := Gq.T.insOk l (List.mem_of_getElem? hl)
          have hr2 := Lib.hid hrow
          unfold lenMax at hal
          have HHIT : Hid ((l.p = 0 ∨ kn ≤ l.p ∨ ∃ a ∈ l.A, all ≤ a) → chk X = 8) := Lib.hid fun h => pointd_false S1.out S2.out S3.out S4.out (List.mem_of_getElem? hl) (by rw [HALL.out, HKN.out]; exact bad_true h)
          have HNX : Hid (l.p ≠ 0 → l.p < kn → (∀ a ∈ l.A, a < all) → (X.I.take (i + 1)).any (Ins.bad kn all) = false) := Lib.hid fun h1 h2 h3 => by
            obtain ⟨hi', e⟩ := List.getElem?_eq_some_iff.1 hl
            rw [List.take_succ_eq_append_getElem hi', List.any_append, hno, e]
            simp [bad_false h1 h2 h3]
          obtain ⟨p, hpp⟩ : ∃ p, l.p = p := ⟨_, rfl⟩
          obtain ⟨al, hll⟩ : ∃ al, l.A.length = al := ⟨_, rfl⟩
          obtain ⟨aa, haa⟩ : ∃ aa, l.aa = aa := ⟨_, rfl⟩
          obtain ⟨A, hA⟩ : ∃ A, l.A = A := ⟨_, rfl⟩
          have QK : Hid (∀ (u : World) (g : Nat), u.heap[g]? = some (.cells l.cells 47) → u.cell? ⟨g, 0, none⟩ = some (.int .u8 (p : Int)) ∧ u.cell? ⟨g, 1, none⟩ = some (.slice aa al l.ac)) := Lib.hid fun u g hu => by
            obtain ⟨q0, q1, _⟩ := insCells (RowAt.of_cells hu)
            simp only [Nat.zero_add] at q1
            rw [← hpp, ← hll, ← haa]
            exact ⟨q0, q1⟩
          rw [hll] at hal
          rw [hA] at hby hll HHIT HNX
          rw [haa] at hby
          rw [hpp] at hp HHIT HNX
          have HBY := Lib.hid hby
          have HAL := Lib.hid hll
          replace hBr := Lib.hid hBr
          clear hl hrow Gq hpp haa hA hby hll hdl hno hi hlt
          by_cases hp0 : p = 0
          · subst hp0
            have hx := Lib.hid (HHIT.out (.inl rfl))
            go_wp2_with (first
              | ((with_reducible refine wl_load47 (i := l) ?_ hr2.out ?_); (exact rfl))
              | ((with_reducible refine wl_allocN zero47 ?_); intro g3 w3 Z hZ1 hZ2 hle3 hB3)
              | ((with_reducible refine wl_storeN (n := 3) (A := l.cells) (Z := Z) ?_ ?_ hZ1 hZ2 (Ins.size _) l.one s47 ?_); (exact rfl); (exact rfl); intro w4 h4 hW4; obtain ⟨q0, q1⟩ := QK.out _ _ h4; have hB4 := Lib.hid (hW4.below hB3 hle3); clear h4 hZ1 hW4 hB3 hle3 QK))
            go_ret
            refine ⟨?_, HB0.out _ (hBr.out.trans (hB4.out.mono hBr.out.size))⟩
            rw [hx.out]; rfl
          have hp1 : ¬ (p : Int) = 0 := by omega
          have hp2 : ((p : Int) == 0) = false := by simp; omega
          by_cases hpk : kn ≤ p
          · have hpk' : (kn : Int) ≤ (p : Int) := by omega
            have hx := Lib.hid (HHIT.out (.inr (.inl hpk)))
            go_wp2_with (first
              | ((with_reducible refine wl_load47 (i := l) ?_ hr2.out ?_); (exact rfl))
              | ((with_reducible refine wl_allocN zero47 ?_); intro g3 w3 Z hZ1 hZ2 hle3 hB3)
              | ((with_reducible refine wl_storeN (n := 3) (A := l.cells) (Z := Z) ?_ ?_ hZ1 hZ2 (Ins.size _) l.one s47 ?_); (exact rfl); (exact rfl); intro w4 h4 hW4; obtain ⟨q0, q1⟩ := QK.out _ _ h4; have hB4 := Lib.hid (hW4.below hB3 hle3); clear h4 hZ1 hW4 hB3 hle3 QK))
            go_ret
            refine ⟨?_, HB0.out _ (hBr.out.trans (hB4.out.mono hBr.out.size))⟩
            rw [hx.out]; rfl
          have hpk' : ¬ (kn : Int) ≤ (p : Int) := by omega
          replace HNX := Lib.hid (HNX.out hp0 (by omega))
          go_wp2_with (first
            | ((with_reducible refine wl_load47 (i := l) ?_ hr2.out ?_); (exact rfl))
            | ((with_reducible refine wl_allocN zero47 ?_); intro g3 w3 Z hZ1 hZ2 hle3 hB3)
            | ((with_reducible refine wl_storeN (n := 3) (A := l.cells) (Z := Z) ?_ ?_ hZ1 hZ2 (Ins.size _) l.one s47 ?_); (exact rfl); (exact rfl); intro w4 h4 hW4; obtain ⟨q0, q1⟩ := QK.out _ _ h4; have hB4 := Lib.hid (hW4.below hB3 hle3); clear h4 hZ1 hW4 hB3 hle3 QK))
          clear hp0 hp1 hp2 hpk hpk' q0
          go_loopw [9] (fun v9 wz => ∃ m : Nat, m ≤ al ∧ v9 = .int .i64 m ∧ (∀ a ∈ A.take m, a < all) ∧ wz = w4) (fun v9 _ => al - (intOf v9).toNat)
          case atStart => exact ⟨0, Nat.zero_le _, rfl, by simp, rfl⟩
          case round =>
            obtain ⟨m, hm, rfl, hno, rfl⟩ := hrel
            by_cases hlm : m < al
            · have hlm' : (m : Int) < (al : Int) := by omega
              obtain ⟨z1, zb, zo, rfl, z2, z3⟩ := HBY.out m (by rw [HAL.out]; exact hlm)
              have hmA : m < A.length := by rw [HAL.out]; exact hlm
              have hgv : A.getD m 0 = A[m] := by simp [List.getD_eq_getElem?_getD, hmA]
              have HH2 : Hid (all ≤ A.getD m 0 → chk X = 8) := Lib.hid fun h => HHIT.out (.inr (.inr ⟨A.getD m 0, by rw [hgv]; exact List.getElem_mem _, h⟩))
              have HN2 : Hid (A.getD m 0 < all → ∀ a ∈ A.take (m + 1), a < all) := Lib.hid fun h a ha => by
                rw [List.take_succ_eq_append_getElem hmA, List.mem_append, List.mem_singleton] at ha
                rcases ha with ha | rfl
                · exact hno a ha
                · rw [← hgv]; exact h
              replace z3 := Below.keepCell hB4.out (Nat.le_refl _) z3
              clear hgv hmA hno
              generalize A.getD m 0 = v at z1 z3 HH2 HN2
              by_cases hv : all ≤ v
              · have hv' : (all : Int) ≤ (v : Int) := by omega
                have hx := Lib.hid (HH2.out hv)
                go_wp2_with fail
                go_ret
                refine ⟨?_, HB0.out _ (hBr.out.trans (hB4.out.mono hBr.out.size))⟩
                rw [hx.out]; rfl
              · have hv' : ¬ (all : Int) ≤ (v : Int) := by omega
                have hn := Lib.hid (HN2.out (by omega))
                go_wp2_with fail
                go_roundw
                case rel => exact ⟨m + 1, by omega, by go_num, hn.out, trivial⟩
                case measure => simp [intOf]; omega
            · obtain rfl : al = m := by omega
              have hlm' : ¬ (al : Int) < (al : Int) := by omega
              have e : A.take al = A := by rw [← HAL.out, List.take_length]
              rw [e] at hno
              have hn := Lib.hid (HNX.out hno)
              clear e hno
              go_wp2_with fail
              go_roundw
              case rel => exact ⟨i + 1, by omega, by go_num, hn.out, hBr.out.trans (hB4.out.mono hBr.out.size)⟩
              case measure => simp [intOf]; omega
        · obtain rfl : il = i := by omega
          have hlt' : ¬ (il : Int) < (il : Int) := by omega
          have e : X.I.take il = X.I := by rw [← HIL.out, List.take_length]
          rw [e] at hno
          have S5 : Hid (pointd X = true) := Lib.hid (by unfold pointd; rw [HALL.out, HKN.out, hno]; rfl)
          have HBR := Lib.hid hBr
          clear e hno hBr hlt hi
          go_wp2_with fail
          clear d38 hlt'
          go_loopw [10, 11] (fun v10 v11 wr => ∃ i : Nat, i ≤ kn ∧ v10 = .int .i64 i ∧ (X.K.take i).Nodup ∧ Below u.heap.size u wr) (fun v10 _ _ => kn - (intOf v10).toNat)
          case atStart => exact ⟨0, Nat.zero_le _, rfl, by simp, HBR.out⟩
          case round =>
            clear HBR
            obtain ⟨i, hi, rfl, hno, hBr⟩ := hrel
            by_cases hlt : i < kn
            · have hlt' : (i : Int) < (kn : Int) := by omega
              obtain ⟨q, hq⟩ : ∃ q, X.K[i]? = some q := ⟨X.K[i]'(by rw [HKN.out]; exact hlt), List.getElem?_eq_getElem _⟩
              obtain ⟨kb, off, e, hrow⟩ := G.out.T.keyAt hq
              rw [HKA.out] at e
              subst e
              have hqk := HT.out.key q (List.mem_of_getElem? hq)
              have hrow2 : Hid (∀ W, Below u.heap.size u W → RowAt W kb (off + i * 32) (icells .u8 q)) := Lib.hid fun W hW => Below.row hW hrow hrow.lt
              have Q32 := Lib.hid hqk.1
              have QSZ : Hid ((icells .u8 q).size = 32) := Lib.hid (by rw [size_icells]; exact hqk.1)
              have HQ := Lib.hid hq
              have HNX : Hid (q ∉ X.K.take i → (X.K.take (i + 1)).Nodup) := Lib.hid fun h => nodup_take hq hno h
              have HBR := Lib.hid hBr
              clear hq hrow hqk hno hBr hi
              go_wp2_with fail
              go_loopw [11] (fun v11 wq => ∃ m : Nat, m ≤ i ∧ v11 = .int .i64 m ∧ q ∉ X.K.take m ∧ Below u.heap.size u wq) (fun v11 _ => i - (intOf v11).toNat)
              case atStart => exact ⟨0, Nat.zero_le _, rfl, by simp, HBR.out⟩
              case round =>
                obtain ⟨m, hm, rfl, hno, hBq⟩ := hrel
                by_cases hlm : m < i
                · have hlm' : (m : Int) < (i : Int) := by omega
                  have hmk : m < kn := by omega
                  obtain ⟨q2, hq2⟩ : ∃ q2, X.K[m]? = some q2 := ⟨X.K[m]'(by rw [HKN.out]; exact hmk), List.getElem?_eq_getElem _⟩
                  obtain ⟨kb', off', e, hrow⟩ := G.out.T.keyAt hq2
                  rw [HKA.out] at e
                  obtain ⟨rfl, rfl⟩ : kb' = kb ∧ off' = off := by
                    simp only [Option.some.injEq, Addr.mk.injEq, and_true] at e
                    exact ⟨e.1.symm, e.2.symm⟩
                  have hqk := HT.out.key q2 (List.mem_of_getElem? hq2)
                  have hrow3 : Hid (∀ W, Below u.heap.size u W → RowAt W kb' (off' + m * 32) (icells .u8 q2)) := Lib.hid fun W hW => Below.row hW hrow hrow.lt
                  have P32 := Lib.hid hqk.1
                  have PSZ : Hid ((icells .u8 q2).size = 32) := Lib.hid (by rw [size_icells]; exact hqk.1)
                  have HH2 : Hid ((q == q2) = true → chk X = 9) := Lib.hid fun h => by
                    have e2 : q = q2 := by simpa using h
                    exact onc_false S1.out S2.out S3.out S4.out S5.out (not_nodup HQ.out (by rw [e2]; exact hq2) hlm)
                  have HN2 : Hid ((q == q2) = false → q ∉ X.K.take (m + 1)) := Lib.hid fun h => by
                    obtain ⟨hi', e⟩ := List.getElem?_eq_some_iff.1 hq2
                    rw [List.take_succ_eq_append_getElem hi', List.mem_append, e]
                    rintro (h1 | h1)
                    · exact hno h1
                    · rw [List.mem_singleton.1 h1, beq_self_eq_true] at h; cases h
                  have hS : Below u.heap.size u wr.drew := hBq.drew
                  have hdr := Lib.hid hS
                  clear hq2 hrow hqk hno hBq e
                  go_wp2
                  refine wp_regionW (n := 13) (S := fun W => Below u.heap.size u W) (late := fun _ => false) rfl (by kernel_rfl) ?_
                  refine takeW (j := 0) (v := .pointer (some ⟨b, 1, none⟩)) rfl rfl rfl (by kernel_rfl) (by kernel_rfl) (by kernel_rfl) (by kernel_rfl) (fun _ _ _ h => h) (fun W hW => by go_simp) hS ?_
                  simp only [List.set_cons_zero, List.set_cons_succ]
                  refine takeW (j := 1) (v := .pointer (some ⟨b, 5, none⟩)) rfl rfl rfl (by kernel_rfl) (by kernel_rfl) (by kernel_rfl) (by kernel_rfl) (fun _ _ _ h => h) (fun W hW => by go_simp) hS ?_
                  simp only [List.set_cons_zero, List.set_cons_succ]
                  refine takeW (j := 2) (v := .slice (some ⟨kb', off', none⟩) kn X.kc) rfl rfl rfl (by kernel_rfl) (by kernel_rfl) (by kernel_rfl) (by kernel_rfl) (fun _ _ _ h => h) (fun W hW => exec_load_cell rfl rfl Try.underlying25 rfl (MK.out W hW).2.1) hS ?_
                  simp only [List.set_cons_zero, List.set_cons_succ]
                  refine takeW (j := 3) (v := .int .i64 (i : Int)) rfl rfl rfl (by kernel_rfl) (by kernel_rfl) (by kernel_rfl) (by kernel_rfl) (fun _ _ _ h => h) (fun W hW => exec_move rfl rfl) hS ?_
                  simp only [List.set_cons_zero, List.set_cons_succ]
                  refine takeW (j := 4) (v := .pointer (some ⟨kb', off' + i * 32, none⟩)) rfl rfl rfl (by kernel_rfl) (by kernel_rfl) (by kernel_rfl) (by kernel_rfl) (fun _ _ _ h => h) (fun W hW => exec_index_rows rfl rfl rfl und25 s41 hlt) hS ?_
                  simp only [List.set_cons_zero, List.set_cons_succ]
                  refine takeW (j := 5) (v := kv q) rfl rfl rfl (by kernel_rfl) (by kernel_rfl) (by kernel_rfl) (by kernel_rfl) (fun _ _ _ h => h) (fun W hW => exec_load_sub rfl rfl (hrow2.out W hW) und41 rfl (by rw [QSZ.out]; exact s41)) hS ?_
                  simp only [List.set_cons_zero, List.set_cons_succ]
                  refine takeW (j := 6) (v := .pointer (some ⟨b, 1, none⟩)) rfl rfl rfl (by kernel_rfl) (by kernel_rfl) (by kernel_rfl) (by kernel_rfl) (fun _ _ _ h => h) (fun W hW => by go_simp) hS ?_
                  simp only [List.set_cons_zero, List.set_cons_succ]
                  refine takeW (j := 7) (v := .pointer (some ⟨b, 5, none⟩)) rfl rfl rfl (by kernel_rfl) (by kernel_rfl) (by kernel_rfl) (by kernel_rfl) (fun _ _ _ h => h) (fun W hW => by go_simp) hS ?_
                  simp only [List.set_cons_zero, List.set_cons_succ]
                  refine takeW (j := 8) (v := .slice (some ⟨kb', off', none⟩) kn X.kc) rfl rfl rfl (by kernel_rfl) (by kernel_rfl) (by kernel_rfl) (by kernel_rfl) (fun _ _ _ h => h) (fun W hW => exec_load_cell rfl rfl Try.underlying25 rfl (MK.out W hW).2.1) hS ?_
                  simp only [List.set_cons_zero, List.set_cons_succ]
                  refine takeW (j := 9) (v := .int .i64 (m : Int)) rfl rfl rfl (by kernel_rfl) (by kernel_rfl) (by kernel_rfl) (by kernel_rfl) (fun _ _ _ h => h) (fun W hW => exec_move rfl rfl) hS ?_
                  simp only [List.set_cons_zero, List.set_cons_succ]
                  refine takeW (j := 10) (v := .pointer (some ⟨kb', off' + m * 32, none⟩)) rfl rfl rfl (by kernel_rfl) (by kernel_rfl) (by kernel_rfl) (by kernel_rfl) (fun _ _ _ h => h) (fun W hW => exec_index_rows rfl rfl rfl und25 s41 hmk) hS ?_
                  simp only [List.set_cons_zero, List.set_cons_succ]
                  refine takeW (j := 11) (v := kv q2) rfl rfl rfl (by kernel_rfl) (by kernel_rfl) (by kernel_rfl) (by kernel_rfl) (fun _ _ _ h => h) (fun W hW => exec_load_sub rfl rfl (hrow3.out W hW) und41 rfl (by rw [PSZ.out]; exact s41)) hS ?_
                  simp only [List.set_cons_zero, List.set_cons_succ]
                  refine takeW (j := 12) (v := .bool (q == q2)) rfl rfl rfl (by kernel_rfl) (by kernel_rfl) (by kernel_rfl) (by kernel_rfl) (fun _ _ _ h => h) (fun W hW => exec_eql_ints rfl rfl rfl eqGuard41 und41 u5 s5 Q32.out P32.out) hS ?_
                  simp only [List.set_cons_zero, List.set_cons_succ]
                  refine doneW (by kernel_rfl) ?_ _
                  cases hqk : q == q2 with
                  | true =>
                    have hx := Lib.hid (HH2.out hqk)
                    clear hS
                    go_wp2_with fail
                    go_ret
                    refine ⟨?_, HB0.out _ hdr.out⟩
                    rw [hx.out]; rfl
                  | false =>
                    have hn := Lib.hid (HN2.out hqk)
                    clear hS
                    go_wp2_with fail
                    go_roundw
                    case rel => exact ⟨m + 1, by omega, by go_num, hn.out, hdr.out⟩
                    case measure => simp [intOf]; omega
                · obtain rfl : i = m := by omega
                  have hlm' : ¬ (i : Int) < (i : Int) := by omega
                  have hn := Lib.hid (HNX.out hno)
                  have HBQ := Lib.hid hBq
                  clear hno hBq
                  go_wp2_with fail
                  go_roundw
                  case rel => exact ⟨i + 1, by omega, by go_num, hn.out, HBQ.out⟩
                  case measure => simp [intOf]; omega
            · obtain rfl : kn = i := by omega
              have hlt' : ¬ (kn : Int) < (kn : Int) := by omega
              have e : X.K.take kn = X.K := by rw [← HKN.out, List.take_length]
              rw [e] at hno
              have hx : Hid (chk X = 0) := Lib.hid (chk_zero.2 ⟨S1.out, S2.out, S3.out, S4.out, S5.out, by unfold onc; simp [hno]⟩)
              have HBR := Lib.hid hBr
              clear e hno hBr
              go_wp2_with fail
              go_ret
              refine ⟨?_, HB0.out _ HBR.out⟩
              rw [hx.out]; rfl
end Go.Proofs.Ytgjijoielfpmkaa
