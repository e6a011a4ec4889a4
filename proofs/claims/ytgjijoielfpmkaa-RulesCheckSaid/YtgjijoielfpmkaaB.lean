/- The smaller rules: Total, signed, headed, few. -/
import Derived.Test.YtgjijoielfpmkaaA
set_option linter.unusedVariables false
namespace Go.Proofs.Ytgjijoielfpmkaa
open Go.RowKit

def lsum (L : List Lk) : Nat := (L.map fun l => l.wl + l.rl).sum
def tot (X : Tx) : Nat := X.K.length + lsum X.L

theorem lsum_take {L : List Lk} {i : Nat} {l : Lk} (h : L[i]? = some l) : lsum (L.take (i + 1)) = lsum (L.take i) + (l.wl + l.rl) := by
  obtain ⟨hi, e⟩ := List.getElem?_eq_some_iff.1 h
  unfold lsum
  rw [List.take_succ_eq_append_getElem hi, List.map_append, List.sum_append, e]
  simp
theorem lsum_le {L : List Lk} : ∀ {i}, lsum (L.take i) ≤ lsum L := by
  intro i
  have : lsum L = lsum (L.take i) + lsum (L.drop i) := by
    unfold lsum
    rw [← List.sum_append, ← List.map_append, List.take_append_drop]
  omega
theorem lsum_at {L : List Lk} {i : Nat} {l : Lk} (h : L[i]? = some l) : lsum (L.take i) + (l.wl + l.rl) ≤ lsum L := by
  rw [← lsum_take h]; exact lsum_le

set_option maxHeartbeats 800000 in
theorem total_any {X : Tx} (w : World) (hT : TxAt w X) (hbig : tot X < 9223372036854775808) :
    Calls Try.prog 10 #[X.val] w fun e w' => e = .returned (.int .i64 (tot X : Int)) ∧ Below w.heap.size w w' := by
  have hR := hT.R
  obtain ⟨n, hn⟩ : ∃ n, X.L.length = n := ⟨_, rfl⟩
  obtain ⟨kn, hkn⟩ : ∃ kn, X.K.length = kn := ⟨_, rfl⟩
  have hll := hT.ll
  have hkl := hT.kl
  unfold lenMax at hll hkl
  rw [hn] at hll
  rw [hkn] at hkl
  obtain ⟨la, hla⟩ : ∃ la, X.la = la := ⟨_, rfl⟩
  have HBIG := Lib.hid hbig
  have HT := Lib.hid hT
  have HR := Lib.hid hR
  have HN := Lib.hid hn
  have HK := Lib.hid hkn
  have HLA := Lib.hid hla
  clear hT hR hbig hn hkn hla
  go_enter Try.func10, Try.ntmps10
  go_wp2_with ((with_reducible refine wl_box33 (X := X) ?_ ?_); (exact rfl); intro b w1 hb hle hB; have c5 := (txCells HR.out hb).c5; have c39 := (txCells HR.out hb).c39; rw [HK.out] at c5; rw [HN.out, HLA.out] at c39; clear hb)
  clear c5 c39
  go_loopw [3, 5, 14] (fun v3 v5 v14 wr => ∃ i : Nat, i ≤ n ∧ v14 = .int .i64 i ∧ v3 = .int .i64 ((kn + lsum (X.L.take i) : Nat) : Int) ∧ Below w.heap.size w wr) (fun _ _ v14 _ => n - (intOf v14).toNat)
  case atStart => exact ⟨0, Nat.zero_le _, rfl, by simp [lsum], hB⟩
  case round =>
    clear hB hle
    obtain ⟨i, hi, rfl, rfl, hB⟩ := hrel
    by_cases hlt : i < n
    · have hlt' : (i : Int) < (n : Int) := by omega
      obtain ⟨l, hl⟩ : ∃ l, X.L[i]? = some l := ⟨X.L[i]'(by rw [HN.out]; exact hlt), List.getElem?_eq_getElem _⟩
      obtain ⟨b2, off, e, hrow⟩ := HT.out.lkAt hl
      rw [HLA.out] at e
      subst e
      obtain ⟨hT32, hwl, hrl⟩ := HT.out.lksOk l (List.mem_of_getElem? hl)
      unfold lenMax at hwl hrl
      have hr2 := Lib.hid (Below.row hB hrow hrow.lt)
      have hbnd := lsum_at hl
      have HB := HBIG.out
      unfold tot at HB
      rw [HK.out] at HB
      have HS := Lib.hid (lsum_take hl)
      have H32 := Lib.hid hT32
      have HBW := Lib.hid hB
      generalize lsum (X.L.take i) = s at hbnd HS
      generalize lsum X.L = all at hbnd HB
      clear hrow hl hT32 hB
      go_wp2_with (first
        | ((with_reducible refine wl_load44 (l := l) ?_ hr2.out H32.out ?_); (exact rfl))
        | ((with_reducible refine wl_allocN zero44 ?_); intro b3 w3 Z hZ1 hZ2 hle3 hB3)
        | ((with_reducible refine wl_storeN (n := 34) (A := l.cells) (Z := Z) ?_ ?_ hZ1 hZ2 (Lk.size H32.out) l.one s44 ?_); (exact rfl); (exact rfl); intro w4 h4 hW4; have hk := lkCells H32.out (RowAt.of_cells h4); obtain ⟨k0, k1⟩ := hk; simp only [Nat.zero_add] at k0 k1; clear h4))
      go_roundw
      case rel => exact ⟨i + 1, by omega, by go_num, by rw [HS.out]; go_num, hW4.below (HBW.out.trans (hB3.mono HBW.out.size)) (Nat.le_trans HBW.out.size hle3)⟩
      case measure => simp [intOf]; omega
    · obtain rfl : i = n := by omega
      have hlt' : ¬ (i : Int) < (i : Int) := by omega
      go_wp2
      go_ret
      refine ⟨?_, hB⟩
      have e : X.L.take i = X.L := by rw [← HN.out, List.take_length]
      rw [e]
      unfold tot
      rw [HK.out]
      simp

/-- As many signatures as signers, one at least. -/
def sgn (X : Tx) : Bool := decide (0 < X.hs) && decide (X.sl = X.hs)
/-- A header that the keys have room for. -/
def hdr (X : Tx) : Bool := decide (X.hr < X.hs) && decide (X.hs + X.ho ≤ X.K.length)
/-- Few keys. -/
def few (X : Tx) : Bool := decide (tot X ≤ 64)

set_option maxHeartbeats 800000 in
theorem signed_any {X : Tx} (w : World) (hT : TxAt w X) : Calls Try.prog 20 #[X.val] w fun e w' => e = .returned (.bool (sgn X)) ∧ Below w.heap.size w w' := by
  have hR := hT.R
  have hh := hT.hs
  have hsl := hT.sl
  unfold lenMax at hsl
  unfold sgn
  have HR := Lib.hid hR
  clear hT hR
  obtain ⟨hs, hhs⟩ : ∃ hs, X.hs = hs := ⟨_, rfl⟩
  obtain ⟨sl, hssl⟩ : ∃ sl, X.sl = sl := ⟨_, rfl⟩
  rw [hhs] at hh ⊢
  rw [hssl] at hsl ⊢
  have HH := Lib.hid hhs
  have HL := Lib.hid hssl
  clear hhs hssl
  go_enter Try.func20, Try.ntmps20
  by_cases h0 : 0 < hs
  · by_cases h1 : sl = hs
    · subst h1
      go_wp2_with ((with_reducible refine wl_box33 (X := X) ?_ ?_); (exact rfl); intro b w1 hb hle hB; have c0 := (txCells HR.out hb).c0; have c2 := (txCells HR.out hb).c2; rw [HL.out] at c0; rw [HH.out] at c2; clear hb)
      go_ret
      exact ⟨by simp, hB⟩
    · have h1' : ¬ (sl : Int) = (hs : Int) := by omega
      go_wp2_with ((with_reducible refine wl_box33 (X := X) ?_ ?_); (exact rfl); intro b w1 hb hle hB; have c0 := (txCells HR.out hb).c0; have c2 := (txCells HR.out hb).c2; rw [HL.out] at c0; rw [HH.out] at c2; clear hb)
      go_ret
      exact ⟨by simp [h1]; omega, hB⟩
  · obtain rfl : hs = 0 := by omega
    go_wp2_with ((with_reducible refine wl_box33 (X := X) ?_ ?_); (exact rfl); intro b w1 hb hle hB; have c0 := (txCells HR.out hb).c0; have c2 := (txCells HR.out hb).c2; rw [HL.out] at c0; rw [HH.out] at c2; clear hb)
    go_ret
    exact ⟨by simp, hB⟩

set_option maxHeartbeats 800000 in
theorem few_any {X : Tx} (w : World) (hT : TxAt w X) (hbig : tot X < 9223372036854775808) : Calls Try.prog 23 #[X.val] w fun e w' => e = .returned (.bool (few X)) ∧ Below w.heap.size w w' := by
  have hR := hT.R
  unfold few
  have htot := fun w1 (hB : Below w.heap.size w w1) => total_any w1 (hT.keep hB) hbig
  have HR := Lib.hid hR
  have HTOT := Lib.hid htot
  clear hT hR htot
  generalize tot X = n at *
  have HBG := Lib.hid hbig
  clear hbig
  go_enter Try.func23, Try.ntmps23
  go_wp2_with (first
    | ((with_reducible refine wl_box33 (X := X) ?_ ?_); (exact rfl); intro b w1 hb hle hB; have hrow := Lib.hid (txRow hb); clear hb)
    | ((with_reducible refine wl_load33 (X := X) ?_ hrow.out HR.out ?_); (exact rfl))
    | (go_at_call 10; refine (HTOT.out _ hB).mono ?_; rintro e w2 ⟨rfl, hB2⟩))
  go_ret
  refine ⟨?_, hB.trans (hB2.mono hB.size)⟩
  simp; omega

set_option maxHeartbeats 800000 in
theorem headed_any {X : Tx} (w : World) (hT : TxAt w X) : Calls Try.prog 21 #[X.val] w fun e w' => e = .returned (.bool (hdr X)) ∧ Below w.heap.size w w' := by
  have hR := hT.R
  have hh := hT.hs
  have hh2 := hT.hr
  have hh3 := hT.ho
  have hkl := hT.kl
  unfold lenMax at hkl
  unfold hdr
  have HR := Lib.hid hR
  clear hT hR
  obtain ⟨hs, hhs⟩ : ∃ hs, X.hs = hs := ⟨_, rfl⟩
  obtain ⟨hr, hhr⟩ : ∃ hr, X.hr = hr := ⟨_, rfl⟩
  obtain ⟨ho, hho⟩ : ∃ ho, X.ho = ho := ⟨_, rfl⟩
  obtain ⟨kn, hkn⟩ : ∃ kn, X.K.length = kn := ⟨_, rfl⟩
  rw [hhs] at hh ⊢
  rw [hhr] at hh2 ⊢
  rw [hho] at hh3 ⊢
  rw [hkn] at hkl ⊢
  have HH := Lib.hid hhs
  have HH2 := Lib.hid hhr
  have HH3 := Lib.hid hho
  have HK := Lib.hid hkn
  clear hhs hhr hho hkn
  go_enter Try.func21, Try.ntmps21
  by_cases h0 : hr < hs
  · by_cases h1 : hs + ho ≤ kn
    · have h1' : (hs : Int) + (ho : Int) ≤ (kn : Int) := by omega
      go_wp2_with (first
        | ((with_reducible refine wl_box33 (X := X) ?_ ?_); (exact rfl); intro b w1 hb hle hB; have c5 := (txCells HR.out hb).c5; rw [HK.out] at c5; have hrow := Lib.hid (txHRow hb); clear hb)
        | ((with_reducible refine wl_load24 (X := X) ?_ hrow.out ?_); (exact rfl))
        | ((with_reducible refine wl_allocN zero24 ?_); intro b3 w3 Z hZ1 hZ2 hle3 hB3)
        | ((with_reducible refine wl_storeN (n := 3) (A := X.hcells) (Z := Z) ?_ ?_ hZ1 hZ2 X.hsize X.hone s24 ?_); (exact rfl); (exact rfl); intro w4 h4 hW4; obtain ⟨k0, k1, k2⟩ := hCells h4; rw [HH.out] at k0; rw [HH2.out] at k1; rw [HH3.out] at k2; replace c5 := Below.keepCell (hW4.below hB3 hle3) (Nat.le_refl _) c5; clear h4 hZ1))
      go_ret
      exact ⟨by simp [h0, h1], (hW4.below (hB.trans (hB3.mono hB.size)) (Nat.le_trans hB.size hle3))⟩
    · have h1' : ¬ (hs : Int) + (ho : Int) ≤ (kn : Int) := by omega
      go_wp2_with (first
        | ((with_reducible refine wl_box33 (X := X) ?_ ?_); (exact rfl); intro b w1 hb hle hB; have c5 := (txCells HR.out hb).c5; rw [HK.out] at c5; have hrow := Lib.hid (txHRow hb); clear hb)
        | ((with_reducible refine wl_load24 (X := X) ?_ hrow.out ?_); (exact rfl))
        | ((with_reducible refine wl_allocN zero24 ?_); intro b3 w3 Z hZ1 hZ2 hle3 hB3)
        | ((with_reducible refine wl_storeN (n := 3) (A := X.hcells) (Z := Z) ?_ ?_ hZ1 hZ2 X.hsize X.hone s24 ?_); (exact rfl); (exact rfl); intro w4 h4 hW4; obtain ⟨k0, k1, k2⟩ := hCells h4; rw [HH.out] at k0; rw [HH2.out] at k1; rw [HH3.out] at k2; replace c5 := Below.keepCell (hW4.below hB3 hle3) (Nat.le_refl _) c5; clear h4 hZ1))
      go_ret
      exact ⟨by simp, (hW4.below (hB.trans (hB3.mono hB.size)) (Nat.le_trans hB.size hle3))⟩
  · go_wp2_with (first
    | ((with_reducible refine wl_box33 (X := X) ?_ ?_); (exact rfl); intro b w1 hb hle hB; have c5 := (txCells HR.out hb).c5; rw [HK.out] at c5; have hrow := Lib.hid (txHRow hb); clear hb)
    | ((with_reducible refine wl_load24 (X := X) ?_ hrow.out ?_); (exact rfl))
    | ((with_reducible refine wl_allocN zero24 ?_); intro b3 w3 Z hZ1 hZ2 hle3 hB3)
    | ((with_reducible refine wl_storeN (n := 3) (A := X.hcells) (Z := Z) ?_ ?_ hZ1 hZ2 X.hsize X.hone s24 ?_); (exact rfl); (exact rfl); intro w4 h4 hW4; obtain ⟨k0, k1, k2⟩ := hCells h4; rw [HH.out] at k0; rw [HH2.out] at k1; rw [HH3.out] at k2; replace c5 := Below.keepCell (hW4.below hB3 hle3) (Nat.le_refl _) c5; clear h4 hZ1))
    go_ret
    exact ⟨by simp [h0], (hW4.below (hB.trans (hB3.mono hB.size)) (Nat.le_trans hB.size hle3))⟩
end Go.Proofs.Ytgjijoielfpmkaa
