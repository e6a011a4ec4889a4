/- looked: a lookup that looks nothing up. -/
import Derived.Test.YtgjijoielfpmkaaB
set_option linter.unusedVariables false
namespace Go.Proofs.Ytgjijoielfpmkaa
open Go.RowKit

def Lk.void (l : Lk) : Bool := decide (l.wl + l.rl = 0)
def lookd (X : Tx) : Bool := !X.L.any Lk.void

set_option maxHeartbeats 800000 in
theorem void_any {l : Lk} (w : World) (hT : l.T.length = 32) (hw : l.wl ≤ lenMax) (hr : l.rl ≤ lenMax) : Calls Try.prog 31 #[l.val] w fun e w' => e = .returned (.bool l.void) ∧ Below w.heap.size w w' := by
  unfold lenMax at hw hr
  unfold Lk.void
  have H := Lib.hid hT
  obtain ⟨wl, hwl⟩ : ∃ wl, l.wl = wl := ⟨_, rfl⟩
  obtain ⟨rl, hrl⟩ : ∃ rl, l.rl = rl := ⟨_, rfl⟩
  rw [hwl] at hw ⊢
  rw [hrl] at hr ⊢
  have HW := Lib.hid hwl
  have HR := Lib.hid hrl
  clear hT hwl hrl
  go_enter Try.func31, Try.ntmps31
  go_wp2_with ((with_reducible refine wl_box44 (l := l) ?_ ?_); (exact rfl); intro b w1 hb hle hB; obtain ⟨k0, k1⟩ := lkCells H.out (RowAt.of_cells hb); simp only [Nat.zero_add] at k0 k1; rw [HW.out] at k0; rw [HR.out] at k1; clear hb)
  go_ret
  refine ⟨?_, hB⟩
  simp
  rw [Bool.eq_iff_iff]
  simp
  omega

set_option maxHeartbeats 800000 in
theorem index43 {X : Tx} (w : World) (hT : TxAt w X) : Calls Try.prog 43 #[.slice X.la X.L.length X.lc, .func (.func 31) #[] #[]] w fun e w' => ∃ r : Int, e = .returned (.int .i64 r) ∧ (decide (0 ≤ r) = X.L.any Lk.void) ∧ Below w.heap.size w w' := by
  have hll := hT.ll
  unfold lenMax at hll
  obtain ⟨n, hn⟩ : ∃ n, X.L.length = n := ⟨_, rfl⟩
  obtain ⟨la, hla⟩ : ∃ la, X.la = la := ⟨_, rfl⟩
  obtain ⟨L, hL⟩ : ∃ L, X.L = L := ⟨_, rfl⟩
  have hat := fun (j : Nat) (l : Lk) hj => hT.lkAt (j := j) (l := l) hj
  have hok := hT.lksOk
  rw [hL] at hn hat hok ⊢
  rw [hn] at ⊢
  rw [hL, hn] at hll
  rw [hla] at hat ⊢
  have HN := Lib.hid hn
  have HAT := Lib.hid hat
  have HOK := Lib.hid hok
  clear hT hn hat hok hL hla
  go_enter Try.func43, Try.ntmps43
  go_wp2
  go_loopw [5, 8] (fun v5 v8 wr => ∃ i : Nat, i ≤ n ∧ v8 = .int .i64 i ∧ (L.take i).any Lk.void = false ∧ Below w.heap.size w wr) (fun _ v8 _ => n - (intOf v8).toNat)
  case atStart => exact ⟨0, Nat.zero_le _, rfl, by simp, Below.refl _ _⟩
  case round =>
    obtain ⟨i, hi, rfl, hno, hB⟩ := hrel
    by_cases hlt : i < n
    · have hlt' : (i : Int) < (n : Int) := by omega
      obtain ⟨l, hl⟩ : ∃ l, L[i]? = some l := ⟨L[i]'(by rw [HN.out]; exact hlt), List.getElem?_eq_getElem _⟩
      obtain ⟨b2, off, rfl, hrow⟩ := HAT.out i l hl
      obtain ⟨hT32, hwl, hrl⟩ := HOK.out l (List.mem_of_getElem? hl)
      have hr2 := Lib.hid (Below.row hB hrow hrow.lt)
      have H32 := Lib.hid hT32
      have hv := void_any wr hT32 hwl hrl
      have HNEXT : Hid (l.void = false → (L.take (i + 1)).any Lk.void = false) := Lib.hid fun h => by
        obtain ⟨hi', e⟩ := List.getElem?_eq_some_iff.1 hl
        rw [List.take_succ_eq_append_getElem hi', List.any_append, hno, e]
        simp [h]
      have HHIT : Hid (l.void = true → L.any Lk.void = true) := Lib.hid fun h => List.any_eq_true.2 ⟨l, List.mem_of_getElem? hl, h⟩
      have HBW := Lib.hid hB
      clear hrow hl hT32 hB hno hwl hrl
      cases hlv : l.void with
      | true =>
        rw [hlv] at hv
        have HV := Lib.hid hv
        have HH := Lib.hid (HHIT.out hlv)
        clear hv hlv HHIT HNEXT
        go_wp2_with (first
          | ((with_reducible refine wl_load44 (l := l) ?_ hr2.out H32.out ?_); (exact rfl))
          | (go_at_call 31; refine HV.out.mono ?_; rintro e w2 ⟨rfl, hB2⟩))
        go_ret
        refine ⟨_, rfl, ?_, HBW.out.trans (hB2.mono HBW.out.size)⟩
        rw [HH.out]
        simp
      | false =>
        rw [hlv] at hv
        have HV := Lib.hid hv
        have HH := Lib.hid (HNEXT.out hlv)
        clear hv hlv HHIT HNEXT
        go_wp2_with (first
          | ((with_reducible refine wl_load44 (l := l) ?_ hr2.out H32.out ?_); (exact rfl))
          | (go_at_call 31; refine HV.out.mono ?_; rintro e w2 ⟨rfl, hB2⟩))
        go_roundw
        case rel => exact ⟨i + 1, by omega, by go_num, HH.out, HBW.out.trans (hB2.mono HBW.out.size)⟩
        case measure => simp [intOf]; omega
    · obtain rfl : i = n := by omega
      have hlt' : ¬ (i : Int) < (i : Int) := by omega
      have e : L.take i = L := by rw [← HN.out, List.take_length]
      rw [e] at hno
      go_wp2
      go_ret
      exact ⟨-1, rfl, by decide, hB⟩

set_option maxHeartbeats 800000 in
theorem contains30 {X : Tx} (w : World) (hT : TxAt w X) : Calls Try.prog 30 #[.slice X.la X.L.length X.lc, .func (.func 31) #[] #[]] w fun e w' => e = .returned (.bool (X.L.any Lk.void)) ∧ Below w.heap.size w w' := by
  have hi := index43 w hT
  generalize X.L.any Lk.void = r at *
  have HI := Lib.hid hi
  clear hT hi
  generalize X.la = la at *
  generalize X.L.length = n at *
  go_enter Try.func30, Try.ntmps30
  go_wp2_with (go_at_call 43; refine HI.out.mono ?_; rintro e w2 ⟨z, rfl, hz, hB2⟩)
  go_ret
  exact ⟨by simp [← hz], hB2⟩

set_option maxHeartbeats 800000 in
theorem looked_any {X : Tx} (w : World) (hT : TxAt w X) : Calls Try.prog 22 #[X.val] w fun e w' => e = .returned (.bool (lookd X)) ∧ Below w.heap.size w w' := by
  have hR := hT.R
  unfold lookd
  have hc := fun w1 (hB : Below w.heap.size w w1) => contains30 w1 (hT.keep hB)
  have HR := Lib.hid hR
  have HC := Lib.hid hc
  clear hT hR hc
  go_enter Try.func22, Try.ntmps22
  go_wp2_with (first
    | ((with_reducible refine wl_box33 (X := X) ?_ ?_); (exact rfl); intro b w1 hb hle hB; have c39 := (txCells HR.out hb).c39; clear hb)
    | (go_at_call 30; refine (HC.out _ hB).mono ?_; rintro e w2 ⟨rfl, hB2⟩))
  go_ret
  exact ⟨rfl, hB.trans (hB2.mono hB.size)⟩
end Go.Proofs.Ytgjijoielfpmkaa
