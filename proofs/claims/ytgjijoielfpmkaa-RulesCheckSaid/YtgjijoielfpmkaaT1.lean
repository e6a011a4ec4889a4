/- The document's Total and Check. -/
import Derived.Test.YtgjijoielfpmkaaQ1
import Derived.Deep.CutRange
import Derived.Deep.CutBlock
set_option linter.unusedVariables false
namespace Go.Proofs.Ytgjijoielfpmkaa
open Go.RowKit

set_option maxRecDepth 20000 in
set_option maxHeartbeats 1600000 in
theorem rtotal_any {X : Tx} (w : World) (hT : TxAt w X) (hbig : tot X < 9223372036854775808) :
    Calls Try.prog 11 #[X.val] w fun e w' => e = .returned (.int .i64 (tot X : Int)) ∧ Below w.heap.size w w' := by
  have HT := Lib.hid hT
  obtain ⟨n, hn⟩ : ∃ n, X.L.length = n := ⟨_, rfl⟩
  obtain ⟨kn, hkn⟩ : ∃ kn, X.K.length = kn := ⟨_, rfl⟩
  have hll := hT.ll
  have hkl := hT.kl
  unfold lenMax at hll hkl
  rw [hn] at hll
  rw [hkn] at hkl
  obtain ⟨la, hla⟩ : ∃ la, X.la = la := ⟨_, rfl⟩
  have HR := Lib.hid hT.R
  have mk : ∀ (u : World) (b : Nat), u.heap[b]? = some (.cells X.cells 33) → u.cell? ⟨b, 5, none⟩ = some (.slice X.ka kn X.kc) ∧ u.cell? ⟨b, 39, none⟩ = some (.slice la n X.lc) := fun u b h => by
    have h := txCells HR.out h
    rw [← hkn, ← hn, ← hla]
    exact ⟨h.c5, h.c39⟩
  have MK := Lib.hid mk
  have HBIG := Lib.hid hbig
  have HN := Lib.hid hn
  have HK := Lib.hid hkn
  have HLA := Lib.hid hla
  clear hT hbig hn hkn hla mk
  go_enter Try.func11, Try.ntmps11
  go_wp2_with ((with_reducible refine wl_box33 (X := X) ?_ ?_); (exact rfl); intro b w1 hb hle hB; obtain ⟨c5, c39⟩ := MK.out _ _ hb)
  go_loopw [3, 4] (fun v3 v4 wr => ∃ i : Nat, i ≤ n ∧ v4 = .int .i64 i ∧ v3 = .int .i64 ((kn + lsum (X.L.take i) : Nat) : Int) ∧ wr.heap[b]? = some (.cells X.cells 33) ∧ Below w.heap.size w wr) (fun _ v4 _ => n - (intOf v4).toNat)
  case atStart => exact ⟨0, Nat.zero_le _, rfl, by simp [lsum], hb, hB⟩
  case round =>
    clear c5 c39 hb hle hB w1
    obtain ⟨i, hi, rfl, rfl, hb, hB⟩ := hrel
    obtain ⟨c5, c39⟩ := MK.out _ _ hb
    by_cases hlt : i < n
    · have hlt' : (i : Int) < (n : Int) := by omega
      obtain ⟨l, hl⟩ : ∃ l, X.L[i]? = some l := ⟨X.L[i]'(by rw [HN.out]; exact hlt), List.getElem?_eq_getElem _⟩
      obtain ⟨b2, off, e, hrow⟩ := HT.out.lkAt hl
      rw [HLA.out] at e
      subst e
      obtain ⟨hT32, hwl, hrl⟩ := HT.out.lksOk l (List.mem_of_getElem? hl)
      unfold lenMax at hwl hrl
      obtain ⟨q1, q2⟩ := lkCells hT32 (Below.row hB hrow hrow.lt)
      have hbnd := lsum_at hl
      have HB := HBIG.out
      unfold tot at HB
      rw [HK.out] at HB
      have HS := Lib.hid (lsum_take hl)
      generalize l.wl = al at hwl hbnd HS q1
      generalize l.rl = dl at hrl hbnd HS q2
      generalize lsum (X.L.take i) = s at hbnd HS
      generalize lsum X.L = all at hbnd HB
      have HBW := Lib.hid hB
      have HBB := Lib.hid hb
      clear hrow hl hT32 hB hb
      go_wp2
      refine wp_region_quiet_lit (by kernel_rfl) (by kernel_rfl) ?_
      repeat go_big_quiet_step (fail)
      refine wpQuiet_nil ?_
      intro wz hwz
      have hB2 := Below.drewN HBW.out hwz
      obtain ⟨dn, rfl⟩ := hwz
      go_wp2
      go_roundw
      case rel => exact ⟨i + 1, by omega, by go_num, by rw [HS.out]; go_num, HBB.out, hB2⟩
      case measure => simp [intOf]; omega
    · obtain rfl : i = n := by omega
      have hlt' : ¬ (i : Int) < (i : Int) := by omega
      go_wp2
      go_ret
      refine ⟨?_, hB⟩
      have e : X.L.take i = X.L := by rw [← HN.out, List.take_length]
      rw [e]
      unfold tot
      rw [HK.out]
      simp
end Go.Proofs.Ytgjijoielfpmkaa
