/- Great, great. -/
import Derived.Test.YtgjijoielfpmkaaH
set_option linter.unusedVariables false
namespace Go.Proofs.Ytgjijoielfpmkaa
open Go.RowKit

def isum (I : List Ins) : Nat := (I.map fun i => i.A.length + i.dl).sum
theorem isum_take {L : List Ins} {i : Nat} {l : Ins} (h : L[i]? = some l) : isum (L.take (i + 1)) = isum (L.take i) + (l.A.length + l.dl) := by
  obtain ⟨hi, e⟩ := List.getElem?_eq_some_iff.1 h
  unfold isum
  rw [List.take_succ_eq_append_getElem hi, List.map_append, List.sum_append, e]
  simp
/-- A transaction that is gone through. -/
def Small (X : Tx) : Prop := X.sl ≤ 300 ∧ X.K.length + X.I.length + X.L.length + isum X.I + lsum X.L < 3000

theorem Small.tot {X : Tx} (h : Small X) : tot X < 9223372036854775808 := by
  have := h.2
  unfold Ytgjijoielfpmkaa.tot
  omega

theorem Below.drewN {B : Nat} {w w1 w2 : World} (h : Below B w w1) (k : ∃ n, w2 = w1.drewN n) : Below B w w2 := by
  obtain ⟨n, rfl⟩ := k
  exact ⟨h.os, h.tape, h.output, h.size, h.block⟩

/-- What Great says. -/
def GreatSaid (T : Prop) (w : World) (e : Ending) (w' : World) : Prop := ∃ r : Bool, e = .returned (.bool r) ∧ (r = false → T) ∧ Below w.heap.size w w'

set_option maxRecDepth 20000 in
set_option maxHeartbeats 3200000 in
theorem Great_any {X : Tx} (w : World) (hT : TxAt w X) : Calls Try.prog 15 #[X.mval] w (GreatSaid (X.K.length + X.I.length + X.L.length + isum X.I + lsum X.L < 3000) w) := by
  have hkl := hT.kl
  have hil := hT.il
  have hll := hT.ll
  unfold lenMax at hkl hil hll
  obtain ⟨kn, hkn⟩ : ∃ kn, X.K.length = kn := ⟨_, rfl⟩
  obtain ⟨il, hiln⟩ : ∃ il, X.I.length = il := ⟨_, rfl⟩
  obtain ⟨ll, hlln⟩ : ∃ ll, X.L.length = ll := ⟨_, rfl⟩
  obtain ⟨ia, hia⟩ : ∃ ia, X.ia = ia := ⟨_, rfl⟩
  obtain ⟨la, hla⟩ : ∃ la, X.la = la := ⟨_, rfl⟩
  have HR := Lib.hid hT.R
  have HI := Lib.hid (fun (j : Nat) (l : Ins) hj => hT.insAt (j := j) (i := l) hj)
  have HL := Lib.hid (fun (j : Nat) (l : Lk) hj => hT.lkAt (j := j) (l := l) hj)
  have HIO := Lib.hid hT.insOk
  have HLO := Lib.hid hT.lksOk
  rw [hia] at HI
  rw [hla] at HL
  have HKN := Lib.hid hkn
  have HIN := Lib.hid hiln
  have HLN := Lib.hid hlln
  have HIA := Lib.hid hia
  have HLA := Lib.hid hla
  rw [hkn] at hkl ⊢
  rw [hiln] at hil ⊢
  rw [hlln] at hll ⊢
  clear hT hkn hiln hlln hia hla
  go_enter Try.func15, Try.ntmps15
  have mk : ∀ (b : Nat) (w1 : World), w1.heap[b]? = some (.cells X.mcells 31) → w1.cell? ⟨b, 4, none⟩ = some (.slice X.ka kn X.kc) ∧ w1.cell? ⟨b, 37, none⟩ = some (.slice ia il X.ic) ∧ w1.cell? ⟨b, 38, none⟩ = some (.slice la ll X.lc) := fun b w1 hb => by
    have h := msgCells HR.out hb
    refine ⟨?_, ?_, ?_⟩
    · rw [← HKN.out]; exact h.c4
    · rw [← HIN.out, ← HIA.out]; exact h.c37
    · rw [← HLN.out, ← HLA.out]; exact h.c38
  have MK := Lib.hid mk
  clear mk
  go_wp2_with (first
    | ((with_reducible refine wl_box31 (X := X) ?_ ?_); (exact rfl); intro b w1 hb hle hB; obtain ⟨c4, c37, c38⟩ := MK.out _ _ hb))
  go_loopw [3, 4] (fun v3 v4 wr => ∃ i n : Nat, i ≤ il ∧ v4 = .int .i64 i ∧ v3 = .int .i64 (n : Int) ∧ n = kn + il + ll + isum (X.I.take i) ∧ n ≤ 2000000000000000 ∧ wr.heap[b]? = some (.cells X.mcells 31) ∧ Below w.heap.size w wr) (fun _ v4 _ => il - (intOf v4).toNat)
  case atStart => exact ⟨0, kn + il + ll, Nat.zero_le _, rfl, by go_num, by simp [isum], by omega, hb, hB⟩
  case round =>
    clear c4 c37 c38 hb hle hB w1
    obtain ⟨i, n, hi, rfl, rfl, hn, hnb, hb, hB⟩ := hrel
    obtain ⟨c4, c37, c38⟩ := MK.out _ _ hb
    by_cases hlt : i < il ∧ n < 3000
    · obtain ⟨hlt, hn3⟩ := hlt
      have k1 : (i : Int) < (il : Int) := by omega
      have k2 : (n : Int) < 3000 := by omega
      obtain ⟨l, hl⟩ : ∃ l, X.I[i]? = some l := ⟨X.I[i]'(by rw [HIN.out]; exact hlt), List.getElem?_eq_getElem _⟩
      obtain ⟨b2, off, rfl, hrow⟩ := HI.out i l hl
      obtain ⟨hp, hal, hdl, hby⟩ := HIO.out l (List.mem_of_getElem? hl)
      obtain ⟨q0, q1, q2⟩ := insCells (Below.row hB hrow hrow.lt)
      unfold lenMax at hal hdl
      have HNX := Lib.hid (isum_take hl)
      generalize l.A.length = al at hal HNX q1
      generalize l.dl = dl at hdl HNX q2
      have HN := Lib.hid hn
      have HBW := Lib.hid hB
      have HBB := Lib.hid hb
      clear hl hrow hp hby q0 hn hB hb
      go_wp2
      refine wp_region_quiet_lit (by kernel_rfl) (by kernel_rfl) ?_
      repeat go_big_quiet_step (fail)
      refine wpQuiet_nil ?_
      intro wz hwz
      have hB2 := Below.drewN HBW.out hwz
      obtain ⟨dn, rfl⟩ := hwz
      go_wp2
      go_roundw
      case rel => exact ⟨i + 1, n + (al + dl), by omega, by go_num, by go_num, by rw [HNX.out, HN.out]; omega, by omega, HBB.out, hB2⟩
      case measure => simp [intOf]; omega
    · have hg : ¬ (i : Int) < (il : Int) ∨ ((i : Int) < (il : Int) ∧ ¬ (n : Int) < 3000) := by omega
      have HSUM : Hid (n < 3000 → n = kn + il + ll + isum X.I) := Lib.hid fun h => by
        have e : X.I.take i = X.I := by
          have : i = il := by omega
          rw [this, ← HIN.out, List.take_length]
        rw [hn, e]
      have HBW := Lib.hid hB
      have HBB := Lib.hid hb
      clear hlt hn hB hb
      have fin : True := trivial
      rcases hg with hg | ⟨hg, hg2⟩
      all_goals
        go_wp2_with fail
        go_loopw [3, 5] (fun v3 v5 wq => ∃ j m : Nat, j ≤ ll ∧ v5 = .int .i64 j ∧ v3 = .int .i64 (m : Int) ∧ m = n + lsum (X.L.take j) ∧ m ≤ 4000000000000000 ∧ wq.heap[b]? = some (.cells X.mcells 31) ∧ Below w.heap.size w wq) (fun _ v5 _ => ll - (intOf v5).toNat)
        case atStart => exact ⟨0, n, Nat.zero_le _, rfl, rfl, by simp [lsum], by omega, HBB.out, HBW.out⟩
        case round =>
          clear c4 c37 c38 HBB HBW fin
          obtain ⟨j, m, hj, rfl, rfl, hm, hmb, hb, hB⟩ := hrel
          obtain ⟨c4, c37, c38⟩ := MK.out _ _ hb
          by_cases hlt : j < ll ∧ m < 3000
          · obtain ⟨hlt, hn3⟩ := hlt
            have k1 : (j : Int) < (ll : Int) := by omega
            have k2 : (m : Int) < 3000 := by omega
            obtain ⟨l, hl⟩ : ∃ l, X.L[j]? = some l := ⟨X.L[j]'(by rw [HLN.out]; exact hlt), List.getElem?_eq_getElem _⟩
            obtain ⟨b2, off, rfl, hrow⟩ := HL.out j l hl
            obtain ⟨hT32, hal, hdl⟩ := HLO.out l (List.mem_of_getElem? hl)
            obtain ⟨q1, q2⟩ := lkCells hT32 (Below.row hB hrow hrow.lt)
            unfold lenMax at hal hdl
            have HNX := Lib.hid (lsum_take hl)
            generalize l.wl = al at hal HNX q1
            generalize l.rl = dl at hdl HNX q2
            have HN := Lib.hid hm
            have HBW := Lib.hid hB
            have HBB := Lib.hid hb
            clear hl hrow hT32 hm hB hb
            go_wp2
            refine wp_region_quiet_lit (by kernel_rfl) (by kernel_rfl) ?_
            repeat go_big_quiet_step (fail)
            refine wpQuiet_nil ?_
            intro wz hwz
            have hB2 := Below.drewN HBW.out hwz
            obtain ⟨dn, rfl⟩ := hwz
            go_wp2
            go_roundw
            case rel => exact ⟨j + 1, m + (al + dl), by omega, by go_num, by go_num, by rw [HNX.out, HN.out]; omega, by omega, HBB.out, hB2⟩
            case measure => simp [intOf]; omega
          · have hg3 : ¬ (j : Int) < (ll : Int) ∨ ((j : Int) < (ll : Int) ∧ ¬ (m : Int) < 3000) := by omega
            have HSUM2 : Hid (m < 3000 → kn + il + ll + isum X.I + lsum X.L < 3000) := Lib.hid fun h => by
              have e : X.L.take j = X.L := by
                have : j = ll := by omega
                rw [this, ← HLN.out, List.take_length]
              rw [e] at hm
              have := HSUM.out (by omega)
              omega
            have HBW := Lib.hid hB
            clear hlt hm hB hb
            rcases hg3 with hg3 | ⟨hg3, hg4⟩
            all_goals
              go_wp2_with fail
              go_ret
              refine ⟨_, rfl, fun h => ?_, HBW.out⟩
              refine HSUM2.out ?_
              simp at h <;> omega

/-! ### Guarded operations -/
section
variable {ops : Array Oper} {Q : Exit → Act → World → Prop} {a : Act} {w w' : World} {rest : List Oper} {dst : Option Tmp} {x y : Operand} {ty : TypeId} {pos : String} {after : Array Edge} {g : Option (Nat × Bool)}
theorem wpList_runG {o : Oper} {v : Value} (hw : Region.wanted o (yielded ops a.tmps) = true) (hr : (execOp a.eval o).run Try.prog w = .ok (.value v) w') (h : wpList Try.prog ops Q rest (a.put o.dst v) w') : wpList Try.prog ops Q (o :: rest) a w :=
  wpList_step fun K hK => by rw [if_pos hw]; unfold Oper.wp; rw [hr]; exact hK _ _ h
theorem wl_load33G {b off : Nat} {X : Tx} (hw : Region.wanted ⟨dst, .load 33 x, ty, pos, after, g⟩ (yielded ops a.tmps) = true) (hx : a.eval x = .pointer (some ⟨b, off, none⟩)) (hr : RowAt w b off X.cells) (hR : X.R.length = 32) (K : wpList Try.prog ops Q rest (a.put dst X.val) w) :
    wpList Try.prog ops Q (⟨dst, .load 33 x, ty, pos, after, g⟩ :: rest) a w := by
  obtain ⟨fs, hu⟩ := u33
  exact wpList_runG hw (exec_load_sub rfl hx hr hu rfl (by rw [Tx.size hR]; exact s33)) K
theorem wl_load31G {b off : Nat} {X : Tx} (hw : Region.wanted ⟨dst, .load 31 x, ty, pos, after, g⟩ (yielded ops a.tmps) = true) (hx : a.eval x = .pointer (some ⟨b, off, none⟩)) (hr : RowAt w b off X.mcells) (hR : X.R.length = 32) (K : wpList Try.prog ops Q rest (a.put dst X.mval) w) :
    wpList Try.prog ops Q (⟨dst, .load 31 x, ty, pos, after, g⟩ :: rest) a w := by
  obtain ⟨fs, hu⟩ := u31
  exact wpList_runG hw (exec_load_sub rfl hx hr hu rfl (by rw [Tx.msize hR]; exact s31)) K
end

set_option maxHeartbeats 1600000 in
theorem great_any {X : Tx} (w : World) (hT : TxAt w X) : Calls Try.prog 7 #[X.val] w (GreatSaid (Small X) w) := by
  have hsl := hT.sl
  unfold lenMax at hsl
  obtain ⟨sl, hsln⟩ : ∃ sl, X.sl = sl := ⟨_, rfl⟩
  rw [hsln] at hsl
  unfold Small
  rw [hsln]
  have HR := Lib.hid hT.R
  have HS := Lib.hid hsln
  have HG := Lib.hid (fun w1 (hB : Below w.heap.size w w1) => Great_any w1 (hT.keep hB))
  clear hT hsln
  generalize (X.K.length + X.I.length + X.L.length + isum X.I + lsum X.L < 3000) = T at *
  go_enter Try.func7, Try.ntmps7
  by_cases h : sl ≤ 300
  · have h' : ¬ (sl : Int) > 300 := by omega
    go_wp2_with (first
      | ((with_reducible refine wl_box33 (X := X) ?_ ?_); (exact rfl); intro b w1 hb hle hB; have c0 := (txCells HR.out hb).c0; rw [HS.out] at c0; have hrow := Lib.hid (txMRow hb); clear hb)
      | ((with_reducible refine wl_load31G (X := X) ?_ ?_ hrow.out HR.out ?_); (kernel_rfl); (exact rfl))
      | (go_at_call 15; refine (HG.out _ hB).mono ?_; rintro e w2 ⟨r, rfl, hr, hB2⟩))
    go_ret
    exact ⟨r, rfl, fun e => ⟨h, hr e⟩, hB.trans (hB2.mono hB.size)⟩
  · have h' : (sl : Int) > 300 := by omega
    go_wp2_with (first
      | ((with_reducible refine wl_box33 (X := X) ?_ ?_); (exact rfl); intro b w1 hb hle hB; have c0 := (txCells HR.out hb).c0; rw [HS.out] at c0; have hrow := Lib.hid (txMRow hb); clear hb))
    go_ret
    exact ⟨true, rfl, fun e => (by cases e), hB⟩
end Go.Proofs.Ytgjijoielfpmkaa
