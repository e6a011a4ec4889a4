/- pointed: an instruction that points at no key. -/
import Derived.Test.YtgjijoielfpmkaaC
set_option linter.unusedVariables false
namespace Go.Proofs.Ytgjijoielfpmkaa
open Go.RowKit

/-- A byte beyond the keys. -/
def beyond (all : Nat) (a : Nat) : Bool := decide (all ≤ a)
def Ins.bad (keys all : Nat) (i : Ins) : Bool := decide (i.p = 0) || decide (keys ≤ i.p) || i.A.any (beyond all)
def pointd (X : Tx) : Bool := !X.I.any (Ins.bad X.K.length (tot X))

set_option maxHeartbeats 800000 in
theorem beyond_any {g all a : Nat} (w : World) (hc : w.cell? ⟨g, 0, none⟩ = some (.int .i64 (all : Int))) (ha : a < 256) : Calls Try.prog 34 #[.int .u8 (a : Int), .pointer (some ⟨g, 0, none⟩)] w fun e w' => e = .returned (.bool (beyond all a)) ∧ w = w' := by
  unfold beyond
  go_enter Try.func34, Try.ntmps34
  go_wp2
  go_ret
  refine ⟨?_, rfl⟩
  simp

set_option maxHeartbeats 800000 in
theorem index45 {g all c : Nat} {ao : Option Addr} {A : List Nat} (w : World) (hc : w.cell? ⟨g, 0, none⟩ = some (.int .i64 (all : Int))) (hA : BytesAt w ao A) (hl : A.length ≤ lenMax) :
    Calls Try.prog 45 #[.slice ao A.length c, .func (.func 34) #[] #[.pointer (some ⟨g, 0, none⟩)]] w fun e w' => ∃ r : Int, e = .returned (.int .i64 r) ∧ (decide (0 ≤ r) = A.any (beyond all)) ∧ w = w' := by
  unfold lenMax at hl
  obtain ⟨n, hn⟩ : ∃ n, A.length = n := ⟨_, rfl⟩
  rw [hn] at hl ⊢
  have HN := Lib.hid hn
  have HA := Lib.hid hA
  have HC := Lib.hid hc
  clear hn hA hc
  go_enter Try.func45, Try.ntmps45
  go_wp2
  go_loopw [5, 8] (fun v5 v8 wr => ∃ i : Nat, i ≤ n ∧ v8 = .int .i64 i ∧ (A.take i).any (beyond all) = false ∧ w = wr) (fun _ v8 _ => n - (intOf v8).toNat)
  case atStart => exact ⟨0, Nat.zero_le _, rfl, by simp, rfl⟩
  case round =>
    obtain ⟨i, hi, rfl, hno, rfl⟩ := hrel
    by_cases hlt : i < n
    · have hlt' : (i : Int) < (n : Int) := by omega
      obtain ⟨h256, b2, off, rfl, hb2, hcell⟩ := HA.out i (by rw [HN.out]; exact hlt)
      have hiA : i < A.length := by rw [HN.out]; exact hlt
      have hget : A[i] = A.getD i 0 := by simp [hiA]
      have HNEXT : Hid (beyond all (A.getD i 0) = false → (A.take (i + 1)).any (beyond all) = false) := Lib.hid fun h => by
        rw [List.take_succ_eq_append_getElem hiA, List.any_append, hno, hget]
        simp only [List.any_cons, List.any_nil, h, Bool.or_false]
      have HHIT : Hid (beyond all (A.getD i 0) = true → A.any (beyond all) = true) := Lib.hid fun h => List.any_eq_true.2 ⟨A[i], List.getElem_mem _, by rw [hget]; exact h⟩
      have hv := beyond_any (all := all) w HC.out h256
      clear hget hiA hno
      generalize A.getD i 0 = x at *
      cases hlv : beyond all x with
      | true =>
        rw [hlv] at hv
        have HV := Lib.hid hv
        have HH := Lib.hid (HHIT.out hlv)
        clear hv hlv HHIT HNEXT
        go_wp2_with (go_at_call 34; refine HV.out.mono ?_; rintro e w2 ⟨rfl, rfl⟩)
        go_ret
        refine ⟨_, rfl, ?_, rfl⟩
        rw [HH.out]
        simp
      | false =>
        rw [hlv] at hv
        have HV := Lib.hid hv
        have HH := Lib.hid (HNEXT.out hlv)
        clear hv hlv HHIT HNEXT
        go_wp2_with (go_at_call 34; refine HV.out.mono ?_; rintro e w2 ⟨rfl, rfl⟩)
        go_roundw
        case rel => exact ⟨i + 1, by omega, by go_num, HH.out, trivial⟩
        case measure => simp [intOf]; omega
    · obtain rfl : i = n := by omega
      have hlt' : ¬ (i : Int) < (i : Int) := by omega
      have e : A.take i = A := by rw [← HN.out, List.take_length]
      rw [e] at hno
      go_wp2
      go_ret
      exact ⟨-1, rfl, by decide, rfl⟩

set_option maxHeartbeats 800000 in
theorem contains35 {g all c : Nat} {ao : Option Addr} {A : List Nat} (w : World) (hc : w.cell? ⟨g, 0, none⟩ = some (.int .i64 (all : Int))) (hA : BytesAt w ao A) (hl : A.length ≤ lenMax) :
    Calls Try.prog 35 #[.slice ao A.length c, .func (.func 34) #[] #[.pointer (some ⟨g, 0, none⟩)]] w fun e w' => e = .returned (.bool (A.any (beyond all))) ∧ w = w' := by
  have hi := index45 (c := c) w hc hA hl
  generalize A.any (beyond all) = r at *
  have HI := Lib.hid hi
  clear hc hA hl hi
  generalize A.length = n at *
  go_enter Try.func35, Try.ntmps35
  go_wp2_with (go_at_call 45; refine HI.out.mono ?_; rintro e w2 ⟨z, rfl, hz, rfl⟩)
  go_ret
  exact ⟨by simp [← hz], rfl⟩

set_option maxHeartbeats 800000 in
theorem bad_any {g h all keys : Nat} {i : Ins} (w : World) (hc : w.cell? ⟨g, 0, none⟩ = some (.int .i64 (all : Int))) (hk : w.cell? ⟨h, 0, none⟩ = some (.int .i64 (keys : Int))) (hp : i.p < 256) (hA : BytesAt w i.aa i.A) (hl : i.A.length ≤ lenMax) :
    Calls Try.prog 33 #[i.val, .pointer (some ⟨g, 0, none⟩), .pointer (some ⟨h, 0, none⟩)] w fun e w' => e = .returned (.bool (i.bad keys all)) ∧ Below w.heap.size w w' := by
  have hct := fun w1 (hB : Below w.heap.size w w1) => contains35 (c := i.ac) w1 (Below.keepCell hB (Nat.le_refl _) hc) (hA.keep hB) hl
  unfold Ins.bad
  obtain ⟨p, hpp⟩ : ∃ p, i.p = p := ⟨_, rfl⟩
  rw [hpp] at hp ⊢
  have HP := Lib.hid hpp
  have HK := Lib.hid hk
  have HCT := Lib.hid hct
  clear hpp hc hk hA hl hct
  generalize i.A.any (beyond all) = r at *
  have hk := HK.out
  go_enter Try.func33, Try.ntmps33
  have mk : ∀ b w1, Below w.heap.size w w1 → w1.heap[b]? = some (.cells i.cells 47) → w1.cell? ⟨b, 0, none⟩ = some (.int .u8 (p : Int)) ∧ w1.cell? ⟨b, 1, none⟩ = some (.slice i.aa i.A.length i.ac) ∧ w1.cell? ⟨h, 0, none⟩ = some (.int .i64 (keys : Int)) := fun b w1 hB hb => by
    have hh := insCells (RowAt.of_cells hb)
    simp only [Nat.zero_add] at hh
    rw [HP.out] at hh
    exact ⟨hh.1, hh.2.1, Below.keepCell hB (Nat.le_refl _) HK.out⟩
  have MK := Lib.hid mk
  clear mk hk
  by_cases h0 : p = 0
  · subst h0
    go_wp2_with ((with_reducible refine wl_box47 (i := i) ?_ ?_); (exact rfl); intro b w1 hb hle hB; obtain ⟨k0, k1, k2⟩ := MK.out _ _ hB hb; clear hb)
    go_ret
    exact ⟨by simp, hB⟩
  · have h0' : ¬ (p : Int) = 0 := by omega
    by_cases h1 : keys ≤ p
    · have h1' : (keys : Int) ≤ (p : Int) := by omega
      go_wp2_with ((with_reducible refine wl_box47 (i := i) ?_ ?_); (exact rfl); intro b w1 hb hle hB; obtain ⟨k0, k1, k2⟩ := MK.out _ _ hB hb; clear hb)
      go_ret
      exact ⟨by simp [h1], hB⟩
    · have h1' : ¬ (keys : Int) ≤ (p : Int) := by omega
      go_wp2_with (first
        | ((with_reducible refine wl_box47 (i := i) ?_ ?_); (exact rfl); intro b w1 hb hle hB; obtain ⟨k0, k1, k2⟩ := MK.out _ _ hB hb; clear hb)
        | (go_at_call 35; refine (HCT.out _ hB).mono ?_; rintro e w2 ⟨rfl, rfl⟩))
      go_ret
      exact ⟨by simp [h0, h1], hB⟩

set_option maxHeartbeats 800000 in
theorem index44 {X : Tx} {g h all keys : Nat} (w : World) (hT : TxAt w X) (hc : w.cell? ⟨g, 0, none⟩ = some (.int .i64 (all : Int))) (hk : w.cell? ⟨h, 0, none⟩ = some (.int .i64 (keys : Int))) :
    Calls Try.prog 44 #[.slice X.ia X.I.length X.ic, .func (.func 33) #[] #[.pointer (some ⟨g, 0, none⟩), .pointer (some ⟨h, 0, none⟩)]] w fun e w' => ∃ r : Int, e = .returned (.int .i64 r) ∧ (decide (0 ≤ r) = X.I.any (Ins.bad keys all)) ∧ Below w.heap.size w w' := by
  have hll := hT.il
  unfold lenMax at hll
  obtain ⟨n, hn⟩ : ∃ n, X.I.length = n := ⟨_, rfl⟩
  obtain ⟨la, hla⟩ : ∃ la, X.ia = la := ⟨_, rfl⟩
  obtain ⟨L, hL⟩ : ∃ L, X.I = L := ⟨_, rfl⟩
  have hat := fun (j : Nat) (l : Ins) hj => hT.insAt (j := j) (i := l) hj
  have hok := hT.insOk
  rw [hL] at hn hat hok ⊢
  rw [hn] at ⊢
  rw [hL, hn] at hll
  rw [hla] at hat ⊢
  have HN := Lib.hid hn
  have HAT := Lib.hid hat
  have HOK := Lib.hid hok
  have HC := Lib.hid hc
  have HK := Lib.hid hk
  clear hT hn hat hok hL hla hc hk
  go_enter Try.func44, Try.ntmps44
  go_wp2
  go_loopw [5, 8] (fun v5 v8 wr => ∃ i : Nat, i ≤ n ∧ v8 = .int .i64 i ∧ (L.take i).any (Ins.bad keys all) = false ∧ Below w.heap.size w wr) (fun _ v8 _ => n - (intOf v8).toNat)
  case atStart => exact ⟨0, Nat.zero_le _, rfl, by simp, Below.refl _ _⟩
  case round =>
    obtain ⟨i, hi, rfl, hno, hB⟩ := hrel
    by_cases hlt : i < n
    · have hlt' : (i : Int) < (n : Int) := by omega
      obtain ⟨l, hl⟩ : ∃ l, L[i]? = some l := ⟨L[i]'(by rw [HN.out]; exact hlt), List.getElem?_eq_getElem _⟩
      obtain ⟨b2, off, rfl, hrow⟩ := HAT.out i l hl
      obtain ⟨hp, hal, hdl, hby⟩ := HOK.out l (List.mem_of_getElem? hl)
      have hr2 := Lib.hid (Below.row hB hrow hrow.lt)
      have hv := bad_any wr (Below.keepCell hB (Nat.le_refl _) HC.out) (Below.keepCell hB (Nat.le_refl _) HK.out) hp (hby.keep hB) hal
      have HNEXT : Hid (l.bad keys all = false → (L.take (i + 1)).any (Ins.bad keys all) = false) := Lib.hid fun h => by
        obtain ⟨hi', e⟩ := List.getElem?_eq_some_iff.1 hl
        rw [List.take_succ_eq_append_getElem hi', List.any_append, hno, e]
        simp [h]
      have HHIT : Hid (l.bad keys all = true → L.any (Ins.bad keys all) = true) := Lib.hid fun h => List.any_eq_true.2 ⟨l, List.mem_of_getElem? hl, h⟩
      have HBW := Lib.hid hB
      clear hrow hl hB hno hp hal hdl hby
      cases hlv : l.bad keys all with
      | true =>
        rw [hlv] at hv
        have HV := Lib.hid hv
        have HH := Lib.hid (HHIT.out hlv)
        clear hv hlv HHIT HNEXT
        go_wp2_with (first
          | ((with_reducible refine wl_load47 (i := l) ?_ hr2.out ?_); (exact rfl))
          | (go_at_call 33; refine HV.out.mono ?_; rintro e w2 ⟨rfl, hB2⟩))
        go_ret
        refine ⟨_, rfl, ?_, HBW.out.trans (hB2.mono HBW.out.size)⟩
        rw [HH.out]
        simp
      | false =>
        rw [hlv] at hv
        have HV := Lib.hid hv
        have HH := Lib.hid (HNEXT.out hlv)
        clear hv hlv HHIT HNEXT
        go_wp2_with (first
          | ((with_reducible refine wl_load47 (i := l) ?_ hr2.out ?_); (exact rfl))
          | (go_at_call 33; refine HV.out.mono ?_; rintro e w2 ⟨rfl, hB2⟩))
        go_roundw
        case rel => exact ⟨i + 1, by omega, by go_num, HH.out, HBW.out.trans (hB2.mono HBW.out.size)⟩
        case measure => simp [intOf]; omega
    · obtain rfl : i = n := by omega
      have hlt' : ¬ (i : Int) < (i : Int) := by omega
      have e : L.take i = L := by rw [← HN.out, List.take_length]
      rw [e] at hno
      go_wp2
      go_ret
      exact ⟨-1, rfl, by decide, hB⟩

set_option maxHeartbeats 800000 in
theorem contains32 {X : Tx} {g h all keys : Nat} (w : World) (hT : TxAt w X) (hc : w.cell? ⟨g, 0, none⟩ = some (.int .i64 (all : Int))) (hk : w.cell? ⟨h, 0, none⟩ = some (.int .i64 (keys : Int))) :
    Calls Try.prog 32 #[.slice X.ia X.I.length X.ic, .func (.func 33) #[] #[.pointer (some ⟨g, 0, none⟩), .pointer (some ⟨h, 0, none⟩)]] w fun e w' => e = .returned (.bool (X.I.any (Ins.bad keys all))) ∧ Below w.heap.size w w' := by
  have hi := index44 w hT hc hk
  generalize X.I.any (Ins.bad keys all) = r at *
  have HI := Lib.hid hi
  clear hT hi hc hk
  generalize X.ia = la at *
  generalize X.I.length = n at *
  go_enter Try.func32, Try.ntmps32
  go_wp2_with (go_at_call 44; refine HI.out.mono ?_; rintro e w2 ⟨z, rfl, hz, hB2⟩)
  go_ret
  exact ⟨by simp [← hz], hB2⟩
end Go.Proofs.Ytgjijoielfpmkaa
