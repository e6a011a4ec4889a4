/- SpeedsBest: the walk. -/
import Derived.Test.YtkmgfaohppkglaaDoorFk
set_option linter.unusedVariables false
namespace Go.Proofs.YtkmgfaohppkglaaDoor
open Go.RowKit

theorem wrap_pow {q : Nat} (hq : q < 64) : IntKind.u64.wrap ((2 : Int) ^ q) = ((2 ^ q : Nat) : Int) := by
  have h2 : 2 ^ q < 2 ^ 64 := Nat.pow_lt_pow_right (by decide) hq
  have h1 : (((2 ^ q : Nat) : Int)) = 2 ^ q := by push_cast; rfl
  rw [← h1, IntKind.wrap_u64]
  generalize 2 ^ q = q at h2
  omega

set_option maxRecDepth 20000 in
set_option maxHeartbeats 1600000 in
theorem best_none {mask c r : Nat} {ao : Option Addr} {F : List Nat} (w : World) (ht : TabAt w) (hm : mask < 18446744073709551616) (hr : r < 256) (hF : FloatsAt w ao F) (hlen : F.length ≤ 80) (hno : (pickTo mask F 64).2 = false) :
    Calls Tryd.prog 7 #[.int .u64 (mask : Int), .slice ao F.length c, .int .u8 (r : Int)] w fun e w' => e = .returned (.bool true) ∧ Below w.heap.size w w' := by
  obtain ⟨len, hl⟩ : ∃ len, F.length = len := ⟨_, rfl⟩
  obtain ⟨q, hq⟩ : ∃ q, r % 64 = q := ⟨_, rfl⟩
  have hq64 : q < 64 := by omega
  have hqi : (r : Int).tmod 64 = (q : Int) := by rw [← hq]; rfl
  have hqi2 : (r : Int) % 64 = (q : Int) := by omega
  rw [hl] at hlen ⊢
  have hlen' : ¬ (len : Int) > 80 := by omega
  have hp := pick_any (cap := c) w hm ht ht.lt hF
  have hs := (pickTo_spec mask F 64).1 hno
  rw [hno, hs.1, hl] at hp
  have HNO : Hid (∀ k, k < 64 → may mask F k = false) := Lib.hid hs.2
  have hx : mask ^^^ 2 ^ q < 18446744073709551616 := Nat.xor_lt_two_pow (n := 64) hm (Nat.pow_lt_pow_right (by decide) hq64)
  have HX := Lib.hid hx
  have h2 : 2 ^ q < 18446744073709551616 := Nat.pow_lt_pow_right (n := 64) (by decide) hq64
  have hw := wrap_pow hq64
  have hxor := u64_xor_nat mask (2 ^ q) hm h2
  rw [← hw] at hxor
  have HXOR := Lib.hid hxor
  have HL := Lib.hid hl
  have HF := Lib.hid hF
  clear hl hF hs hx hxor h2 hno hw
  go_enter Tryd.func7, Tryd.ntmps7
  go_wp2_with fail
  refine hp.mono ?_
  rintro e w1 ⟨rfl, hB1⟩
  clear hp
  go_wp2_with fail
  go_loopw [9, 10] (fun v9 v10 wr => ∃ i : Nat, i ≤ min 64 len ∧ v10 = .int .i64 i ∧ v9 = .bool false ∧ wr = w1) (fun _ v10 _ => min 64 len - (intOf v10).toNat)
  case atStart => exact ⟨0, Nat.zero_le _, rfl, rfl, rfl⟩
  case round =>
    obtain ⟨i, hi, rfl, rfl, rfl⟩ := hrel
    by_cases hlt : i < min 64 len
    · have k1 : (i : Int) < 64 := by omega
      have k2 : (i : Int) < (len : Int) := by omega
      have hz := shr_and_one (n := i) hm
      have hbit : mask.testBit i = false := by
        have h := HNO.out i (by omega)
        unfold may at h
        rw [HL.out, decide_eq_true (by omega)] at h
        simpa using h
      rw [hbit] at hz
      clear hbit
      go_wp2
      go_roundw
      case rel => exact ⟨i + 1, by omega, by go_num, rfl, trivial⟩
      case measure => simp [intOf]; omega
    · have hg : ¬ (i : Int) < 64 ∨ ((i : Int) < 64 ∧ ¬ (i : Int) < (len : Int)) := by omega
      clear hlt
      rcases hg with hg | ⟨hg, hg2⟩
      all_goals
        have ht1 := ht.keep hB1 ht.lt
        have hF1 := HF.out.keep hB1
        have hp := pick_any (cap := c) wr HX.out ht1 ht1.lt hF1
        rw [← HXOR.out, HL.out] at hp
        generalize pickTo (mask ^^^ 2 ^ q) F 64 = s at hp
        obtain ⟨m, still⟩ := s
        have HB := Lib.hid hB1
        have HT := Lib.hid ht1
        clear hB1 ht1 hF1 ht
        go_wp2_with fail
        refine hp.mono ?_
        rintro e w2 ⟨rfl, hB2⟩
        have hB := HB.out.trans (hB2.mono HB.out.size)
        have ht2 := HT.out.keep hB2 HT.out.lt
        have hl := lives_any w2 ht2 ht2.lt
        clear hp hB2 HB HT ht2
        go_wp2_with fail
        refine hl.mono ?_
        rintro e w3 ⟨rfl, hb⟩
        clear hl
        go_wp2
        go_ret
        exact ⟨rfl, hB.trans (hb.mono hB.size)⟩
end Go.Proofs.YtkmgfaohppkglaaDoor
