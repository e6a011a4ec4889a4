/- SpeedsBest: the walk where one may be picked. -/
import Derived.Test.YtkmgfaohppkglaaDoorFl
set_option linter.unusedVariables false
namespace Go.Proofs.YtkmgfaohppkglaaDoor
open Go.RowKit

set_option maxRecDepth 20000 in
set_option maxHeartbeats 3200000 in
theorem best_some {mask c r : Nat} {ao : Option Addr} {F : List Nat} (w : World) (ht : TabAt w) (hm : mask < 18446744073709551616) (hr : r < 256) (hF : FloatsAt w ao F) (hlen : F.length ≤ 80) (hok : (pickTo mask F 64).2 = true) :
    Calls Tryd.prog 7 #[.int .u64 (mask : Int), .slice ao F.length c, .int .u8 (r : Int)] w fun e w' => e = .returned (.bool true) ∧ Below w.heap.size w w' := by
  obtain ⟨len, hl⟩ : ∃ len, F.length = len := ⟨_, rfl⟩
  obtain ⟨q, hq⟩ : ∃ q, r % 64 = q := ⟨_, rfl⟩
  have hq64 : q < 64 := by omega
  have hqi : (r : Int).tmod 64 = (q : Int) := by rw [← hq]; rfl
  have hqi2 : (r : Int) % 64 = (q : Int) := by omega
  have HON : Hid (mask.testBit q = true → (pickTo (mask ^^^ 2 ^ q) F 64).2 = true → (pickTo mask F 64).1 ≠ q → (pickTo (mask ^^^ 2 ^ q) F 64).1 = (pickTo mask F 64).1) := Lib.hid fun h h2 h3 => best_on h hok h2 h3
  have HOFF : Hid (mask.testBit q = false → (pickTo (mask ^^^ 2 ^ q) F 64).2 = true → (pickTo (mask ^^^ 2 ^ q) F 64).1 ≠ q → (pickTo (mask ^^^ 2 ^ q) F 64).1 = (pickTo mask F 64).1) := Lib.hid fun h h2 h3 => best_off h hok h2 h3
  have HANY : Hid (anyTo mask F (min 64 len) = true) := Lib.hid (by rw [← hl, anyTo_pick, hok])
  rw [hl] at hlen ⊢
  have hlen' : ¬ (len : Int) > 80 := by omega
  have hp := pick_any (cap := c) w hm ht ht.lt hF
  obtain ⟨s1, s2, s3, s4⟩ := (pickTo_spec mask F 64).2 hok
  rw [hok, hl] at hp
  obtain ⟨n, hn⟩ : ∃ n, (pickTo mask F 64).1 = n := ⟨_, rfl⟩
  rw [hn] at s1 s2 s3 s4 hp HON HOFF
  have HS3 := Lib.hid s3
  have HS4 := Lib.hid s4
  have hnl : n < len := by
    unfold may at s2
    simp only [Bool.and_eq_true, decide_eq_true_eq] at s2
    omega
  have hnb : mask.testBit n = true := by
    unfold may at s2
    simp only [Bool.and_eq_true] at s2
    exact s2.2
  have hx : mask ^^^ 2 ^ q < 18446744073709551616 := Nat.xor_lt_two_pow (n := 64) hm (Nat.pow_lt_pow_right (by decide) hq64)
  have HX := Lib.hid hx
  have h2 : 2 ^ q < 18446744073709551616 := Nat.pow_lt_pow_right (n := 64) (by decide) hq64
  have hw := wrap_pow hq64
  have hxor := u64_xor_nat mask (2 ^ q) hm h2
  rw [← hw] at hxor
  have HXOR := Lib.hid hxor
  have hand := and_pow hm hq64
  rw [← hw] at hand
  have HAND := Lib.hid hand
  have hzn := shr_and_one (n := n) hm
  rw [hnb] at hzn
  have HZN := Lib.hid hzn
  have HL := Lib.hid hl
  have HF := Lib.hid hF
  have hn0 : ¬ (n : Int) < 0 := by omega
  have hnl2 : ¬ (n : Int) ≥ (len : Int) := by omega
  clear hl hF hx hxor h2 hok hw hand hn hzn s2 s3 s4 hnb
  go_enter Tryd.func7, Tryd.ntmps7
  go_wp2_with fail
  refine hp.mono ?_
  rintro e w1 ⟨rfl, hB1⟩
  clear hp
  go_wp2_with fail
  have HF1 := Lib.hid (HF.out.keep hB1)
  have HB1 := Lib.hid hB1
  have HT := Lib.hid ht
  clear hB1 ht
  go_loopw [9, 10] (fun v9 v10 wr => ∃ i : Nat, i ≤ min 64 len ∧ v10 = .int .i64 i ∧ v9 = .bool (anyTo mask F i) ∧ Dr w1 wr) (fun _ v10 _ => min 64 len - (intOf v10).toNat)
  case atStart => exact ⟨0, Nat.zero_le _, rfl, rfl, Dr.refl _⟩
  case round =>
    obtain ⟨i, hi, rfl, rfl, hD⟩ := hrel
    by_cases hlt : i < min 64 len
    · have k1 : (i : Int) < 64 := by omega
      have k2 : (i : Int) < (len : Int) := by omega
      have hz := shr_and_one (n := i) hm
      have HA : Hid (anyTo mask F (i + 1) = (anyTo mask F i || may mask F i)) := Lib.hid rfl
      have HI : Hid (may mask F i = mask.testBit i) := Lib.hid (by unfold may; rw [HL.out, decide_eq_true (by omega), Bool.true_and])
      cases hbit : mask.testBit i with
      | false =>
        have HA2 : Hid (anyTo mask F (i + 1) = anyTo mask F i) := Lib.hid (by rw [HA.out, HI.out, hbit, Bool.or_false])
        rw [hbit] at hz
        clear hbit
        go_wp2
        go_roundw
        case rel => exact ⟨i + 1, by omega, by go_num, by rw [HA2.out], hD⟩
        case measure => simp [intOf]; omega
      | true =>
        have HA2 : Hid (anyTo mask F (i + 1) = true) := Lib.hid (by rw [HA.out, HI.out, hbit, Bool.or_true])
        have hsh1 := HS3.out i (by omega) (by rw [HI.out, hbit])
        have hsh2 := fun h => HS4.out i h (by rw [HI.out, hbit])
        rw [hbit] at hz
        obtain ⟨b, off, rfl, hb, hc1⟩ := HF1.out i (by rw [HL.out]; omega)
        obtain ⟨b2, off2, e2, hb2, hc2⟩ := HF1.out n (by rw [HL.out]; omega)
        simp only [Option.some.injEq, Addr.mk.injEq, and_true] at e2
        obtain ⟨rfl, rfl⟩ := e2
        rw [← hD.cell] at hc1 hc2
        generalize F.getD i 0 = x at hc1 hsh1 hsh2
        generalize F.getD n 0 = y at hc2 hsh1 hsh2
        have hs1 : ∀ m, Calls Tryd.prog 11 #[.float .f64 x, .float .f64 y] (wr.drewN m) fun e w' => e = .returned (.bool false) ∧ ∃ m, w' = wr.drewN m := fun m =>
          (shorter_any x y _).mono fun e w' ⟨h1, h2⟩ => ⟨by rw [h1, hsh1], m, h2.symm⟩
        have HS1 := Lib.hid hs1
        clear hs1 hsh1 hbit hb hb2
        by_cases hin : i < n
        · have hin' : decide (i < n) = true := decide_eq_true hin
          have hs2 : ∀ m, Calls Tryd.prog 11 #[.float .f64 y, .float .f64 x] (wr.drewN m) fun e w' => e = .returned (.bool true) ∧ ∃ m, w' = wr.drewN m := fun m =>
            (shorter_any y x _).mono fun e w' ⟨h1, h2⟩ => ⟨by rw [h1, hsh2 hin], m, h2.symm⟩
          have HS2 := Lib.hid hs2
          clear hs2 hsh2
          have g1 : decide ((n : Int) < 0) = false := decide_eq_false (by omega)
          have g4 : decide (len ≤ n) = false := decide_eq_false (by omega)
          go_wp2
          refine wp_region_quiet_lit (by kernel_rfl) (by kernel_rfl) ?_
          repeat go_big_quiet_step ((go_at_call 11; first | with_reducible exact HS1.out _ | with_reducible exact HS2.out _))
          refine wpQuiet_nil ?_
          intro wz hwz
          have hD2 := hD.more hwz
          clear hwz hD hc1 hc2
          go_wp2
          go_roundw
          case rel => exact ⟨i + 1, by omega, by go_num, by rw [HA2.out], hD2⟩
          case measure => simp [intOf]; omega
        · have hin' : decide (i < n) = false := decide_eq_false hin
          clear hsh2
          have g1 : decide ((n : Int) < 0) = false := decide_eq_false (by omega)
          have g4 : decide (len ≤ n) = false := decide_eq_false (by omega)
          go_wp2
          refine wp_region_quiet_lit (by kernel_rfl) (by kernel_rfl) ?_
          repeat go_big_quiet_step ((go_at_call 11; exact HS1.out _))
          refine wpQuiet_nil ?_
          intro wz hwz
          have hD2 := hD.more hwz
          clear hwz hD hc1 hc2
          go_wp2
          go_roundw
          case rel => exact ⟨i + 1, by omega, by go_num, by rw [HA2.out], hD2⟩
          case measure => simp [intOf]; omega
    · obtain rfl : i = min 64 len := by omega
      have hg : ¬ ((min 64 len : Nat) : Int) < 64 ∨ (((min 64 len : Nat) : Int) < 64 ∧ ¬ ((min 64 len : Nat) : Int) < (len : Int)) := by omega
      have hzn := HZN.out
      have hany := HANY.out
      have hb1 := HB1.out.trans (hD.below w.heap.size)
      have ht1 := HT.out.keep hb1 HT.out.lt
      have hF1 := HF.out.keep hb1
      have hp := pick_any (cap := c) wr HX.out ht1 ht1.lt hF1
      rw [← HXOR.out, HL.out] at hp
      have HON2 := HON.out
      have HOFF2 := HOFF.out
      generalize pickTo (mask ^^^ 2 ^ q) F 64 = s at hp HON2 HOFF2
      obtain ⟨m, still⟩ := s
      simp only at HON2 HOFF2
      have HON3 := Lib.hid HON2
      have HOFF3 := Lib.hid HOFF2
      have HB := Lib.hid hb1
      have HT1 := Lib.hid ht1
      clear hb1 ht1 hF1 hlt HON HOFF HON2 HOFF2
      generalize min 64 len = mn at *
      rw [hany]
      rcases hg with hg | ⟨hg, hg2⟩
      all_goals
        go_wp2_with fail
        refine hp.mono ?_
        rintro e w2 ⟨rfl, hB2⟩
        have hB := HB.out.trans (hB2.mono HB.out.size)
        have ht2 := HT1.out.keep hB2 HT1.out.lt
        have hl := lives_any w2 ht2 ht2.lt
        have hand := HAND.out
        have HB3 := Lib.hid hB
        have HLV := Lib.hid hl
        clear hp hB2 HB HT1 ht2 hB hl
        cases still with
        | false =>
          go_wp2_with fail
          refine HLV.out.mono ?_
          rintro e w3 ⟨rfl, hb⟩
          go_wp2
          go_ret
          exact ⟨rfl, HB3.out.trans (hb.mono HB3.out.size)⟩
        | true =>
          cases hbq : mask.testBit q with
          | true =>
            have h3 := HON3.out hbq rfl
            rw [hbq] at hand
            have hand2 : ¬ bits .and .u64 (mask : Int) (IntKind.u64.wrap (2 ^ q)) = 0 := by simpa using hand
            clear hand
            by_cases hnq : n = q
            · have hnq' : (n : Int) = (q : Int) := by omega
              clear h3 hbq
              go_wp2_with fail
              refine HLV.out.mono ?_
              rintro e w3 ⟨rfl, hb⟩
              go_wp2
              go_ret
              exact ⟨rfl, HB3.out.trans (hb.mono HB3.out.size)⟩
            · obtain rfl := h3 hnq
              clear h3 hbq
              go_wp2_with fail
              refine HLV.out.mono ?_
              rintro e w3 ⟨rfl, hb⟩
              go_wp2
              go_ret
              exact ⟨rfl, HB3.out.trans (hb.mono HB3.out.size)⟩
          | false =>
            have h3 := HOFF3.out hbq rfl
            rw [hbq] at hand
            have hand2 : bits .and .u64 (mask : Int) (IntKind.u64.wrap (2 ^ q)) = 0 := by simpa using hand
            clear hand
            by_cases hmq : m = n
            · subst hmq
              clear h3 hbq
              go_wp2_with fail
              refine HLV.out.mono ?_
              rintro e w3 ⟨rfl, hb⟩
              go_wp2
              go_ret
              exact ⟨rfl, HB3.out.trans (hb.mono HB3.out.size)⟩
            · have hmq2 : m = q := Classical.byContradiction fun h => hmq (h3 h)
              clear h3 hbq
              go_wp2_with fail
              refine HLV.out.mono ?_
              rintro e w3 ⟨rfl, hb⟩
              go_wp2
              go_ret
              exact ⟨rfl, HB3.out.trans (hb.mono HB3.out.size)⟩
end Go.Proofs.YtkmgfaohppkglaaDoor
