/- Who is picked, plainly; the walk of the chapter's Pick. -/
import Derived.Test.YtkmgfaohppkglaaDoorFg
import Derived.Laws.ShiftsVarLaws
import Derived.Deep.CutRange
set_option linter.unusedVariables false
namespace Go.Proofs.YtkmgfaohppkglaaDoor
open Go.RowKit

theorem shorter_neg {a b c : Nat} (h : shorter a b = true) (k : shorter c b = false) : shorter a c = true := by
  rw [Bool.eq_false_iff, ne_eq, shorter_iff] at k
  rw [shorter_iff] at h ⊢
  refine ⟨h.1, ?_⟩
  cases hc : isNo c with
  | true => exact .inl rfl
  | false =>
    right
    rcases h.2 with h2 | h2
    · exact absurd ⟨hc, .inl h2⟩ k
    · have : ¬ (cls c < cls b ∨ cls c = cls b ∧ val c < val b) := fun e => k ⟨hc, .inr e⟩
      omega

/-- A worker that may be picked. -/
def may (mask : Nat) (F : List Nat) (n : Nat) : Bool := decide (n < F.length) && mask.testBit n

theorem pickTo_spec (mask : Nat) (F : List Nat) : ∀ c,
    ((pickTo mask F c).2 = false → (pickTo mask F c).1 = 0 ∧ ∀ k, k < c → may mask F k = false) ∧
    ((pickTo mask F c).2 = true → (pickTo mask F c).1 < c ∧ may mask F (pickTo mask F c).1 = true ∧ (∀ k, k < c → may mask F k = true → shorter (F.getD k 0) (F.getD (pickTo mask F c).1 0) = false) ∧
      ∀ k, k < (pickTo mask F c).1 → may mask F k = true → shorter (F.getD (pickTo mask F c).1 0) (F.getD k 0) = true)
  | 0 => ⟨fun _ => ⟨rfl, fun k hk => absurd hk (Nat.not_lt_zero _)⟩, fun h => by cases h⟩
  | c + 1 => by
    have ih := pickTo_spec mask F c
    by_cases hb : mask.testBit c = true
    · rw [pickTo_bit hb]
      generalize pickTo mask F c = s at ih
      obtain ⟨wk, ok⟩ := s
      unfold pstep
      by_cases hlt : c < F.length
      · have hmc : may mask F c = true := by unfold may; simp [hlt, hb]
        cases ok with
        | false =>
          rw [if_pos ⟨hlt, .inl rfl⟩]
          have h1 := (ih.1 rfl).2
          refine ⟨fun h => (by cases h), fun _ => ⟨Nat.lt_succ_self _, hmc, fun k hk hm => ?_, fun k hk hm => ?_⟩⟩
          · by_cases e : k = c
            · subst e; exact shorter_self _
            · rw [h1 k (by omega)] at hm; cases hm
          · have : k < c := hk
            rw [h1 k this] at hm; cases hm
        | true =>
          obtain ⟨q1, q2, q3, q4⟩ := ih.2 rfl
          simp only at q1 q2 q3 q4
          by_cases hs : shorter (F.getD c 0) (F.getD wk 0) = true
          · rw [if_pos ⟨hlt, .inr hs⟩]
            refine ⟨fun h => (by cases h), fun _ => ⟨Nat.lt_succ_self _, hmc, fun k hk hm => ?_, fun k hk hm => ?_⟩⟩
            · by_cases e : k = c
              · subst e; exact shorter_self _
              · cases hkc : shorter (F.getD k 0) (F.getD c 0) with
                | false => rfl
                | true =>
                  have := q3 k (by omega) hm
                  rw [shorter_trans hkc hs] at this
                  cases this
            · have hk' : k < c := hk
              exact shorter_neg hs (q3 k hk' hm)
          · rw [if_neg (fun hh => hh.2.elim (fun h => Bool.noConfusion h) hs)]
            refine ⟨fun h => (by cases h), fun _ => ⟨Nat.lt_succ_of_lt q1, q2, fun k hk hm => ?_, q4⟩⟩
            by_cases e : k = c
            · subst e; simpa using hs
            · exact q3 k (by omega) hm
      · rw [if_neg (fun hh => hlt hh.1)]
        have hmc : may mask F c = false := by unfold may; simp [hlt]
        refine ⟨fun h => ⟨(ih.1 h).1, fun k hk => ?_⟩, fun h => ⟨Nat.lt_succ_of_lt (ih.2 h).1, (ih.2 h).2.1, fun k hk hm => ?_, (ih.2 h).2.2.2⟩⟩
        · by_cases e : k = c
          · subst e; exact hmc
          · exact (ih.1 h).2 k (by omega)
        · by_cases e : k = c
          · subst e; rw [hmc] at hm; cases hm
          · exact (ih.2 h).2.2.1 k (by omega) hm
    · have hb' : mask.testBit c = false := by simpa using hb
      rw [pickTo_skip hb']
      have hmc : may mask F c = false := by unfold may; rw [hb', Bool.and_false]
      refine ⟨fun h => ⟨(ih.1 h).1, fun k hk => ?_⟩, fun h => ⟨Nat.lt_succ_of_lt (ih.2 h).1, (ih.2 h).2.1, fun k hk hm => ?_, (ih.2 h).2.2.2⟩⟩
      · by_cases e : k = c
        · subst e; exact hmc
        · exact (ih.1 h).2 k (by omega)
      · by_cases e : k = c
        · subst e; rw [hmc] at hm; cases hm
        · exact (ih.2 h).2.2.1 k (by omega) hm

/-- Nobody below k that may be picked has a shorter wait. -/
def firstTo (mask : Nat) (F : List Nat) (n : Nat) : Nat → Bool
  | 0 => true
  | k + 1 => firstTo mask F n k && !(may mask F k && shorter (F.getD k 0) (F.getD n 0))
/-- The first one below n than whom nobody has a shorter wait. -/
def bestTo (mask : Nat) (F : List Nat) : Nat → Int
  | 0 => -1
  | n + 1 => if bestTo mask F n < 0 ∧ may mask F n = true ∧ firstTo mask F n (min 64 F.length) = true then (n : Int) else bestTo mask F n

theorem firstTo_iff {mask : Nat} {F : List Nat} {n : Nat} : ∀ {k}, firstTo mask F n k = true ↔ ∀ j, j < k → may mask F j = true → shorter (F.getD j 0) (F.getD n 0) = false
  | 0 => ⟨fun _ j hj => absurd hj (Nat.not_lt_zero _), fun _ => rfl⟩
  | k + 1 => by
    unfold firstTo
    rw [Bool.and_eq_true, firstTo_iff]
    constructor
    · rintro ⟨h1, h2⟩ j hj hm
      by_cases e : j = k
      · subst e
        rw [hm] at h2
        simpa using h2
      · exact h1 j (by omega) hm
    · intro h
      refine ⟨fun j hj hm => h j (by omega) hm, ?_⟩
      cases hm : may mask F k with
      | false => rfl
      | true => rw [h k (Nat.lt_succ_self _) hm]; rfl

theorem bestTo_none {mask : Nat} {F : List Nat} : ∀ {n}, (∀ j, j < n → ¬ (may mask F j = true ∧ firstTo mask F j (min 64 F.length) = true)) → bestTo mask F n = -1
  | 0, _ => rfl
  | n + 1, h => by
    unfold bestTo
    have ih := bestTo_none (n := n) fun j hj => h j (by omega)
    rw [if_neg (fun hh => h n (Nat.lt_succ_self _) hh.2), ih]

theorem bestTo_some {mask : Nat} {F : List Nat} {m : Nat} (hm : may mask F m = true ∧ firstTo mask F m (min 64 F.length) = true) (hno : ∀ j, j < m → ¬ (may mask F j = true ∧ firstTo mask F j (min 64 F.length) = true)) : ∀ d, bestTo mask F (m + 1 + d) = m
  | 0 => by
    unfold bestTo
    rw [if_pos ⟨by rw [bestTo_none hno]; omega, hm⟩]
  | d + 1 => by
    show bestTo mask F (m + 1 + d + 1) = m
    unfold bestTo
    have ih := bestTo_some hm hno d
    rw [ih, if_neg (by omega)]

/-- The chapter's answer is the program's. -/
theorem best_pick (mask : Nat) (F : List Nat) : bestTo mask F (min 64 F.length) = if (pickTo mask F 64).2 then ((pickTo mask F 64).1 : Int) else -1 := by
  have h := pickTo_spec mask F 64
  have hin := pickTo_in mask F 64
  have hmay : ∀ k, may mask F k = true → k < F.length := fun k hk => by
    unfold may at hk
    simp at hk
    exact hk.1
  cases ho : (pickTo mask F 64).2 with
  | false =>
    rw [if_neg (by decide)]
    refine bestTo_none fun j hj hh => ?_
    have := (h.1 ho).2 j (by omega)
    rw [this] at hh
    cases hh.1
  | true =>
    rw [if_pos rfl]
    obtain ⟨q1, q2, q3, q4⟩ := h.2 ho
    have hlt := hin ho
    have e : min 64 F.length = (pickTo mask F 64).1 + 1 + (min 64 F.length - (pickTo mask F 64).1 - 1) := by omega
    rw [e]
    refine bestTo_some ⟨q2, ?_⟩ (fun j hj hh => ?_) _
    · exact firstTo_iff.2 fun j hj hm => q3 j (by omega) hm
    · have h1 := firstTo_iff.1 hh.2 _ (show (pickTo mask F 64).1 < min 64 F.length by omega) q2
      rw [q4 j hj hh.1] at h1
      cases h1

theorem bit_zero {x n : Nat} : (((x : Int) / 2 ^ n).tmod 2 == 0) = !x.testBit n := by
  have e1 : (x : Int) / 2 ^ n = ((x / 2 ^ n : Nat) : Int) := by push_cast; rfl
  rw [e1, Nat.testBit_eq_decide_div_mod_eq]
  generalize x / 2 ^ n = q
  rw [Int.tmod_eq_emod_of_nonneg (by omega)]
  rcases Nat.mod_two_eq_zero_or_one q with h | h
  · rw [h]; simp; omega
  · rw [h]; simp; omega
theorem bit_one {x n : Nat} : (((x : Int) / 2 ^ n).tmod 2 == 1) = x.testBit n := by
  have e1 : (x : Int) / 2 ^ n = ((x / 2 ^ n : Nat) : Int) := by push_cast; rfl
  rw [e1, Nat.testBit_eq_decide_div_mod_eq]
  generalize x / 2 ^ n = q
  rw [Int.tmod_eq_emod_of_nonneg (by omega)]
  rcases Nat.mod_two_eq_zero_or_one q with h | h
  · rw [h]; simp; omega
  · rw [h]; simp; omega

theorem drawn_cell {w w' : World} (h : ∃ n, w' = w.drewN n) (a : Addr) : w'.cell? a = w.cell? a := by
  obtain ⟨n, rfl⟩ := h; rfl

/-- Drawn answers alone. -/
structure Dr (w w' : World) : Prop where
  os : w'.os = w.os
  tape : w'.tape = w.tape
  output : w'.output = w.output
  heap : w'.heap = w.heap
theorem Dr.refl (w : World) : Dr w w := ⟨rfl, rfl, rfl, rfl⟩
theorem Dr.more {w w' w'' : World} (h : Dr w w') (k : ∃ n, w'' = w'.drewN n) : Dr w w'' := by
  obtain ⟨n, rfl⟩ := k
  exact ⟨h.os, h.tape, h.output, h.heap⟩
theorem Dr.cell {w w' : World} (h : Dr w w') (a : Addr) : w'.cell? a = w.cell? a := by simp only [World.cell?, h.heap]
theorem Dr.below {w w' : World} (h : Dr w w') (B : Nat) : Below B w w' := ⟨h.os, h.tape, h.output, by rw [h.heap]; exact Nat.le_refl _, fun k _ => by rw [h.heap]⟩

set_option maxRecDepth 20000 in
set_option maxHeartbeats 3200000 in
theorem rpick_any {mask : Nat} {ao : Option Addr} {F : List Nat} {cap : Nat} (w : World) (hm : mask < 18446744073709551616) (hF : FloatsAt w ao F) (hlen : F.length ≤ 100) :
    Calls Tryd.prog 15 #[.int .u64 (mask : Int), .slice ao F.length cap] w fun e w' => e = .returned (.tuple #[.int .i64 ((pickTo mask F 64).1 : Int), .bool (pickTo mask F 64).2]) ∧ Dr w w' := by
  obtain ⟨len, hl⟩ : ∃ len, F.length = len := ⟨_, rfl⟩
  obtain ⟨mn, hmn⟩ : ∃ mn, min 64 F.length = mn := ⟨_, rfl⟩
  have hmn1 : mn ≤ 64 := by omega
  have hmn2 : mn ≤ len := by omega
  have hmn3 : mn = 64 ∨ mn = len := by omega
  rw [hl] at hlen ⊢
  have HL := Lib.hid hl
  have HMN := Lib.hid hmn
  have HF := Lib.hid hF
  clear hl hF hmn
  go_enter Tryd.func15, Tryd.ntmps15
  go_wp2
  go_loopw [6, 7, 8, 9] (fun v6 v7 v8 v9 wr => ∃ n : Nat, n ≤ mn ∧ v7 = .int .i64 n ∧ v6 = .int .i64 (bestTo mask F n) ∧ Dr w wr) (fun _ v7 _ _ _ => mn - (intOf v7).toNat)
  case atStart => exact ⟨0, Nat.zero_le _, rfl, rfl, Dr.refl _⟩
  case round =>
    obtain ⟨n, hn, rfl, rfl, hD⟩ := hrel
    by_cases hlt : n < mn
    · have k1 : (n : Int) < 64 := by omega
      have k2 : (n : Int) < (len : Int) := by omega
      obtain ⟨b, off, rfl, hb, hcn⟩ := HF.out n (by rw [HL.out]; omega)
      rw [← hD.cell] at hcn
      have hz := @bit_zero mask n
      cases hbit : mask.testBit n with
      | false =>
        rw [hbit] at hz
        have HB : Hid (bestTo mask F (n + 1) = bestTo mask F n) := Lib.hid (by
          rw [bestTo, if_neg (fun hh => by have := hh.2.1; unfold may at this; rw [hbit, Bool.and_false] at this; cases this)])
        clear hbit
        go_wp2
        go_roundw
        case rel => exact ⟨n + 1, by omega, by go_num, by rw [HB.out], hD⟩
        case measure => simp [intOf]; omega
      | true =>
        rw [hbit] at hz
        have hmay : may mask F n = true := by
          have : n < F.length := by rw [HL.out]; omega
          unfold may; simp [this, hbit]
        have HMAY := Lib.hid hmay
        clear hbit hmay
        go_wp2
        go_loopw [8, 9] (fun v8 v9 wq => ∃ k : Nat, k ≤ mn ∧ v9 = .int .i64 k ∧ v8 = .bool (firstTo mask F n k) ∧ Dr w wq) (fun _ v9 _ => mn - (intOf v9).toNat)
        case atStart => exact ⟨0, Nat.zero_le _, rfl, rfl, hD⟩
        case round =>
          clear hD hcn
          obtain ⟨k, hk, rfl, rfl, hD⟩ := hrel
          by_cases hlk : k < mn
          · have j1 : (k : Int) < 64 := by omega
            have j2 : (k : Int) < (len : Int) := by omega
            obtain ⟨b2, off2, e2, hb2, hck⟩ := HF.out k (by rw [HL.out]; omega)
            obtain ⟨b3, off3, e3, hb3, hcn⟩ := HF.out n (by rw [HL.out]; omega)
            simp only [Option.some.injEq, Addr.mk.injEq, and_true] at e2 e3
            obtain ⟨rfl, rfl⟩ := e2
            obtain ⟨rfl, rfl⟩ := e3
            rw [← hD.cell] at hck hcn
            have ho := @bit_one mask k
            have HN : Hid (firstTo mask F n (k + 1) = (firstTo mask F n k && !(may mask F k && shorter (F.getD k 0) (F.getD n 0)))) := Lib.hid rfl
            have HK : Hid (k < F.length) := Lib.hid (by rw [HL.out]; omega)
            generalize F.getD k 0 = x at hck HN
            generalize F.getD n 0 = y at hcn HN
            cases hbk : mask.testBit k with
            | false =>
              rw [hbk] at ho
              have HN2 : Hid (firstTo mask F n (k + 1) = firstTo mask F n k) := Lib.hid (by rw [HN.out]; unfold may; rw [hbk]; simp)
              clear hbk hcn hck HN
              go_wp2
              refine wp_region_quiet_lit (by kernel_rfl) (by kernel_rfl) ?_
              repeat go_big_quiet_step (fail)
              refine wpQuiet_nil ?_
              intro wz hwz
              have hD2 := hD.more hwz
              clear hwz hD
              go_wp2
              go_roundw
              case rel => exact ⟨k + 1, by omega, by go_num, by rw [HN2.out], hD2⟩
              case measure => simp [intOf]; omega
            | true =>
              rw [hbk] at ho
              have HN2 : Hid (firstTo mask F n (k + 1) = (firstTo mask F n k && !shorter x y)) := Lib.hid (by
                rw [HN.out]; unfold may; rw [hbk, decide_eq_true HK.out]; simp)
              have hsc : ∀ m, Calls Tryd.prog 12 #[.float .f64 x, .float .f64 y] (wr.drewN m) fun e w' => e = .returned (.bool (shorter x y)) ∧ ∃ m, w' = wr.drewN m := fun m =>
                (rshorter_any x y _).mono fun e w' ⟨h1, h2⟩ => ⟨h1, m, h2.symm⟩
              clear hbk HN
              cases hsh : shorter x y with
              | true =>
                rw [hsh] at hsc HN2
                have HSC := Lib.hid hsc
                clear hsc hsh
                go_wp2
                refine wp_region_quiet_lit (by kernel_rfl) (by kernel_rfl) ?_
                repeat go_big_quiet_step ((go_at_call 12; exact HSC.out _))
                refine wpQuiet_nil ?_
                intro wz hwz
                have hD2 := hD.more hwz
                clear hwz hD hcn hck
                go_wp2
                go_roundw
                case rel => exact ⟨k + 1, by omega, by go_num, by rw [HN2.out]; simp, hD2⟩
                case measure => simp [intOf]; omega
              | false =>
                rw [hsh] at hsc HN2
                have HSC := Lib.hid hsc
                clear hsc hsh
                go_wp2
                refine wp_region_quiet_lit (by kernel_rfl) (by kernel_rfl) ?_
                repeat go_big_quiet_step ((go_at_call 12; exact HSC.out _))
                refine wpQuiet_nil ?_
                intro wz hwz
                have hD2 := hD.more hwz
                clear hwz hD hcn hck
                go_wp2
                go_roundw
                case rel => exact ⟨k + 1, by omega, by go_num, by rw [HN2.out]; simp, hD2⟩
                case measure => simp [intOf]; omega
          · obtain rfl : k = mn := by omega
            have hg : ¬ (k : Int) < 64 ∨ ((k : Int) < 64 ∧ ¬ (k : Int) < (len : Int)) := by omega
            have HB : Hid (bestTo mask F (n + 1) = if bestTo mask F n < 0 ∧ firstTo mask F n k = true then (n : Int) else bestTo mask F n) := Lib.hid (by
              rw [bestTo, HMN.out]
              simp only [HMAY.out, true_and])
            clear hlk
            generalize bestTo mask F n = bi at *
            generalize firstTo mask F n k = fi at *
            cases fi with
            | false =>
              have HB2 : Hid (bestTo mask F (n + 1) = bi) := Lib.hid (by rw [HB.out]; simp)
              clear HB
              rcases hg with hg | ⟨hg, hg2⟩
              all_goals
                go_wp2
                go_roundw
                case rel => exact ⟨n + 1, by omega, by go_num, by rw [HB2.out], hD⟩
                case measure => simp [intOf]; omega
            | true =>
              by_cases hbi : bi < 0
              · have HB2 : Hid (bestTo mask F (n + 1) = (n : Int)) := Lib.hid (by rw [HB.out, if_pos ⟨hbi, rfl⟩])
                clear HB
                rcases hg with hg | ⟨hg, hg2⟩
                all_goals
                  go_wp2
                  go_roundw
                  case rel => exact ⟨n + 1, by omega, by go_num, by rw [HB2.out], hD⟩
                  case measure => simp [intOf]; omega
              · have HB2 : Hid (bestTo mask F (n + 1) = bi) := Lib.hid (by rw [HB.out, if_neg (fun h => hbi h.1)])
                clear HB
                rcases hg with hg | ⟨hg, hg2⟩
                all_goals
                  go_wp2
                  go_roundw
                  case rel => exact ⟨n + 1, by omega, by go_num, by rw [HB2.out], hD⟩
                  case measure => simp [intOf]; omega
    · obtain rfl : n = mn := by omega
      have hg : ¬ (n : Int) < 64 ∨ ((n : Int) < 64 ∧ ¬ (n : Int) < (len : Int)) := by omega
      have hbp := best_pick mask F
      rw [HMN.out] at hbp
      have hsp := (pickTo_spec mask F 64).1
      rw [hbp]
      obtain ⟨s, hs⟩ : ∃ s, pickTo mask F 64 = s := ⟨_, rfl⟩
      rw [hs] at hbp hsp ⊢
      have HS := Lib.hid hs
      clear hs
      obtain ⟨wk, ok⟩ := s
      cases ok with
      | true =>
        simp only [if_true]
        clear hbp hsp hlt
        have hw0 : ¬ (wk : Int) < 0 := by omega
        rcases hg with hg | ⟨hg, hg2⟩
        all_goals
          go_wp2
          go_ret2
          rw [HS.out]
          exact ⟨rfl, hD⟩
      | false =>
        have h0 : wk = 0 := (hsp rfl).1
        subst h0
        simp only [Bool.false_eq_true, if_false]
        clear hbp hsp hlt
        rcases hg with hg | ⟨hg, hg2⟩
        all_goals
          go_wp2
          go_ret2
          rw [HS.out]
          exact ⟨rfl, hD⟩

end Go.Proofs.YtkmgfaohppkglaaDoor
