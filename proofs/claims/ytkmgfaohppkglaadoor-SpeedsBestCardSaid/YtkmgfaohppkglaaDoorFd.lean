/- Pick: the set bits of a mask, one by one; the law of a range over them. -/
import Derived.Test.YtkmgfaohppkglaaDoorFc
namespace Go.Proofs.YtkmgfaohppkglaaDoor
open Go.RowKit
attribute [local go_sem] Oper.semAt_some

theorem set_any (mask : Int) (w : World) : Calls Tryd.prog 20 #[.int .u64 mask] w fun e w' => e = .returned (.func (.func 23) #[] #[.pointer (some ⟨w.heap.size, 0, none⟩)]) ∧ w' = w.alloc (.cells #[.int .u64 mask] 22) := by
  go_enter Tryd.func20, Tryd.ntmps20
  go_wp2
  go_ret
  exact ⟨rfl, rfl⟩

/-- A cell alone in its block. -/
theorem one_cell {w : World} {b : Nat} {v : Value} {t : TypeId} (h : w.heap[b]? = some (.cells #[v] t)) : w.cell? ⟨b, 0, none⟩ = some v := by
  simp only [World.cell?, h]; rfl
theorem one_free {w : World} {b : Nat} {v : Value} {t : TypeId} (h : w.heap[b]? = some (.cells #[v] t)) : w.frozen? ⟨b, 0, none⟩ = false := by
  simp [World.frozen?, h]
theorem one_set {w : World} {b : Nat} {v : Value} {t : TypeId} (h : w.heap[b]? = some (.cells #[v] t)) (u : Value) : (w.setCell ⟨b, 0, none⟩ u).heap[b]? = some (.cells #[u] t) :=
  heap_setCell_same w b 0 #[v] t u h

/-- What a block of one number holds. -/
def boxVal (w : World) (b : Nat) : Nat := match w.heap[b]? with
  | some (.cells C _ _) => (intOf (C.getD 0 undef)).toNat
  | _ => 0
theorem boxVal_of {w : World} {b : Nat} {x : Int} {t : TypeId} (h : w.heap[b]? = some (.cells #[.int .u64 x] t)) : boxVal w b = x.toNat := by
  unfold boxVal; rw [h]; rfl

theorem skip_to {mask : Nat} {J : Nat → World → Prop} {W : World} (hskip : ∀ c W, J c W → mask.testBit c = false → J (c + 1) W) {c : Nat} : ∀ d, (∀ j, c ≤ j → j < c + d → mask.testBit j = false) → J c W → J (c + d) W
  | 0, _, h => h
  | d + 1, hz, h => by
    rw [← Nat.add_assoc]
    exact hskip _ _ (skip_to hskip d (fun j h1 h2 => hz j h1 (by omega)) h) (hz _ (by omega) (by omega))

set_option maxHeartbeats 800000 in
/-- The function that hands over the set bits, called with a loop's rounds. -/
theorem bits_in {lp bM m : Nat} {mask : Nat} {J : Nat → World → Prop} (hm1 : 2 ≤ m) (hm : mask < 18446744073709551616)
    (hJM : ∀ c W v t u, J c W → W.heap[bM]? = some (.cells #[v] t) → J c (W.setCell ⟨bM, 0, none⟩ u)) (hJt : ∀ c W, J c W → TabAt W)
    (hY : ∀ c W, J c W → mask.testBit c = true → c < 64 → YieldAt Fence.wide (m - 1) Tryd.prog lp #[.int .i64 (c : Int)] W fun e W' => e = .returned (.bool true) ∧ J (c + 1) W' ∧ W'.heap[bM]? = W.heap[bM]?)
    (hskip : ∀ c W, J c W → mask.testBit c = false → J (c + 1) W) (W : World) (h0 : J 0 W) (hM : W.heap[bM]? = some (.cells #[.int .u64 (mask : Int)] 22)) :
    CallsIn Fence.wide m Tryd.prog 23 #[.func (.yield lp) #[] #[], .pointer (some ⟨bM, 0, none⟩)] W fun e W' => (∃ v, e = .returned v) ∧ J 64 W' := by
  refine callsIn_of_wp Tryd.func23 rfl trivial ?_ rfl
  simp only [Tryd.ntmps23, List.size_toArray, List.length_cons, List.length_nil, Nat.reduceAdd, Nat.reduceSub, Array.replicate_succ, Array.replicate_zero, List.push_toArray, List.append_toArray, List.nil_append, List.cons_append]
  gi_wp2
  gi_loopw [3] (fun _ wr => ∃ c x : Nat, c ≤ 64 ∧ x < 18446744073709551616 ∧ Hid (∀ j, j < 64 → x.testBit j = (decide (c ≤ j) && mask.testBit j)) ∧ J c wr ∧ Hid (wr.heap[bM]? = some (.cells #[.int .u64 (x : Int)] 22)))
    (fun _ wr => boxVal wr bM)
  case atStart => exact ⟨0, mask, by omega, hm, Lib.hid fun j _ => by simp, h0, Lib.hid hM⟩
  case round =>
    clear h0 hM
    obtain ⟨c, x, hc, hx, HB, hJ, HM⟩ := hrel
    have c1 := one_cell HM.out
    by_cases hx0 : x = 0
    · subst hx0
      have hJ64 : J 64 wr := by
        have := skip_to hskip (64 - c) (fun j h1 h2 => by
          have := HB.out j (by omega)
          rw [Nat.zero_testBit, decide_eq_true h1, Bool.true_and] at this
          exact this.symm) hJ
        rwa [show c + (64 - c) = 64 by omega] at this
      gi_wp2
      go_end0
      exact ⟨⟨_, rfl⟩, hJ64⟩
    · obtain ⟨k, hk, hl⟩ := low_exists (by omega : 0 < x) hx
      have hkm : c ≤ k ∧ mask.testBit k = true := by
        have := HB.out k hk
        rw [hl.set] at this
        simpa using this.symm
      have hJk : J k wr := by
        have := skip_to hskip (k - c) (fun j h1 h2 => by
          have := HB.out j (by omega)
          rw [hl.min j (by omega), decide_eq_true h1, Bool.true_and] at this
          exact this.symm) hJ
        rwa [show c + (k - c) = k by omega] at this
      have htz := tz_any hx hk hl wr (hJt _ _ hJ)
      obtain ⟨fn, tmps, assign, body, hy, hR⟩ := hY k wr hJk hkm.2 hk
      have hne : ((x : Int) == 0) = false := by simp; omega
      clear hJ
      gi_wp2_with fail
      refine ⟨trivial, fun _ => by omega, ?_⟩
      refine (callsIn_wide.2 htz).mono ?_
      rintro e w1 ⟨rfl, rfl⟩
      have hx1 : x - 1 < 18446744073709551616 := by omega
      have e1 : IntKind.u64.wrap ((x : Int) - 1) = ((x - 1 : Nat) : Int) := by rw [IntKind.wrap_u64]; omega
      have e3 : (x : Int) - 1 = ((x - 1 : Nat) : Int) := by omega
      have e2 : bits BinOp.and .u64 (x : Int) ((x - 1 : Nat) : Int) = ((x &&& (x - 1) : Nat) : Int) := u64_and_nat x (x - 1) hx hx1
      gi_wp2_with fail
      refine ⟨fun _ => by omega, ?_⟩
      refine hR.mono ?_
      rintro e w3 ⟨rfl, hJ3, hM3⟩
      have hM4 := hM3.trans HM.out
      have c3 := one_cell hM4
      have f3 := one_free hM4
      have HM4 := Lib.hid hM4
      have HR := Lib.hid (hJM _ _ _ _ (.int .u64 ((x &&& (x - 1) : Nat) : Int)) hJ3 hM4)
      clear hM3 hM4 hy hR htz hJk c1 hJ3
      gi_wp2_with fail
      go_roundw
      case rel =>
        refine ⟨k + 1, x &&& (x - 1), by omega, Nat.lt_of_le_of_lt Nat.and_le_left hx, Lib.hid fun j hj => ?_, HR.out, Lib.hid (one_set HM4.out _)⟩
        rw [hl.clear]
        by_cases h1 : j < k + 1
        · rw [decide_eq_false (by omega : ¬ k + 1 ≤ j), Bool.false_and]
          by_cases h2 : j = k
          · subst h2; simp
          · rw [hl.min j (by omega), Bool.false_and]
        · rw [HB.out j hj, decide_eq_true (by omega : c ≤ j), decide_eq_true (by omega : k + 1 ≤ j), decide_eq_true (by omega : j ≠ k)]
          simp
      case measure =>
        rw [boxVal_of (one_set HM4.out _), boxVal_of HM.out]
        have := Nat.lt_of_le_of_lt (Nat.and_le_right (n := x) (m := x - 1)) (by omega : x - 1 < x)
        omega

end Go.Proofs.YtkmgfaohppkglaaDoor
