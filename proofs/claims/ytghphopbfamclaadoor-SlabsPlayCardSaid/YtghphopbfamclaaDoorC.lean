/- What a number has: Get, Len, of a slab in memory. -/
import Derived.Test.YtghphopbfamclaaDoorB
namespace Go.Proofs.YtghphopbfamclaaDoor
open Go.RowKit

/-- Has a slab this number? -/
def hasN (room : Nat) (ws : List Nat) (n : Int) : Bool := decide (0 ≤ n) && decide (n < room) && bitOf ws n.toNat

theorem hasN_nat {room n : Nat} {ws : List Nat} : hasN room ws (n : Int) = (decide (n < room) && bitOf ws n) := by
  simp [hasN]

theorem has_any {p bt bu room many : Nat} {ws X : List Nat} (n : Int) (w : World) (hs : SlabIn w p bt bu room ws X many) :
    Calls Tryd.prog 28 #[.pointer (some ⟨p, 0, none⟩), .int .i64 n] w fun e w' => e = .returned (.int .i64 (if hasN room ws n then 0 else 11)) ∧ w = w' := by
  by_cases h1 : n < 0
  · have : hasN room ws n = false := by simp [hasN]; omega
    rw [this]; exact has_neg w hs h1
  · by_cases h2 : (room : Int) ≤ n
    · have : hasN room ws n = false := by simp [hasN]; omega
      rw [this]; exact has_above w hs h2
    · obtain ⟨m, rfl⟩ : ∃ m : Nat, n = m := ⟨n.toNat, by omega⟩
      have hm : m < room := by omega
      rw [hasN_nat, decide_eq_true hm, Bool.true_and]
      exact has_in w hs hm

set_option maxHeartbeats 400000 in
theorem get_nil (n : Int) (w : World) : Calls Tryd.prog 8 #[.pointer none, .int .i64 n] w fun e w' => e = .returned (.tuple #[.int .u64 0, .int .i64 2]) ∧ w = w' := by
  go_enter Tryd.func8, Tryd.ntmps8
  go_wp2_with fail
  refine (has_nil n w).mono ?_
  rintro e w1 ⟨rfl, rfl⟩
  go_wp2
  go_ret2
  exact ⟨rfl, rfl⟩

set_option maxHeartbeats 400000 in
theorem get_void (p : Nat) (n : Int) (w : World) (hv : VoidAt w p) : Calls Tryd.prog 8 #[.pointer (some ⟨p, 0, none⟩), .int .i64 n] w fun e w' => e = .returned (.tuple #[.int .u64 0, .int .i64 2]) ∧ w = w' := by
  go_enter Tryd.func8, Tryd.ntmps8
  go_wp2_with fail
  refine (has_void p n w hv).mono ?_
  rintro e w1 ⟨rfl, rfl⟩
  go_wp2
  go_ret2
  exact ⟨rfl, rfl⟩

set_option maxHeartbeats 400000 in
theorem get_none {p bt bu room many : Nat} {ws X : List Nat} (n : Int) (w : World) (hs : SlabIn w p bt bu room ws X many) (hn : hasN room ws n = false) :
    Calls Tryd.prog 8 #[.pointer (some ⟨p, 0, none⟩), .int .i64 n] w fun e w' => e = .returned (.tuple #[.int .u64 0, .int .i64 11]) ∧ w = w' := by
  go_enter Tryd.func8, Tryd.ntmps8
  go_wp2_with fail
  refine (has_any n w hs).mono ?_
  rw [hn]
  rintro e w1 ⟨rfl, rfl⟩
  go_wp2
  go_ret2
  exact ⟨rfl, rfl⟩

theorem hasN_true {room : Nat} {ws : List Nat} {n : Int} (h : hasN room ws n = true) : ∃ m : Nat, n = m ∧ m < room ∧ bitOf ws m = true := by
  simp [hasN] at h
  exact ⟨n.toNat, by omega, by omega, h.2⟩

set_option maxHeartbeats 400000 in
theorem get_some {p bt bu room many n : Nat} {ws X : List Nat} (w : World) (hs : SlabIn w p bt bu room ws X many) (hn : hasN room ws (n : Int) = true) :
    Calls Tryd.prog 8 #[.pointer (some ⟨p, 0, none⟩), .int .i64 (n : Int)] w fun e w' => e = .returned (.tuple #[.int .u64 ((X.getD n 0 : Nat) : Int), .int .i64 0]) ∧ w = w' := by
  obtain ⟨m, h1, h2, h3⟩ := hasN_true hn
  obtain rfl : n = m := by omega
  have h0 := hs.cell0
  have hc := ncells_at hs.things (j := n) (by rw [hs.lenX]; exact h2)
  have hr := hs.most
  go_enter Tryd.func8, Tryd.ntmps8
  go_wp2_with fail
  refine (has_any n w hs).mono ?_
  rw [hn]
  rintro e w1 ⟨rfl, rfl⟩
  go_wp2
  go_ret2
  exact ⟨rfl, rfl⟩

theorem len_nil (w : World) : Calls Tryd.prog 11 #[.pointer none] w fun e w' => e = .returned (.int .i64 0) ∧ w = w' := by
  go_enter Tryd.func11, Tryd.ntmps11
  go_wp2
  go_ret
  exact ⟨rfl, rfl⟩

theorem len_void (p : Nat) (w : World) (hv : VoidAt w p) : Calls Tryd.prog 11 #[.pointer (some ⟨p, 0, none⟩)] w fun e w' => e = .returned (.int .i64 0) ∧ w = w' := by
  have h2 := hv.cell2
  go_enter Tryd.func11, Tryd.ntmps11
  go_wp2
  go_ret
  exact ⟨rfl, rfl⟩

theorem len_any {p bt bu room many : Nat} {ws X : List Nat} (w : World) (hs : SlabIn w p bt bu room ws X many) : Calls Tryd.prog 11 #[.pointer (some ⟨p, 0, none⟩)] w fun e w' => e = .returned (.int .i64 (many : Int)) ∧ w = w' := by
  have h2 := hs.cell2
  go_enter Tryd.func11, Tryd.ntmps11
  go_wp2
  go_ret
  exact ⟨rfl, rfl⟩

end Go.Proofs.YtghphopbfamclaaDoor
