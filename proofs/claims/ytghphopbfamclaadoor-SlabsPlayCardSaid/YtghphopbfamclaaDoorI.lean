/- sameNumbers. -/
import Derived.Test.YtghphopbfamclaaDoorH
namespace Go.Proofs.YtghphopbfamclaaDoor
open Go.RowKit

/-- The cells of a slice of ints, at an address that is there where there is a cell. -/
def CellsAt (w : World) (ao : Option Addr) (L : List Int) : Prop := ∀ j, j < L.length → ∃ b off, ao = some ⟨b, off, none⟩ ∧ w.cell? ⟨b, off + j, none⟩ = some (.int .i64 (L.getD j 0))

theorem CellsAt.nil (w : World) (ao : Option Addr) : CellsAt w ao [] := fun _ hj => absurd hj (Nat.not_lt_zero _)

theorem CellsAt.of_block {w w' : World} {b off : Nat} {L : List Int} (h : CellsAt w (some ⟨b, off, none⟩) L) (he : w'.heap[b]? = w.heap[b]?) : CellsAt w' (some ⟨b, off, none⟩) L := by
  intro j hj
  obtain ⟨b', off', h1, h2⟩ := h j hj
  simp only [Option.some.injEq, Addr.mk.injEq, and_true] at h1
  obtain ⟨rfl, rfl⟩ := h1
  refine ⟨b, off, rfl, ?_⟩
  rw [← h2]
  simp only [World.cell?, he]

/-- A world in which some answers have been drawn, and nothing else. -/
structure Drawn (w w' : World) : Prop where
  os : w'.os = w.os
  tape : w'.tape = w.tape
  output : w'.output = w.output
  heap : w'.heap = w.heap

theorem Drawn.cell {w w' : World} (h : Drawn w w') (a : Addr) : w'.cell? a = w.cell? a := by simp only [World.cell?, h.heap]
theorem Drawn.below {w w' : World} (h : Drawn w w') (B : Nat) : Below B w w' := ⟨h.os, h.tape, h.output, by rw [h.heap]; exact Nat.le_refl _, fun k _ => by rw [h.heap]⟩
theorem Drawn.more {w w' : World} (h : Drawn w w') {w'' : World} (k : ∃ n, w'' = w'.drewN n) : Drawn w w'' := by
  obtain ⟨n, rfl⟩ := k
  exact ⟨h.os, h.tape, h.output, h.heap⟩
theorem Drawn.refl (w : World) : Drawn w w := ⟨rfl, rfl, rfl, rfl⟩

theorem eqTo_step {L M : List Int} {i : Nat} (h : ∀ j, j < i → L.getD j 0 = M.getD j 0) (h2 : L.getD i 0 = M.getD i 0) : ∀ j, j < i + 1 → L.getD j 0 = M.getD j 0 := by
  intro j hj
  by_cases e : j = i
  · subst e; exact h2
  · exact h j (by omega)

set_option maxHeartbeats 800000 in
theorem same_any {ao bo : Option Addr} {c d : Nat} {L M : List Int} (w : World) (hL : CellsAt w ao L) (hM : CellsAt w bo M) (hl : L.length ≤ 4096) (hm : M.length ≤ 4096) :
    Calls Tryd.prog 25 #[.slice ao L.length c, .slice bo M.length d] w fun e w' => e = .returned (.bool (L == M)) ∧ Below w.heap.size w w' := by
  obtain ⟨n, hn⟩ : ∃ n, L.length = n := ⟨_, rfl⟩
  obtain ⟨m, hm'⟩ : ∃ m, M.length = m := ⟨_, rfl⟩
  rw [hn, hm']
  rw [hn] at hl
  rw [hm'] at hm
  have HLN := Lib.hid hn
  have HMN := Lib.hid hm'
  clear hn hm'
  go_enter Tryd.func25, Tryd.ntmps25
  go_wp2
  go_loopw [4, 5] (fun v4 v5 wr => ∃ i : Nat, i ≤ n ∧ i ≤ m ∧ v5 = .int .i64 i ∧ v4 = .bool false ∧ Hid (∀ j, j < i → L.getD j 0 = M.getD j 0) ∧ Drawn w wr) (fun _ v5 _ => n - (intOf v5).toNat)
  case atStart => exact ⟨0, by omega, by omega, rfl, rfl, Lib.hid fun j hj => absurd hj (Nat.not_lt_zero _), Drawn.refl _⟩
  case round =>
    obtain ⟨i, hi1, hi2, rfl, rfl, HE, hD⟩ := hrel
    by_cases h1 : i < n
    · by_cases h2 : i < m
      · obtain ⟨b1, o1, rfl, c1⟩ := hL i (by rw [HLN.out]; exact h1)
        obtain ⟨b2, o2, rfl, c2⟩ := hM i (by rw [HMN.out]; exact h2)
        rw [← hD.cell] at c1 c2
        clear hL hM
        have k1 : (i : Int) < n := by omega
        have k2 : (i : Int) < m := by omega
        have HE2 := Lib.hid (@eqTo_step L M i HE.out)
        have HNE : L.getD i 0 ≠ M.getD i 0 → (L == M) = false := fun h => by
          rw [beq_eq_false_iff_ne]; exact fun e => h (by rw [e])
        generalize L.getD i 0 = x at c1 HE2 HNE
        generalize M.getD i 0 = y at c2 HE2 HNE
        go_wp2_with fail
        refine wp_region_quiet_lit (by kernel_rfl) (by kernel_rfl) ?_
        repeat quiet_step (fail)
        refine wpQuiet_nil ?_
        intro w2 hw2
        have hD2 := hD.more hw2
        clear hw2 c1 c2
        by_cases hxy : x = y
        · have e1 : (x != y) = false := by simp [hxy]
          have HE3 : Hid (∀ j, j < i + 1 → L.getD j 0 = M.getD j 0) := HE2.out hxy
          clear HNE hxy HE2
          rw [e1]
          go_wp2
          go_roundw
          case rel => exact ⟨i + 1, by omega, by omega, by simp, rfl, HE3, hD2⟩
          case measure => simp [intOf]; omega
        · have e1 : (x != y) = true := by simp [hxy]
          have e2 := HNE hxy
          have HE4 := Lib.hid e2
          clear HNE hxy HE2 e2
          rw [e1]
          go_wp2
          go_ret
          rw [HE4.out]
          exact ⟨rfl, hD2.below _⟩
      · obtain rfl : i = m := by omega
        have e1 : (L == M) = decide (n = i) := by
          rw [decide_eq_false (by omega), beq_eq_false_iff_ne]
          intro e
          have := HLN.out; have := HMN.out
          rw [e] at *
          omega
        have HE4 := Lib.hid e1
        have k1 : (i : Int) < n := by omega
        have k2 : ((n : Int) == (i : Int)) = false := by simp; omega
        have k3 : decide (n = i) = false := decide_eq_false (by omega)
        clear e1 hL hM
        go_wp2
        go_ret
        rw [HE4.out, k3]
        exact ⟨rfl, hD.below _⟩
    · obtain rfl : i = n := by omega
      have e1 : (L == M) = ((i : Int) == (m : Int)) := by
        rw [Bool.eq_iff_iff, beq_iff_eq, beq_iff_eq]
        constructor
        · intro e
          have := HLN.out; have := HMN.out
          rw [e] at *
          omega
        · intro e
          have h3 := HLN.out; have h4 := HMN.out
          refine List.ext_getElem (by omega) fun j q1 q2 => ?_
          have := HE.out j (by omega)
          simpa [q1, q2] using this
      have HE4 := Lib.hid e1
      have k1 : ¬ (i : Int) < i := by omega
      clear e1 hL hM
      go_wp2
      go_ret
      rw [HE4.out]
      exact ⟨rfl, hD.below _⟩

end Go.Proofs.YtghphopbfamclaaDoor
