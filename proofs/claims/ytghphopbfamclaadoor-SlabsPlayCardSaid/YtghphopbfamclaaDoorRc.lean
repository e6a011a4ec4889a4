/- The chapter's slab: New, at, Get, Set. -/
import Derived.Test.YtghphopbfamclaaDoorRb
namespace Go.Proofs.YtghphopbfamclaaDoor
open Go.RowKit

theorem rnew_less {n : Int} (w : World) (h : n < 1) : Calls Tryd.prog 20 #[.int .i64 n] w fun e w' => e = .returned (.tuple #[.pointer none, .int .i64 1]) ∧ w = w' := by
  go_enter Tryd.func20, Tryd.ntmps20
  go_wp2
  go_ret2
  exact ⟨rfl, rfl⟩

theorem rnew_more {n : Int} (w : World) (h : 4096 < n) : Calls Tryd.prog 20 #[.int .i64 n] w fun e w' => e = .returned (.tuple #[.pointer none, .int .i64 1]) ∧ w = w' := by
  go_enter Tryd.func20, Tryd.ntmps20
  go_wp2
  go_ret2
  exact ⟨rfl, rfl⟩

theorem rnew_any {room : Nat} (w : World) (h1 : 1 ≤ room) (h2 : room ≤ 4096) : Calls Tryd.prog 20 #[.int .i64 (room : Int)] w fun e w' => ∃ r, e = .returned (.tuple #[.pointer (some ⟨r, 0, none⟩), .int .i64 0]) ∧
    (∀ base, base ≤ w.heap.size → RefAt w' r room [] base) ∧ w.heap.size = r ∧ Below w.heap.size w w' := by
  have h3 : (1 : Int) ≤ room := by omega
  have h4 : (room : Int) ≤ 4096 := by omega
  go_enter Tryd.func20, Tryd.ntmps20
  go_wp2
  go_ret2
  exact ⟨w.heap.size, rfl, fun base hb => ⟨⟨.slice none 0 0, heap_alloc_new _ _, SLT.nil _ _⟩, hb, by simp, h2⟩, rfl, (Below.refl _ _).alloc (Nat.le_refl _) _⟩

/-- Where a number is; below 0: nowhere. -/
def atIdx (L : List (Nat × Nat)) (n : Int) : Int := match L.findIdx? (fun q => (q.1 : Int) == n) with
  | some i => (i : Int)
  | none => -1

theorem atIdx_some {L : List (Nat × Nat)} {n : Int} {k : Nat} {q : Nat × Nat} (hq : L[k]? = some q) (he : (q.1 : Int) = n) (hno : ∀ (j : Nat) (x : Nat × Nat), j < k → L[j]? = some x → (x.1 : Int) ≠ n) : atIdx L n = (k : Int) := by
  have : L.findIdx? (fun q => (q.1 : Int) == n) = some k := by
    rw [List.findIdx?_eq_some_iff_getElem]
    obtain ⟨hlt, h1⟩ := List.getElem?_eq_some_iff.1 hq
    refine ⟨hlt, by rw [h1]; simpa using he, fun j hj => ?_⟩
    have := hno j L[j] hj (List.getElem?_eq_getElem (by omega))
    simpa using this
  unfold atIdx; rw [this]

theorem atIdx_none {L : List (Nat × Nat)} {n : Int} (hno : ∀ (j : Nat) (x : Nat × Nat), L[j]? = some x → (x.1 : Int) ≠ n) : atIdx L n = -1 := by
  have : L.findIdx? (fun q => (q.1 : Int) == n) = none := by
    rw [List.findIdx?_eq_none_iff]
    intro x hx
    obtain ⟨j, hj, rfl⟩ := List.getElem_of_mem hx
    have := hno j L[j] (List.getElem?_eq_getElem hj)
    simpa using this
  unfold atIdx; rw [this]

set_option maxHeartbeats 400000 in
theorem at_any {w : World} {r room : Nat} {L : List (Nat × Nat)} {base : Nat} (h : RefAt w r room L base) (n : Int) :
    Calls Tryd.prog 30 #[.pointer (some ⟨r, 0, none⟩), .int .i64 n] w fun e w' => e = .returned (.int .i64 (atIdx L n)) ∧ w = w' := by
  obtain ⟨v, hv, hs⟩ := h.ex
  have hmost := h.most
  have hle := h.le
  obtain ⟨ad, cap, rfl⟩ := hs.form
  have c1 := RefAt.cell1 hv
  obtain ⟨len, hlen⟩ : ∃ len, L.length = len := ⟨_, rfl⟩
  rw [hlen] at c1 hle
  have HL := Lib.hid hlen
  have HS := Lib.hid hs
  clear hv hs hlen h
  go_enter Tryd.func30, Tryd.ntmps30
  go_wp2
  go_loop [5] (fun v5 => ∃ k : Nat, k ≤ len ∧ v5 = .int .i64 k ∧ Hid (∀ (j : Nat) (x : Nat × Nat), j < k → L[j]? = some x → (x.1 : Int) ≠ n)) (fun v5 => len - (intOf v5).toNat)
  case atStart => exact ⟨0, Nat.zero_le _, rfl, Lib.hid fun j x hj => absurd hj (Nat.not_lt_zero _)⟩
  case round =>
    obtain ⟨k, hk, rfl, HN⟩ := hrel
    by_cases hlt : k < len
    · have hlt' : (k : Int) < (len : Int) := by omega
      obtain ⟨q, hq⟩ : ∃ q, L[k]? = some q := ⟨L[k]'(by rw [HL.out]; exact hlt), List.getElem?_eq_getElem _⟩
      obtain ⟨g, cap', e1, hb, hc0, hc1⟩ := HS.out.at hq
      simp only [Value.slice.injEq] at e1
      obtain ⟨rfl, _, rfl⟩ := e1
      clear hc1 hb
      have HQ := Lib.hid hq
      clear hq
      by_cases he : (q.1 : Int) = n
      · subst he
        have HA := Lib.hid (atIdx_some HQ.out rfl HN.out)
        go_wp2
        go_ret
        rw [HA.out]
        exact ⟨rfl, rfl⟩
      · have hne : ((q.1 : Int) == n) = false := by simpa using he
        have HN2 : Hid (∀ (j : Nat) (x : Nat × Nat), j < k + 1 → L[j]? = some x → (x.1 : Int) ≠ n) := Lib.hid fun j x hj hx => by
          by_cases e : j = k
          · subst e
            rw [HQ.out] at hx
            cases hx
            exact he
          · exact HN.out j x (by omega) hx
        clear he
        go_wp2
        go_round
        case rel => exact ⟨k + 1, by omega, by go_num, HN2⟩
        case measure => simp [intOf]; omega
    · have hlt' : ¬ (k : Int) < (len : Int) := by omega
      have HA := Lib.hid (atIdx_none (L := L) (n := n) fun j x hx => by
        have := (List.getElem?_eq_some_iff.1 hx).1
        have := HL.out
        exact HN.out j x (by omega) hx)
      go_wp2
      go_ret
      rw [HA.out]
      exact ⟨rfl, rfl⟩

section
variable {w : World} {r room : Nat} {L : List (Nat × Nat)} {base : Nat}

set_option maxHeartbeats 400000 in
theorem rget_none (h : RefAt w r room L base) (n : Int) (hn : atIdx L n = -1) :
    Calls Tryd.prog 22 #[.pointer (some ⟨r, 0, none⟩), .int .i64 n] w fun e w' => e = .returned (.tuple #[.int .u64 0, .int .i64 11]) ∧ w = w' := by
  go_enter Tryd.func22, Tryd.ntmps22
  go_wp2_with fail
  refine (at_any h n).mono ?_
  rw [hn]
  rintro e w1 ⟨rfl, rfl⟩
  go_wp2
  go_ret2
  exact ⟨rfl, rfl⟩

set_option maxHeartbeats 400000 in
theorem rget_some (h : RefAt w r room L base) (n : Int) {i : Nat} {q : Nat × Nat} (hn : atIdx L n = (i : Int)) (hq : L[i]? = some q) :
    Calls Tryd.prog 22 #[.pointer (some ⟨r, 0, none⟩), .int .i64 n] w fun e w' => e = .returned (.tuple #[.int .u64 (q.2 : Int), .int .i64 0]) ∧ w = w' := by
  obtain ⟨v, hv, hs⟩ := h.ex
  have hmost := h.most
  have hle := h.le
  have hlt : i < L.length := (List.getElem?_eq_some_iff.1 hq).1
  obtain ⟨g, cap, rfl, hb, hc0, hc1⟩ := hs.at hq
  have c1 := RefAt.cell1 hv
  have hc := at_any h n
  rw [hn] at hc
  obtain ⟨len, hlen⟩ : ∃ len, L.length = len := ⟨_, rfl⟩
  rw [hlen] at c1 hle hlt
  have hlt' : (i : Int) < (len : Int) := by omega
  clear hv hs hlen h hn hq hc0 hb
  go_enter Tryd.func22, Tryd.ntmps22
  go_wp2_with fail
  refine hc.mono ?_
  rintro e w1 ⟨rfl, rfl⟩
  clear hc
  go_wp2
  go_ret2
  exact ⟨rfl, rfl⟩

set_option maxHeartbeats 400000 in
theorem rset_none (h : RefAt w r room L base) (n : Int) (x : Nat) (hn : atIdx L n = -1) :
    Calls Tryd.prog 23 #[.pointer (some ⟨r, 0, none⟩), .int .i64 n, .int .u64 (x : Int)] w fun e w' => e = .returned (.int .i64 11) ∧ w = w' := by
  go_enter Tryd.func23, Tryd.ntmps23
  go_wp2_with fail
  refine (at_any h n).mono ?_
  rw [hn]
  rintro e w1 ⟨rfl, rfl⟩
  go_wp2
  go_ret
  exact ⟨rfl, rfl⟩
end

end Go.Proofs.YtghphopbfamclaaDoor
