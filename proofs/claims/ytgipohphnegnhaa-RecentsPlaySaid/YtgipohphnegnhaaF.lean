/- RecentsLast: the plain law on the list of the hashes that were pushed in a row, and the walk of the law. -/
import Derived.Test.YtgipohphnegnhaaE
namespace Go.Proofs.Ytgipohphnegnhaa
open Go.RowKit

theorem ageOf_some_of {L : List (List Int)} {h : List Int} {k : Nat} (hk : L[k]? = some h) (hno : ∀ j, j < k → L[j]? ≠ some h) : ageOf L h = some k := by
  unfold ageOf
  rw [List.findIdx?_eq_some_iff_getElem]
  obtain ⟨hlt, he⟩ := List.getElem?_eq_some_iff.1 hk
  refine ⟨hlt, by simpa using he, fun j hj => ?_⟩
  have := hno j hj
  rw [List.getElem?_eq_getElem (by omega)] at this
  simpa using this

theorem ageOf_none_of {L : List (List Int)} {h : List Int} (hno : ∀ j : Nat, L[j]? ≠ some h) : ageOf L h = none := by
  unfold ageOf
  rw [List.findIdx?_eq_none_iff]
  intro x hx
  obtain ⟨j, hj, rfl⟩ := List.getElem_of_mem hx
  have := hno j
  rw [List.getElem?_eq_getElem hj] at this
  simpa using this

theorem hashOf_inj {n m : Int} (h : hashOf n = hashOf m) : n = m := by
  simp only [hashOf, List.cons.injEq, and_true] at h
  omega

/-- The hash that is pushed in round j. -/
def fh (f : Int) (j : Nat) : List Int := hashOf ((f + j) % 65536)

theorem fh_inj {f : Int} {j k : Nat} (hj : j ≤ 400) (hk : k ≤ 400) (h : fh f j = fh f k) : j = k := by
  have := hashOf_inj h
  omega

/-- The queue's list behind n rounds. -/
def LL (f : Int) (n : Nat) : List (List Int) := ((List.range n).reverse.map (fh f)).take 150

theorem LL_get (f : Int) (n k : Nat) : (LL f n)[k]? = if k < 150 ∧ k < n then some (fh f (n - 1 - k)) else none := by
  unfold LL
  by_cases h : k < 150 ∧ k < n
  · rw [if_pos h, List.getElem?_take_of_lt h.1, List.getElem?_map, List.getElem?_reverse (by simpa using h.2)]
    simp
    rw [List.getElem?_range (by omega)]
    exact ⟨_, rfl, rfl⟩
  · rw [if_neg h, List.getElem?_eq_none]
    simp
    omega

theorem LL_len (f : Int) (n : Nat) : (LL f n).length = min n 150 := by
  simp [LL]; omega

theorem LL_age_none (f : Int) (n : Nat) (hn : n < 400) : ageOf (LL f n) (fh f n) = none := by
  refine ageOf_none_of fun j => ?_
  rw [LL_get]
  split
  · rename_i h
    intro e
    have := fh_inj (by omega) (by omega) (Option.some.inj e)
    omega
  · simp

theorem LL_age (f : Int) (n i : Nat) (hn : n ≤ 400) (hi : i < n) : ageOf (LL f n) (fh f i) = if n - 1 - i < 150 then some (n - 1 - i) else none := by
  split
  · rename_i h
    refine ageOf_some_of ?_ fun j hj => ?_
    · rw [LL_get, if_pos ⟨h, by omega⟩]
      rw [show n - 1 - (n - 1 - i) = i by omega]
    · rw [LL_get]
      split
      · rename_i h'
        intro e
        have := fh_inj (by omega) (by omega) (Option.some.inj e)
        omega
      · simp
  · rename_i h
    refine ageOf_none_of fun j => ?_
    rw [LL_get]
    split
    · rename_i h'
      intro e
      have := fh_inj (by omega) (by omega) (Option.some.inj e)
      omega
    · simp

theorem LL_push (f : Int) (n : Nat) (hn : n < 400) : pushed (LL f n) (fh f n) = LL f (n + 1) := by
  rw [pushed_new (LL_age_none f n hn)]
  apply List.ext_getElem?
  intro k
  rw [LL_get]
  by_cases hk : k < 150
  · rw [List.getElem?_take_of_lt hk]
    cases k with
    | zero => rw [if_pos ⟨by omega, by omega⟩]; rfl
    | succ k =>
      rw [List.getElem?_cons_succ, LL_get]
      by_cases h : k < n
      · rw [if_pos ⟨by omega, h⟩, if_pos ⟨hk, by omega⟩, show n + 1 - 1 - (k + 1) = n - 1 - k by omega]
      · rw [if_neg (by omega), if_neg (by omega)]
  · rw [if_neg (by omega), List.getElem?_eq_none]
    rw [List.length_take]; omega

theorem u16_wrap (x : Int) : IntKind.u16.wrap x = x % 65536 := by simp [IntKind.wrap, IntKind.bits, IntKind.signed]

theorem ageVal_LL (f : Int) (n i : Nat) (hn : n ≤ 400) (hi : i < n) :
    ageVal (LL f n) (fh f i) = .tuple #[.int .i64 (if n - 1 - i < 150 then ((n - 1 - i : Nat) : Int) else 0), .bool (decide (n - 1 - i < 150))] := by
  unfold ageVal
  rw [LL_age f n i hn hi]
  by_cases h : n - 1 - i < 150
  · simp [h]
  · simp [h]

set_option maxRecDepth 20000 in
set_option maxHeartbeats 800000 in
theorem last_walk (a0 a1 : Int) (w : World) (_h0 : 0 ≤ a0) (_h0' : a0 < 65536) (h1 : 0 ≤ a1) (h1' : a1 < 65536) :
    Calls Try.prog 3 #[.int .u16 a0, .int .u16 a1] w fun e w' => e = .returned (.bool true) ∧ Below w.heap.size w w' := by
  obtain ⟨n, hn⟩ : ∃ n : Nat, a1 % 400 = n := ⟨(a1 % 400).toNat, by omega⟩
  have hn4 : n < 400 := by omega
  go_enter Try.func3, Try.ntmps3
  go_wp2_with fail
  have HN := Lib.hid hn
  clear hn
  refine (new_law _).mono ?_
  rintro e w1 ⟨b, rfl, hb, hq, hB⟩
  have hbb : w.heap.size ≤ b := by omega
  clear hb
  go_wp2_with fail
  go_loopw [7] (fun v7 wr => ∃ i : Nat, i ≤ n ∧ v7 = .int .i64 i ∧ QL wr b (LL a0 i) ∧ Below w.heap.size w wr) (fun v7 _ => n - (intOf v7).toNat)
  case atStart => exact ⟨0, Nat.zero_le _, rfl, hq, hB⟩
  case round =>
    clear hq hB
    obtain ⟨i, hi, rfl, hq, hB⟩ := hrel
    by_cases hlt : i < n
    · go_wp2_with fail
      rw [u16_wrap]
      refine (hash_any ((a0 + i) % 65536) (by omega) (by omega) _).mono ?_
      rintro e w2 ⟨rfl, hk⟩
      replace hq := hq.keep hk
      replace hB := hB.trans (hk.mono hB.size)
      clear hk
      go_wp2_with fail
      refine (push_law b (LL a0 i) (fh a0 i) rfl _ hq).mono ?_
      rw [LL_push a0 i (by omega)]
      rintro e w3 ⟨rfl, hq', ho⟩
      replace hB := ho.toBelow hB hB.size hbb
      clear hq ho
      go_wp2_with fail
      go_roundw
      case rel => exact ⟨i + 1, hlt, by go_num, hq', hB⟩
      case measure => simp [intOf]; omega
    · obtain rfl : i = n := by omega
      clear hlt hi
      go_wp2_with fail
      go_loopw [8] (fun v8 wr2 => ∃ j : Nat, j ≤ i ∧ v8 = .int .i64 j ∧ QL wr2 b (LL a0 i) ∧ Below w.heap.size w wr2) (fun v8 _ => i - (intOf v8).toNat)
      case atStart => exact ⟨0, Nat.zero_le _, rfl, hq, hB⟩
      case round =>
        clear hq hB
        obtain ⟨j, hj, rfl, hq, hB⟩ := hrel
        by_cases hlt : j < i
        · go_wp2_with fail
          rw [u16_wrap]
          refine (hash_any ((a0 + j) % 65536) (by omega) (by omega) _).mono ?_
          rintro e w2 ⟨rfl, hk⟩
          replace hq := hq.keep hk
          replace hB := hB.trans (hk.mono hB.size)
          clear hk
          go_wp2_with fail
          refine (age_law b (LL a0 i) (fh a0 j) rfl _ hq).mono ?_
          rw [ageVal_LL a0 i j (by omega) hlt]
          rintro e w3 ⟨rfl, hk⟩
          replace hq := hq.keep hk
          replace hB := hB.trans (hk.mono hB.size)
          clear hk
          by_cases hc : i - 1 - j < 150
          · have e1 : decide (i - 1 - j < 150) = true := by simpa using hc
            rw [if_pos hc, e1]
            clear e1
            go_wp2_with fail
            go_roundw
            case rel => exact ⟨j + 1, hlt, by go_num, hq, hB⟩
            case measure => simp [intOf]; omega
          · have e1 : decide (i - 1 - j < 150) = false := by simpa using hc
            rw [if_neg hc, e1]
            clear e1
            go_wp2_with fail
            go_roundw
            case rel => exact ⟨j + 1, hlt, by go_num, hq, hB⟩
            case measure => simp [intOf]; omega
        · go_wp2_with fail
          refine (len_law b (LL a0 i) _ hq).mono ?_
          rw [LL_len]
          rintro e w' ⟨rfl, rfl⟩
          go_wp2_with fail
          all_goals
            refine (lives_any _).mono ?_
            rintro e w' ⟨rfl, hk⟩
            go_wp2_with fail
            go_ret
            exact ⟨rfl, hB.trans (hk.mono hB.size)⟩

end Go.Proofs.Ytgipohphnegnhaa
