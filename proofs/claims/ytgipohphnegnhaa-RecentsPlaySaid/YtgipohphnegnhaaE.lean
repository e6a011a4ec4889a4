/- The plain law of the ring: a queue's list behind a push; and the contracts of Push, Age, Len, Copy, said of lists. -/
import Derived.Test.YtgipohphnegnhaaD
namespace Go.Proofs.Ytgipohphnegnhaa
open Go.RowKit

theorem QS.list_len (s : QS) : s.list.length = s.mn := by simp [QS.list]

theorem QS.list_get (s : QS) (k : Nat) (h : k < s.mn) : s.list[k]? = some (s.nth k) := by
  simp [QS.list, h]

theorem push_nth_zero {s : QS} (hs : s.ok) (h : List Int) : (s.push h).nth 0 = h := by
  have hn := hs.nx
  show (if ((s.nx + 1) % 150 + 299 - 0) % 150 = s.nx then h else _) = h
  rw [if_pos (by omega)]

theorem push_nth_succ {s : QS} (hs : s.ok) (h : List Int) (k : Nat) (hk : k < 149) : (s.push h).nth (k + 1) = s.nth k := by
  have hn := hs.nx
  show (if ((s.nx + 1) % 150 + 299 - (k + 1)) % 150 = s.nx then h else s.R (((s.nx + 1) % 150 + 299 - (k + 1)) % 150)) = s.R ((s.nx + 299 - k) % 150)
  rw [if_neg (by omega)]
  congr 1
  omega

theorem push_list {s : QS} (hs : s.ok) (h : List Int) : (s.push h).list = (h :: s.list).take 150 := by
  have hm := hs.mn
  have hl : (s.push h).mn = if s.mn = 150 then 150 else s.mn + 1 := rfl
  apply List.ext_getElem?
  intro k
  by_cases hk : k < (s.push h).mn
  · rw [QS.list_get _ _ hk]
    have hk150 : k < 150 := by rw [hl] at hk; split at hk <;> omega
    rw [List.getElem?_take_of_lt hk150]
    cases k with
    | zero => rw [push_nth_zero hs]; rfl
    | succ k =>
      rw [push_nth_succ hs h k (by omega), List.getElem?_cons_succ, QS.list_get _ _ (by rw [hl] at hk; split at hk <;> omega)]
  · rw [List.getElem?_eq_none (by rw [QS.list_len]; omega), List.getElem?_eq_none]
    rw [List.length_take, List.length_cons, QS.list_len]
    rw [hl] at hk
    split at hk <;> omega

/-- A queue that a call made lies in block b and holds these hashes, the newest first. -/
def QL (w : World) (b : Nat) (L : List (List Int)) : Prop := ∃ s : QS, s.ok ∧ QAt w b s ∧ s.list = L

theorem QL.of_block {w w' : World} {b : Nat} {L : List (List Int)} (h : QL w b L) (he : w'.heap[b]? = w.heap[b]?) : QL w' b L := by
  obtain ⟨s, h1, h2, h3⟩ := h
  exact ⟨s, h1, h2.of_block he, h3⟩
theorem QL.lt {w : World} {b : Nat} {L : List (List Int)} (h : QL w b L) : b < w.heap.size := by
  obtain ⟨s, _, h2, _⟩ := h
  exact h2.lt
theorem QL.len {w : World} {b : Nat} {L : List (List Int)} (h : QL w b L) : L.length ≤ 150 := by
  obtain ⟨s, h1, _, rfl⟩ := h
  rw [QS.list_len]; exact h1.mn

def pushed (L : List (List Int)) (h : List Int) : List (List Int) := if (ageOf L h).isSome then L else (h :: L).take 150

def pushVal (L : List (List Int)) (h : List Int) : Value :=
  if (ageOf L h).isSome then .tuple #[hv zeroH, .bool false, .int .i64 12]
  else if L.length = 150 then .tuple #[hv (L.getD 149 zeroH), .bool true, .int .i64 0] else .tuple #[hv zeroH, .bool false, .int .i64 0]

theorem pushVal_there {L : List (List Int)} {h : List Int} {k : Nat} (hk : ageOf L h = some k) : pushVal L h = .tuple #[hv zeroH, .bool false, .int .i64 12] := by
  unfold pushVal; rw [hk]; rfl
theorem pushVal_room {L : List (List Int)} {h : List Int} (hk : ageOf L h = none) (hl : L.length ≠ 150) : pushVal L h = .tuple #[hv zeroH, .bool false, .int .i64 0] := by
  unfold pushVal; rw [hk, if_neg (by simp), if_neg hl]
theorem pushVal_full {L : List (List Int)} {h : List Int} (hk : ageOf L h = none) (hl : L.length = 150) : pushVal L h = .tuple #[hv (L.getD 149 zeroH), .bool true, .int .i64 0] := by
  unfold pushVal; rw [hk, if_neg (by simp), if_pos hl]
theorem pushed_there {L : List (List Int)} {h : List Int} {k : Nat} (hk : ageOf L h = some k) : pushed L h = L := by
  unfold pushed; rw [hk]; rfl
theorem pushed_new {L : List (List Int)} {h : List Int} (hk : ageOf L h = none) : pushed L h = (h :: L).take 150 := by
  unfold pushed; rw [hk]; rfl

theorem push_law (b : Nat) (L : List (List Int)) (h : List Int) (hl : h.length = 32) (w : World) (hq : QL w b L) :
    Calls Try.prog 7 #[.pointer (some ⟨b, 0, none⟩), hv h] w fun e w' => e = .returned (pushVal L h) ∧ QL w' b (pushed L h) ∧ Only w w' b := by
  obtain ⟨s, hs, hq, rfl⟩ := hq
  have hm := hs.mn
  cases hk : ageOf s.list h with
  | some k =>
    refine (push_there b s hs h hl w hq k hk).mono fun e w' ⟨h1, h2, h3⟩ => ⟨by rw [pushVal_there hk]; exact h1, ?_, h3⟩
    rw [pushed_there hk]
    exact ⟨s, hs, h2, rfl⟩
  | none =>
    by_cases hm' : s.mn = 150
    · refine (push_full b s hs h hl w hq hk hm').mono fun e w' ⟨h1, h2, h3⟩ => ⟨?_, ?_, h3⟩
      · rw [pushVal_full hk (by rw [QS.list_len]; exact hm'), h1]
        have hg := QS.list_get s 149 (by omega)
        have hn : s.nth 149 = s.R s.nx := by
          have := hs.nx
          exact congrArg s.R (by omega)
        rw [List.getD_eq_getElem?_getD, hg, hn, Option.getD_some]
      · rw [pushed_new hk, ← push_list hs]
        exact ⟨_, QS.push_ok hs hl, h2, rfl⟩
    · refine (push_room b s hs h hl w hq hk (by omega)).mono fun e w' ⟨h1, h2, h3⟩ => ⟨?_, ?_, h3⟩
      · rw [pushVal_room hk (by rw [QS.list_len]; omega)]; exact h1
      · rw [pushed_new hk, ← push_list hs]
        exact ⟨_, QS.push_ok hs hl, h2, rfl⟩

theorem age_law (b : Nat) (L : List (List Int)) (h : List Int) (hl : h.length = 32) (w : World) (hq : QL w b L) :
    Calls Try.prog 9 #[.pointer (some ⟨b, 0, none⟩), hv h] w fun e w' => e = .returned (ageVal L h) ∧ Below w.heap.size w w' := by
  obtain ⟨s, hs, hq, rfl⟩ := hq
  exact age_any b s hs h hl w hq

theorem len_law (b : Nat) (L : List (List Int)) (w : World) (hq : QL w b L) :
    Calls Try.prog 10 #[.pointer (some ⟨b, 0, none⟩)] w fun e w' => e = .returned (.int .i64 L.length) ∧ w = w' := by
  obtain ⟨s, hs, hq, rfl⟩ := hq
  rw [QS.list_len]
  exact len_any b s.mn w hq.made hq.mn

theorem copy_law (b : Nat) (L : List (List Int)) (w : World) (hq : QL w b L) :
    Calls Try.prog 12 #[.pointer (some ⟨b, 0, none⟩)] w fun e w' => ∃ c, e = .returned (.pointer (some ⟨c, 0, none⟩)) ∧ w.heap.size = c ∧ QL w' c L ∧ Below w.heap.size w w' := by
  obtain ⟨s, hs, hq, rfl⟩ := hq
  exact (copy_any b s w hq).mono fun e w' ⟨c, h1, h2, h3, h4⟩ => ⟨c, h1, h2, ⟨s, hs, h3, rfl⟩, h4⟩

theorem new_law (w : World) : Calls Try.prog 6 #[] w fun e w' => ∃ b, e = .returned (.pointer (some ⟨b, 0, none⟩)) ∧ w.heap.size = b ∧ QL w' b [] ∧ Below w.heap.size w w' :=
  (new_any w).mono fun _ _ ⟨b, h1, h2, h3, h4⟩ => ⟨b, h1, h2.symm, ⟨_, ⟨by decide, by decide, fun _ _ => rfl⟩, h3, rfl⟩, h4⟩

theorem pv1 : pushVal [] (hashOf 1) = .tuple #[hv zeroH, .bool false, .int .i64 0] := rfl
theorem pv2 : pushVal [hashOf 1] (hashOf 2) = .tuple #[hv zeroH, .bool false, .int .i64 0] := rfl
theorem pv3 : pushVal [hashOf 2, hashOf 1] (hashOf 1) = .tuple #[hv zeroH, .bool false, .int .i64 12] := rfl
theorem pl1 : pushed [] (hashOf 1) = [hashOf 1] := rfl
theorem pl2 : pushed [hashOf 1] (hashOf 2) = [hashOf 2, hashOf 1] := rfl
theorem pl3 : pushed [hashOf 2, hashOf 1] (hashOf 1) = [hashOf 2, hashOf 1] := rfl
theorem av1 : ageVal [hashOf 2, hashOf 1] (hashOf 1) = .tuple #[.int .i64 1, .bool true] := rfl
theorem av2 : ageVal [hashOf 2, hashOf 1] (hashOf 2) = .tuple #[.int .i64 0, .bool true] := rfl

theorem QL.keep {w w' : World} {b : Nat} {L : List (List Int)} (h : QL w b L) (hb : Below w.heap.size w w') : QL w' b L := h.of_block (hb.block _ h.lt)

set_option maxRecDepth 20000 in
set_option maxHeartbeats 800000 in
theorem lives_any (w : World) : Calls Try.prog 11 #[] w fun e w' => e = .returned (.bool true) ∧ Below w.heap.size w w' := by
  go_enter Try.func11, Try.ntmps11
  go_wp2_with fail
  refine (new_law _).mono ?_
  rintro e w1 ⟨b, rfl, hb, hq, hB⟩
  have hbb : w.heap.size ≤ b := by omega
  clear hb
  go_wp2_with fail
  refine (hash_any 1 (by decide) (by decide) _).mono ?_
  rintro e w2 ⟨rfl, hk⟩
  replace hq := hq.keep hk
  replace hB := hB.trans (hk.mono hB.size)
  clear hk
  go_wp2_with fail
  refine (push_law b [] (hashOf 1) rfl _ hq).mono ?_
  rw [pv1, pl1]
  rintro e w3 ⟨rfl, hq', ho⟩
  replace hB := ho.toBelow hB hB.size hbb
  clear hq ho
  go_wp2_with (first
    | ((with_reducible refine wl_alloc26 ?_))
    | ((with_reducible refine wl_store26 (b := w3.heap.size) (h := zeroH) ?_ ?_ zeroH_len (heap_alloc_new _ _) zeroH_size ?_); (exact rfl); (exact rfl); intro w4 hw hW))
  have hk : Below w3.heap.size w3 w4 := hW.below ((Below.refl _ _).alloc (Nat.le_refl _) _) (Nat.le_refl _)
  replace hq := hq'.keep hk
  replace hB := hB.trans (hk.mono hB.size)
  clear hk hW hw hq'
  refine (hash_any 2 (by decide) (by decide) _).mono ?_
  rintro e w5 ⟨rfl, hk⟩
  replace hq := hq.keep hk
  replace hB := hB.trans (hk.mono hB.size)
  clear hk
  go_wp2_with fail
  refine (push_law b [hashOf 1] (hashOf 2) rfl _ hq).mono ?_
  rw [pv2, pl2]
  rintro e w6 ⟨rfl, hq', ho⟩
  replace hB := ho.toBelow hB hB.size hbb
  clear hq ho
  go_wp2_with (first
    | ((with_reducible refine wl_alloc26 ?_))
    | ((with_reducible refine wl_store26 (b := w6.heap.size) (h := zeroH) ?_ ?_ zeroH_len (heap_alloc_new _ _) zeroH_size ?_); (exact rfl); (exact rfl); intro w7 hw hW))
  have hk : Below w6.heap.size w6 w7 := hW.below ((Below.refl _ _).alloc (Nat.le_refl _) _) (Nat.le_refl _)
  replace hq := hq'.keep hk
  replace hB := hB.trans (hk.mono hB.size)
  clear hk hW hw hq'
  refine (hash_any 1 (by decide) (by decide) _).mono ?_
  rintro e w8 ⟨rfl, hk⟩
  replace hq := hq.keep hk
  replace hB := hB.trans (hk.mono hB.size)
  clear hk
  go_wp2_with fail
  refine (age_law b [hashOf 2, hashOf 1] (hashOf 1) rfl _ hq).mono ?_
  rw [av1]
  rintro e w9 ⟨rfl, hk⟩
  replace hq := hq.keep hk
  replace hB := hB.trans (hk.mono hB.size)
  clear hk
  go_wp2_with fail
  refine (hash_any 2 (by decide) (by decide) _).mono ?_
  rintro e w10 ⟨rfl, hk⟩
  replace hq := hq.keep hk
  replace hB := hB.trans (hk.mono hB.size)
  clear hk
  go_wp2_with fail
  refine (age_law b [hashOf 2, hashOf 1] (hashOf 2) rfl _ hq).mono ?_
  rw [av2]
  rintro e w11 ⟨rfl, hk⟩
  replace hq := hq.keep hk
  replace hB := hB.trans (hk.mono hB.size)
  clear hk
  go_wp2_with fail
  refine (hash_any 1 (by decide) (by decide) _).mono ?_
  rintro e w12 ⟨rfl, hk⟩
  replace hq := hq.keep hk
  replace hB := hB.trans (hk.mono hB.size)
  clear hk
  go_wp2_with fail
  refine (push_law b [hashOf 2, hashOf 1] (hashOf 1) rfl _ hq).mono ?_
  rw [pv3, pl3]
  rintro e w13 ⟨rfl, hq', ho⟩
  replace hB := ho.toBelow hB hB.size hbb
  clear hq ho
  go_wp2_with (first
    | ((with_reducible refine wl_alloc26 ?_))
    | ((with_reducible refine wl_store26 (b := w13.heap.size) (h := zeroH) ?_ ?_ zeroH_len (heap_alloc_new _ _) zeroH_size ?_); (exact rfl); (exact rfl); intro w14 hw hW))
  have hk : Below w13.heap.size w13 w14 := hW.below ((Below.refl _ _).alloc (Nat.le_refl _) _) (Nat.le_refl _)
  replace hq := hq'.keep hk
  replace hB := hB.trans (hk.mono hB.size)
  clear hk hW hw hq'
  refine (len_law b [hashOf 2, hashOf 1] _ hq).mono ?_
  rintro e w' ⟨rfl, rfl⟩
  go_wp2
  go_ret
  exact ⟨rfl, hB⟩

end Go.Proofs.Ytgipohphnegnhaa
