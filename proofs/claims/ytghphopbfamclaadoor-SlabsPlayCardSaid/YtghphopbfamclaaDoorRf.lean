/- Both slabs in new memory: what each call does to either. -/
import Derived.Test.YtghphopbfamclaaDoorRe
import Derived.Test.YtghphopbfamclaaDoorL
set_option linter.unusedVariables false
namespace Go.Proofs.YtghphopbfamclaaDoor
open Go.RowKit

theorem Slab.rturn {w w' : World} {p bt bu room r base : Nat} {U : Nat → Bool} {V : Nat → Nat} (h : Slab w p bt bu room U V) (ht : RTurn w w' r base) (hr : ∃ C, w.heap[r]? = some (.cells C 62)) : Slab w' p bt bu room U V := by
  obtain ⟨ws, X, h⟩ := h
  exact ⟨ws, X, h.mem.rturn ht hr, h.apart, h.bits, h.out, h.vals⟩

/-- The program's slab, and a list of the chapter's. -/
structure Pair (w0 w : World) (p bt bu r room : Nat) (U : Nat → Bool) (V : Nat → Nat) (L : List (Nat × Nat)) : Prop where
  held : Held w0 w p bt bu room U V
  ref : RefAt w r room L w0.heap.size

section
variable {w0 w w' : World} {p bt bu r room : Nat} {U U' : Nat → Bool} {V V' : Nat → Nat} {L L' : List (Nat × Nat)}

theorem Pair.keep (h : Pair w0 w p bt bu r room U V L) (hb : Below w.heap.size w w') : Pair w0 w' p bt bu r room U V L := ⟨h.held.keep hb, h.ref.keep hb⟩
theorem Pair.step (h : Pair w0 w p bt bu r room U V L) (e : w = w') : Pair w0 w' p bt bu r room U V L := e ▸ h
theorem Pair.left (h : Pair w0 w p bt bu r room U V L) (hs : Slab w' p bt bu room U' V') (ht : Turned w w' p bt bu) : Pair w0 w' p bt bu r room U' V' L :=
  ⟨h.held.turned hs ht, h.ref.turned h.held.slab ht⟩
theorem Pair.right (h : Pair w0 w p bt bu r room U V L) (hr : RefAt w' r room L' w0.heap.size) (ht : RTurn w w' r w0.heap.size) : Pair w0 w' p bt bu r room U V L' :=
  ⟨⟨h.held.slab.rturn ht h.ref.struct, ht.below h.held.below h.ref.low (Nat.le_refl _) h.held.below.size, h.held.q1, h.held.q2, h.held.q3, h.held.tab, h.held.pos⟩, hr⟩
theorem Pair.wrote {b : Nat} (h : Pair w0 w p bt bu r room U V L) (hW : Wrote w w' b) (hb : ∃ C, w.heap[b]? = some (.cells C 3)) (h4 : w0.heap.size ≤ b) : Pair w0 w' p bt bu r room U V L := by
  obtain ⟨C, hC⟩ := hb
  obtain ⟨ws, X, hs⟩ := h.held.slab
  refine ⟨h.held.wrote hW ?_ ?_ ?_ h4, ?_⟩
  · rintro rfl; have := hs.mem.head; rw [hC] at this; cases this
  · rintro rfl; have := hs.mem.things; rw [hC] at this; cases this
  · rintro rfl; have := hs.mem.used; rw [hC] at this; cases this
  · obtain ⟨v, h1, h2⟩ := h.ref.ex
    refine ⟨⟨v, (hW.block r ?_).trans h1, h2.keep fun g C' _ hg => (hW.block g ?_).trans hg⟩, h.ref.low, h.ref.le, h.ref.most⟩
    · rintro rfl; rw [hC] at h1; cases h1
    · rintro rfl; rw [hC] at hg; cases hg

theorem pair_put (h : Pair w0 w p bt bu r room U V (refL room U V)) (x : Nat) : ∃ (n g : Int) (U' : Nat → Bool) (V' : Nat → Nat),
    (Calls Tryd.prog 7 #[.pointer (some ⟨p, 0, none⟩), .int .u64 (x : Int)] w fun e w' => e = .returned (.tuple #[.int .i64 n, .int .i64 g]) ∧ Pair w0 w' p bt bu r room U' V' (refL room U V)) ∧
    (∀ w1, Pair w0 w1 p bt bu r room U' V' (refL room U V) → Calls Tryd.prog 21 #[.pointer (some ⟨r, 0, none⟩), .int .u64 (x : Int)] w1 fun e w' => e = .returned (.tuple #[.int .i64 n, .int .i64 g]) ∧ Pair w0 w' p bt bu r room U' V' (refL room U' V')) := by
  have hp := h.held
  by_cases hc : cnt room U < room
  · obtain ⟨n, hn, hset, hun⟩ := least_free hc
    obtain ⟨k1, k2, k3, k4⟩ := refL_put (V := V) hn hset hun
    refine ⟨n, 0, upd U n true, upd V n x, (put_law hp.slab hp.tabAt (by have := hp.q1; have := hp.pos; omega) (by have := hp.q2; have := hp.pos; omega) (by have := hp.q3; have := hp.pos; omega) x n hn hset hun).mono fun e w' ⟨h1, h2, h3⟩ => ⟨h1, h.left h2 h3⟩, fun w1 h1 => ?_⟩
    refine (rput_room h1.ref x n (by rw [refL_len]; exact hc) (by rw [refL_len]; exact k1) (fun j hj => ⟨_, k2 j hj⟩) k3).mono fun e w' ⟨h2, h3, h4⟩ => ⟨h2, ?_⟩
    rw [k4 x]
    exact h1.right h3 h4
  · have hall := all_of_full (Nat.le_of_not_lt hc)
    refine ⟨0, 3, U, V, (putFull_law hp.slab x hall).mono fun e w' ⟨h1, h2, h3⟩ => ⟨h1, h.left h2 h3⟩, fun w1 h1 => ?_⟩
    exact (rput_full h1.ref x (by rw [refL_len]; exact cnt_full hall)).mono fun e w' ⟨h2, h3, h4⟩ => ⟨h2, h1.right h3 h4⟩

/-- A number's place in the chapter's list. -/
theorem at_has {n : Int} (hr : ∀ j, room ≤ j → U j = false) (hn : hasU U n = true) : ∃ (m i : Nat) (L1 L2 : List (Nat × Nat)), n = m ∧ m < room ∧ U m = true ∧ atIdx (refL room U V) n = (i : Int) ∧ (refL room U V)[i]? = some (m, V m) ∧ i < (refL room U V).length ∧
    refL room U V = L1 ++ (m, V m) :: L2 ∧ L1.length = i ∧ (∀ x, refL room U (upd V m x) = L1 ++ (m, x) :: L2) ∧ refL room (upd U m false) V = L1 ++ L2 := by
  unfold hasU at hn
  simp only [Bool.and_eq_true, decide_eq_true_eq] at hn
  obtain ⟨m, rfl⟩ : ∃ m : Nat, n = m := ⟨n.toNat, by omega⟩
  simp only [Int.toNat_natCast] at hn
  have hm : m < room := by
    by_cases hlt : m < room
    · exact hlt
    · rw [hr m (by omega)] at hn; cases hn.2
  obtain ⟨L1, L2, h1, h2, h3, h4, h5, h6⟩ := refL_at (V := V) hm hn.2
  have hget : (refL room U V)[L1.length]? = some (m, V m) := by rw [h1, List.getElem?_append_right (Nat.le_refl _), Nat.sub_self]; rfl
  refine ⟨m, L1.length, L1, L2, rfl, hm, hn.2, atIdx_some hget rfl fun j x hj hx => ?_, hget, by rw [h1]; simp, h1, rfl, h5, h6⟩
  rw [h1, List.getElem?_append_left hj] at hx
  have := h3 x (List.mem_of_getElem? hx)
  omega

theorem at_hasnt {n : Int} (hn : hasU U n = false) : atIdx (refL room U V) n = -1 := by
  refine atIdx_none fun j x hx => ?_
  have hmem := List.mem_of_getElem? hx
  intro e
  have : U x.1 = false := by
    unfold hasU at hn
    rw [← e] at hn
    simpa using hn
  exact refL_none this x hmem rfl

theorem pair_get (h : Pair w0 w p bt bu r room U V (refL room U V)) (n : Int) : ∃ (u : Nat) (g : Int),
    (Calls Tryd.prog 8 #[.pointer (some ⟨p, 0, none⟩), .int .i64 n] w fun e w' => e = .returned (.tuple #[.int .u64 (u : Int), .int .i64 g]) ∧ w = w') ∧
    (Calls Tryd.prog 22 #[.pointer (some ⟨r, 0, none⟩), .int .i64 n] w fun e w' => e = .returned (.tuple #[.int .u64 (u : Int), .int .i64 g]) ∧ w = w') := by
  have hg := get_law h.held.slab n
  cases hn : hasU U n with
  | false =>
    rw [hn] at hg
    exact ⟨0, 11, hg, rget_none h.ref n (at_hasnt hn)⟩
  | true =>
    rw [hn] at hg
    obtain ⟨m, i, L1, L2, rfl, hm, hu, ha, hi, _⟩ := at_has (V := V) h.held.slab.out hn
    exact ⟨V m, 0, by simpa using hg, rget_some h.ref _ ha hi⟩

theorem pair_set (h : Pair w0 w p bt bu r room U V (refL room U V)) (n : Int) (x : Nat) : ∃ (g : Int) (V' : Nat → Nat),
    (Calls Tryd.prog 9 #[.pointer (some ⟨p, 0, none⟩), .int .i64 n, .int .u64 (x : Int)] w fun e w' => e = .returned (.int .i64 g) ∧ Pair w0 w' p bt bu r room U V' (refL room U V)) ∧
    (∀ w1, Pair w0 w1 p bt bu r room U V' (refL room U V) → Calls Tryd.prog 23 #[.pointer (some ⟨r, 0, none⟩), .int .i64 n, .int .u64 (x : Int)] w1 fun e w' => e = .returned (.int .i64 g) ∧ Pair w0 w' p bt bu r room U V' (refL room U V')) := by
  have hs := set_law h.held.slab n x
  cases hn : hasU U n with
  | false =>
    rw [hn] at hs
    refine ⟨11, V, hs.mono fun e w' ⟨h1, h2, h3⟩ => ⟨h1, h.left h2 h3⟩, fun w1 h1 => ?_⟩
    exact (rset_none h1.ref n x (at_hasnt hn)).mono fun e w' ⟨h2, h3⟩ => ⟨h2, h1.step h3⟩
  | true =>
    rw [hn] at hs
    obtain ⟨m, i, L1, L2, rfl, hm, hu, ha, hi, hil, hL, hl1, hset, _⟩ := at_has (V := V) h.held.slab.out hn
    refine ⟨0, upd V m x, hs.mono fun e w' ⟨h1, h2, h3⟩ => ⟨h1, h.left h2 h3⟩, fun w1 h1 => ?_⟩
    refine (rset_some h1.ref _ x ha hi).mono fun e w' ⟨h2, h3, h4⟩ => ⟨h2, ?_⟩
    have e1 : refL room U (upd V m x) = (refL room U V).set i (m, x) := by
      rw [hset x, hL, ← hl1, List.set_append_right (h := Nat.le_refl _), Nat.sub_self]; rfl
    rw [e1]
    exact h1.right h3 h4

theorem pair_free (h : Pair w0 w p bt bu r room U V (refL room U V)) (n : Int) : ∃ (g : Int) (U' : Nat → Bool),
    (Calls Tryd.prog 10 #[.pointer (some ⟨p, 0, none⟩), .int .i64 n] w fun e w' => e = .returned (.int .i64 g) ∧ Pair w0 w' p bt bu r room U' V (refL room U V)) ∧
    (∀ w1, Pair w0 w1 p bt bu r room U' V (refL room U V) → Calls Tryd.prog 24 #[.pointer (some ⟨r, 0, none⟩), .int .i64 n] w1 fun e w' => e = .returned (.int .i64 g) ∧ Pair w0 w' p bt bu r room U' V (refL room U' V)) := by
  have hs := free_law h.held.slab n
  cases hn : hasU U n with
  | false =>
    rw [hn] at hs
    refine ⟨11, U, hs.mono fun e w' ⟨h1, h2, h3⟩ => ⟨h1, h.left h2 h3⟩, fun w1 h1 => ?_⟩
    exact (rfree_none h1.ref n (at_hasnt hn)).mono fun e w' ⟨h2, h3⟩ => ⟨h2, h1.step h3⟩
  | true =>
    rw [hn] at hs
    obtain ⟨m, i, L1, L2, rfl, hm, hu, ha, hi, hil, hL, hl1, _, hfree⟩ := at_has (V := V) h.held.slab.out hn
    refine ⟨0, upd U m false, hs.mono fun e w' ⟨h1, h2, h3⟩ => ⟨h1, h.left h2 h3⟩, fun w1 h1 => ?_⟩
    refine (rfree_some h1.ref _ ha hil).mono fun e w' ⟨h2, h3, h4⟩ => ⟨h2, ?_⟩
    have e1 : refL room (upd U m false) V = (refL room U V).take i ++ (refL room U V).drop (i + 1) := by
      rw [hfree, hL, ← hl1, List.take_left' rfl, ← List.drop_drop, List.drop_left' rfl]; rfl
    rw [e1]
    exact h1.right h3 h4

theorem pair_rnumbers (h : Pair w0 w p bt bu r room U V (refL room U V)) : Calls Tryd.prog 26 #[.pointer (some ⟨r, 0, none⟩)] w fun e w' => ∃ ad n c, e = .returned (.slice ad n c) ∧ n = (nums room U).length ∧ CellsAt w' ad ((nums room U).map Int.ofNat) ∧ Below w.heap.size w w' :=
  (rnumbers_any h.ref).mono fun e w' ⟨v, h1, h2, h3⟩ => by
    rw [refL_fst] at h2
    obtain ⟨ad, c, rfl⟩ := h2.form
    exact ⟨ad, _, c, h1, rfl, h2.cells rfl, h3⟩

theorem pair_numbers (h : Pair w0 w p bt bu r room U V L) : Calls Tryd.prog 12 #[.pointer (some ⟨p, 0, none⟩)] w fun e w' => ∃ g cap, e = .returned (.slice (some ⟨g, 0, none⟩) (nums room U).length cap) ∧ w.heap.size = g ∧ OutAt w.heap.size w' g cap (nums room U) ∧ Below w.heap.size w w' :=
  (held_numbers h.held).mono fun e w' ⟨g, cap, h1, h2, h3, h4, _⟩ => ⟨g, cap, h1, h2, h3, h4⟩
end

end Go.Proofs.YtghphopbfamclaaDoor
