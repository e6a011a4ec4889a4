/- A slab in new memory; lives. -/
import Derived.Test.YtghphopbfamclaaDoorJ
set_option linter.unusedVariables false
namespace Go.Proofs.YtghphopbfamclaaDoor
open Go.RowKit

/-- A slab that lies in memory that is newer than a world's. -/
structure Held (w0 w : World) (p bt bu room : Nat) (U : Nat → Bool) (V : Nat → Nat) : Prop where
  slab : Slab w p bt bu room U V
  below : Below w0.heap.size w0 w
  q1 : w0.heap.size ≤ p
  q2 : w0.heap.size ≤ bt
  q3 : w0.heap.size ≤ bu
  tab : TabAt w0
  pos : 0 < w0.heap.size

section
variable {w0 w : World} {p bt bu room : Nat} {U : Nat → Bool} {V : Nat → Nat}

theorem Held.tabAt (h : Held w0 w p bt bu room U V) : TabAt w := h.tab.of_block (h.below.block 0 h.pos)

theorem Held.turned {U' : Nat → Bool} {V' : Nat → Nat} {w' : World} (h : Held w0 w p bt bu room U V) (hs : Slab w' p bt bu room U' V') (ht : Turned w w' p bt bu) : Held w0 w' p bt bu room U' V' :=
  ⟨hs, ht.below h.below h.q1 h.q2 h.q3, h.q1, h.q2, h.q3, h.tab, h.pos⟩

theorem Held.keep {w' : World} (h : Held w0 w p bt bu room U V) (hb : Below w.heap.size w w') : Held w0 w' p bt bu room U V :=
  ⟨h.slab.keep hb, h.below.trans (hb.mono h.below.size), h.q1, h.q2, h.q3, h.tab, h.pos⟩

theorem Held.step {w' : World} (h : Held w0 w p bt bu room U V) (e : w = w') : Held w0 w' p bt bu room U V := e ▸ h

theorem held_new (w0 w : World) (hb : Below w0.heap.size w0 w) (ht : TabAt w0) (hp : 0 < w0.heap.size) (h1 : 1 ≤ room) (h2 : room ≤ 4096) : Calls Tryd.prog 19 #[.int .i64 (room : Int)] w fun e w' => ∃ p bt bu, e = .returned (.tuple #[.pointer (some ⟨p, 0, none⟩), .int .i64 0]) ∧
    Held w0 w' p bt bu room (fun _ => false) (fun _ => 0) :=
  (new_law w h1 h2).mono fun e w' ⟨p, bt, bu, he, hs, q1, q2, q3, hb'⟩ => ⟨p, bt, bu, he, hs, hb.trans (hb'.mono hb.size), Nat.le_trans hb.size q1, Nat.le_trans hb.size q2, Nat.le_trans hb.size q3, ht, hp⟩

theorem held_put (h : Held w0 w p bt bu room U V) (x n : Nat) (hn : n < room) (hset : ∀ j, j < n → U j = true) (hun : U n = false) : Calls Tryd.prog 7 #[.pointer (some ⟨p, 0, none⟩), .int .u64 (x : Int)] w fun e w' =>
    e = .returned (.tuple #[.int .i64 (n : Int), .int .i64 0]) ∧ Held w0 w' p bt bu room (upd U n true) (upd V n x) :=
  (put_law h.slab h.tabAt (by have := h.q1; have := h.pos; omega) (by have := h.q2; have := h.pos; omega) (by have := h.q3; have := h.pos; omega) x n hn hset hun).mono fun e w' ⟨h1, h2, h3⟩ => ⟨h1, h.turned h2 h3⟩

theorem held_full (h : Held w0 w p bt bu room U V) (x : Nat) (hf : ∀ j, j < room → U j = true) : Calls Tryd.prog 7 #[.pointer (some ⟨p, 0, none⟩), .int .u64 (x : Int)] w fun e w' =>
    e = .returned (.tuple #[.int .i64 0, .int .i64 3]) ∧ Held w0 w' p bt bu room U V :=
  (putFull_law h.slab x hf).mono fun e w' ⟨h1, h2, h3⟩ => ⟨h1, h.turned h2 h3⟩

theorem held_get (h : Held w0 w p bt bu room U V) (n : Int) : Calls Tryd.prog 8 #[.pointer (some ⟨p, 0, none⟩), .int .i64 n] w fun e w' =>
    e = .returned (if hasU U n then .tuple #[.int .u64 ((V n.toNat : Nat) : Int), .int .i64 0] else .tuple #[.int .u64 0, .int .i64 11]) ∧ Held w0 w' p bt bu room U V :=
  (get_law h.slab n).mono fun e w' ⟨h1, h2⟩ => ⟨h1, h.step h2⟩

theorem held_set (h : Held w0 w p bt bu room U V) (n : Int) (x : Nat) : Calls Tryd.prog 9 #[.pointer (some ⟨p, 0, none⟩), .int .i64 n, .int .u64 (x : Int)] w fun e w' =>
    e = .returned (.int .i64 (if hasU U n then 0 else 11)) ∧ Held w0 w' p bt bu room U (if hasU U n then upd V n.toNat x else V) :=
  (set_law h.slab n x).mono fun e w' ⟨h1, h2, h3⟩ => ⟨h1, h.turned h2 h3⟩

theorem held_free (h : Held w0 w p bt bu room U V) (n : Int) : Calls Tryd.prog 10 #[.pointer (some ⟨p, 0, none⟩), .int .i64 n] w fun e w' =>
    e = .returned (.int .i64 (if hasU U n then 0 else 11)) ∧ Held w0 w' p bt bu room (if hasU U n then upd U n.toNat false else U) V :=
  (free_law h.slab n).mono fun e w' ⟨h1, h2, h3⟩ => ⟨h1, h.turned h2 h3⟩

theorem held_len (h : Held w0 w p bt bu room U V) : Calls Tryd.prog 11 #[.pointer (some ⟨p, 0, none⟩)] w fun e w' => e = .returned (.int .i64 (cnt room U : Int)) ∧ Held w0 w' p bt bu room U V :=
  (len_law h.slab).mono fun e w' ⟨h1, h2⟩ => ⟨h1, h.step h2⟩

theorem held_numbers (h : Held w0 w p bt bu room U V) : Calls Tryd.prog 12 #[.pointer (some ⟨p, 0, none⟩)] w fun e w' => ∃ g cap, e = .returned (.slice (some ⟨g, 0, none⟩) (nums room U).length cap) ∧ w.heap.size = g ∧ OutAt w.heap.size w' g cap (nums room U) ∧ Below w.heap.size w w' ∧ Held w0 w' p bt bu room U V :=
  (numbers_law h.slab h.tabAt (Nat.lt_of_lt_of_le h.pos h.below.size)).mono fun e w' ⟨g, cap, h1, h2, h3, h4⟩ => ⟨g, cap, h1, h2, h3, h4, h.keep h4⟩
end

theorem two_cells (w : World) (x y : Int) (t : TypeId) : CellsAt (w.alloc (.cells #[.int .i64 x, .int .i64 y] t)) (some ⟨w.heap.size, 0, none⟩) [x, y] := by
  intro j hj
  refine ⟨w.heap.size, 0, rfl, ?_⟩
  have h := heap_alloc_new w (.cells #[.int .i64 x, .int .i64 y] t)
  simp only [World.cell?, h]
  have hj' : j < 2 := hj
  rcases (by omega : j = 0 ∨ j = 1) with rfl | rfl <;> rfl
theorem set1 : ∀ j, j < 1 → upd (fun _ : Nat => false) 0 true j = true := by decide
theorem set2 : ∀ j, j < 2 → upd (upd (fun _ : Nat => false) 0 true) 1 true j = true := by decide

set_option maxRecDepth 40000 in
set_option maxHeartbeats 1600000 in
theorem lives_any (w : World) (ht : TabAt w) (hp : 0 < w.heap.size) : Calls Tryd.prog 13 #[] w fun e w' => e = .returned (.bool true) ∧ Below w.heap.size w w' := by
  go_enter Tryd.func13, Tryd.ntmps13
  go_wp2_with fail
  refine (held_new (room := 2) w w (Below.refl _ _) ht hp (by decide) (by decide)).mono ?_
  rintro e w1 ⟨p, bt, bu, rfl, h1⟩
  go_wp2_with fail
  refine (held_put h1 7 0 (by decide) (fun j hj => absurd hj (Nat.not_lt_zero _)) rfl).mono ?_
  rintro e w2 ⟨rfl, h2⟩
  go_wp2_with fail
  refine (held_put h2 8 1 (by decide) set1 rfl).mono ?_
  rintro e w3 ⟨rfl, h3⟩
  go_wp2_with fail
  refine (held_full h3 9 set2).mono ?_
  rintro e w4 ⟨rfl, h4⟩
  go_wp2_with fail
  refine (held_free h4 0).mono ?_
  rintro e w5 ⟨he5, h5⟩
  rw [show hasU (upd (upd (fun _ => false) 0 true) 1 true) 0 = true from rfl] at he5 h5
  simp only [if_true] at he5 h5
  subst he5
  go_wp2_with fail
  refine (held_put h5 9 0 (by decide) (fun j hj => absurd hj (Nat.not_lt_zero _)) rfl).mono ?_
  rintro e w6 ⟨rfl, h6⟩
  go_wp2_with fail
  refine (held_get h6 0).mono ?_
  rintro e w7 ⟨he7, h7⟩
  replace he7 : e = .returned (.tuple #[.int .u64 9, .int .i64 0]) := he7
  subst he7
  go_wp2_with fail
  refine (held_get h7 2).mono ?_
  rintro e w8 ⟨he8, h8⟩
  replace he8 : e = .returned (.tuple #[.int .u64 0, .int .i64 11]) := he8
  subst he8
  go_wp2_with fail
  refine (new_less (n := 0) w8 (by decide)).mono ?_
  rintro e w9 ⟨rfl, rfl⟩
  go_wp2_with fail
  refine (new_more (n := 4097) w8 (by decide)).mono ?_
  rintro e w9 ⟨rfl, rfl⟩
  clear h1 h2 h3 h4 h5 h6 h7
  go_wp2_with fail
  refine (held_numbers h8).mono ?_
  rintro e w9 ⟨g, cap, he9, hg, ho, hb, h9⟩
  replace he9 : e = .returned (.slice (some ⟨g, 0, none⟩) 2 cap) := he9
  subst he9
  have hc : CellsAt w9 (some ⟨g, 0, none⟩) [0, 1] := ho.cells
  have hlt := ho.lt.1
  have hB9 := h9.below
  clear hg ho hb h9 h8
  go_wp2_with fail
  have hc2 : CellsAt (w9.alloc (.cells #[.int .i64 0, .int .i64 1] 3)) (some ⟨w9.heap.size, 0, none⟩) [0, 1] := two_cells _ _ _ _
  have hc1 : CellsAt (w9.alloc (.cells #[.int .i64 0, .int .i64 1] 3)) (some ⟨g, 0, none⟩) [0, 1] := hc.of_block (Below.heap_alloc _ _ _ hlt)
  refine (same_any (L := [0, 1]) (M := [0, 1]) _ hc1 hc2 (by decide) (by decide)).mono ?_
  rintro e w10 ⟨he, hb10⟩
  replace he : e = .returned (.bool true) := he
  subst he
  have hB10 : Below w.heap.size w w10 := (hB9.alloc hB9.size _).trans (hb10.mono (by have := hB9.size; simp; omega))
  clear hc1 hc2 hc hb10 hB9
  go_wp2
  go_ret
  exact ⟨rfl, hB10⟩

end Go.Proofs.YtghphopbfamclaaDoor
