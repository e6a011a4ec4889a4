/- The chapter's own queue: a list of hashes in memory; the walks of its Age and Push. -/
import Derived.Test.YtgipohphnegnhaaG
import Derived.Test.YtgipohphnegnhaaF
import Derived.Laws.OwnMore
namespace Go.Proofs.Ytgipohphnegnhaa
open Go.RowKit

def flat (L : List (List Int)) : List Value := L.flatMap fun h => h.map (Value.int .u8)

theorem flat_len {L : List (List Int)} (hL : ∀ h ∈ L, h.length = 32) : (flat L).length = L.length * 32 := by
  induction L with
  | nil => rfl
  | cons h L ih =>
    have h1 := hL h (by simp)
    have h2 := ih (fun x hx => hL x (by simp [hx]))
    simp only [flat, List.flatMap_cons, List.length_append, List.length_map, List.length_cons] at h2 ⊢
    omega

theorem flat_get {L : List (List Int)} (hL : ∀ h ∈ L, h.length = 32) : ∀ (i j : Nat) (h : List Int), L[i]? = some h → j < 32 → (flat L)[i * 32 + j]? = (icells .u8 h)[j]? := by
  induction L with
  | nil => intro i j h hi; simp at hi
  | cons x L ih =>
    intro i j h hi hj
    have h1 := hL x (by simp)
    have h2 := ih (fun y hy => hL y (by simp [hy]))
    cases i with
    | zero =>
      simp at hi
      subst hi
      simp only [flat, List.flatMap_cons, Nat.zero_mul, Nat.zero_add]
      rw [List.getElem?_append_left (by simp [h1, hj]), icells_get]
      simp
    | succ i =>
      rw [List.getElem?_cons_succ] at hi
      have h3 := h2 i j h hi hj
      rw [← h3]
      simp only [flat, List.flatMap_cons]
      rw [List.getElem?_append_right (by simp [h1]; omega)]
      congr 1
      simp [h1]
      omega

/-- A slice of hashes. -/
def SLH (w : World) (v : Value) (L : List (List Int)) (base : Nat := 0) : Prop := (∀ h ∈ L, h.length = 32) ∧ w.ownsRow base 26 32 v L.length (flat L)

theorem SLH.form {w : World} {v : Value} {L : List (List Int)} {base : Nat} (h : SLH w v L base) : ∃ a cap, v = .slice a L.length cap := by
  rcases h.2.2 with ⟨h1, h2⟩ | ⟨g, cap, _, h1, _⟩
  · exact ⟨none, 0, by rw [h1, h2]⟩
  · exact ⟨_, _, h1⟩

theorem SLH.nil (w : World) : SLH w (.slice none 0 0) [] := ⟨by simp, World.ownsRow_nil _ _ _ _⟩

theorem SLH.row {w : World} {v : Value} {L : List (List Int)} (h : SLH w v L) {i : Nat} {x : List Int} (hi : L[i]? = some x) :
    ∃ g cap, v = .slice (some ⟨g, 0, none⟩) L.length cap ∧ RowAt w g (i * 32) (icells .u8 x) := by
  have hlt : i < L.length := (List.getElem?_eq_some_iff.1 hi).1
  have hx : x.length = 32 := h.1 x (List.mem_of_getElem? hi)
  rcases h.2.2 with ⟨h1, h2⟩ | ⟨g, cap, cur, h1, _, h2, h3, h4, h5, h6⟩
  · omega
  · refine ⟨g, cap, h1, cur, 26, (0, 0), h2, by simp [hx]; omega, fun j hj => ?_⟩
    have hj' : j < 32 := by simpa [hx] using hj
    rw [← flat_get h.1 i j x hi hj', ← h6, List.getElem?_take_of_lt (by omega), Array.getElem?_toList]

theorem SLH.low {w : World} {v : Value} {L : List (List Int)} {base : Nat} (h : SLH w v L base) : SLH w v L := by
  refine ⟨h.1, h.2.1, ?_⟩
  rcases h.2.2 with h1 | ⟨g, cap, cur, h1, h2, h3⟩
  · exact .inl h1
  · exact .inr ⟨g, cap, cur, h1, Nat.zero_le _, h3⟩

theorem SLH.block {w : World} {v : Value} {L : List (List Int)} (h : SLH w v L) {g : Nat} (hg : v.ownBlock = some g) : ∃ C, w.heap[g]? = some (.cells C 26) := by
  rcases h.2.2 with ⟨h1, _⟩ | ⟨g', cap, cur, h1, _, h2, _⟩
  · rw [h1] at hg; cases hg
  · rw [h1] at hg
    cases hg
    exact ⟨cur, h2⟩

theorem SLH.keep {w w' : World} {v : Value} {L : List (List Int)} {base : Nat} (h : SLH w v L base) (hb : ∀ (g : Nat) (C : Array Value), base ≤ g → w.heap[g]? = some (.cells C 26) → w'.heap[g]? = some (.cells C 26)) : SLH w' v L base := by
  refine ⟨h.1, h.2.1, ?_⟩
  rcases h.2.2 with h1 | ⟨g, cap, cur, h1, h2, h3, h4⟩
  · exact .inl h1
  · exact .inr ⟨g, cap, cur, h1, h2, hb g cur h2 h3, h4⟩

theorem SLH.take {w : World} {g cap n : Nat} {L : List (List Int)} (h : SLH w (.slice (some ⟨g, 0, none⟩) L.length cap) L) (hn : n ≤ L.length) : SLH w (.slice (some ⟨g, 0, none⟩) n cap) (L.take n) := by
  have h1 : ∀ x ∈ L.take n, x.length = 32 := fun x hx => h.1 x (List.mem_of_mem_take hx)
  have hl : (L.take n).length = n := by simp; omega
  refine ⟨h1, by rw [flat_len h1], ?_⟩
  rcases h.2.2 with ⟨h2, _⟩ | ⟨g', cap', cur, h2, h3, h4, h5, h6, h7, h8⟩
  · cases h2
  · cases h2
    refine .inr ⟨g, cap, cur, by rw [hl], Nat.zero_le _, h4, by omega, h6, h7, ?_⟩
    rw [hl]
    have h9 : flat (L.take n) = (flat L).take (n * 32) := by
      have e : flat L = flat (L.take n) ++ flat (L.drop n) := by
        unfold flat
        rw [← List.flatMap_append, List.take_append_drop]
      rw [e, List.take_left' (by rw [flat_len h1, hl])]
    rw [h9, ← h8, List.take_take]
    congr 1
    have : n * 32 ≤ L.length * 32 := Nat.mul_le_mul_right _ hn
    omega

/-- The chapter's queue in block b. -/
def RQ (w : World) (b : Nat) (L : List (List Int)) : Prop := ∃ v, w.heap[b]? = some (.cells #[v] 40) ∧ SLH w v L

theorem RQ.lt {w : World} {b : Nat} {L : List (List Int)} (h : RQ w b L) : b < w.heap.size := by
  obtain ⟨v, h1, _⟩ := h
  exact (Array.getElem?_eq_some_iff.1 h1).1
theorem RQ.keep {w w' : World} {b : Nat} {L : List (List Int)} (h : RQ w b L) (hb : Below w.heap.size w w') : RQ w' b L := by
  obtain ⟨v, h1, h2⟩ := h
  exact ⟨v, (hb.block _ (Array.getElem?_eq_some_iff.1 h1).1).trans h1, h2.keep fun g C _ hg => (hb.block _ (Array.getElem?_eq_some_iff.1 hg).1).trans hg⟩
theorem SLH.kept {w w' : World} {v : Value} {L : List (List Int)} (h : SLH w v L) (hb : Below w.heap.size w w') : SLH w' v L :=
  h.keep fun _ _ _ hg => (hb.block _ (Array.getElem?_eq_some_iff.1 hg).1).trans hg

section
variable {ops : Array Oper} {Q : Exit → Act → World → Prop} {a : Act} {w : World} {rest : List Oper} {dst : Option Tmp} {x y : Operand} {ty : TypeId} {pos : String} {after : Array Edge} {h k : List Int}
theorem wq_eql26 {C : World → Prop} {R : Act → Prop} {ty' : TypeId} {c : Bool} (hx : a.eval x = hv h) (hy : a.eval y = hv k) (hl : h.length = 32) (hl' : k.length = 32) (hc : (h == k) = c) (K : wpQuiet Try.prog ops C R rest (a.put dst (.bool c))) :
    wpQuiet Try.prog ops C R (⟨dst, .binOp .eql 26 x y ty', ty, pos, after, none⟩ :: rest) a :=
  wpQuiet_run rfl (fun _ _ => by rw [← hc]; exact exec_eql_ints rfl hx hy hash_g26 hash_u26 hash_u5 hash_s5 hl hl') K
end

theorem ageOf_hit' {L : List (List Int)} {h : List Int} {k : Nat} (hno : ∀ j, j < k → L[j]? ≠ some h) (he : L[k]? = some h) : ageOf L h = some k :=
  ageOf_some_of he hno

set_option maxRecDepth 20000 in
set_option maxHeartbeats 400000 in
theorem rage_any (b : Nat) (L : List (List Int)) (hL : L.length ≤ 151) (h : List Int) (hl : h.length = 32) (w : World) (hq : RQ w b L) :
    Calls Try.prog 14 #[.pointer (some ⟨b, 0, none⟩), hv h] w fun e w' => e = .returned (ageVal L h) ∧ Below w.heap.size w w' := by
  obtain ⟨v, hv0, hs⟩ := hq
  obtain ⟨ad, cap, rfl⟩ := hs.form
  have hlt := (Array.getElem?_eq_some_iff.1 hv0).1
  have hq1 : (w.alloc (.cells (icells .u8 h) 26)).heap[b]? = some (.cells #[.slice ad L.length cap] 40) := (Below.heap_alloc _ _ _ hlt).trans hv0
  have hs1 : SLH (w.alloc (.cells (icells .u8 h) 26)) (.slice ad L.length cap) L := hs.kept ((Below.refl _ _).alloc (Nat.le_refl _) _)
  have hr1 : RowAt (w.alloc (.cells (icells .u8 h) 26)) w.heap.size 0 (icells .u8 h) := .of_cells (heap_alloc_new _ _)
  have hcell : ∀ W : World, W.heap[b]? = some (.cells #[.slice ad L.length cap] 40) → W.cell? ⟨b, 0, none⟩ = some (.slice ad L.length cap) := fun W hW => by
    simp [World.cell?, hW]
  go_enter Try.func14, Try.ntmps14
  go_wp2_with ((with_reducible refine wl_box26 (h := h) ?_ ?_); (exact rfl))
  go_loopw [4, 5, 6] (fun v4 v5 v6 wr => ∃ k : Nat, k ≤ L.length ∧ v6 = .int .i64 k ∧ v4 = .int .i64 0 ∧ v5 = .bool false ∧ (∀ j, j < k → L[j]? ≠ some h) ∧ wr.heap[b]? = some (.cells #[.slice ad L.length cap] 40) ∧ SLH wr (.slice ad L.length cap) L ∧ RowAt wr w.heap.size 0 (icells .u8 h) ∧ Below w.heap.size w wr)
    (fun _ _ v6 _ => L.length - (intOf v6).toNat)
  case atStart => exact ⟨0, Nat.zero_le _, rfl, rfl, rfl, fun j hj => absurd hj (Nat.not_lt_zero _), hq1, hs1, hr1, (Below.refl _ _).alloc (Nat.le_refl _) _⟩
  case round =>
    clear hq1 hs1 hr1 hs hv0
    obtain ⟨k, hk, rfl, rfl, rfl, hno, hqr, hsr, hrr, hbr⟩ := hrel
    have hc0 := hcell wr hqr
    have HQ := Lib.hid hqr
    have HC := Lib.hid hcell
    clear hqr hcell
    by_cases hlt : k < L.length
    · obtain ⟨x, hx⟩ : ∃ x, L[k]? = some x := ⟨L[k], List.getElem?_eq_getElem hlt⟩
      have hxl := hsr.1 x (List.mem_of_getElem? hx)
      obtain ⟨g, cap', hv1, hrow⟩ := hsr.row hx
      cases hv1
      have HX := Lib.hid hx
      clear hx
      have hrC : ∀ w', (∃ n, w' = wr.drewN n) → RowAt w' w.heap.size 0 (icells .u8 h) := fun w' ⟨n, e⟩ => by subst e; exact hrr.of_block rfl
      have hxC : ∀ w', (∃ n, w' = wr.drewN n) → RowAt w' g (k * 32) (icells .u8 x) := fun w' ⟨n, e⟩ => by subst e; exact hrow.of_block rfl
      have hlt' : (k : Int) < (L.length : Int) := by omega
      go_wp2_with fail
      refine wp_region_quiet_lit (by kernel_rfl) (by kernel_rfl) ?_
      repeat quiet_step (fail)
      refine wq_load26 rfl hxC hxl ?_
      refine wq_load26 rfl hrC hl ?_
      have hbC : ∀ wq, (∃ n, wq = wr.drewN n) → Below w.heap.size w wq := fun wq ⟨n, e⟩ => by subst e; exact ⟨hbr.os, hbr.tape, hbr.output, hbr.size, hbr.block⟩
      have hsC : ∀ wq, (∃ n, wq = wr.drewN n) → SLH wq (.slice (some ⟨g, 0, none⟩) L.length cap) L := fun wq ⟨n, e⟩ => by subst e; exact hsr
      have hqC : ∀ wq, (∃ n, wq = wr.drewN n) → wq.heap[b]? = some (.cells #[.slice (some ⟨g, 0, none⟩) L.length cap] 40) := fun wq ⟨n, e⟩ => by subst e; exact HQ.out
      by_cases heq : x = h
      · refine wq_eql26 (c := true) rfl rfl hxl hl (by simpa using heq) ?_
        refine wpQuiet_nil ?_
        intro wq hwq
        have hbq := hbC wq hwq
        have hv : ageOf L h = some k := ageOf_hit' hno (by rw [HX.out, heq])
        have HV : Hid (ageOf L h = some k) := hv
        clear hv heq hno hrC hxC hbC hsC hqC hwq
        simp only [Act.put, List.setIfInBounds_toArray, List.set_cons_zero, List.set_cons_succ]
        go_wp2
        go_ret2
        exact ⟨by unfold ageVal; rw [HV.out]; rfl, hbq⟩
      · refine wq_eql26 (c := false) rfl rfl hxl hl (by simpa using heq) ?_
        refine wpQuiet_nil ?_
        intro wq hwq
        have hbq := hbC wq hwq
        have hsq := hsC wq hwq
        have hqq := hqC wq hwq
        have hrq := hrC wq hwq
        have HE := Lib.hid heq
        have HQQ := Lib.hid hqq
        clear heq hqq hrC hxC hbC hsC hqC hwq hc0
        simp only [Act.put, List.setIfInBounds_toArray, List.set_cons_zero, List.set_cons_succ]
        go_wp2
        go_roundw
        case rel =>
          refine ⟨k + 1, hlt, by go_num, rfl, rfl, fun j hj => ?_, HQQ.out, hsq, hrq, hbq⟩
          by_cases e : j = k
          · subst e
            rw [HX.out]
            exact fun e => HE.out (Option.some.inj e)
          · exact hno j (by omega)
        case measure => simp [intOf]; omega
    · have hv : ageOf L h = none := ageOf_none_of fun j => by
        by_cases hj : j < k
        · exact hno j hj
        · rw [List.getElem?_eq_none (by omega)]; simp
      have HV := Lib.hid hv
      clear hv hno
      go_wp2
      go_ret2
      exact ⟨by unfold ageVal; rw [HV.out]; rfl, hbr⟩

end Go.Proofs.Ytgipohphnegnhaa
