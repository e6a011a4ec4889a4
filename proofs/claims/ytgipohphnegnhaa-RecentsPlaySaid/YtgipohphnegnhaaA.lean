/- Walks over the queue of recent hashes: the small callees, and Age. -/
import Derived.Test.YtgipohphnegnhaaRows
import Derived.Test.YtgipohphnegnhaaOps
import Derived.Lib.Hide
import Derived.Deep.LoopGhost
namespace Go.Proofs.Ytgipohphnegnhaa
open Go.RowKit

/-- A hash as a value: 32 bytes. -/
def hv (h : List Int) : Value := .agg (icells .u8 h)

/-- What a queue holds: its ring, where the next one goes, how many there are. -/
structure QS where
  R : Nat → List Int
  nx : Nat
  mn : Nat

structure QS.ok (s : QS) : Prop where
  nx : s.nx < 150
  mn : s.mn ≤ 150
  len : ∀ i, i < 150 → (s.R i).length = 32

/-- A queue that a call made lies in block b. -/
def QAt (w : World) (b : Nat) (s : QS) : Prop :=
  ∃ C : Array Value, w.heap[b]? = some (.cells C 44) ∧ C.size = 4803 ∧ (∀ i, i < 150 → ∀ j, j < 32 → C[i * 32 + j]? = some (.int .u8 ((s.R i).getD j 0))) ∧
    C[4800]? = some (.int .i64 s.nx) ∧ C[4801]? = some (.int .i64 s.mn) ∧ C[4802]? = some (.int .i64 1)

theorem QAt.of_block {w w' : World} {b : Nat} {s : QS} (h : QAt w b s) (he : w'.heap[b]? = w.heap[b]?) : QAt w' b s := by
  obtain ⟨C, h1, h2⟩ := h
  exact ⟨C, he.trans h1, h2⟩

theorem QAt.lt {w : World} {b : Nat} {s : QS} (h : QAt w b s) : b < w.heap.size := by
  obtain ⟨C, h1, _⟩ := h
  exact (Array.getElem?_eq_some_iff.1 h1).1

theorem QAt.nx {w : World} {b : Nat} {s : QS} (h : QAt w b s) : w.cell? ⟨b, 4800, none⟩ = some (.int .i64 s.nx) := by
  obtain ⟨C, h1, _, _, h2, _, _⟩ := h
  simp [World.cell?, h1, h2]
theorem QAt.mn {w : World} {b : Nat} {s : QS} (h : QAt w b s) : w.cell? ⟨b, 4801, none⟩ = some (.int .i64 s.mn) := by
  obtain ⟨C, h1, _, _, _, h2, _⟩ := h
  simp [World.cell?, h1, h2]
theorem QAt.made {w : World} {b : Nat} {s : QS} (h : QAt w b s) : w.cell? ⟨b, 4802, none⟩ = some (.int .i64 1) := by
  obtain ⟨C, h1, _, _, _, _, h2⟩ := h
  simp [World.cell?, h1, h2]
theorem QAt.row {w : World} {b : Nat} {s : QS} (h : QAt w b s) (hs : s.ok) {i : Nat} (hi : i < 150) : RowAt w b (i * 32) (icells .u8 (s.R i)) := by
  obtain ⟨C, h1, h2, h3, _⟩ := h
  have hl := hs.len i hi
  refine ⟨C, 44, (0, 0), h1, by simp [h2, hl]; omega, fun j hj => ?_⟩
  have hj' : j < 32 := by simpa [hl] using hj
  rw [h3 i hi j hj', icells_get]
  simp [hl, hj']

/-- The hash of an age. -/
def QS.nth (s : QS) (k : Nat) : List Int := s.R ((s.nx + 299 - k) % 150)

/-- The hashes, the newest first. -/
def QS.list (s : QS) : List (List Int) := (List.range s.mn).map s.nth

/-- The age of a hash. -/
def ageOf (L : List (List Int)) (h : List Int) : Option Nat := L.findIdx? (· == h)

theorem ageOf_hit {s : QS} {h : List Int} {k : Nat} (hk : k < s.mn) (hno : ∀ j, j < k → s.nth j ≠ h) (he : s.nth k = h) : ageOf s.list h = some k := by
  unfold ageOf
  rw [List.findIdx?_eq_some_iff_getElem]
  refine ⟨by simpa [QS.list] using hk, by simpa [QS.list] using he, fun j hj => ?_⟩
  simpa [QS.list] using hno j hj

theorem ageOf_miss {s : QS} {h : List Int} (hno : ∀ j, j < s.mn → s.nth j ≠ h) : ageOf s.list h = none := by
  unfold ageOf
  rw [List.findIdx?_eq_none_iff]
  intro x hx
  simp only [QS.list, List.mem_map, List.mem_range] at hx
  obtain ⟨j, hj, rfl⟩ := hx
  simpa using hno j hj

/-- What Age hands back. -/
def ageVal (L : List (List Int)) (h : List Int) : Value := .tuple #[.int .i64 (((ageOf L h).getD 0 : Nat) : Int), .bool (ageOf L h).isSome]

set_option maxHeartbeats 400000 in
theorem there_any (b : Nat) (w : World) (h : w.cell? ⟨b, 4802, none⟩ = some (.int .i64 1)) :
    Calls Try.prog 15 #[.pointer (some ⟨b, 0, none⟩)] w fun e w' => e = .returned (.bool true) ∧ w = w' := by
  go_enter Try.func15, Try.ntmps15
  go_wp2
  go_ret
  exact ⟨rfl, rfl⟩

set_option maxHeartbeats 400000 in
theorem at_any (b nx k : Nat) (w : World) (h : w.cell? ⟨b, 4800, none⟩ = some (.int .i64 nx)) (h1 : nx < 150) (g1 : k < 150) :
    Calls Try.prog 16 #[.pointer (some ⟨b, 0, none⟩), .int .i64 k] w fun e w' => e = .returned (.int .i64 (((nx + 299 - k) % 150 : Nat) : Int)) ∧ w = w' := by
  have e : ((nx : Int) - 1 - k + 300) % 150 = (((nx + 299 - k) % 150 : Nat) : Int) := by omega
  have H := Lib.hid e
  clear e
  go_enter Try.func16, Try.ntmps16
  go_wp2
  go_ret
  exact ⟨congrArg (fun n => Ending.returned (.int .i64 n)) H.out, rfl⟩

set_option maxHeartbeats 400000 in
theorem len_any (b : Nat) (mn : Nat) (w : World) (h : w.cell? ⟨b, 4802, none⟩ = some (.int .i64 1)) (h1 : w.cell? ⟨b, 4801, none⟩ = some (.int .i64 mn)) :
    Calls Try.prog 10 #[.pointer (some ⟨b, 0, none⟩)] w fun e w' => e = .returned (.int .i64 mn) ∧ w = w' := by
  go_enter Try.func10, Try.ntmps10
  go_wp2_with (go_at_call 15; refine (there_any _ _ (by assumption)).mono ?_; rintro e w' ⟨rfl, rfl⟩)
  go_ret
  exact ⟨rfl, rfl⟩

theorem hash_u26 : Try.prog.underlying 26 = some (.array 32 5) := by kernel_rfl
theorem hash_u5 : Try.prog.underlying 5 = some (.int .u8) := by kernel_rfl
theorem hash_s26 : (Try.prog.info? 26).map (·.size) = some 32 := by kernel_rfl
theorem hash_s5 : (Try.prog.info? 5).map (·.size) = some 1 := by kernel_rfl
theorem hash_g26 : Try.prog.eqGuardType Try.prog.depth 26 = false := by kernel_rfl

section
variable {ops : Array Oper} {Q : Exit → Act → World → Prop} {a : Act} {w : World} {rest : List Oper} {dst : Option Tmp} {x y : Operand} {ty : TypeId} {pos : String} {after : Array Edge} {h k : List Int}

theorem wl_box26 (hx : a.eval x = hv h) (K : wpList Try.prog ops Q rest (a.put dst (.pointer (some ⟨w.heap.size, 0, none⟩))) (w.alloc (.cells (icells .u8 h) 26))) :
    wpList Try.prog ops Q (⟨dst, .box 26 x, ty, pos, after, none⟩ :: rest) a w :=
  wpList_run rfl (exec_box rfl hx rfl) K

theorem wl_load26 {b off : Nat} (hx : a.eval x = .pointer (some ⟨b, off, none⟩)) (hr : RowAt w b off (icells .u8 h)) (hl : h.length = 32) (K : wpList Try.prog ops Q rest (a.put dst (hv h)) w) :
    wpList Try.prog ops Q (⟨dst, .load 26 x, ty, pos, after, none⟩ :: rest) a w :=
  wpList_run rfl (exec_load_sub rfl hx hr hash_u26 rfl (by rw [size_icells, hl]; exact hash_s26)) K

theorem wq_load26 {C : World → Prop} {R : Act → Prop} {b off : Nat} (hx : a.eval x = .pointer (some ⟨b, off, none⟩)) (hr : ∀ w, C w → RowAt w b off (icells .u8 h)) (hl : h.length = 32) (K : wpQuiet Try.prog ops C R rest (a.put dst (hv h))) :
    wpQuiet Try.prog ops C R (⟨dst, .load 26 x, ty, pos, after, none⟩ :: rest) a :=
  wpQuiet_run rfl (fun w hw => exec_load_sub rfl hx (hr w hw) hash_u26 rfl (by rw [size_icells, hl]; exact hash_s26)) K

theorem wq_neq26 {C : World → Prop} {R : Act → Prop} {ty' : TypeId} (hx : a.eval x = hv h) (hy : a.eval y = hv k) (hl : h.length = 32) (hl' : k.length = 32) (K : wpQuiet Try.prog ops C R rest (a.put dst (.bool (!(h == k))))) :
    wpQuiet Try.prog ops C R (⟨dst, .binOp .neq 26 x y ty', ty, pos, after, none⟩ :: rest) a :=
  wpQuiet_run rfl (fun _ _ => exec_neq_ints rfl hx hy hash_g26 hash_u26 hash_u5 hash_s5 hl hl') K
end

set_option maxHeartbeats 400000 in
theorem age_any (b : Nat) (s : QS) (hs : s.ok) (h : List Int) (hl : h.length = 32) (w : World) (hq : QAt w b s) :
    Calls Try.prog 9 #[.pointer (some ⟨b, 0, none⟩), hv h] w fun e w' => e = .returned (ageVal s.list h) ∧ Below w.heap.size w w' := by
  have hm := hs.mn
  go_enter Try.func9, Try.ntmps9
  have hq1 : QAt (w.alloc (.cells (icells .u8 h) 26)) b s := hq.of_block (Below.heap_alloc _ _ _ hq.lt)
  have hr1 : RowAt (w.alloc (.cells (icells .u8 h) 26)) w.heap.size 0 (icells .u8 h) := .of_cells (heap_alloc_new _ _)
  have c1 := hq1.made
  have c2 := hq1.mn
  go_wp2_with (refine wl_box26 (h := h) rfl ?_)
  go_step3
  go_wp2_with (first
    | (refine wl_box26 (h := h) rfl ?_)
    | (go_at_call 15; refine (there_any _ _ c1).mono ?_; rintro e w' ⟨rfl, rfl⟩))
  go_step3
  go_wp2
  go_loopw [4, 5, 6, 14] (fun v4 v5 v6 v14 wr => ∃ k : Nat, k ≤ s.mn ∧ v14 = .int .i64 k ∧ v4 = .int .i64 0 ∧ v5 = .bool false ∧ (∀ j, j < k → s.nth j ≠ h) ∧ QAt wr b s ∧ RowAt wr w.heap.size 0 (icells .u8 h) ∧ Below w.heap.size w wr)
    (fun _ _ _ v14 _ => s.mn - (intOf v14).toNat)
  case atStart => exact ⟨0, Nat.zero_le _, rfl, rfl, rfl, fun j hj => absurd hj (Nat.not_lt_zero _), hq1, hr1, (Below.refl _ _).alloc (Nat.le_refl _) _⟩
  case round =>
    clear c1 c2 hq1 hr1
    obtain ⟨k, hk, rfl, rfl, rfl, hno, hqr, hrr, hbr⟩ := hrel
    have hlk : k < 150 → (s.nth k).length = 32 := fun _ => hs.len _ (Nat.mod_lt _ (by decide))
    by_cases hlt : k < s.mn
    · have hqC : ∀ w', (∃ n, w' = wr.drewN n) → QAt w' b s := fun w' ⟨n, e⟩ => by subst e; exact hqr.of_block rfl
      have hrC : ∀ w', (∃ n, w' = wr.drewN n) → RowAt w' w.heap.size 0 (icells .u8 h) := fun w' ⟨n, e⟩ => by subst e; exact hrr.of_block rfl
      obtain ⟨p, hp⟩ : ∃ p, (s.nx + 299 - k) % 150 = p := ⟨_, rfl⟩
      have hp1 : p < 150 := by rw [← hp]; exact Nat.mod_lt _ (by decide)
      have hp2 : (p : Int) < 150 := by omega
      have hat : ∀ n, Calls Try.prog 16 #[.pointer (some ⟨b, 0, none⟩), .int .i64 k] (wr.drewN n) fun e w' => e = .returned (.int .i64 (p : Int)) ∧ ∃ m, w' = wr.drewN m := fun n =>
        (at_any b s.nx k _ (hqC _ ⟨n, rfl⟩).nx hs.nx (by omega)).mono fun e w' ⟨h1, h2⟩ => ⟨by rw [h1, hp], n, h2.symm⟩
      have HAT := Lib.hid hat
      have HP := Lib.hid hp
      have hn : s.nth k = s.R p := by unfold QS.nth; rw [hp]
      have HN := Lib.hid hn
      clear hp hat hn
      go_wp2
      refine wp_region_quiet_lit (by kernel_rfl) (by kernel_rfl) ?_
      repeat quiet_step ((go_at_call 16; exact HAT.out _))
      refine wq_load26 rfl (fun w' hw' => (hqC w' hw').row hs hp1) (hs.len p hp1) ?_
      refine wq_load26 rfl hrC hl ?_
      by_cases heq : s.R p = h
      · have hcb : (s.R p == h) = true := by simpa using heq
        refine wq_neq26 rfl rfl (hs.len p hp1) hl ?_
        rw [hcb]
        clear hcb
        have HE := Lib.hid heq
        clear heq
        refine wpQuiet_nil ?_
        intro wq hwq
        have hqq := hqC wq hwq
        have hrq := hrC wq hwq
        have hbq : Below w.heap.size w wq := by obtain ⟨n, rfl⟩ := hwq; exact ⟨hbr.os, hbr.tape, hbr.output, hbr.size, hbr.block⟩
        clear hqC hrC hwq
        have hv := ageOf_hit hlt hno (HN.out.trans HE.out)
        have HV : Hid (ageOf s.list h = some k) := hv
        clear hv
        simp only [Act.put, List.setIfInBounds_toArray, List.set_cons_zero, List.set_cons_succ, Bool.not_true]
        go_wp2
        rw [Exit.noGoto_ret]
        go_ret2
        exact ⟨by unfold ageVal; rw [HV.out]; rfl, hbq⟩
      · have hcb : (s.R p == h) = false := by simpa using heq
        refine wq_neq26 rfl rfl (hs.len p hp1) hl ?_
        rw [hcb]
        clear hcb
        have HE := Lib.hid heq
        clear heq
        refine wpQuiet_nil ?_
        intro wq hwq
        have hqq := hqC wq hwq
        have hrq := hrC wq hwq
        have hbq : Below w.heap.size w wq := by obtain ⟨n, rfl⟩ := hwq; exact ⟨hbr.os, hbr.tape, hbr.output, hbr.size, hbr.block⟩
        clear hqC hrC hwq
        simp only [Act.put, List.setIfInBounds_toArray, List.set_cons_zero, List.set_cons_succ, Bool.not_false]
        go_wp2
        go_roundw
        case rel =>
          refine ⟨k + 1, hlt, by go_num, rfl, rfl, fun j hj => ?_, hqq, hrq, hbq⟩
          by_cases e : j = k
          · subst e
            rw [HN.out]
            exact HE.out
          · exact hno j (by omega)
        case measure => simp [intOf]; omega
    · have hv := ageOf_miss (s := s) (h := h) (fun j hj => hno j (by omega))
      have HV : Hid (ageOf s.list h = none) := hv
      clear hv
      go_wp2
      rw [Exit.noGoto_ret]
      go_ret2
      exact ⟨by unfold ageVal; rw [HV.out]; rfl, hbr⟩

end Go.Proofs.Ytgipohphnegnhaa
