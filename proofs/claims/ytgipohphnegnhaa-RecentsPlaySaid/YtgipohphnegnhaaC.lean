/- Walks over the queue of recent hashes: Copy and Push. -/
import Derived.Test.YtgipohphnegnhaaB
namespace Go.Proofs.Ytgipohphnegnhaa
open Go.RowKit

theorem QAt.oneCell {w : World} {b : Nat} {s : QS} {C : Array Value} (hg : w.heap[b]? = some (.cells C 44)) (h : QAt w b s) : C.size = 4803 ∧ ∀ v ∈ C.toList, v.oneCell' = true := by
  obtain ⟨C', h1, h2, h3, h4, h5, h6⟩ := h
  rw [hg] at h1
  cases h1
  refine ⟨h2, fun v hv => ?_⟩
  obtain ⟨i, hi, rfl⟩ := List.getElem_of_mem hv
  have hi' : i < 4803 := by simpa [h2] using hi
  have hget : C[i]? = some (C.toList[i]) := by simp
  by_cases c : i < 4800
  · have := h3 (i / 32) (by omega) (i % 32) (Nat.mod_lt _ (by decide))
    rw [Nat.div_add_mod' i 32, hget] at this
    rw [Option.some.inj this]; rfl
  · obtain rfl | rfl | rfl : i = 4800 ∨ i = 4801 ∨ i = 4802 := by omega
    · rw [h4] at hget; rw [← Option.some.inj hget]; rfl
    · rw [h5] at hget; rw [← Option.some.inj hget]; rfl
    · rw [h6] at hget; rw [← Option.some.inj hget]; rfl

theorem q_u44 : Try.prog.underlying 44 = some (.struct (Try.prog.fieldsOf 44)) := by kernel_rfl
theorem q_s44 : (Try.prog.info? 44).map (·.size) = some 4803 := by kernel_rfl
def zQ : Array Value := (List.replicate 4800 (Value.int .u8 0) ++ List.replicate 3 (Value.int .i64 0)).toArray
theorem q_z44 : (Try.prog.info? 44).bind (·.zero) = some (.agg zQ) := by kernel_rfl
theorem zQ_size : zQ.size = 4803 := by
  unfold zQ
  rw [List.size_toArray, List.length_append, List.length_replicate, List.length_replicate]

section
variable {ops : Array Oper} {Q : Exit → Act → World → Prop} {a : Act} {w : World} {rest : List Oper} {dst : Option Tmp} {x y : Operand} {ty : TypeId} {pos : String} {after : Array Edge} {h k : List Int}

theorem wl_load44 {b : Nat} {C : Array Value} (hx : a.eval x = .pointer (some ⟨b, 0, none⟩)) (hg : w.heap[b]? = some (.cells C 44)) (hC : C.size = 4803) (K : wpList Try.prog ops Q rest (a.put dst (.agg C)) w) :
    wpList Try.prog ops Q (⟨dst, .load 44 x, ty, pos, after, none⟩ :: rest) a w :=
  wpList_run rfl (exec_load_sub rfl hx (RowAt.of_cells hg) q_u44 rfl (by rw [hC]; exact q_s44)) K

theorem wst_load26 {R : Act → Prop} {b off : Nat} (hx : a.eval x = .pointer (some ⟨b, off, none⟩)) (hr : RowAt w b off (icells .u8 h)) (hl : h.length = 32) (K : wpStill Try.prog ops w R rest (a.put dst (hv h))) :
    wpStill Try.prog ops w R (⟨dst, .load 26 x, ty, pos, after, none⟩ :: rest) a :=
  wpStill_run rfl (exec_load_sub rfl hx hr hash_u26 rfl (by rw [size_icells, hl]; exact hash_s26)) K

theorem wl_alloc44 (K : wpList Try.prog ops Q rest (a.put dst (.pointer (some ⟨w.heap.size, 0, none⟩))) (w.alloc (.cells zQ 44))) :
    wpList Try.prog ops Q (⟨dst, .alloc 44, ty, pos, after, none⟩ :: rest) a w :=
  wpList_run rfl (exec_alloc rfl q_z44 rfl) K

theorem wl_store44 {b : Nat} {C Z : Array Value} (hp : a.eval x = .pointer (some ⟨b, 0, none⟩)) (hx : a.eval y = .agg C) (hC : C.size = 4803) (h1 : ∀ v ∈ C.toList, v.oneCell' = true) (hg : w.heap[b]? = some (.cells Z 44)) (hZ : Z.size = 4803)
    (K : ∀ w1, w1.heap[b]? = some (.cells C 44) → Wrote w w1 b → wpList Try.prog ops Q rest (a.put dst undef) w1) :
    wpList Try.prog ops Q (⟨dst, .store 44 x y, ty, pos, after, none⟩ :: rest) a w := by
  refine wpList_runSkip rfl (exec_store_sub (A := C) rfl hp hx rfl hg (by omega) h1 (by rw [hC]; exact q_s44)) (K _ ?_ (Wrote.setRow _ _ _))
  rw [splice_whole (by omega)]
  exact setRow_heap w b Z _ 44 _ hg

/-- A store of one integer into a queue's block. -/
theorem exec_store_int {P : Program} {o : Oper} {k : IntKind} {t : TypeId} {b off : Nat} {C : Array Value} {n : Int} (ho : o.op = .store ty x y) (hp : a.eval x = .pointer (some ⟨b, off, none⟩)) (hx : a.eval y = .int k n)
    (hg : w.heap[b]? = some (.cells C t)) (hle : off < C.size) (hi : (P.info? ty).map (·.size) = some 1) :
    ∃ w1, (execOp a.eval o).run P w = .ok .skip w1 ∧ w1.heap[b]? = some (.cells (splice C off #[.int k n]) t) ∧ Wrote w w1 b :=
  ⟨_, exec_store_sub (A := #[.int k n]) ho hp hx rfl hg (by simp; omega) (by simp [Value.oneCell']) (by simpa using hi), setRow_heap w b C _ t _ hg, Wrote.setRow _ _ _⟩

theorem wl_store_mn {b : Nat} {s : QS} (v : Nat) (hp : a.eval x = .pointer (some ⟨b, 4801, none⟩)) (hx : a.eval y = .int .i64 v) (hq : QAt w b s)
    (K : ∀ w1, QAt w1 b { s with mn := v } → Wrote w w1 b → wpList Try.prog ops Q rest (a.put dst undef) w1) :
    wpList Try.prog ops Q (⟨dst, .store 3 x y, ty, pos, after, none⟩ :: rest) a w := by
  obtain ⟨C, hg, hC, h3, h4, h5, h6⟩ := hq
  obtain ⟨w1, hr, hw, hW⟩ := exec_store_int (P := Try.prog) (o := ⟨dst, .store 3 x y, ty, pos, after, none⟩) rfl hp hx hg (by omega) (by kernel_rfl)
  refine wpList_runSkip rfl hr (K _ ⟨_, hw, by rw [size_splice (by simp; omega), hC], fun i hi j hj => ?_, ?_, ?_, ?_⟩ hW)
  · rw [splice_out (by simp; omega) (by simp; omega)]; exact h3 i hi j hj
  · rw [splice_out (by simp; omega) (by simp)]; exact h4
  · have := splice_in (C := C) (A := #[.int .i64 (v : Int)]) (off := 4801) (j := 0) (by simp; omega) (by simp)
    simpa using this
  · rw [splice_out (by simp; omega) (by simp)]; exact h6

theorem wl_store_nx {b : Nat} {s : QS} (v : Nat) (hp : a.eval x = .pointer (some ⟨b, 4800, none⟩)) (hx : a.eval y = .int .i64 v) (hq : QAt w b s)
    (K : ∀ w1, QAt w1 b { s with nx := v } → Wrote w w1 b → wpList Try.prog ops Q rest (a.put dst undef) w1) :
    wpList Try.prog ops Q (⟨dst, .store 3 x y, ty, pos, after, none⟩ :: rest) a w := by
  obtain ⟨C, hg, hC, h3, h4, h5, h6⟩ := hq
  obtain ⟨w1, hr, hw, hW⟩ := exec_store_int (P := Try.prog) (o := ⟨dst, .store 3 x y, ty, pos, after, none⟩) rfl hp hx hg (by omega) (by kernel_rfl)
  refine wpList_runSkip rfl hr (K _ ⟨_, hw, by rw [size_splice (by simp; omega), hC], fun i hi j hj => ?_, ?_, ?_, ?_⟩ hW)
  · rw [splice_out (by simp; omega) (by simp; omega)]; exact h3 i hi j hj
  · have := splice_in (C := C) (A := #[.int .i64 (v : Int)]) (off := 4800) (j := 0) (by simp; omega) (by simp)
    simpa using this
  · rw [splice_out (by simp; omega) (by simp)]; exact h5
  · rw [splice_out (by simp; omega) (by simp)]; exact h6

theorem wl_store_ring {b p : Nat} {s : QS} (hp : a.eval x = .pointer (some ⟨b, p * 32, none⟩)) (hp1 : p < 150) (hx : a.eval y = hv h) (hl : h.length = 32) (hq : QAt w b s)
    (K : ∀ w1, QAt w1 b { s with R := fun i => if i = p then h else s.R i } → Wrote w w1 b → wpList Try.prog ops Q rest (a.put dst undef) w1) :
    wpList Try.prog ops Q (⟨dst, .store 26 x y, ty, pos, after, none⟩ :: rest) a w := by
  obtain ⟨C, hg, hC, h3, h4, h5, h6⟩ := hq
  have hsz : (icells .u8 h).size = 32 := by simp [hl]
  refine wpList_runSkip rfl (exec_store_sub (A := icells .u8 h) rfl hp hx rfl hg (by omega) (icells_one _ _) (by rw [hsz]; exact hash_s26))
    (K _ ⟨_, setRow_heap w b C _ 44 _ hg, by rw [size_splice (by omega), hC], fun i hi j hj => ?_, ?_, ?_, ?_⟩ (Wrote.setRow _ _ _))
  · by_cases e : i = p
    · subst e
      rw [splice_in (by omega) (by omega), icells_get]
      simp [hl, hj]
    · rw [splice_out (by omega) (by omega)]
      simp only [if_neg e]
      exact h3 i hi j hj
  · rw [splice_out (by omega) (by omega)]; exact h4
  · rw [splice_out (by omega) (by omega)]; exact h5
  · rw [splice_out (by omega) (by omega)]; exact h6
end

set_option maxHeartbeats 400000 in
theorem copy_any (b : Nat) (s : QS) (w : World) (hq : QAt w b s) :
    Calls Try.prog 12 #[.pointer (some ⟨b, 0, none⟩)] w fun e w' => ∃ c, e = .returned (.pointer (some ⟨c, 0, none⟩)) ∧ w.heap.size = c ∧ QAt w' c s ∧ Below w.heap.size w w' := by
  obtain ⟨C, hg, hrest⟩ := id hq
  have ho := QAt.oneCell hg hq
  have HO := Lib.hid ho
  have HR := Lib.hid hrest
  have c1 := hq.made
  clear ho hrest
  have HG := Lib.hid hg
  clear hg
  go_enter Try.func12, Try.ntmps12
  go_wp2_with (first
    | (go_at_call 15; refine (there_any _ _ c1).mono ?_; rintro e w' ⟨rfl, rfl⟩)
    | ((with_reducible refine wl_load44 ?_ HG.out HO.out.1 ?_); (exact rfl))
    | ((with_reducible refine wl_alloc44 ?_))
    | ((with_reducible refine wl_store44 (b := w.heap.size) ?_ ?_ HO.out.1 HO.out.2 (heap_alloc_new _ _) zQ_size ?_); (exact rfl); (exact rfl); intro w1 hw1 hW1))
  go_ret
  exact ⟨_, rfl, rfl, ⟨C, hw1, HR.out⟩, hW1.below ((Below.refl _ _).alloc (Nat.le_refl _) _) (Nat.le_refl _)⟩

end Go.Proofs.Ytgipohphnegnhaa
