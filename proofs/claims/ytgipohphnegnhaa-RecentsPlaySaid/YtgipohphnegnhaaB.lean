/- Walks over the queue of recent hashes: New, hash, Copy, Push. -/
import Derived.Test.YtgipohphnegnhaaA
namespace Go.Proofs.Ytgipohphnegnhaa
open Go.RowKit

def zeroH : List Int := List.replicate 32 0
def hashOf (n : Int) : List Int := n % 256 :: n / 256 :: 1 :: List.replicate 29 0

theorem hashOf_len (n : Int) : (hashOf n).length = 32 := rfl
theorem zeroH_len : zeroH.length = 32 := rfl

def newC (n : Nat) : Array Value := (List.replicate n (Value.int .u8 0) ++ [Value.int .i64 0, Value.int .i64 0, Value.int .i64 1]).toArray
def newCells : Array Value := newC 4800

theorem newC_size (n : Nat) : (newC n).size = n + 3 := by simp [newC]
theorem newC_lt (n i : Nat) (h : i < n) : (newC n)[i]? = some (.int .u8 0) := by
  simp only [newC, List.getElem?_toArray]
  rw [List.getElem?_append_left (by simpa using h), List.getElem?_replicate, if_pos h]
theorem newC_0 (n : Nat) : (newC n)[n]? = some (.int .i64 0) := by simp [newC]
theorem newC_1 (n : Nat) : (newC n)[n + 1]? = some (.int .i64 0) := by simp [newC]
theorem newC_2 (n : Nat) : (newC n)[n + 2]? = some (.int .i64 1) := by simp [newC]
theorem zeroH_get (j : Nat) : zeroH.getD j 0 = 0 := by
  unfold zeroH
  rw [List.getD_eq_getElem?_getD, List.getElem?_replicate]
  split <;> rfl
theorem zeroH_size : (icells .u8 zeroH).size = 32 := rfl

theorem build_new (w : World) : (Instr.build 44 #[(3, .int .i64 1)]).run Try.prog w = .ok (.agg newCells) w := by kernel_rfl

theorem build_hash (a b : Int) (w : World) : (Instr.build 26 #[(0, .int .u8 a), (1, .int .u8 b), (2, .int .u8 1)]).run Try.prog w = .ok (.agg (icells .u8 (a :: b :: 1 :: List.replicate 29 0))) w := by kernel_rfl

theorem zero26 : (Try.prog.info? 26).bind (·.zero) = some (hv zeroH) := by kernel_rfl

section
variable {ops : Array Oper} {Q : Exit → Act → World → Prop} {a : Act} {w : World} {rest : List Oper} {dst : Option Tmp} {x y : Operand} {ty : TypeId} {pos : String} {after : Array Edge} {h k : List Int}

theorem wl_alloc26 (K : wpList Try.prog ops Q rest (a.put dst (.pointer (some ⟨w.heap.size, 0, none⟩))) (w.alloc (.cells (icells .u8 zeroH) 26))) :
    wpList Try.prog ops Q (⟨dst, .alloc 26, ty, pos, after, none⟩ :: rest) a w :=
  wpList_run rfl (exec_alloc rfl zero26 rfl) K

theorem wl_store26 {b : Nat} {C : Array Value} (hp : a.eval x = .pointer (some ⟨b, 0, none⟩)) (hx : a.eval y = hv h) (hl : h.length = 32) (hg : w.heap[b]? = some (.cells C 26)) (hC : C.size = 32)
    (K : ∀ w1, w1.heap[b]? = some (.cells (icells .u8 h) 26) → Wrote w w1 b → wpList Try.prog ops Q rest (a.put dst undef) w1) :
    wpList Try.prog ops Q (⟨dst, .store 26 x y, ty, pos, after, none⟩ :: rest) a w := by
  have hsz : (icells .u8 h).size = C.size := by simp [hl, hC]
  refine wpList_runSkip rfl (exec_store_sub (A := icells .u8 h) rfl hp hx rfl hg (by omega) (icells_one _ _) (by rw [hsz, hC]; exact hash_s26)) (K _ ?_ (Wrote.setRow _ _ _))
  rw [splice_whole hsz]
  exact setRow_heap w b C _ 26 _ hg
end

theorem QAt_new (w : World) : QAt (w.alloc (.cells newCells 44)) w.heap.size { R := fun _ => zeroH, nx := 0, mn := 0 } :=
  ⟨newCells, heap_alloc_new _ _, newC_size 4800, fun i hi j hj => by rw [zeroH_get]; exact newC_lt 4800 _ (by omega), newC_0 4800, newC_1 4800, newC_2 4800⟩

section
variable {ops : Array Oper} {Q : Exit → Act → World → Prop} {a : Act} {w : World} {rest : List Oper} {dst : Option Tmp} {x y : Operand} {ty : TypeId} {pos : String} {after : Array Edge} {h k : List Int}
theorem wl_build44 (K : wpList Try.prog ops Q rest (a.put dst (.agg newCells)) w) :
    wpList Try.prog ops Q (⟨dst, .build 44 #[(3, .const (.int .i64 1))], ty, pos, after, none⟩ :: rest) a w :=
  wpList_run rfl (exec_build (ps := #[(3, .int .i64 1)]) rfl (by simp [Act.eval]) (build_new w)) K
theorem wl_box44 {C : Array Value} (hx : a.eval x = .agg C) (K : wpList Try.prog ops Q rest (a.put dst (.pointer (some ⟨w.heap.size, 0, none⟩))) (w.alloc (.cells C 44))) :
    wpList Try.prog ops Q (⟨dst, .box 44 x, ty, pos, after, none⟩ :: rest) a w :=
  wpList_run rfl (exec_box rfl hx rfl) K
theorem wl_build26 {n m : Int} (hx : a.eval x = .int .u8 n) (hy : a.eval y = .int .u8 m) (K : wpList Try.prog ops Q rest (a.put dst (hv (n :: m :: 1 :: List.replicate 29 0))) w) :
    wpList Try.prog ops Q (⟨dst, .build 26 #[(0, x), (1, y), (2, .const (.int .u8 1))], ty, pos, after, none⟩ :: rest) a w := by
  refine wpList_run rfl (exec_build (ps := #[(0, .int .u8 n), (1, .int .u8 m), (2, .int .u8 1)]) rfl ?_ (build_hash n m w)) K
  have hc : a.eval (.const (.int .u8 1)) = .int .u8 1 := rfl
  simp [hx, hy, hc]
end

set_option maxHeartbeats 400000 in
theorem new_any (w : World) : Calls Try.prog 6 #[] w fun e w' => ∃ b, e = .returned (.pointer (some ⟨b, 0, none⟩)) ∧ b = w.heap.size ∧ QAt w' b { R := fun _ => zeroH, nx := 0, mn := 0 } ∧ Below w.heap.size w w' := by
  go_enter Try.func6, Try.ntmps6
  go_wp2_with (first | (refine wl_build44 ?_) | (refine wl_box44 rfl ?_))
  go_ret
  exact ⟨_, rfl, rfl, QAt_new w, (Below.refl _ _).alloc (Nat.le_refl _) _⟩

set_option maxHeartbeats 400000 in
theorem hash_any (n : Int) (h0 : 0 ≤ n) (h1 : n < 65536) (w : World) : Calls Try.prog 8 #[.int .u16 n] w fun e w' => e = .returned (hv (hashOf n)) ∧ Below w.heap.size w w' := by
  go_enter Try.func8, Try.ntmps8
  go_wp2_with (first
    | (refine wl_alloc26 ?_)
    | (refine wl_build26 rfl rfl ?_)
    | (refine wl_store26 (h := hashOf n) rfl rfl (hashOf_len _) (heap_alloc_new _ _) zeroH_size ?_; intro w1 hw1 hW1))
  refine bodyPost_ret (results_cell_row rfl _ w1 w.heap.size 26 _ (0, 0) _ rfl hw1 hash_u26 rfl hash_s26) rfl ⟨rfl, ?_⟩
  exact hW1.below ((Below.refl _ _).alloc (Nat.le_refl _) _) (Nat.le_refl _)
end Go.Proofs.Ytgipohphnegnhaa
