/- The walk of the library's TrailingZeros64; the small methods of a slab. -/
import Derived.Test.YtkmgfaohppkglaaDoorRows
import Derived.Test.YtkmgfaohppkglaaDoorBits
import Derived.Lib.Hide
import Derived.Laws.BitsAllLaws
namespace Go.Proofs.YtkmgfaohppkglaaDoor
open Go.RowKit

/-- The library's table lies in its variable. -/
def TabAt (w : World) : Prop := RowAt w 1 0 (icells .u8 tab)

theorem TabAt.keep {B : Nat} {w w' : World} (h : TabAt w) (hb : Below B w w') (hB : 1 < B) : TabAt w' := h.of_block (hb.block 1 hB)

set_option maxHeartbeats 400000 in
theorem tz_zero (w : World) : Calls Tryd.prog 24 #[.int .u64 0] w fun e w' => e = .returned (.int .i64 64) ∧ w = w' := by
  go_enter Tryd.func24, Tryd.ntmps24
  go_wp2
  go_ret
  exact ⟨rfl, rfl⟩

/-- The index into the table. -/
theorem tz_index {x k : Nat} (hx : x < 18446744073709551616) (hl : Low x k) :
    IntKind.u64.wrap (bits BinOp.and .u64 (x : Int) (IntKind.u64.wrap (-(x : Int))) * 285870213051353865) / 288230376151711744 = ((2 ^ k * 285870213051353865 % 18446744073709551616 / 288230376151711744 : Nat) : Int) := by
  have hp := hl.pos
  have e1 : IntKind.u64.wrap (-(x : Int)) = ((18446744073709551616 - x : Nat) : Int) := by
    rw [IntKind.wrap_u64]
    have : ((18446744073709551616 - x : Nat) : Int) = 18446744073709551616 - (x : Int) := by omega
    rw [this]; omega
  have h2 : x &&& (18446744073709551616 - x) = 2 ^ k := hl.lowest hx
  rw [e1, u64_and_nat x (18446744073709551616 - x) (by omega) (by omega), h2, IntKind.wrap_u64]
  generalize 2 ^ k = q
  omega

theorem tz_cell {k idx : Nat} {w : World} (ht : TabAt w) (hi : idx < 64) (hv : tab.getD idx 0 = (k : Int)) : w.cell? ⟨1, idx, none⟩ = some (.int .u8 (k : Int)) := by
  have hl : tab.length = 64 := rfl
  have := RowAt.cell (j := idx) ht (by rw [size_icells, hl]; exact hi)
  rw [Nat.zero_add] at this
  rw [this]
  have h1 : (icells .u8 tab)[idx]? = some (.int .u8 (k : Int)) := by
    rw [icells_get, ← hv, List.getD_eq_getElem?_getD, List.getElem?_eq_getElem (by rw [hl]; exact hi)]
    rfl
  rw [← h1]
  exact (Array.getElem?_eq_getElem _).symm

section
variable {P : Program} {a : Act} {w : World}
theorem exec_index_array {o : Oper} {x i : Operand} {t e : TypeId} {k : IntKind} {b off n idx : Nat} (ho : o.op = .indexAddr t x i) (hx : a.eval x = .pointer (some ⟨b, off, none⟩)) (hi : a.eval i = .int k (idx : Int))
    (ht : P.underlying t = some (.array n e)) (hs : (P.info? e).map (·.size) = some 1) (hlt : idx < n) : (execOp a.eval o).run P w = .ok (.value (.pointer (some ⟨b, off + idx, none⟩))) w := by
  have hsz : (Go.sizeOf e).run P w = .ok 1 w := by
    cases hinfo : P.info? e with
    | none => simp [hinfo] at hs
    | some i => simp [hinfo] at hs; simp [Go.sizeOf, typeInfo, hinfo, hs]
  have hadd : (⟨b, off, none⟩ : Addr).add idx = ⟨b, off + idx, none⟩ := by unfold Addr.add; split <;> simp_all
  unfold execOp
  simp [ho, hx, hi, Instr.indexAt, Instr.sureAddr, asIntOf, run_underlying ht, hsz, hlt, hadd]

theorem exec_index_slice {o : Oper} {x i : Operand} {t e : TypeId} {k : IntKind} {b off n c idx : Nat} (ho : o.op = .indexAddr t x i) (hx : a.eval x = .slice (some ⟨b, off, none⟩) n c) (hi : a.eval i = .int k (idx : Int))
    (ht : P.underlying t = some (.slice e)) (hs : (P.info? e).map (·.size) = some 1) (hlt : idx < n) : (execOp a.eval o).run P w = .ok (.value (.pointer (some ⟨b, off + idx, none⟩))) w := by
  have hsz : (Go.sizeOf e).run P w = .ok 1 w := by
    cases hinfo : P.info? e with
    | none => simp [hinfo] at hs
    | some i => simp [hinfo] at hs; simp [Go.sizeOf, typeInfo, hinfo, hs]
  have hadd : (⟨b, off, none⟩ : Addr).add idx = ⟨b, off + idx, none⟩ := by unfold Addr.add; split <;> simp_all
  unfold execOp
  simp [ho, hx, hi, Instr.indexAt, Instr.sureAddr, asIntOf, run_underlying ht, hsz, hlt, hadd]
end

set_option maxHeartbeats 400000 in
theorem tz_any {x k : Nat} (hx : x < 18446744073709551616) (hk : k < 64) (hl : Low x k) (w : World) (ht : TabAt w) : Calls Tryd.prog 24 #[.int .u64 (x : Int)] w fun e w' => e = .returned (.int .i64 (k : Int)) ∧ w = w' := by
  have hp := hl.pos
  have h0 : ((x : Int) == 0) = false := by simp; omega
  obtain ⟨hi, hv⟩ := tab_law k hk
  have e := tz_index hx hl
  generalize 2 ^ k * 285870213051353865 % 18446744073709551616 / 288230376151711744 = idx at e hi hv
  have hc := tz_cell ht hi hv
  have hw : IntKind.i64.wrap (k : Int) = k := by rw [IntKind.wrap_i64]; omega
  clear hv hl
  go_enter Tryd.func24, Tryd.ntmps24
  go_wp2_with ((with_reducible refine wpList_run (v := .pointer (some ⟨1, 0 + idx, none⟩)) ?_ (exec_index_array (t := 47) (e := 5) (k := .u64) (n := 64) (x := .global 1) (i := .tmp 10) rfl ?_ ?_ ?_ ?_ hi) ?_); (exact rfl); (exact rfl); (exact rfl); (kernel_rfl); (kernel_rfl); rw [Nat.zero_add])
  go_ret
  exact ⟨rfl, rfl⟩

end Go.Proofs.YtkmgfaohppkglaaDoor
