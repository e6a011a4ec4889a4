/- Check. -/
import Derived.Test.YtgjijoielfpmkaaG
set_option linter.unusedVariables false
namespace Go.Proofs.Ytgjijoielfpmkaa
open Go.RowKit

/-- The rules, one after the other, and the errors. -/
def holds (X : Tx) : Nat → Bool
  | 0 => sgn X
  | 1 => hdr X
  | 2 => lookd X
  | 3 => few X
  | 4 => pointd X
  | _ => onc X
def chk (X : Tx) : Nat := if sgn X = false then 6 else if hdr X = false then 7 else if lookd X = false then 10 else if few X = false then 3 else if pointd X = false then 8 else if onc X = false then 9 else 0

def rulesC : Array Value := #[Value.func (Fn.func 20) #[] #[], Value.int IntKind.i64 6, Value.func (Fn.func 21) #[] #[], Value.int IntKind.i64 7, Value.func (Fn.func 22) #[] #[], Value.int IntKind.i64 10, Value.func (Fn.func 23) #[] #[], Value.int IntKind.i64 3, Value.func (Fn.func 24) #[] #[], Value.int IntKind.i64 8, Value.func (Fn.func 25) #[] #[], Value.int IntKind.i64 9]
def ruleA (f : FuncId) (c : Int) : Array Value := #[.func (.func f) #[] #[], .int .i64 c]
theorem ruleA_one (f : FuncId) (c : Int) : ∀ v ∈ (ruleA f c).toList, v.oneCell' = true := fun v hv => by
  simp [ruleA] at hv
  rcases hv with rfl | rfl <;> rfl
theorem ruleA_size (f : FuncId) (c : Int) : (ruleA f c).size = 2 := rfl
theorem u58 : ∃ fs, Try.prog.underlying 58 = some (.struct fs) := ⟨_, Try.underlying58⟩
theorem s58 : (Try.prog.info? 58).map (·.size) = some 2 := by kernel_rfl
theorem zero58 : ∃ z, (Try.prog.info? 58).bind (·.zero) = some z ∧ z.cells.size = 2 := ⟨_, rfl, by kernel_rfl⟩
theorem ruleRow {w : World} {g off : Nat} {f : FuncId} {c : Int} (h : w.heap[g]? = some (.cells rulesC 58)) (h0 : rulesC[off]? = some (.func (.func f) #[] #[])) (h1 : rulesC[off + 1]? = some (.int .i64 c)) : RowAt w g off (ruleA f c) :=
  ⟨rulesC, 58, _, h, by
    have := (Array.getElem?_eq_some_iff.1 h1).1
    rw [ruleA_size]; omega, fun j hj => by
    have hj' : j < 2 := hj
    match j, hj' with
    | 0, _ => exact h0
    | 1, _ => exact h1⟩
section
variable {ops : Array Oper} {Q : Exit → Act → World → Prop} {a : Act} {w : World} {rest : List Oper} {dst : Option Tmp} {x y : Operand} {ty : TypeId} {pos : String} {after : Array Edge}
theorem wl_load58 {b off : Nat} {f : FuncId} {c : Int} (hx : a.eval x = .pointer (some ⟨b, off, none⟩)) (hr : RowAt w b off (ruleA f c)) (K : wpList Try.prog ops Q rest (a.put dst (.agg (ruleA f c))) w) :
    wpList Try.prog ops Q (⟨dst, .load 58 x, ty, pos, after, none⟩ :: rest) a w := by
  obtain ⟨fs, hu⟩ := u58
  exact wpList_run rfl (exec_load_sub rfl hx hr hu rfl s58) K
end
theorem ruleCells {w : World} {g : Nat} {f : FuncId} {c : Int} (h : w.heap[g]? = some (.cells (ruleA f c) 58)) : w.cell? ⟨g, 0, none⟩ = some (.func (.func f) #[] #[]) ∧ w.cell? ⟨g, 1, none⟩ = some (.int .i64 c) :=
  ⟨cell_of_row w g 0 _ 58 _ h, cell_of_row w g 1 _ 58 _ h⟩

set_option maxRecDepth 20000 in
set_option maxHeartbeats 3200000 in
theorem check_any {X : Tx} (w : World) (hT : TxAt w X) (hbig : tot X < 9223372036854775808) : Calls Try.prog 12 #[X.val] w fun e w' => e = .returned (.int .i64 (chk X : Int)) ∧ Below w.heap.size w w' := by
  have HR := Lib.hid hT.R
  have HT := Lib.hid hT
  have HB := Lib.hid hbig
  clear hT hbig
  go_enter Try.func12, Try.ntmps12
  go_wp2_with (first
    | ((with_reducible refine wl_box33 (X := X) ?_ ?_); (exact rfl); intro b w1 hb hle hB; have hb' := Lib.hid hb; clear hb))
  have hblt := (Array.getElem?_eq_some_iff.1 hb'.out).1
  have hG : (w1.alloc (.cells rulesC 58)).heap[w1.heap.size]? = some (.cells rulesC 58) := heap_alloc_new w1 _
  have hB2 : Below w.heap.size w (w1.alloc (.cells rulesC 58)) := hB.alloc hB.size _
  have hbb : (w1.alloc (.cells rulesC 58)).heap[b]? = some (.cells X.cells 33) := (heap_alloc_old w1 _ hblt).trans hb'.out
  change Code.wp _ _ _ _ (w1.alloc (.cells rulesC 58))
  generalize w1.alloc (.cells rulesC 58) = w2 at hG hB2 hbb ⊢
  generalize w1.heap.size = g at hG ⊢
  have H1 := Lib.hid hG
  have H2 := Lib.hid hB2
  have H3 := Lib.hid hbb
  clear hG hB2 hbb hblt hb' hB hle w1
  go_loopw [4, 13] (fun v4 v13 wr => ∃ i : Nat, i ≤ 6 ∧ v13 = .int .i64 i ∧ (∀ j, j < i → holds X j = true) ∧ wr.heap[g]? = some (.cells rulesC 58) ∧ wr.heap[b]? = some (.cells X.cells 33) ∧ Below w.heap.size w wr) (fun _ v13 _ => 6 - (intOf v13).toNat)
  case atStart => exact ⟨0, Nat.zero_le _, rfl, fun j hj => absurd hj (Nat.not_lt_zero _), H1.out, H3.out, H2.out⟩
  case round =>
    clear H1 H2 H3 w2
    obtain ⟨i, hi, rfl, hall, hg, hb, hB⟩ := hrel
    have HALL := Lib.hid hall
    have HG := Lib.hid hg
    have HBB := Lib.hid hb
    have HBW := Lib.hid hB
    have hglt := (Array.getElem?_eq_some_iff.1 hg).1
    have hblt := (Array.getElem?_eq_some_iff.1 hb).1
    clear hall hg hb hB
    match i, hi with
    | 0, _ =>
      have hrow := Lib.hid (ruleRow (off := 0) (f := 20) (c := 6) HG.out rfl rfl)
      cases hh : sgn X with
      | true =>
        have HH := Lib.hid hh
        clear hh
        go_wp2_with (first
          | ((with_reducible refine wl_load58 (f := 20) (c := 6) ?_ hrow.out ?_); (exact rfl))
          | ((with_reducible refine wl_allocN zero58 ?_); intro g3 w3 Z hZ1 hZ2 hle3 hB3)
          | ((with_reducible refine wl_storeN (n := 2) (A := ruleA 20 6) (Z := Z) ?_ ?_ hZ1 hZ2 (ruleA_size _ _) (ruleA_one _ _) s58 ?_); (exact rfl); (exact rfl); intro w4 h4 hW4; obtain ⟨k0, k1⟩ := ruleCells h4; clear h4 hZ1; have hbr := Lib.hid (txRow ((hW4.block b (by omega)).trans ((hB3.block b hblt).trans HBB.out))); have hB4 := Lib.hid (hW4.below (HBW.out.trans (hB3.mono HBW.out.size)) (Nat.le_trans HBW.out.size hle3)))
          | ((with_reducible refine wl_load33 (X := X) ?_ hbr.out HR.out ?_); (exact rfl))
          | (go_at_call 20; refine (signed_any _ (HT.out.keep hB4.out)).mono ?_; rintro e w5 ⟨rfl, hB5⟩; rw [HH.out]))
        go_roundw
        case rel => exact ⟨1, by omega, rfl, fun j hj => by
          by_cases e : j = 0
          · subst e; exact HH.out
          · exact HALL.out j (by omega), (hB5.block g (by rw [hW4.size]; exact Nat.lt_of_lt_of_le hglt hB3.size)).trans ((hW4.block g (by omega)).trans ((hB3.block g hglt).trans HG.out)), (hB5.block b (by rw [hW4.size]; exact Nat.lt_of_lt_of_le hblt hB3.size)).trans ((hW4.block b (by omega)).trans ((hB3.block b hblt).trans HBB.out)), hB4.out.trans (hB5.mono hB4.out.size)⟩
        case measure => simp [intOf]
      | false =>
        have HH := Lib.hid hh
        clear hh
        go_wp2_with (first
          | ((with_reducible refine wl_load58 (f := 20) (c := 6) ?_ hrow.out ?_); (exact rfl))
          | ((with_reducible refine wl_allocN zero58 ?_); intro g3 w3 Z hZ1 hZ2 hle3 hB3)
          | ((with_reducible refine wl_storeN (n := 2) (A := ruleA 20 6) (Z := Z) ?_ ?_ hZ1 hZ2 (ruleA_size _ _) (ruleA_one _ _) s58 ?_); (exact rfl); (exact rfl); intro w4 h4 hW4; obtain ⟨k0, k1⟩ := ruleCells h4; clear h4 hZ1; have hbr := Lib.hid (txRow ((hW4.block b (by omega)).trans ((hB3.block b hblt).trans HBB.out))); have hB4 := Lib.hid (hW4.below (HBW.out.trans (hB3.mono HBW.out.size)) (Nat.le_trans HBW.out.size hle3)))
          | ((with_reducible refine wl_load33 (X := X) ?_ hbr.out HR.out ?_); (exact rfl))
          | (go_at_call 20; refine (signed_any _ (HT.out.keep hB4.out)).mono ?_; rintro e w5 ⟨rfl, hB5⟩; rw [HH.out]; replace k1 := Below.keepCell hB5 (Nat.le_refl _) k1))
        go_ret
        refine ⟨?_, hB4.out.trans (hB5.mono hB4.out.size)⟩
        have e : chk X = 6 := by
          unfold chk
          simp [HH.out]
        rw [e]
        rfl
    | 1, _ =>
      have hrow := Lib.hid (ruleRow (off := 2) (f := 21) (c := 7) HG.out rfl rfl)
      cases hh : hdr X with
      | true =>
        have HH := Lib.hid hh
        clear hh
        go_wp2_with (first
          | ((with_reducible refine wl_load58 (f := 21) (c := 7) ?_ hrow.out ?_); (exact rfl))
          | ((with_reducible refine wl_allocN zero58 ?_); intro g3 w3 Z hZ1 hZ2 hle3 hB3)
          | ((with_reducible refine wl_storeN (n := 2) (A := ruleA 21 7) (Z := Z) ?_ ?_ hZ1 hZ2 (ruleA_size _ _) (ruleA_one _ _) s58 ?_); (exact rfl); (exact rfl); intro w4 h4 hW4; obtain ⟨k0, k1⟩ := ruleCells h4; clear h4 hZ1; have hbr := Lib.hid (txRow ((hW4.block b (by omega)).trans ((hB3.block b hblt).trans HBB.out))); have hB4 := Lib.hid (hW4.below (HBW.out.trans (hB3.mono HBW.out.size)) (Nat.le_trans HBW.out.size hle3)))
          | ((with_reducible refine wl_load33 (X := X) ?_ hbr.out HR.out ?_); (exact rfl))
          | (go_at_call 21; refine (headed_any _ (HT.out.keep hB4.out)).mono ?_; rintro e w5 ⟨rfl, hB5⟩; rw [HH.out]))
        go_roundw
        case rel => exact ⟨2, by omega, rfl, fun j hj => by
          by_cases e : j = 1
          · subst e; exact HH.out
          · exact HALL.out j (by omega), (hB5.block g (by rw [hW4.size]; exact Nat.lt_of_lt_of_le hglt hB3.size)).trans ((hW4.block g (by omega)).trans ((hB3.block g hglt).trans HG.out)), (hB5.block b (by rw [hW4.size]; exact Nat.lt_of_lt_of_le hblt hB3.size)).trans ((hW4.block b (by omega)).trans ((hB3.block b hblt).trans HBB.out)), hB4.out.trans (hB5.mono hB4.out.size)⟩
        case measure => simp [intOf]
      | false =>
        have HH := Lib.hid hh
        clear hh
        go_wp2_with (first
          | ((with_reducible refine wl_load58 (f := 21) (c := 7) ?_ hrow.out ?_); (exact rfl))
          | ((with_reducible refine wl_allocN zero58 ?_); intro g3 w3 Z hZ1 hZ2 hle3 hB3)
          | ((with_reducible refine wl_storeN (n := 2) (A := ruleA 21 7) (Z := Z) ?_ ?_ hZ1 hZ2 (ruleA_size _ _) (ruleA_one _ _) s58 ?_); (exact rfl); (exact rfl); intro w4 h4 hW4; obtain ⟨k0, k1⟩ := ruleCells h4; clear h4 hZ1; have hbr := Lib.hid (txRow ((hW4.block b (by omega)).trans ((hB3.block b hblt).trans HBB.out))); have hB4 := Lib.hid (hW4.below (HBW.out.trans (hB3.mono HBW.out.size)) (Nat.le_trans HBW.out.size hle3)))
          | ((with_reducible refine wl_load33 (X := X) ?_ hbr.out HR.out ?_); (exact rfl))
          | (go_at_call 21; refine (headed_any _ (HT.out.keep hB4.out)).mono ?_; rintro e w5 ⟨rfl, hB5⟩; rw [HH.out]; replace k1 := Below.keepCell hB5 (Nat.le_refl _) k1))
        go_ret
        refine ⟨?_, hB4.out.trans (hB5.mono hB4.out.size)⟩
        have e : chk X = 7 := by
          have a0 : sgn X = true := HALL.out 0 (by omega)
          unfold chk
          simp [a0, HH.out]
        rw [e]
        rfl
    | 2, _ =>
      have hrow := Lib.hid (ruleRow (off := 4) (f := 22) (c := 10) HG.out rfl rfl)
      cases hh : lookd X with
      | true =>
        have HH := Lib.hid hh
        clear hh
        go_wp2_with (first
          | ((with_reducible refine wl_load58 (f := 22) (c := 10) ?_ hrow.out ?_); (exact rfl))
          | ((with_reducible refine wl_allocN zero58 ?_); intro g3 w3 Z hZ1 hZ2 hle3 hB3)
          | ((with_reducible refine wl_storeN (n := 2) (A := ruleA 22 10) (Z := Z) ?_ ?_ hZ1 hZ2 (ruleA_size _ _) (ruleA_one _ _) s58 ?_); (exact rfl); (exact rfl); intro w4 h4 hW4; obtain ⟨k0, k1⟩ := ruleCells h4; clear h4 hZ1; have hbr := Lib.hid (txRow ((hW4.block b (by omega)).trans ((hB3.block b hblt).trans HBB.out))); have hB4 := Lib.hid (hW4.below (HBW.out.trans (hB3.mono HBW.out.size)) (Nat.le_trans HBW.out.size hle3)))
          | ((with_reducible refine wl_load33 (X := X) ?_ hbr.out HR.out ?_); (exact rfl))
          | (go_at_call 22; refine (looked_any _ (HT.out.keep hB4.out)).mono ?_; rintro e w5 ⟨rfl, hB5⟩; rw [HH.out]))
        go_roundw
        case rel => exact ⟨3, by omega, rfl, fun j hj => by
          by_cases e : j = 2
          · subst e; exact HH.out
          · exact HALL.out j (by omega), (hB5.block g (by rw [hW4.size]; exact Nat.lt_of_lt_of_le hglt hB3.size)).trans ((hW4.block g (by omega)).trans ((hB3.block g hglt).trans HG.out)), (hB5.block b (by rw [hW4.size]; exact Nat.lt_of_lt_of_le hblt hB3.size)).trans ((hW4.block b (by omega)).trans ((hB3.block b hblt).trans HBB.out)), hB4.out.trans (hB5.mono hB4.out.size)⟩
        case measure => simp [intOf]
      | false =>
        have HH := Lib.hid hh
        clear hh
        go_wp2_with (first
          | ((with_reducible refine wl_load58 (f := 22) (c := 10) ?_ hrow.out ?_); (exact rfl))
          | ((with_reducible refine wl_allocN zero58 ?_); intro g3 w3 Z hZ1 hZ2 hle3 hB3)
          | ((with_reducible refine wl_storeN (n := 2) (A := ruleA 22 10) (Z := Z) ?_ ?_ hZ1 hZ2 (ruleA_size _ _) (ruleA_one _ _) s58 ?_); (exact rfl); (exact rfl); intro w4 h4 hW4; obtain ⟨k0, k1⟩ := ruleCells h4; clear h4 hZ1; have hbr := Lib.hid (txRow ((hW4.block b (by omega)).trans ((hB3.block b hblt).trans HBB.out))); have hB4 := Lib.hid (hW4.below (HBW.out.trans (hB3.mono HBW.out.size)) (Nat.le_trans HBW.out.size hle3)))
          | ((with_reducible refine wl_load33 (X := X) ?_ hbr.out HR.out ?_); (exact rfl))
          | (go_at_call 22; refine (looked_any _ (HT.out.keep hB4.out)).mono ?_; rintro e w5 ⟨rfl, hB5⟩; rw [HH.out]; replace k1 := Below.keepCell hB5 (Nat.le_refl _) k1))
        go_ret
        refine ⟨?_, hB4.out.trans (hB5.mono hB4.out.size)⟩
        have e : chk X = 10 := by
          have a0 : sgn X = true := HALL.out 0 (by omega)
          have a1 : hdr X = true := HALL.out 1 (by omega)
          unfold chk
          simp [a0, a1, HH.out]
        rw [e]
        rfl
    | 3, _ =>
      have hrow := Lib.hid (ruleRow (off := 6) (f := 23) (c := 3) HG.out rfl rfl)
      cases hh : few X with
      | true =>
        have HH := Lib.hid hh
        clear hh
        go_wp2_with (first
          | ((with_reducible refine wl_load58 (f := 23) (c := 3) ?_ hrow.out ?_); (exact rfl))
          | ((with_reducible refine wl_allocN zero58 ?_); intro g3 w3 Z hZ1 hZ2 hle3 hB3)
          | ((with_reducible refine wl_storeN (n := 2) (A := ruleA 23 3) (Z := Z) ?_ ?_ hZ1 hZ2 (ruleA_size _ _) (ruleA_one _ _) s58 ?_); (exact rfl); (exact rfl); intro w4 h4 hW4; obtain ⟨k0, k1⟩ := ruleCells h4; clear h4 hZ1; have hbr := Lib.hid (txRow ((hW4.block b (by omega)).trans ((hB3.block b hblt).trans HBB.out))); have hB4 := Lib.hid (hW4.below (HBW.out.trans (hB3.mono HBW.out.size)) (Nat.le_trans HBW.out.size hle3)))
          | ((with_reducible refine wl_load33 (X := X) ?_ hbr.out HR.out ?_); (exact rfl))
          | (go_at_call 23; refine (few_any _ (HT.out.keep hB4.out) HB.out).mono ?_; rintro e w5 ⟨rfl, hB5⟩; rw [HH.out]))
        go_roundw
        case rel => exact ⟨4, by omega, rfl, fun j hj => by
          by_cases e : j = 3
          · subst e; exact HH.out
          · exact HALL.out j (by omega), (hB5.block g (by rw [hW4.size]; exact Nat.lt_of_lt_of_le hglt hB3.size)).trans ((hW4.block g (by omega)).trans ((hB3.block g hglt).trans HG.out)), (hB5.block b (by rw [hW4.size]; exact Nat.lt_of_lt_of_le hblt hB3.size)).trans ((hW4.block b (by omega)).trans ((hB3.block b hblt).trans HBB.out)), hB4.out.trans (hB5.mono hB4.out.size)⟩
        case measure => simp [intOf]
      | false =>
        have HH := Lib.hid hh
        clear hh
        go_wp2_with (first
          | ((with_reducible refine wl_load58 (f := 23) (c := 3) ?_ hrow.out ?_); (exact rfl))
          | ((with_reducible refine wl_allocN zero58 ?_); intro g3 w3 Z hZ1 hZ2 hle3 hB3)
          | ((with_reducible refine wl_storeN (n := 2) (A := ruleA 23 3) (Z := Z) ?_ ?_ hZ1 hZ2 (ruleA_size _ _) (ruleA_one _ _) s58 ?_); (exact rfl); (exact rfl); intro w4 h4 hW4; obtain ⟨k0, k1⟩ := ruleCells h4; clear h4 hZ1; have hbr := Lib.hid (txRow ((hW4.block b (by omega)).trans ((hB3.block b hblt).trans HBB.out))); have hB4 := Lib.hid (hW4.below (HBW.out.trans (hB3.mono HBW.out.size)) (Nat.le_trans HBW.out.size hle3)))
          | ((with_reducible refine wl_load33 (X := X) ?_ hbr.out HR.out ?_); (exact rfl))
          | (go_at_call 23; refine (few_any _ (HT.out.keep hB4.out) HB.out).mono ?_; rintro e w5 ⟨rfl, hB5⟩; rw [HH.out]; replace k1 := Below.keepCell hB5 (Nat.le_refl _) k1))
        go_ret
        refine ⟨?_, hB4.out.trans (hB5.mono hB4.out.size)⟩
        have e : chk X = 3 := by
          have a0 : sgn X = true := HALL.out 0 (by omega)
          have a1 : hdr X = true := HALL.out 1 (by omega)
          have a2 : lookd X = true := HALL.out 2 (by omega)
          unfold chk
          simp [a0, a1, a2, HH.out]
        rw [e]
        rfl
    | 4, _ =>
      have hrow := Lib.hid (ruleRow (off := 8) (f := 24) (c := 8) HG.out rfl rfl)
      cases hh : pointd X with
      | true =>
        have HH := Lib.hid hh
        clear hh
        go_wp2_with (first
          | ((with_reducible refine wl_load58 (f := 24) (c := 8) ?_ hrow.out ?_); (exact rfl))
          | ((with_reducible refine wl_allocN zero58 ?_); intro g3 w3 Z hZ1 hZ2 hle3 hB3)
          | ((with_reducible refine wl_storeN (n := 2) (A := ruleA 24 8) (Z := Z) ?_ ?_ hZ1 hZ2 (ruleA_size _ _) (ruleA_one _ _) s58 ?_); (exact rfl); (exact rfl); intro w4 h4 hW4; obtain ⟨k0, k1⟩ := ruleCells h4; clear h4 hZ1; have hbr := Lib.hid (txRow ((hW4.block b (by omega)).trans ((hB3.block b hblt).trans HBB.out))); have hB4 := Lib.hid (hW4.below (HBW.out.trans (hB3.mono HBW.out.size)) (Nat.le_trans HBW.out.size hle3)))
          | ((with_reducible refine wl_load33 (X := X) ?_ hbr.out HR.out ?_); (exact rfl))
          | (go_at_call 24; refine (pointed_any _ (HT.out.keep hB4.out) HB.out).mono ?_; rintro e w5 ⟨rfl, hB5⟩; rw [HH.out]))
        go_roundw
        case rel => exact ⟨5, by omega, rfl, fun j hj => by
          by_cases e : j = 4
          · subst e; exact HH.out
          · exact HALL.out j (by omega), (hB5.block g (by rw [hW4.size]; exact Nat.lt_of_lt_of_le hglt hB3.size)).trans ((hW4.block g (by omega)).trans ((hB3.block g hglt).trans HG.out)), (hB5.block b (by rw [hW4.size]; exact Nat.lt_of_lt_of_le hblt hB3.size)).trans ((hW4.block b (by omega)).trans ((hB3.block b hblt).trans HBB.out)), hB4.out.trans (hB5.mono hB4.out.size)⟩
        case measure => simp [intOf]
      | false =>
        have HH := Lib.hid hh
        clear hh
        go_wp2_with (first
          | ((with_reducible refine wl_load58 (f := 24) (c := 8) ?_ hrow.out ?_); (exact rfl))
          | ((with_reducible refine wl_allocN zero58 ?_); intro g3 w3 Z hZ1 hZ2 hle3 hB3)
          | ((with_reducible refine wl_storeN (n := 2) (A := ruleA 24 8) (Z := Z) ?_ ?_ hZ1 hZ2 (ruleA_size _ _) (ruleA_one _ _) s58 ?_); (exact rfl); (exact rfl); intro w4 h4 hW4; obtain ⟨k0, k1⟩ := ruleCells h4; clear h4 hZ1; have hbr := Lib.hid (txRow ((hW4.block b (by omega)).trans ((hB3.block b hblt).trans HBB.out))); have hB4 := Lib.hid (hW4.below (HBW.out.trans (hB3.mono HBW.out.size)) (Nat.le_trans HBW.out.size hle3)))
          | ((with_reducible refine wl_load33 (X := X) ?_ hbr.out HR.out ?_); (exact rfl))
          | (go_at_call 24; refine (pointed_any _ (HT.out.keep hB4.out) HB.out).mono ?_; rintro e w5 ⟨rfl, hB5⟩; rw [HH.out]; replace k1 := Below.keepCell hB5 (Nat.le_refl _) k1))
        go_ret
        refine ⟨?_, hB4.out.trans (hB5.mono hB4.out.size)⟩
        have e : chk X = 8 := by
          have a0 : sgn X = true := HALL.out 0 (by omega)
          have a1 : hdr X = true := HALL.out 1 (by omega)
          have a2 : lookd X = true := HALL.out 2 (by omega)
          have a3 : few X = true := HALL.out 3 (by omega)
          unfold chk
          simp [a0, a1, a2, a3, HH.out]
        rw [e]
        rfl
    | 5, _ =>
      have hrow := Lib.hid (ruleRow (off := 10) (f := 25) (c := 9) HG.out rfl rfl)
      cases hh : onc X with
      | true =>
        have HH := Lib.hid hh
        clear hh
        go_wp2_with (first
          | ((with_reducible refine wl_load58 (f := 25) (c := 9) ?_ hrow.out ?_); (exact rfl))
          | ((with_reducible refine wl_allocN zero58 ?_); intro g3 w3 Z hZ1 hZ2 hle3 hB3)
          | ((with_reducible refine wl_storeN (n := 2) (A := ruleA 25 9) (Z := Z) ?_ ?_ hZ1 hZ2 (ruleA_size _ _) (ruleA_one _ _) s58 ?_); (exact rfl); (exact rfl); intro w4 h4 hW4; obtain ⟨k0, k1⟩ := ruleCells h4; clear h4 hZ1; have hbr := Lib.hid (txRow ((hW4.block b (by omega)).trans ((hB3.block b hblt).trans HBB.out))); have hB4 := Lib.hid (hW4.below (HBW.out.trans (hB3.mono HBW.out.size)) (Nat.le_trans HBW.out.size hle3)))
          | ((with_reducible refine wl_load33 (X := X) ?_ hbr.out HR.out ?_); (exact rfl))
          | (go_at_call 25; refine (once_any _ (HT.out.keep hB4.out)).mono ?_; rintro e w5 ⟨rfl, hB5⟩; rw [HH.out]))
        go_roundw
        case rel => exact ⟨6, by omega, rfl, fun j hj => by
          by_cases e : j = 5
          · subst e; exact HH.out
          · exact HALL.out j (by omega), (hB5.block g (by rw [hW4.size]; exact Nat.lt_of_lt_of_le hglt hB3.size)).trans ((hW4.block g (by omega)).trans ((hB3.block g hglt).trans HG.out)), (hB5.block b (by rw [hW4.size]; exact Nat.lt_of_lt_of_le hblt hB3.size)).trans ((hW4.block b (by omega)).trans ((hB3.block b hblt).trans HBB.out)), hB4.out.trans (hB5.mono hB4.out.size)⟩
        case measure => simp [intOf]
      | false =>
        have HH := Lib.hid hh
        clear hh
        go_wp2_with (first
          | ((with_reducible refine wl_load58 (f := 25) (c := 9) ?_ hrow.out ?_); (exact rfl))
          | ((with_reducible refine wl_allocN zero58 ?_); intro g3 w3 Z hZ1 hZ2 hle3 hB3)
          | ((with_reducible refine wl_storeN (n := 2) (A := ruleA 25 9) (Z := Z) ?_ ?_ hZ1 hZ2 (ruleA_size _ _) (ruleA_one _ _) s58 ?_); (exact rfl); (exact rfl); intro w4 h4 hW4; obtain ⟨k0, k1⟩ := ruleCells h4; clear h4 hZ1; have hbr := Lib.hid (txRow ((hW4.block b (by omega)).trans ((hB3.block b hblt).trans HBB.out))); have hB4 := Lib.hid (hW4.below (HBW.out.trans (hB3.mono HBW.out.size)) (Nat.le_trans HBW.out.size hle3)))
          | ((with_reducible refine wl_load33 (X := X) ?_ hbr.out HR.out ?_); (exact rfl))
          | (go_at_call 25; refine (once_any _ (HT.out.keep hB4.out)).mono ?_; rintro e w5 ⟨rfl, hB5⟩; rw [HH.out]; replace k1 := Below.keepCell hB5 (Nat.le_refl _) k1))
        go_ret
        refine ⟨?_, hB4.out.trans (hB5.mono hB4.out.size)⟩
        have e : chk X = 9 := by
          have a0 : sgn X = true := HALL.out 0 (by omega)
          have a1 : hdr X = true := HALL.out 1 (by omega)
          have a2 : lookd X = true := HALL.out 2 (by omega)
          have a3 : few X = true := HALL.out 3 (by omega)
          have a4 : pointd X = true := HALL.out 4 (by omega)
          unfold chk
          simp [a0, a1, a2, a3, a4, HH.out]
        rw [e]
        rfl
    | 6, _ =>
      go_wp2
      go_ret
      refine ⟨?_, HBW.out⟩
      have e : chk X = 0 := by
        have a0 : sgn X = true := HALL.out 0 (by omega)
        have a1 : hdr X = true := HALL.out 1 (by omega)
        have a2 : lookd X = true := HALL.out 2 (by omega)
        have a3 : few X = true := HALL.out 3 (by omega)
        have a4 : pointd X = true := HALL.out 4 (by omega)
        have a5 : onc X = true := HALL.out 5 (by omega)
        unfold chk
        simp [a0, a1, a2, a3, a4, a5]
      rw [e]
      rfl
end Go.Proofs.Ytgjijoielfpmkaa
