/- pointed, whole. -/
import Derived.Test.YtgjijoielfpmkaaD
set_option linter.unusedVariables false
namespace Go.Proofs.Ytgjijoielfpmkaa
open Go.RowKit

section
theorem zero3 : (Try.prog.info? 3).bind (·.zero) = some (.int .i64 0) := by kernel_rfl
theorem size3 : (Try.prog.info? 3).map (·.size) = some 1 := by kernel_rfl
variable {Q : Exit → Act → World → Prop} {w : World} {K : Act → World → Prop}
/-- A new int, in a region that draws its order. -/
theorem run_alloc3 {l : List Oper} {j d : Nat} {o : Oper} {tmps : List Value} {defers : List Deferred} (hi : l[j]? = some o) (hd : o.dst = some d) (hg : o.guard = none) (ho : o.op = .alloc 3)
    (h : ∀ g w', w'.heap[g]? = some (.cells #[.int .i64 0] 3) → w.heap.size ≤ g → Below w.heap.size w w' → K ⟨(tmps.set d (.pointer (some ⟨g, 0, none⟩))).toArray, defers⟩ w') : wpOp Try.prog l.toArray Q j K ⟨tmps.toArray, defers⟩ w :=
  run_val hi hd hg (exec_alloc ho zero3 rfl) (h _ _ (heap_alloc_new w _) (Nat.le_refl _) ((Below.refl _ _).alloc (Nat.le_refl _) _))
theorem run_store3 {l : List Oper} {j g : Nat} {o : Oper} {p x : Operand} {v : Value} {Z : Array Value} {a : Act} (hi : l[j]? = some o) (hd : o.dst = none) (hg : o.guard = none) (ho : o.op = .store 3 p x) (hp : a.eval p = .pointer (some ⟨g, 0, none⟩)) (hx : a.eval x = v) (hv : v.cells = #[v]) (h1 : v.oneCell' = true)
    (hb : w.heap[g]? = some (.cells Z 3)) (hZ : Z.size = 1) (h : ∀ w', w'.heap[g]? = some (.cells #[v] 3) → Wrote w w' g → K a w') : wpOp Try.prog l.toArray Q j K a w := by
  have hone : ∀ u ∈ (#[v] : Array Value).toList, u.oneCell' = true := by
    intro u hu
    have e : u = v := by simpa using hu
    rw [e]; exact h1
  have hle : 0 + (#[v] : Array Value).size ≤ Z.size := by rw [hZ]; simp
  refine run_skip hi hd hg (exec_store_sub (t := 3) (C := Z) (A := #[v]) ho hp hx hv hb hle hone size3) (h _ ?_ (Wrote.setRow _ _ _))
  rw [setRow_heap w g Z _ 3 _ hb, splice_whole (by rw [hZ]; rfl)]
end

set_option maxRecDepth 20000 in
set_option maxHeartbeats 1600000 in
theorem pointed_any {X : Tx} (w : World) (hT : TxAt w X) (hbig : tot X < 9223372036854775808) : Calls Try.prog 24 #[X.val] w fun e w' => e = .returned (.bool (pointd X)) ∧ Below w.heap.size w w' := by
  have hR := hT.R
  have hkl := hT.kl
  unfold lenMax at hkl
  unfold pointd
  have htot := fun w1 (hB : Below w.heap.size w w1) => total_any w1 (hT.keep hB) hbig
  have hct := fun w1 (hB : Below w.heap.size w w1) (g h : Nat) hc hk => contains32 (g := g) (h := h) (all := tot X) (keys := X.K.length) w1 (hT.keep hB) hc hk
  have HR := Lib.hid hR
  have HTOT := Lib.hid htot
  have HCT := Lib.hid hct
  clear hT hR htot hct hbig
  generalize X.I.any (Ins.bad X.K.length (tot X)) = r at *
  generalize tot X = n at *
  obtain ⟨kn, hkn⟩ : ∃ kn, X.K.length = kn := ⟨_, rfl⟩
  rw [hkn] at HCT
  have HK := Lib.hid hkn
  clear hkn
  go_enter Try.func24, Try.ntmps24
  go_wp2_with ((with_reducible refine wl_box33 (X := X) ?_ ?_); (exact rfl); intro b w1 hb hle hB; have HB := Lib.hid hb; clear hb)
  have hS : Below w1.heap.size w1 w1.drew := (Below.refl _ _).drew
  have hblt := (Array.getElem?_eq_some_iff.1 HB.out).1
  have hcell : ∀ W, Below w1.heap.size w1 W → W.heap[b]? = some (.cells X.cells 33) := fun W hW => (hW.block b hblt).trans HB.out
  refine wp_regionW (n := 10) (S := fun W => Below w1.heap.size w1 W) (late := fun _ => false) rfl (by kernel_rfl) ?_
  refine takeW (j := 0) (v := .pointer (some ⟨b, 1, none⟩)) rfl rfl rfl (by kernel_rfl) (by kernel_rfl) (by kernel_rfl) (by kernel_rfl) (fun _ _ _ h => h) (fun W hW => by go_simp) hS ?_
  simp only [List.set_cons_zero, List.set_cons_succ]
  refine takeW (j := 1) (v := .pointer (some ⟨b, 5, none⟩)) rfl rfl rfl (by kernel_rfl) (by kernel_rfl) (by kernel_rfl) (by kernel_rfl) (fun _ _ _ h => h) (fun W hW => by go_simp) hS ?_
  simp only [List.set_cons_zero, List.set_cons_succ]
  refine takeW (j := 2) (v := .slice X.ka kn X.kc) rfl rfl rfl (by kernel_rfl) (by kernel_rfl) (by kernel_rfl) (by kernel_rfl) (fun _ _ _ h => h) (fun W hW => exec_load_cell rfl rfl Try.underlying25 rfl (by rw [(txCells HR.out (hcell W hW)).c5, HK.out])) hS ?_
  simp only [List.set_cons_zero, List.set_cons_succ]
  refine takeW (j := 3) (v := .int .i64 (kn : Int)) rfl rfl rfl (by kernel_rfl) (by kernel_rfl) (by kernel_rfl) (by kernel_rfl) (fun _ _ _ h => h) (fun W hW => by go_simp) hS ?_
  simp only [List.set_cons_zero, List.set_cons_succ]
  refine takeW (j := 4) (v := X.val) rfl rfl rfl (by kernel_rfl) (by kernel_rfl) (by kernel_rfl) (by kernel_rfl) (fun _ _ _ h => h) (fun W hW => by
    obtain ⟨fs, hu⟩ := u33
    exact exec_load_sub rfl rfl (txRow (hcell W hW)) hu rfl (by rw [Tx.size HR.out]; exact s33)) hS ?_
  simp only [List.set_cons_zero, List.set_cons_succ]
  refine allW (rs := [5, 6, 7]) (by kernel_rfl) rfl (fun r hr => ?_)
  simp only [List.mem_cons, List.not_mem_nil, or_false] at hr
  rcases hr with rfl | rfl | rfl
  · refine run_call (f := 10) (args := #[X.val]) rfl rfl rfl (exec_call1 rfl rfl Try.func10 (by decide) rfl) (HTOT.out _ (hB.trans (hS.mono hB.size))) ?_
    rintro e W5 ⟨rfl, hb5⟩
    replace hS := hS.trans (hb5.mono hS.size)
    refine ⟨_, rfl, fun _ => hS, ?_⟩
    simp only [List.set_cons_zero, List.set_cons_succ]
    refine allW (rs := [6, 7]) (by kernel_rfl) rfl (fun r hr => ?_)
    simp only [List.mem_cons, List.not_mem_nil, or_false] at hr
    rcases hr with rfl | rfl
    · refine run_alloc3 rfl rfl rfl rfl (fun g3 W3 h3 l3 b3 => ?_)
      have m3 := Nat.le_trans hS.size l3
      replace hS := hS.trans (b3.mono hS.size)
      refine ⟨fun _ => hS, ?_⟩
      simp only [List.set_cons_zero, List.set_cons_succ]
      have q3 := (Array.getElem?_eq_some_iff.1 h3).1
      refine allW (rs := [7]) (by kernel_rfl) rfl (fun r hr => ?_)
      simp only [List.mem_cons, List.not_mem_nil, or_false] at hr
      subst hr
      refine run_alloc3 rfl rfl rfl rfl (fun g4 W4 h4 l4 b4 => ?_)
      replace h3 := (b4.block _ (Array.getElem?_eq_some_iff.1 h3).1).trans h3
      have hne : g3 ≠ g4 := fun e => by subst e; exact absurd l4 (Nat.not_le.2 q3)
      have m4 := Nat.le_trans hS.size l4
      replace hS := hS.trans (b4.mono hS.size)
      refine ⟨fun _ => hS, ?_⟩
      simp only [List.set_cons_zero, List.set_cons_succ]
      replace q3 := (Array.getElem?_eq_some_iff.1 h3).1
      have q4 := (Array.getElem?_eq_some_iff.1 h4).1
      refine allW (rs := [8]) (by kernel_rfl) rfl (fun r hr => ?_)
      simp only [List.mem_cons, List.not_mem_nil, or_false] at hr
      subst hr
      refine run_store3 (v := .int .i64 (kn : Int)) rfl rfl rfl rfl rfl rfl rfl rfl h3 rfl (fun W8 h8 hW8 => ?_)
      replace hS := hW8.below hS m3
      replace h4 := (hW8.block g4 (fun e => hne e.symm)).trans h4
      refine ⟨fun _ => hS, ?_⟩
      refine allW (rs := [9]) (by kernel_rfl) rfl (fun r hr => ?_)
      simp only [List.mem_cons, List.not_mem_nil, or_false] at hr
      subst hr
      refine run_store3 (v := .int .i64 (n : Int)) rfl rfl rfl rfl rfl rfl rfl rfl h4 rfl (fun W9 h9 hW9 => ?_)
      replace hS := hW9.below hS m4
      replace h8 := (hW9.block g3 hne).trans h8
      refine ⟨fun _ => hS, ?_⟩
      refine doneW (by kernel_rfl) ?_ _
      have c3 : W9.cell? ⟨g3, 0, none⟩ = some (.int .i64 (kn : Int)) := cell_of_row W9 g3 0 _ 3 _ h8
      have c4 : W9.cell? ⟨g4, 0, none⟩ = some (.int .i64 (n : Int)) := cell_of_row W9 g4 0 _ 3 _ h9
      have c38 := (txCells HR.out (hcell W9 hS)).c38
      have hB9 := hB.trans (hS.mono hB.size)
      have HCC := Lib.hid (HCT.out W9 hB9 g4 g3 c4 c3)
      clear c3 c4
      go_wp2_with (go_at_call 32; refine HCC.out.mono ?_; rintro e w2 ⟨rfl, hB2⟩)
      go_ret
      exact ⟨rfl, hB9.trans (hB2.mono hB9.size)⟩
    · refine run_alloc3 rfl rfl rfl rfl (fun g4 W4 h4 l4 b4 => ?_)
      have m4 := Nat.le_trans hS.size l4
      replace hS := hS.trans (b4.mono hS.size)
      refine ⟨fun _ => hS, ?_⟩
      simp only [List.set_cons_zero, List.set_cons_succ]
      have q4 := (Array.getElem?_eq_some_iff.1 h4).1
      refine allW (rs := [6]) (by kernel_rfl) rfl (fun r hr => ?_)
      simp only [List.mem_cons, List.not_mem_nil, or_false] at hr
      subst hr
      refine run_alloc3 rfl rfl rfl rfl (fun g3 W3 h3 l3 b3 => ?_)
      replace h4 := (b3.block _ (Array.getElem?_eq_some_iff.1 h4).1).trans h4
      have hne : g3 ≠ g4 := fun e => by subst e; exact absurd l3 (Nat.not_le.2 q4)
      have m3 := Nat.le_trans hS.size l3
      replace hS := hS.trans (b3.mono hS.size)
      refine ⟨fun _ => hS, ?_⟩
      simp only [List.set_cons_zero, List.set_cons_succ]
      have q3 := (Array.getElem?_eq_some_iff.1 h3).1
      replace q4 := (Array.getElem?_eq_some_iff.1 h4).1
      refine allW (rs := [8]) (by kernel_rfl) rfl (fun r hr => ?_)
      simp only [List.mem_cons, List.not_mem_nil, or_false] at hr
      subst hr
      refine run_store3 (v := .int .i64 (kn : Int)) rfl rfl rfl rfl rfl rfl rfl rfl h3 rfl (fun W8 h8 hW8 => ?_)
      replace hS := hW8.below hS m3
      replace h4 := (hW8.block g4 (fun e => hne e.symm)).trans h4
      refine ⟨fun _ => hS, ?_⟩
      refine allW (rs := [9]) (by kernel_rfl) rfl (fun r hr => ?_)
      simp only [List.mem_cons, List.not_mem_nil, or_false] at hr
      subst hr
      refine run_store3 (v := .int .i64 (n : Int)) rfl rfl rfl rfl rfl rfl rfl rfl h4 rfl (fun W9 h9 hW9 => ?_)
      replace hS := hW9.below hS m4
      replace h8 := (hW9.block g3 hne).trans h8
      refine ⟨fun _ => hS, ?_⟩
      refine doneW (by kernel_rfl) ?_ _
      have c3 : W9.cell? ⟨g3, 0, none⟩ = some (.int .i64 (kn : Int)) := cell_of_row W9 g3 0 _ 3 _ h8
      have c4 : W9.cell? ⟨g4, 0, none⟩ = some (.int .i64 (n : Int)) := cell_of_row W9 g4 0 _ 3 _ h9
      have c38 := (txCells HR.out (hcell W9 hS)).c38
      have hB9 := hB.trans (hS.mono hB.size)
      have HCC := Lib.hid (HCT.out W9 hB9 g4 g3 c4 c3)
      clear c3 c4
      go_wp2_with (go_at_call 32; refine HCC.out.mono ?_; rintro e w2 ⟨rfl, hB2⟩)
      go_ret
      exact ⟨rfl, hB9.trans (hB2.mono hB9.size)⟩
  · refine run_alloc3 rfl rfl rfl rfl (fun g3 W3 h3 l3 b3 => ?_)
    have m3 := Nat.le_trans hS.size l3
    replace hS := hS.trans (b3.mono hS.size)
    refine ⟨fun _ => hS, ?_⟩
    simp only [List.set_cons_zero, List.set_cons_succ]
    have q3 := (Array.getElem?_eq_some_iff.1 h3).1
    refine allW (rs := [5, 7]) (by kernel_rfl) rfl (fun r hr => ?_)
    simp only [List.mem_cons, List.not_mem_nil, or_false] at hr
    rcases hr with rfl | rfl
    · refine run_call (f := 10) (args := #[X.val]) rfl rfl rfl (exec_call1 rfl rfl Try.func10 (by decide) rfl) (HTOT.out _ (hB.trans (hS.mono hB.size))) ?_
      rintro e W5 ⟨rfl, hb5⟩
      replace h3 := (hb5.block _ (Array.getElem?_eq_some_iff.1 h3).1).trans h3
      replace hS := hS.trans (hb5.mono hS.size)
      refine ⟨_, rfl, fun _ => hS, ?_⟩
      simp only [List.set_cons_zero, List.set_cons_succ]
      replace q3 := (Array.getElem?_eq_some_iff.1 h3).1
      refine allW (rs := [7]) (by kernel_rfl) rfl (fun r hr => ?_)
      simp only [List.mem_cons, List.not_mem_nil, or_false] at hr
      subst hr
      refine run_alloc3 rfl rfl rfl rfl (fun g4 W4 h4 l4 b4 => ?_)
      replace h3 := (b4.block _ (Array.getElem?_eq_some_iff.1 h3).1).trans h3
      have hne : g3 ≠ g4 := fun e => by subst e; exact absurd l4 (Nat.not_le.2 q3)
      have m4 := Nat.le_trans hS.size l4
      replace hS := hS.trans (b4.mono hS.size)
      refine ⟨fun _ => hS, ?_⟩
      simp only [List.set_cons_zero, List.set_cons_succ]
      replace q3 := (Array.getElem?_eq_some_iff.1 h3).1
      have q4 := (Array.getElem?_eq_some_iff.1 h4).1
      refine allW (rs := [8]) (by kernel_rfl) rfl (fun r hr => ?_)
      simp only [List.mem_cons, List.not_mem_nil, or_false] at hr
      subst hr
      refine run_store3 (v := .int .i64 (kn : Int)) rfl rfl rfl rfl rfl rfl rfl rfl h3 rfl (fun W8 h8 hW8 => ?_)
      replace hS := hW8.below hS m3
      replace h4 := (hW8.block g4 (fun e => hne e.symm)).trans h4
      refine ⟨fun _ => hS, ?_⟩
      refine allW (rs := [9]) (by kernel_rfl) rfl (fun r hr => ?_)
      simp only [List.mem_cons, List.not_mem_nil, or_false] at hr
      subst hr
      refine run_store3 (v := .int .i64 (n : Int)) rfl rfl rfl rfl rfl rfl rfl rfl h4 rfl (fun W9 h9 hW9 => ?_)
      replace hS := hW9.below hS m4
      replace h8 := (hW9.block g3 hne).trans h8
      refine ⟨fun _ => hS, ?_⟩
      refine doneW (by kernel_rfl) ?_ _
      have c3 : W9.cell? ⟨g3, 0, none⟩ = some (.int .i64 (kn : Int)) := cell_of_row W9 g3 0 _ 3 _ h8
      have c4 : W9.cell? ⟨g4, 0, none⟩ = some (.int .i64 (n : Int)) := cell_of_row W9 g4 0 _ 3 _ h9
      have c38 := (txCells HR.out (hcell W9 hS)).c38
      have hB9 := hB.trans (hS.mono hB.size)
      have HCC := Lib.hid (HCT.out W9 hB9 g4 g3 c4 c3)
      clear c3 c4
      go_wp2_with (go_at_call 32; refine HCC.out.mono ?_; rintro e w2 ⟨rfl, hB2⟩)
      go_ret
      exact ⟨rfl, hB9.trans (hB2.mono hB9.size)⟩
    · refine run_alloc3 rfl rfl rfl rfl (fun g4 W4 h4 l4 b4 => ?_)
      replace h3 := (b4.block _ (Array.getElem?_eq_some_iff.1 h3).1).trans h3
      have hne : g3 ≠ g4 := fun e => by subst e; exact absurd l4 (Nat.not_le.2 q3)
      have m4 := Nat.le_trans hS.size l4
      replace hS := hS.trans (b4.mono hS.size)
      refine ⟨fun _ => hS, ?_⟩
      simp only [List.set_cons_zero, List.set_cons_succ]
      replace q3 := (Array.getElem?_eq_some_iff.1 h3).1
      have q4 := (Array.getElem?_eq_some_iff.1 h4).1
      refine allW (rs := [5]) (by kernel_rfl) rfl (fun r hr => ?_)
      simp only [List.mem_cons, List.not_mem_nil, or_false] at hr
      subst hr
      refine run_call (f := 10) (args := #[X.val]) rfl rfl rfl (exec_call1 rfl rfl Try.func10 (by decide) rfl) (HTOT.out _ (hB.trans (hS.mono hB.size))) ?_
      rintro e W5 ⟨rfl, hb5⟩
      replace h3 := (hb5.block _ (Array.getElem?_eq_some_iff.1 h3).1).trans h3
      replace h4 := (hb5.block _ (Array.getElem?_eq_some_iff.1 h4).1).trans h4
      replace hS := hS.trans (hb5.mono hS.size)
      refine ⟨_, rfl, fun _ => hS, ?_⟩
      simp only [List.set_cons_zero, List.set_cons_succ]
      replace q3 := (Array.getElem?_eq_some_iff.1 h3).1
      replace q4 := (Array.getElem?_eq_some_iff.1 h4).1
      refine allW (rs := [8]) (by kernel_rfl) rfl (fun r hr => ?_)
      simp only [List.mem_cons, List.not_mem_nil, or_false] at hr
      subst hr
      refine run_store3 (v := .int .i64 (kn : Int)) rfl rfl rfl rfl rfl rfl rfl rfl h3 rfl (fun W8 h8 hW8 => ?_)
      replace hS := hW8.below hS m3
      replace h4 := (hW8.block g4 (fun e => hne e.symm)).trans h4
      refine ⟨fun _ => hS, ?_⟩
      refine allW (rs := [9]) (by kernel_rfl) rfl (fun r hr => ?_)
      simp only [List.mem_cons, List.not_mem_nil, or_false] at hr
      subst hr
      refine run_store3 (v := .int .i64 (n : Int)) rfl rfl rfl rfl rfl rfl rfl rfl h4 rfl (fun W9 h9 hW9 => ?_)
      replace hS := hW9.below hS m4
      replace h8 := (hW9.block g3 hne).trans h8
      refine ⟨fun _ => hS, ?_⟩
      refine doneW (by kernel_rfl) ?_ _
      have c3 : W9.cell? ⟨g3, 0, none⟩ = some (.int .i64 (kn : Int)) := cell_of_row W9 g3 0 _ 3 _ h8
      have c4 : W9.cell? ⟨g4, 0, none⟩ = some (.int .i64 (n : Int)) := cell_of_row W9 g4 0 _ 3 _ h9
      have c38 := (txCells HR.out (hcell W9 hS)).c38
      have hB9 := hB.trans (hS.mono hB.size)
      have HCC := Lib.hid (HCT.out W9 hB9 g4 g3 c4 c3)
      clear c3 c4
      go_wp2_with (go_at_call 32; refine HCC.out.mono ?_; rintro e w2 ⟨rfl, hB2⟩)
      go_ret
      exact ⟨rfl, hB9.trans (hB2.mono hB9.size)⟩
  · refine run_alloc3 rfl rfl rfl rfl (fun g4 W4 h4 l4 b4 => ?_)
    have m4 := Nat.le_trans hS.size l4
    replace hS := hS.trans (b4.mono hS.size)
    refine ⟨fun _ => hS, ?_⟩
    simp only [List.set_cons_zero, List.set_cons_succ]
    have q4 := (Array.getElem?_eq_some_iff.1 h4).1
    refine allW (rs := [5, 6]) (by kernel_rfl) rfl (fun r hr => ?_)
    simp only [List.mem_cons, List.not_mem_nil, or_false] at hr
    rcases hr with rfl | rfl
    · refine run_call (f := 10) (args := #[X.val]) rfl rfl rfl (exec_call1 rfl rfl Try.func10 (by decide) rfl) (HTOT.out _ (hB.trans (hS.mono hB.size))) ?_
      rintro e W5 ⟨rfl, hb5⟩
      replace h4 := (hb5.block _ (Array.getElem?_eq_some_iff.1 h4).1).trans h4
      replace hS := hS.trans (hb5.mono hS.size)
      refine ⟨_, rfl, fun _ => hS, ?_⟩
      simp only [List.set_cons_zero, List.set_cons_succ]
      replace q4 := (Array.getElem?_eq_some_iff.1 h4).1
      refine allW (rs := [6]) (by kernel_rfl) rfl (fun r hr => ?_)
      simp only [List.mem_cons, List.not_mem_nil, or_false] at hr
      subst hr
      refine run_alloc3 rfl rfl rfl rfl (fun g3 W3 h3 l3 b3 => ?_)
      replace h4 := (b3.block _ (Array.getElem?_eq_some_iff.1 h4).1).trans h4
      have hne : g3 ≠ g4 := fun e => by subst e; exact absurd l3 (Nat.not_le.2 q4)
      have m3 := Nat.le_trans hS.size l3
      replace hS := hS.trans (b3.mono hS.size)
      refine ⟨fun _ => hS, ?_⟩
      simp only [List.set_cons_zero, List.set_cons_succ]
      have q3 := (Array.getElem?_eq_some_iff.1 h3).1
      replace q4 := (Array.getElem?_eq_some_iff.1 h4).1
      refine allW (rs := [8]) (by kernel_rfl) rfl (fun r hr => ?_)
      simp only [List.mem_cons, List.not_mem_nil, or_false] at hr
      subst hr
      refine run_store3 (v := .int .i64 (kn : Int)) rfl rfl rfl rfl rfl rfl rfl rfl h3 rfl (fun W8 h8 hW8 => ?_)
      replace hS := hW8.below hS m3
      replace h4 := (hW8.block g4 (fun e => hne e.symm)).trans h4
      refine ⟨fun _ => hS, ?_⟩
      refine allW (rs := [9]) (by kernel_rfl) rfl (fun r hr => ?_)
      simp only [List.mem_cons, List.not_mem_nil, or_false] at hr
      subst hr
      refine run_store3 (v := .int .i64 (n : Int)) rfl rfl rfl rfl rfl rfl rfl rfl h4 rfl (fun W9 h9 hW9 => ?_)
      replace hS := hW9.below hS m4
      replace h8 := (hW9.block g3 hne).trans h8
      refine ⟨fun _ => hS, ?_⟩
      refine doneW (by kernel_rfl) ?_ _
      have c3 : W9.cell? ⟨g3, 0, none⟩ = some (.int .i64 (kn : Int)) := cell_of_row W9 g3 0 _ 3 _ h8
      have c4 : W9.cell? ⟨g4, 0, none⟩ = some (.int .i64 (n : Int)) := cell_of_row W9 g4 0 _ 3 _ h9
      have c38 := (txCells HR.out (hcell W9 hS)).c38
      have hB9 := hB.trans (hS.mono hB.size)
      have HCC := Lib.hid (HCT.out W9 hB9 g4 g3 c4 c3)
      clear c3 c4
      go_wp2_with (go_at_call 32; refine HCC.out.mono ?_; rintro e w2 ⟨rfl, hB2⟩)
      go_ret
      exact ⟨rfl, hB9.trans (hB2.mono hB9.size)⟩
    · refine run_alloc3 rfl rfl rfl rfl (fun g3 W3 h3 l3 b3 => ?_)
      replace h4 := (b3.block _ (Array.getElem?_eq_some_iff.1 h4).1).trans h4
      have hne : g3 ≠ g4 := fun e => by subst e; exact absurd l3 (Nat.not_le.2 q4)
      have m3 := Nat.le_trans hS.size l3
      replace hS := hS.trans (b3.mono hS.size)
      refine ⟨fun _ => hS, ?_⟩
      simp only [List.set_cons_zero, List.set_cons_succ]
      have q3 := (Array.getElem?_eq_some_iff.1 h3).1
      replace q4 := (Array.getElem?_eq_some_iff.1 h4).1
      refine allW (rs := [5]) (by kernel_rfl) rfl (fun r hr => ?_)
      simp only [List.mem_cons, List.not_mem_nil, or_false] at hr
      subst hr
      refine run_call (f := 10) (args := #[X.val]) rfl rfl rfl (exec_call1 rfl rfl Try.func10 (by decide) rfl) (HTOT.out _ (hB.trans (hS.mono hB.size))) ?_
      rintro e W5 ⟨rfl, hb5⟩
      replace h3 := (hb5.block _ (Array.getElem?_eq_some_iff.1 h3).1).trans h3
      replace h4 := (hb5.block _ (Array.getElem?_eq_some_iff.1 h4).1).trans h4
      replace hS := hS.trans (hb5.mono hS.size)
      refine ⟨_, rfl, fun _ => hS, ?_⟩
      simp only [List.set_cons_zero, List.set_cons_succ]
      replace q3 := (Array.getElem?_eq_some_iff.1 h3).1
      replace q4 := (Array.getElem?_eq_some_iff.1 h4).1
      refine allW (rs := [8]) (by kernel_rfl) rfl (fun r hr => ?_)
      simp only [List.mem_cons, List.not_mem_nil, or_false] at hr
      subst hr
      refine run_store3 (v := .int .i64 (kn : Int)) rfl rfl rfl rfl rfl rfl rfl rfl h3 rfl (fun W8 h8 hW8 => ?_)
      replace hS := hW8.below hS m3
      replace h4 := (hW8.block g4 (fun e => hne e.symm)).trans h4
      refine ⟨fun _ => hS, ?_⟩
      refine allW (rs := [9]) (by kernel_rfl) rfl (fun r hr => ?_)
      simp only [List.mem_cons, List.not_mem_nil, or_false] at hr
      subst hr
      refine run_store3 (v := .int .i64 (n : Int)) rfl rfl rfl rfl rfl rfl rfl rfl h4 rfl (fun W9 h9 hW9 => ?_)
      replace hS := hW9.below hS m4
      replace h8 := (hW9.block g3 hne).trans h8
      refine ⟨fun _ => hS, ?_⟩
      refine doneW (by kernel_rfl) ?_ _
      have c3 : W9.cell? ⟨g3, 0, none⟩ = some (.int .i64 (kn : Int)) := cell_of_row W9 g3 0 _ 3 _ h8
      have c4 : W9.cell? ⟨g4, 0, none⟩ = some (.int .i64 (n : Int)) := cell_of_row W9 g4 0 _ 3 _ h9
      have c38 := (txCells HR.out (hcell W9 hS)).c38
      have hB9 := hB.trans (hS.mono hB.size)
      have HCC := Lib.hid (HCT.out W9 hB9 g4 g3 c4 c3)
      clear c3 c4
      go_wp2_with (go_at_call 32; refine HCC.out.mono ?_; rintro e w2 ⟨rfl, hB2⟩)
      go_ret
      exact ⟨rfl, hB9.trans (hB2.mono hB9.size)⟩
end Go.Proofs.Ytgjijoielfpmkaa
