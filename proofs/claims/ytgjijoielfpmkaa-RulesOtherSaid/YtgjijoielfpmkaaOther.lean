/- For whatever transaction, with whatever slices in it (nil too), signature and bytes (nil too), the law RulesOther returns true; its arguments read as they did; the memory that was there is as it was. No condition. -/
import Derived.Test.YtgjijoielfpmkaaRows
import Derived.Test.YtgjijoielfpmkaaP
import Derived.Test.YtgjijoielfpmkaaS
namespace Go.Proofs.Ytgjijoielfpmkaa.rulesOther
open Go.ChangeShapes Go.WideShapes Go.ChangeAt Go.RowKit
set_option linter.unusedVariables false

theorem own : ownKnob Try.prog.godebug = none := by kernel_rfl
theorem laidOut : laidOutB Try.prog = true := by kernel_rfl

def zeroTx : Tx := { sa := none, SG := [], sc := 0, v0 := false, hs := 0, hr := 0, ho := 0, ka := none, K := [], kc := 0, R := List.replicate 32 0, ia := none, I := [], ic := 0, la := none, L := [], lc := 0 }

set_option maxRecDepth 100000 in
theorem lifted (os : Os) (started : os.Started) (H : Type) (enc : TypeId × Value → H) :
    ReturnsInHanded {} Try.checked os 5 .any (Rows.rulesOtherSpec.pre6 enc Try.prog Try.f5 Rows.rulesOtherRow.domain false) (Rows.rulesOtherSpec.post enc Try.prog Try.f5 false true false false) := by
  refine returnsInHanded_of_change_shaped (C := Try.checked) own started (by kernel_rfl) Try.func5
    (ChangeSpec.witness6 (enc := enc) (C := Try.checked) false ⟨#[], #[zeroTx.val, kv (List.replicate 64 0), .slice none 0 0], []⟩ 8 (by kernel_rfl) (by kernel_rfl) (by kernel_rfl) (by kernel_rfl)) ?_
  intro W base args ds gs before hval0 hW hcnd hwt _ _
  have hval : ∀ (j : Nat) t v, Try.f5.params[j]? = some t → args[j]? = some v → Value.okWide Try.prog W .any base t v := hval0
  have hW' := hW
  obtain ⟨p, q, hA0, hV, rfl, hfz, hnd⟩ := hW
  have hA : DataW.TrodAll enc Try.prog W 0 (fun _ => true) true Try.f5.params.toList args.toList ds p := hA0
  rw [Try.params5] at hA hval
  obtain ⟨v0, vs0, d0, ds0, p0, q0, hargs, rfl, rfl, h0, r0⟩ := trodAll_cons hA
  obtain ⟨v1, vs1, d1, ds1, p1, q1, rfl, rfl, rfl, h1, r1⟩ := trodAll_cons r0
  obtain ⟨v2, vs2, d2, ds2, p2, q2, rfl, rfl, rfl, h2, r2⟩ := trodAll_cons r1
  obtain ⟨rfl, rfl, rfl⟩ := trodAll_nil r2
  obtain rfl : args = #[v0, v1, v2] := by cases args; simp_all
  obtain ⟨rfl, rfl⟩ := trodVars_none hV
  have lt0 : ∀ x ∈ p0, x.block < W.heap.size := by obtain ⟨m, hm⟩ := h0; exact DataW.trod_lt m _ _ _ hm
  have lt1 : ∀ x ∈ p1, x.block < W.heap.size := by obtain ⟨m, hm⟩ := h1; exact DataW.trod_lt m _ _ _ hm
  have hw0 : Wt Try.prog 33 d0 := fun n hn => by
    have := List.all_eq_true.1 hwt n (DataW.weights_mem_each (j := 0) (t := 33) (d := d0) rfl rfl n hn)
    exact of_decide_eq_true this
  obtain ⟨X, hX, hT, _⟩ := open_txv (hval 0 33 v0 rfl rfl) h0 hw0
  have lt2 : ∀ x ∈ p2, x.block < W.heap.size := by obtain ⟨m, hm⟩ := h2; exact DataW.trod_lt m _ _ _ hm
  have hw2 : Wt Try.prog 42 d2 := fun n hn => by
    have := List.all_eq_true.1 hwt n (DataW.weights_mem_each (j := 2) (t := 42) (d := d2) rfl rfl n hn)
    exact of_decide_eq_true this
  obtain ⟨l, hl, hlen, hlw⟩ := open_array u49 u5 (by kernel_rfl) (by kernel_rfl) (hval 1 49 v1 rfl rfl) h1
  obtain ⟨a2, D, c2, rfl, hD, hDl⟩ : ∃ a D c, v2 = .slice a (D.length) c ∧ BytesAt W a D ∧ D.length ≤ lenMax := by
    obtain ⟨a, len, cap, rfl⟩ := okWide_slice Try.underlying42 (hval 2 42 v2 rfl rfl)
    obtain ⟨fuel, hf⟩ := h2
    obtain ⟨ao, A, c, e1, e2, e3, _⟩ := open_bytes hf hw2
    refine ⟨ao, A, c, ?_, e2, e3⟩
    simpa [Value.cells] using e1
  clear hA0 hval0
  have hwalk := other_any (c2 := c2) W hT hlen hD hDl
  rw [← hX, show kv l = v1 from hl.symm] at hwalk
  refine hwalk.mono fun e W' ⟨he, bel⟩ => ?_
  subst he
  exact ⟨_, rfl, _, _, _, [], _, [], hW', trodAll_mk1 (shut_bool Try.underlying4 _), (trodAll_cons_mk (Below.trod laidOut (by kernel_rfl) (of_decide_eq_true (by kernel_rfl)) h0 bel lt0) (trodAll_cons_mk (Below.trod laidOut (by kernel_rfl) (of_decide_eq_true (by kernel_rfl)) h1 bel lt1) (trodAll_cons_mk (Below.trod laidOut (by kernel_rfl) (of_decide_eq_true (by kernel_rfl)) h2 bel lt2) trodAll_mk0))), rfl, bel.frame _, fun h => by cases h⟩

theorem over : Rows.rulesOtherRow.holds Try.pinned (OpenSpec.ofChange Rows.rulesOtherSpec) :=
  OpenClaim.holds_of_wide 5 Try.f5 rfl rfl rfl rfl rfl rfl rfl ⟨rfl, rfl, rfl, rfl, rfl⟩ rfl rfl rfl rfl rfl (by kernel_rfl) Try.func5 (by kernel_rfl)
    (of_decide_eq_true (by kernel_rfl)) (by unfold Func.isWrapper; first | (rw [if_pos (by decide +kernel)]; kernel_rfl) | (rw [if_neg (by decide +kernel)]; exact ⟨rfl, rfl⟩))
    (fun os started H enc _ => lifted os started H enc)

theorem proved : Rows.RulesOtherSaid :=
  over
#print axioms proved
end Go.Proofs.Ytgjijoielfpmkaa.rulesOther
