/- What may be: plain facts. -/
import Derived.Test.YtgjijoielfpmkaaM
set_option linter.unusedVariables false
namespace Go.Proofs.Ytgjijoielfpmkaa
open Go.RowKit

/-- What a transaction that may be is like. -/
structure Fine (X : Tx) : Prop where
  sg : X.sl = X.hs
  s0 : 0 < X.hs
  rs : X.hr < X.hs
  so : X.hs + X.ho ≤ X.K.length
  lk : ∀ l ∈ X.L, l.wl + l.rl ≠ 0
  few : tot X ≤ 64
  ins : ∀ i ∈ X.I, i.p ≠ 0 ∧ i.p < X.K.length ∧ ∀ a ∈ i.A, a < tot X
  once : X.K.Nodup

theorem any_false {α : Type} {l : List α} {f : α → Bool} (h : l.any f = false) : ∀ x ∈ l, f x = false := fun x hx => by
  cases e : f x with
  | false => rfl
  | true =>
    have := List.any_eq_true.2 ⟨x, hx, e⟩
    rw [h] at this; cases this

theorem chk_zero {X : Tx} : chk X = 0 ↔ sgn X = true ∧ hdr X = true ∧ lookd X = true ∧ Ytgjijoielfpmkaa.few X = true ∧ pointd X = true ∧ onc X = true := by
  unfold chk
  cases sgn X <;> cases hdr X <;> cases lookd X <;> cases Ytgjijoielfpmkaa.few X <;> cases pointd X <;> cases onc X <;> simp

theorem fine {X : Tx} (h : chk X = 0) : Fine X := by
  obtain ⟨h1, h2, h3, h4, h5, h6⟩ := chk_zero.1 h
  unfold sgn at h1
  unfold hdr at h2
  unfold lookd at h3
  unfold Ytgjijoielfpmkaa.few at h4
  unfold pointd at h5
  unfold onc at h6
  simp only [Bool.and_eq_true, decide_eq_true_eq] at h1 h2 h4 h6
  have h3' : X.L.any Lk.void = false := by simpa using h3
  have h5' : X.I.any (Ins.bad X.K.length (tot X)) = false := by
    cases e : X.I.any (Ins.bad X.K.length (tot X)) with
    | false => rfl
    | true => rw [e] at h5; cases h5
  refine ⟨h1.2, h1.1, h2.1, h2.2, fun l hl => ?_, h4, fun i hi => ?_, h6⟩
  · have := any_false h3' l hl
    unfold Lk.void at this
    simpa using this
  · have := any_false h5' i hi
    unfold Ins.bad at this
    simp only [Bool.or_eq_false_iff, decide_eq_false_iff_not] at this
    refine ⟨this.1.1, by omega, fun a ha => ?_⟩
    have := any_false this.2 a ha
    unfold beyond at this
    simp only [decide_eq_false_iff_not] at this
    omega

theorem exec_index_rows {a : Act} {w : World} {o : Oper} {x i : Operand} {t e : TypeId} {k : IntKind} {b off n c idx s : Nat} (ho : o.op = .indexAddr t x i) (hx : a.eval x = .slice (some ⟨b, off, none⟩) n c) (hi : a.eval i = .int k (idx : Int))
    (ht : Try.prog.underlying t = some (.slice e)) (hs : (Try.prog.info? e).map (·.size) = some s) (hlt : idx < n) : (execOp a.eval o).run Try.prog w = .ok (.value (.pointer (some ⟨b, off + idx * s, none⟩))) w := by
  have hsz : (Go.sizeOf e).run Try.prog w = .ok s w := by
    cases hinfo : Try.prog.info? e with
    | none => simp [hinfo] at hs
    | some i => simp [hinfo] at hs; simp [Go.sizeOf, typeInfo, hinfo, hs]
  have hadd : (⟨b, off, none⟩ : Addr).add (idx * s) = ⟨b, off + idx * s, none⟩ := by unfold Addr.add; split <;> simp_all
  unfold execOp
  simp [ho, hx, hi, Instr.indexAt, Instr.sureAddr, asIntOf, run_underlying ht, hsz, hlt, hadd]

/-! ### Guarded operations of a region that draws -/
section
variable {P : Program} {Q : Exit → Act → World → Prop} {md : Region.Mode} {S : World → Prop} {late : Nat → Bool}
theorem takeG {l : List Oper} {j d fuel : Nat} {o : Oper} {v : Value} {listed : Array Bool} {tmps : List Value} {defers : List Deferred} {w : World}
    (hi : l[j]? = some o) (hd : o.dst = some d) (hg : Region.wanted o (yielded l.toArray tmps.toArray) = true) (hs : Region.noSelect l.toArray = true) (hf : Region.free md l.toArray listed j = true) (hr : (Region.ready md l.toArray listed).contains j = true)
    (hw : lateWaits md l.toArray late j = true) (hQ : ∀ c a w, Q (.panic c) (a.put o.dst v) w → Q (.panic c) a w) (hx : ∀ w, S w → (execOp (Act.eval ⟨tmps.toArray, defers⟩) o).run P w = .ok (.value v) w) (hS : S w)
    (h : wpAnyW P md l.toArray Q S late fuel (listed.setIfInBounds j true) ⟨(tmps.set d v).toArray, defers⟩ w) : wpAnyW P md l.toArray Q S late (fuel + 1) listed ⟨tmps.toArray, defers⟩ w :=
  wpAnyW_first (by simpa using hi) (Region.noSelect_spec hs) hQ hw fuel listed _ w (Region.free_spec (by simpa using hi) hf) (by simpa using hr) (.inl ⟨hg, hx⟩) hS (by rw [hd]; simpa [Act.put] using h)

theorem run_callG {l : List Oper} {j d : Nat} {o : Oper} {f : FuncId} {args : Array Value} {R : Ending → World → Prop} {tmps : List Value} {defers : List Deferred} {w : World} {K : Act → World → Prop} (hi : l[j]? = some o) (hd : o.dst = some d) (hg : Region.wanted o (yielded l.toArray tmps.toArray) = true)
    (hr : (execOp (Act.eval ⟨tmps.toArray, defers⟩) o).run P w = .ok (.enter f args) w) (hc : Calls P f args w R)
    (h : ∀ e w', R e w' → ∃ v, e = .returned v ∧ K ⟨(tmps.set d v).toArray, defers⟩ w') : wpOp P l.toArray Q j K ⟨tmps.toArray, defers⟩ w := by
  unfold wpOp
  simp only [show l.toArray[j]? = some o by simpa using hi, hg, if_true]
  refine .inl ?_
  unfold Oper.wp
  rw [hr]
  refine hc.mono fun e w' he => ?_
  obtain ⟨v, rfl, hk⟩ := h e w' he
  show K (Act.put _ o.dst v) w'
  rw [hd]
  simpa [Act.put] using hk
end
theorem und41 : Try.prog.underlying 41 = some (.array 32 5) := u41
theorem und28 : Try.prog.underlying 28 = some (.slice 47) := by kernel_rfl
end Go.Proofs.Ytgjijoielfpmkaa
