/- Arguments opened: an array of integers by value; a slice of integers. Conditions: the types' numbers of cells. -/
import Derived.Test.YtgjijoielfpmkaaOps
import Derived.ProofKit
import Derived.OpenShut
import Derived.ShutString
import Derived.ChangeOld
namespace Go.Proofs.Ytgjijoielfpmkaa
open Go.ChangeShapes Go.WideShapes Go.ChangeAt Go.RowKit

section
variable {H : Type} {enc : TypeId × Value → H} {P : Program} {w : World} {base : Nat} {spare : Nat → Bool} {held : Bool}

theorem array_of_trod {n : Nat} {t e : TypeId} {k : IntKind} {fuel : Nat} {cs : List Value} {x : DataW H × List MemPlace} (ht : P.underlying t = some (.array n e)) (he : P.underlying e = some (.int k)) (hC : P.cellsOf t = n) (hCe : P.cellsOf e = 1)
    (h : DataW.trod enc P w base spare held fuel t cs = some x) : ∃ l : List Int, cs = l.map (Value.int k) ∧ l.length = n ∧ (∀ m ∈ l, (Lit.int k m).wf = true) ∧ x = (.agg (l.map fun m => .lit (.int k m)), []) := by
  obtain ⟨xs, m, _, hx, hlen, hxs, hf⟩ := DataW.trod_array ht h
  rw [hC] at hlen
  have hg : ∀ i, i < n → ∃ q, cs[i]? = some (.int k q) ∧ xs[i]? = some (.lit (.int k q), []) ∧ (Lit.int k q).wf = true := by
    intro i hi
    have h1 := hf i hi
    rw [hCe, Nat.mul_one] at h1
    have hone : (cs.drop i).take 1 = [cs[i]] := by
      rw [List.drop_eq_getElem_cons (by omega)]; rfl
    have hxi : xs[i]? = some xs[i] := List.getElem?_eq_getElem (by omega)
    rw [hone, hxi] at h1
    obtain ⟨q, e1, e2, e3⟩ := DataW.trod_int he h1
    refine ⟨q, ?_, ?_, e3⟩
    · rw [List.getElem?_eq_getElem (by omega)]
      simpa using e1
    · rw [hxi, e2]
  refine ⟨cs.map intOf, ?_, by simpa using hlen, ?_, ?_⟩
  · apply List.ext_getElem?
    intro i
    simp only [List.getElem?_map]
    by_cases hi : i < n
    · obtain ⟨q, e1, _⟩ := hg i hi
      rw [e1]; rfl
    · rw [List.getElem?_eq_none (by omega)]; rfl
  · intro q hq
    obtain ⟨c, hc, rfl⟩ := List.mem_map.1 hq
    obtain ⟨i, hi, rfl⟩ := List.getElem_of_mem hc
    obtain ⟨q, e1, _, e3⟩ := hg i (by omega)
    rw [List.getElem?_eq_getElem hi] at e1
    rw [Option.some.inj e1]
    exact e3
  · have hxs' : xs = (cs.map intOf).map fun m => (DataW.lit (.int k m), []) := by
      apply List.ext_getElem?
      intro i
      simp only [List.getElem?_map]
      by_cases hi : i < n
      · obtain ⟨q, e1, e2, _⟩ := hg i hi
        rw [e1, e2]; rfl
      · rw [List.getElem?_eq_none (by omega), List.getElem?_eq_none (by omega)]; rfl
    rw [hx, hxs']
    simp [List.map_map, Function.comp_def, List.flatMap_map]

theorem open_array {n : Nat} {t e : TypeId} {k : IntKind} {r : Reach} {b0 : Nat} {v : Value} {d : DataW H} {p : List MemPlace} (ht : P.underlying t = some (.array n e)) (he : P.underlying e = some (.int k)) (hC : P.cellsOf t = n) (hCe : P.cellsOf e = 1)
    (hv : Value.okWide P w r b0 t v) (h : DataW.Trod enc P w base spare held t v d p) : ∃ l : List Int, v = .agg (icells k l) ∧ l.length = n ∧ ∀ m ∈ l, (Lit.int k m).wf = true := by
  have hv' := hv
  simp only [Value.okWide, ht] at hv'
  obtain ⟨cs, rfl, _, _⟩ := hv'
  obtain ⟨fuel, hf⟩ := h
  obtain ⟨l, h1, h2, h3, _⟩ := array_of_trod ht he hC hCe hf
  refine ⟨l, ?_, h2, h3⟩
  have : cs.toList = l.map (Value.int k) := h1
  unfold icells
  rw [← this]
end

/-- What the walk is told of a slice of integers that came in: it is nil, or leads to a row of 'cap' cells, the numbers zs. -/
def IsRow (k : IntKind) (w : World) (a : Option Addr) (len cap : Nat) (zs : List Int) : Prop :=
  (a = none ∧ len = 0 ∧ cap = 0 ∧ zs = []) ∨
  ∃ x, a = some x ∧ len ≤ cap ∧ cap ≤ maxLen ∧ zs.length = cap ∧ (∀ i, i < zs.length → w.cell? (x.add i) = some (.int k (zs.getD i 0))) ∧ ∀ n ∈ zs, (Lit.int k n).wf = true

section
variable {H : Type} {enc : TypeId × Value → H} {P : Program} {w : World}
theorem open_row {t e : TypeId} {k : IntKind} {v : Value} {d : DataW H} {p : List MemPlace} {b0 : Nat} (ht : P.underlying t = some (.slice e)) (he : P.underlying e = some (.int k)) (hCe : P.cellsOf e = 1)
    (hv : Value.okWide P w .any b0 t v) (h : DataW.Trod enc P w 0 (fun _ => true) true t v d p) : ∃ a len cap zs, v = .slice a len cap ∧ IsRow k w a len cap zs := by
  obtain ⟨a, len, cap, rfl⟩ := okWide_slice ht hv
  obtain ⟨fuel, hf⟩ := h
  rcases open_ints ht he hCe hf with ⟨hcs, _⟩ | ⟨x, l, c, zs, hcs, _, hl, hm, hz, _, hcell, hwz⟩
  · simp [Value.cells] at hcs
    obtain ⟨rfl, rfl, rfl⟩ := hcs
    exact ⟨_, _, _, [], rfl, .inl ⟨rfl, rfl, rfl, rfl⟩⟩
  · simp [Value.cells] at hcs
    obtain ⟨rfl, rfl, rfl⟩ := hcs
    exact ⟨_, _, _, zs, rfl, .inr ⟨_, rfl, hl, hm, by simpa using hz, hcell, hwz⟩⟩
end
end Go.Proofs.Ytgjijoielfpmkaa
