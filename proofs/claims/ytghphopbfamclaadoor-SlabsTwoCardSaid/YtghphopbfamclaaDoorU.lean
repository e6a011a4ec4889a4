/- SlabsTwo: the walk. -/
import Derived.Test.YtghphopbfamclaaDoorT
namespace Go.Proofs.YtghphopbfamclaaDoor
open Go.RowKit

/-- Two slabs of pairs in memory newer than w0's. -/
structure Twin (w0 w : World) (p bt bu p2 bt2 bu2 wv : Nat) (X : List Int) (many : Nat) : Prop where
  one : PairIn w p bt bu wv X many
  two : PairIn w p2 bt2 bu2 0 [0, 0, 0, 0, 0, 0] 0
  a1 : Apart p bt bu
  below : Below w0.heap.size w0 w
  q1 : w0.heap.size ≤ p
  q2 : w0.heap.size ≤ bt
  q3 : w0.heap.size ≤ bu
  far : ∀ k, k = p2 ∨ k = bt2 ∨ k = bu2 → k ≠ p ∧ k ≠ bt ∧ k ≠ bu ∧ w0.heap.size ≤ k
  tab : TabAt w0
  pos : 0 < w0.heap.size

section
variable {w0 w w' : World} {p bt bu p2 bt2 bu2 wv many : Nat} {X : List Int}
theorem Twin.tabAt (h : Twin w0 w p bt bu p2 bt2 bu2 wv X many) : TabAt w := h.tab.of_block (h.below.block 0 h.pos)
theorem PairIn.lts (h : PairIn w p bt bu wv X many) : p < w.heap.size ∧ bt < w.heap.size ∧ bu < w.heap.size :=
  ⟨(Array.getElem?_eq_some_iff.1 h.head).1, (Array.getElem?_eq_some_iff.1 h.things).1, (Array.getElem?_eq_some_iff.1 h.used).1⟩
theorem Twin.keep (h : Twin w0 w p bt bu p2 bt2 bu2 wv X many) (hb : Below w.heap.size w w') : Twin w0 w' p bt bu p2 bt2 bu2 wv X many :=
  ⟨h.one.keep hb, h.two.keep hb, h.a1, h.below.trans (hb.mono h.below.size), h.q1, h.q2, h.q3, h.far, h.tab, h.pos⟩
theorem Twin.moved {wv' many' : Nat} {X' : List Int} (h : Twin w0 w p bt bu p2 bt2 bu2 wv X many) (h1 : PairIn w' p bt bu wv' X' many') (hm : Moved w w' p bt bu) : Twin w0 w' p bt bu p2 bt2 bu2 wv' X' many' := by
  have hk : ∀ k, k = p2 ∨ k = bt2 ∨ k = bu2 → w'.heap[k]? = w.heap[k]? := fun k hk => by
    have hf := h.far k hk
    have hl := h.two.lts
    exact hm.block k (by rcases hk with rfl | rfl | rfl <;> omega) hf.1 hf.2.1 hf.2.2.1
  exact ⟨h1, ⟨(hk p2 (.inl rfl)).trans h.two.head, (hk bt2 (.inr (.inl rfl))).trans h.two.things, (hk bu2 (.inr (.inr rfl))).trans h.two.used, h.two.lenX⟩, h.a1, hm.below h.below h.below.size h.q1 h.q2 h.q3, h.q1, h.q2, h.q3, h.far, h.tab, h.pos⟩
/-- A block of its own is written. -/
theorem Twin.wrote {b : Nat} (h : Twin w0 w p bt bu p2 bt2 bu2 wv X many) (hW : Wrote w w' b) (hb : b ≠ p ∧ b ≠ bt ∧ b ≠ bu) (hb2 : b ≠ p2 ∧ b ≠ bt2 ∧ b ≠ bu2) (h0 : w0.heap.size ≤ b) : Twin w0 w' p bt bu p2 bt2 bu2 wv X many :=
  ⟨⟨(hW.block _ (Ne.symm hb.1)).trans h.one.head, (hW.block _ (Ne.symm hb.2.1)).trans h.one.things, (hW.block _ (Ne.symm hb.2.2)).trans h.one.used, h.one.lenX⟩,
   ⟨(hW.block _ (Ne.symm hb2.1)).trans h.two.head, (hW.block _ (Ne.symm hb2.2.1)).trans h.two.things, (hW.block _ (Ne.symm hb2.2.2)).trans h.two.used, h.two.lenX⟩, h.a1, hW.below h.below h0, h.q1, h.q2, h.q3, h.far, h.tab, h.pos⟩
end

end Go.Proofs.YtghphopbfamclaaDoor
