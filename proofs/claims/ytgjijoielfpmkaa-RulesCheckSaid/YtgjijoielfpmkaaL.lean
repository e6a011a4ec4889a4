/- A field of a transaction written. -/
import Derived.Test.YtgjijoielfpmkaaK
set_option linter.unusedVariables false
namespace Go.Proofs.Ytgjijoielfpmkaa
open Go.RowKit

theorem splice_one {C : Array Value} {off : Nat} {v : Value} (h : off < C.size) : splice C off #[v] = C.setIfInBounds off v := by
  apply Array.ext_getElem?
  intro j
  rw [Array.getElem?_setIfInBounds]
  by_cases e : off = j
  · subst e
    rw [if_pos rfl, if_pos h]
    have := splice_in (C := C) (A := #[v]) (off := off) (j := 0) (by simp; omega) (by simp)
    simpa using this
  · rw [if_neg e]
    exact splice_out (by simp; omega) (by simp; omega)

section
variable {ops : Array Oper} {Q : Exit → Act → World → Prop} {a : Act} {w : World} {rest : List Oper} {dst : Option Tmp} {x y : Operand} {pos : String} {after : Array Edge}
theorem wl_store1 {ty ty' t b off : Nat} {C : Array Value} {v : Value} {p : Operand} (hp : a.eval p = .pointer (some ⟨b, off, none⟩)) (hx : a.eval x = v) (hv : v.cells = #[v]) (h1 : v.oneCell' = true) (hg : w.heap[b]? = some (.cells C t)) (hlt : off < C.size)
    (hi : (Try.prog.info? ty).map (·.size) = some 1) (K : ∀ w1, w1.heap[b]? = some (.cells (C.setIfInBounds off v) t) → Wrote w w1 b → wpList Try.prog ops Q rest (a.put dst undef) w1) :
    wpList Try.prog ops Q (⟨dst, .store ty p x, ty', pos, after, none⟩ :: rest) a w := by
  have hone : ∀ u ∈ (#[v] : Array Value).toList, u.oneCell' = true := by
    intro u hu
    have e : u = v := by simpa using hu
    rw [e]; exact h1
  refine wpList_runSkip rfl (exec_store_sub (t := t) (C := C) (A := #[v]) rfl hp hx hv hg (by simp; omega) hone hi) (K _ ?_ (Wrote.setRow _ _ _))
  rw [setRow_heap w b C _ t _ hg, splice_one hlt]
end
theorem vc_int (k : IntKind) (n : Int) : (Value.int k n).cells = #[Value.int k n] := rfl
theorem vo_int (k : IntKind) (n : Int) : (Value.int k n).oneCell' = true := rfl
theorem vc_bool (b : Bool) : (Value.bool b).cells = #[Value.bool b] := rfl
theorem vo_bool (b : Bool) : (Value.bool b).oneCell' = true := rfl
theorem vc_slice (a : Option Addr) (n c : Nat) : (Value.slice a n c).cells = #[Value.slice a n c] := rfl
theorem vo_slice (a : Option Addr) (n c : Nat) : (Value.slice a n c).oneCell' = true := rfl
theorem size25 : (Try.prog.info? 25).map (·.size) = some 1 := by kernel_rfl
theorem size22 : (Try.prog.info? 22).map (·.size) = some 1 := by kernel_rfl
theorem size28 : (Try.prog.info? 28).map (·.size) = some 1 := by kernel_rfl
theorem size42 : (Try.prog.info? 42).map (·.size) = some 1 := by kernel_rfl
theorem size4 : (Try.prog.info? 4).map (·.size) = some 1 := by kernel_rfl
theorem size5 : (Try.prog.info? 5).map (·.size) = some 1 := by kernel_rfl

theorem Tx.get {X : Tx} (hR : X.R.length = 32) (j : Nat) : X.cells[j]? = if j = 0 then some (.slice X.sa X.sl X.sc) else if j = 1 then some (.bool X.v0) else if j = 2 then some (.int .u8 (X.hs : Int)) else if j = 3 then some (.int .u8 (X.hr : Int)) else if j = 4 then some (.int .u8 (X.ho : Int)) else if j = 5 then some (.slice X.ka X.K.length X.kc)
    else if j < 38 then (icells .u8 X.R)[j - 6]? else if j = 38 then some (.slice X.ia X.I.length X.ic) else if j = 39 then some (.slice X.la X.L.length X.lc) else none := by
  by_cases h0 : j = 0
  · subst h0; rw [if_pos rfl]; unfold Tx.cells; rw [Array.getElem?_append_left (by simp)]; rfl
  rw [if_neg h0]
  obtain ⟨i, rfl⟩ : ∃ i, j = 1 + i := ⟨j - 1, by omega⟩
  rw [Tx.c_tail]
  by_cases h5 : i < 5
  · rw [Tx.m_head h5]
    match i, h5 with
    | 0, _ => rfl
    | 1, _ => rfl
    | 2, _ => rfl
    | 3, _ => rfl
    | 4, _ => rfl
  · rw [if_neg (by omega), if_neg (by omega), if_neg (by omega), if_neg (by omega), if_neg (by omega)]
    by_cases h37 : i < 37
    · rw [if_pos (by omega)]
      unfold Tx.mcells
      rw [Array.getElem?_append_left (by simp [hR]; omega), Array.getElem?_append_right (by simp; omega)]
      congr 1
      simp; omega
    · rw [if_neg (by omega)]
      obtain ⟨m, rfl⟩ : ∃ m, i = 37 + m := ⟨i - 37, by omega⟩
      rw [Tx.m_tail hR]
      match m with
      | 0 => rfl
      | 1 => rfl
      | m + 2 => rw [if_neg (by omega), if_neg (by omega)]; simp

theorem Tx.setKeys {X : Tx} (hR : X.R.length = 32) (ka : Option Addr) (K : List (List Int)) (kc : Nat) : X.cells.setIfInBounds 5 (.slice ka K.length kc) = { X with ka := ka, K := K, kc := kc }.cells := by
  apply Array.ext_getElem?
  intro j
  rw [Array.getElem?_setIfInBounds, Tx.size hR, Tx.get hR, Tx.get (X := { X with ka := ka, K := K, kc := kc }) hR]
  by_cases e : 5 = j
  · subst e; rfl
  · rw [if_neg e]
    simp only [show ¬ j = 5 from fun h => e h.symm, if_false]
    rfl
theorem Tx.setIns {X : Tx} (hR : X.R.length = 32) (ia : Option Addr) (I : List Ins) (ic : Nat) : X.cells.setIfInBounds 38 (.slice ia I.length ic) = { X with ia := ia, I := I, ic := ic }.cells := by
  apply Array.ext_getElem?
  intro j
  rw [Array.getElem?_setIfInBounds, Tx.size hR, Tx.get hR, Tx.get (X := { X with ia := ia, I := I, ic := ic }) hR]
  by_cases e : 38 = j
  · subst e; rfl
  · rw [if_neg e]
    simp only [show ¬ j = 38 from fun h => e h.symm, if_false]
    rfl
theorem Tx.setSigs {X : Tx} (hR : X.R.length = 32) (sa : Option Addr) (SG : List (List Int)) (sc : Nat) : X.cells.setIfInBounds 0 (.slice sa SG.length sc) = { X with sa := sa, SG := SG, sc := sc }.cells := by
  apply Array.ext_getElem?
  intro j
  rw [Array.getElem?_setIfInBounds, Tx.size hR, Tx.get hR, Tx.get (X := { X with sa := sa, SG := SG, sc := sc }) hR]
  by_cases e : 0 = j
  · subst e; rfl
  · rw [if_neg e]
    simp only [show ¬ j = 0 from fun h => e h.symm, if_false]
theorem Tx.setV0 {X : Tx} (hR : X.R.length = 32) (v : Bool) : X.cells.setIfInBounds 1 (.bool v) = { X with v0 := v }.cells := by
  apply Array.ext_getElem?
  intro j
  rw [Array.getElem?_setIfInBounds, Tx.size hR, Tx.get hR, Tx.get (X := { X with v0 := v }) hR]
  by_cases e : 1 = j
  · subst e; rfl
  · rw [if_neg e]
    simp only [show ¬ j = 1 from fun h => e h.symm, if_false]
    rfl
end Go.Proofs.Ytgjijoielfpmkaa
