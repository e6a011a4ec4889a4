/- A key more, an instruction more: plain laws, and how they lie in memory. -/
import Derived.Test.YtgjijoielfpmkaaN
set_option linter.unusedVariables false
namespace Go.Proofs.Ytgjijoielfpmkaa
open Go.RowKit

def withKeys (X : Tx) (ka : Option Addr) (K : List (List Int)) (kc : Nat) : Tx := { X with ka := ka, K := K, kc := kc }
def withIns (X : Tx) (ia : Option Addr) (I : List Ins) (ic : Nat) : Tx := { X with ia := ia, I := I, ic := ic }
def newIns (p : Nat) : Ins := { p := p, aa := none, A := [], ac := 0, da := none, D := [], dc := 0 }

theorem any_append_false {α : Type} {f g : α → Bool} {l m : List α} (h : ∀ x ∈ l ++ m, f x = false) : (l ++ m).any f = false := by
  cases e : (l ++ m).any f with
  | false => rfl
  | true =>
    obtain ⟨x, hx, hf⟩ := List.any_eq_true.1 e
    rw [h x hx] at hf; cases hf
theorem any_false_of {α : Type} {f : α → Bool} {l : List α} (h : ∀ x ∈ l, f x = false) : l.any f = false := by
  cases e : l.any f with
  | false => rfl
  | true =>
    obtain ⟨x, hx, hf⟩ := List.any_eq_true.1 e
    rw [h x hx] at hf; cases hf

theorem tot_addKey (X : Tx) (ka : Option Addr) (k : List Int) (kc : Nat) : tot (withKeys X ka (X.K ++ [k]) kc) = tot X + 1 := by
  unfold tot withKeys
  simp; omega

/-- A program that is among the keys; accounts that are there. -/
theorem bad_false {keys all : Nat} {i : Ins} (h0 : i.p ≠ 0) (h1 : i.p < keys) (h2 : ∀ a ∈ i.A, a < all) : i.bad keys all = false := by
  unfold Ins.bad
  simp only [Bool.or_eq_false_iff, decide_eq_false_iff_not]
  refine ⟨⟨h0, by omega⟩, any_false_of fun a ha => ?_⟩
  unfold beyond
  have := h2 a ha
  simp only [decide_eq_false_iff_not]
  omega

theorem chk_addKey {X : Tx} (h : chk X = 0) {k : List Int} (hk : k ∉ X.K) (ka : Option Addr) (kc : Nat) : chk (withKeys X ka (X.K ++ [k]) kc) = if tot X = 64 then 3 else 0 := by
  obtain ⟨h1, h2, h3, h4, h5, h6⟩ := chk_zero.1 h
  have F := fine h
  have e1 : sgn (withKeys X ka (X.K ++ [k]) kc) = true := h1
  have e2 : hdr (withKeys X ka (X.K ++ [k]) kc) = true := by
    unfold hdr withKeys
    have := F.so
    have := F.rs
    simp; omega
  have e3 : lookd (withKeys X ka (X.K ++ [k]) kc) = true := h3
  have e5 : pointd (withKeys X ka (X.K ++ [k]) kc) = true := by
    unfold pointd
    rw [tot_addKey]
    rw [show (withKeys X ka (X.K ++ [k]) kc).I = X.I from rfl, show (withKeys X ka (X.K ++ [k]) kc).K = X.K ++ [k] from rfl]
    rw [any_false_of (fun i hi => ?_)]
    · rfl
    obtain ⟨a, b, c⟩ := F.ins i hi
    exact bad_false a (by simp; omega) (fun q hq => by have := c q hq; omega)
  have e6 : onc (withKeys X ka (X.K ++ [k]) kc) = true := by
    unfold onc withKeys
    simp only [decide_eq_true_eq]
    refine List.nodup_append.2 ⟨F.once, by simp, fun a ha b hb => ?_⟩
    rw [List.mem_singleton.1 hb]
    rintro rfl
    exact hk ha
  unfold chk
  simp only [e1, e2, e3, e5, e6]
  have hf := F.few
  by_cases h64 : tot X = 64
  · have e4 : few (withKeys X ka (X.K ++ [k]) kc) = false := by
      unfold few
      rw [tot_addKey]
      simp; omega
    simp [e4, h64]
  · have e4 : few (withKeys X ka (X.K ++ [k]) kc) = true := by
      unfold few
      rw [tot_addKey]
      simp; omega
    simp [e4, h64]

theorem chk_addIns {X : Tx} (h : chk X = 0) (p : Nat) (ia : Option Addr) (ic : Nat) : chk (withIns X ia (X.I ++ [newIns p]) ic) = if 0 < p ∧ p < X.K.length then 0 else 8 := by
  obtain ⟨h1, h2, h3, h4, h5, h6⟩ := chk_zero.1 h
  have F := fine h
  have e1 : sgn (withIns X ia (X.I ++ [newIns p]) ic) = true := h1
  have e2 : hdr (withIns X ia (X.I ++ [newIns p]) ic) = true := h2
  have e3 : lookd (withIns X ia (X.I ++ [newIns p]) ic) = true := h3
  have e4 : few (withIns X ia (X.I ++ [newIns p]) ic) = true := h4
  have e6 : onc (withIns X ia (X.I ++ [newIns p]) ic) = true := h6
  have et : tot (withIns X ia (X.I ++ [newIns p]) ic) = tot X := rfl
  unfold chk
  simp only [e1, e2, e3, e4, e6]
  by_cases hp : 0 < p ∧ p < X.K.length
  · have e5 : pointd (withIns X ia (X.I ++ [newIns p]) ic) = true := by
      unfold pointd
      rw [et]
      rw [show (withIns X ia (X.I ++ [newIns p]) ic).I = X.I ++ [newIns p] from rfl, show (withIns X ia (X.I ++ [newIns p]) ic).K = X.K from rfl]
      rw [any_false_of (fun i hi => ?_)]
      · rfl
      rcases List.mem_append.1 hi with hi | hi
      · obtain ⟨a, b, c⟩ := F.ins i hi
        exact bad_false a b c
      · rw [List.mem_singleton.1 hi]
        exact bad_false (Nat.pos_iff_ne_zero.1 hp.1) hp.2 (fun q hq => by cases hq)
    simp [e5, hp]
  · have e5 : pointd (withIns X ia (X.I ++ [newIns p]) ic) = false := by
      unfold pointd
      rw [et]
      rw [show (withIns X ia (X.I ++ [newIns p]) ic).I = X.I ++ [newIns p] from rfl, show (withIns X ia (X.I ++ [newIns p]) ic).K = X.K from rfl]
      have : (X.I ++ [newIns p]).any (Ins.bad X.K.length (tot X)) = true := by
        refine List.any_eq_true.2 ⟨newIns p, by simp, ?_⟩
        unfold Ins.bad
        simp only [Bool.or_eq_true, decide_eq_true_eq]
        left
        show p = 0 ∨ X.K.length ≤ p
        omega
      rw [this]; rfl
    simp [e5, hp]

theorem TxAt.withKeys {w : World} {X : Tx} (h : TxAt w X) {ka : Option Addr} {K : List (List Int)} {kc : Nat} (hr : RowsAt w ka 32 (K.map (icells .u8))) (hk : ∀ k ∈ K, IsKey k) (hl : K.length ≤ lenMax) (hn : ka = none → kc = 0) : TxAt w (Ytgjijoielfpmkaa.withKeys X ka K kc) :=
  { hs := h.hs, hr := h.hr, ho := h.ho, R := h.R, sl := h.sl, kl := hl, il := h.il, ll := h.ll, key := hk, keys := hr, ins := h.ins, insOk := h.insOk, lks := h.lks, lksOk := h.lksOk, sigs := h.sigs, sig := h.sig, dat := h.dat, lkb := h.lkb, nilS := h.nilS, nilK := hn, nilI := h.nilI }
theorem TxAt.withIns {w : World} {X : Tx} (h : TxAt w X) {ia : Option Addr} {I : List Ins} {ic : Nat} (hr : RowsAt w ia 3 (I.map Ins.cells)) (hi : ∀ i ∈ I, i.p < 256 ∧ i.A.length ≤ lenMax ∧ i.dl ≤ lenMax ∧ BytesAt w i.aa i.A) (hd : ∀ i ∈ I, BytesAt w i.da i.D) (hl : I.length ≤ lenMax) (hn : ia = none → ic = 0) : TxAt w (Ytgjijoielfpmkaa.withIns X ia I ic) :=
  { hs := h.hs, hr := h.hr, ho := h.ho, R := h.R, sl := h.sl, kl := h.kl, il := hl, ll := h.ll, key := h.key, keys := h.keys, ins := hr, insOk := hi, lks := h.lks, lksOk := h.lksOk, sigs := h.sigs, sig := h.sig, dat := hd, lkb := h.lkb, nilS := h.nilS, nilK := h.nilK, nilI := hn }
theorem withKeys_cells {X : Tx} (hR : X.R.length = 32) (ka : Option Addr) (K : List (List Int)) (kc : Nat) : X.cells.setIfInBounds 5 (.slice ka K.length kc) = (withKeys X ka K kc).cells := Tx.setKeys hR ka K kc
theorem withIns_cells {X : Tx} (hR : X.R.length = 32) (ia : Option Addr) (I : List Ins) (ic : Nat) : X.cells.setIfInBounds 38 (.slice ia I.length ic) = (withIns X ia I ic).cells := Tx.setIns hR ia I ic

theorem newIns_at {w : World} {p : Nat} (hp : p < 256) : (newIns p).p < 256 ∧ (newIns p).A.length ≤ lenMax ∧ (newIns p).dl ≤ lenMax ∧ BytesAt w (newIns p).aa (newIns p).A :=
  ⟨hp, Nat.zero_le _, Nat.zero_le _, fun j hj => by cases hj⟩

/-! ### Single operations -/
section
variable {ops : Array Oper} {Q : Exit → Act → World → Prop} {a : Act} {w : World} {rest : List Oper} {dst : Option Tmp} {x y : Operand} {ty : TypeId} {pos : String} {after : Array Edge}
theorem wl_box41 {k : List Int} (hx : a.eval x = kv k)
    (K : ∀ b w1, w1.heap[b]? = some (.cells (icells .u8 k) 41) → w.heap.size ≤ b → Below w.heap.size w w1 → wpList Try.prog ops Q rest (a.put dst (.pointer (some ⟨b, 0, none⟩))) w1) :
    wpList Try.prog ops Q (⟨dst, .box 41 x, ty, pos, after, none⟩ :: rest) a w :=
  wpList_run rfl (exec_box rfl hx rfl) (K _ _ (heap_alloc_new w _) (Nat.le_refl _) ((Below.refl _ _).alloc (Nat.le_refl _) _))
theorem exec_store1 {o : Oper} {ty t b off : Nat} {C : Array Value} {v : Value} {p : Operand} (ho : o.op = .store ty p x) (hp : a.eval p = .pointer (some ⟨b, off, none⟩)) (hx : a.eval x = v) (hv : v.cells = #[v]) (h1 : v.oneCell' = true) (hg : w.heap[b]? = some (.cells C t)) (hlt : off < C.size)
    (hi : (Try.prog.info? ty).map (·.size) = some 1) : ∃ w1, (execOp a.eval o).run Try.prog w = .ok .skip w1 ∧ w1.heap[b]? = some (.cells (C.setIfInBounds off v) t) ∧ Wrote w w1 b := by
  have hone : ∀ u ∈ (#[v] : Array Value).toList, u.oneCell' = true := by
    intro u hu
    have e : u = v := by simpa using hu
    rw [e]; exact h1
  refine ⟨_, exec_store_sub (t := t) (C := C) (A := #[v]) ho hp hx hv hg (by simp; omega) hone hi, ?_, Wrote.setRow _ _ _⟩
  rw [setRow_heap w b C _ t _ hg, splice_one hlt]
end
theorem RowsAt.one {w : World} {b t : Nat} {C : Array Value} (h : w.heap[b]? = some (.cells C t)) (s : Nat) : RowsAt w (some ⟨b, 0, none⟩) s [C] := fun j D hj => by
  match j, hj with
  | 0, hj =>
    simp only [List.getElem?_cons_zero, Option.some.injEq] at hj
    rw [← hj]
    exact ⟨b, 0, rfl, by rw [Nat.zero_mul, Nat.add_zero]; exact RowAt.of_cells h⟩
  | j + 1, hj => simp at hj
theorem eqGuard41 : Try.prog.eqGuardType Try.prog.depth 41 = false := by kernel_rfl
end Go.Proofs.Ytgjijoielfpmkaa
