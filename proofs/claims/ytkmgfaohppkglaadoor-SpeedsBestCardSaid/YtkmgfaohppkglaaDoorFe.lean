/- The law of the statement 'for n := range set(mask)': what its body owes. -/
import Derived.Test.YtkmgfaohppkglaaDoorFd
namespace Go.Proofs.YtkmgfaohppkglaaDoor
open Go.RowKit
attribute [local go_sem] Oper.semAt_some

/-- Below a block number, but for one block, all is as it was. -/
structure Agree (B bM : Nat) (w w' : World) : Prop where
  os : w'.os = w.os
  tape : w'.tape = w.tape
  output : w'.output = w.output
  size : w.heap.size ≤ w'.heap.size
  block : ∀ k, k < B → k ≠ bM → w'.heap[k]? = w.heap[k]?

theorem Agree.trans {B bM : Nat} {a b c : World} (h : Agree B bM a b) (k : Agree B bM b c) : Agree B bM a c :=
  ⟨k.os.trans h.os, k.tape.trans h.tape, k.output.trans h.output, Nat.le_trans h.size k.size, fun i h1 h2 => (k.block i h1 h2).trans (h.block i h1 h2)⟩
theorem Agree.of_below {B bM : Nat} {a b : World} (h : Below B a b) (hs : a.heap.size ≤ b.heap.size) : Agree B bM a b := ⟨h.os, h.tape, h.output, hs, fun k hk _ => h.block k hk⟩
theorem Agree.setCell {B bM : Nat} (w : World) (o : Nat) (v : Value) : Agree B bM w (w.setCell ⟨bM, o, none⟩ v) :=
  ⟨rfl, rfl, rfl, (KeepsWalks.setCell w ⟨bM, o, none⟩ v).size, fun k _ h => Below.heap_setCell w ⟨bM, o, none⟩ v k h⟩
theorem Agree.putObj {B bM : Nat} (w : World) {l : Nat} (o : Obj) (h : B ≤ l) : Agree B bM w (w.putObj l o) :=
  ⟨rfl, rfl, rfl, by simp, fun k hk _ => World.putObj_heap_other (by omega)⟩

/-- What a round's body keeps: the mask's block, and all that lies from a block on. -/
structure Round (B bM : Nat) (w w' : World) : Prop where
  size : w.heap.size ≤ w'.heap.size
  mask : w'.heap[bM]? = w.heap[bM]?
  high : ∀ k, B ≤ k → k < w.heap.size → w'.heap[k]? = w.heap[k]?

/-- How the body of a round may be left: off its end alone. -/
def bitPost (B bM : Nat) (I : Nat → World → Prop) (c : Nat) (W : World) : Exit → Act → World → Prop
  | .normal, _, W' => Round B bM W W' ∧ I c W'
  | _, _, _ => False

theorem range_bits {g : Operand} {ps : Array Tmp} {assign body : Code} {Q : Exit → Act → World → Prop} {a : Act} {w : World} {bM mask m : Nat} (hm1 : 8 ≤ m)
    (hg : a.eval g = .func (.func 23) #[] #[.pointer (some ⟨bM, 0, none⟩)]) (hps : ps.size = 1) (hm : mask < 18446744073709551616) (hM : w.heap[bM]? = some (.cells #[.int .u64 (mask : Int)] 22))
    (I : Nat → World → Prop) (hI : ∀ c W W', I c W → Agree w.heap.size bM W W' → I c W') (hIt : ∀ c W, I c W → TabAt W) (h0 : I 0 w)
    (hskip : ∀ c W, I c W → mask.testBit c = false → I (c + 1) W) (a₁ : Nat → Act)
    (hassign : ∀ (l : Nat) (c : Nat) (W : World) (K : Act → World → Prop), K (a₁ c) W →
      assign.wpIn (Fence.wide.inRound l) (m - 1 - 1) Tryd.prog (Exit.then K (fun _ _ _ => False)) { tmps := (ps.zip #[.int .i64 (c : Int)]).foldl (fun t (p, v) => t.setIfInBounds p v) a.tmps, defers := [] } W)
    (hbody : ∀ (l : Nat) (c : Nat) (W : World), I c W → mask.testBit c = true → c < 64 → w.heap.size ≤ W.heap.size → body.wpIn (Fence.wide.inRound l) (m - 1 - 1) Tryd.prog (bitPost w.heap.size bM I (c + 1) W) (a₁ c) W)
    (hdone : ∀ (D : Nat) (W : World), I 64 W → w.heap.size ≤ D → W.heap[D]? = some (.deferred (some [])) → Q .normal { a with defers := { target := .collected D, args := #[] } :: a.defers } W) :
    (Code.rangeFunc g ps assign body).wpIn Fence.wide m Tryd.prog Q a w := by
  refine wpIn_rangeFunc ?_
  intro fn hfn
  obtain ⟨rec, hrec⟩ : ∃ rec : LoopState → Option Code → Loop, rec = fun st pe => { state := st, pending := pe, fn, tmps := a.tmps, params := ps, assign, body, defers := w.heap.size } := ⟨_, rfl⟩
  obtain ⟨W1, hW1⟩ : ∃ W1, (w.alloc (.deferred (some []))).alloc (.loop (rec .ready none)) = W1 := ⟨_, rfl⟩
  have hbM : bM < w.heap.size := (Array.getElem?_eq_some_iff.1 hM).1
  have hL1 : W1.heap[w.heap.size + 1]? = some (.loop (rec .ready none)) := by
    rw [← hW1]; have := World.alloc_heap_new (w.alloc (.deferred (some []))) (.loop (rec .ready none)); rwa [World.size_alloc] at this
  have hK1 : W1.heap[w.heap.size]? = some (.deferred (some [])) := by
    rw [← hW1]; exact (Below.heap_alloc _ _ _ (by simp)).trans (World.alloc_heap_new w _)
  have hB1 : Below w.heap.size w W1 := by
    rw [← hW1]; exact ((Below.refl _ w).alloc (Nat.le_refl _) _).alloc (by simp) _
  have hI1 : I 0 W1 := hI _ _ _ h0 (.of_below hB1 hB1.size)
  have hM1 : W1.heap[bM]? = some (.cells #[.int .u64 (mask : Int)] 22) := (hB1.block bM hbM).trans hM
  refine ⟨w.heap.size + 1, [{ target := .collected w.heap.size, args := #[] }], W1, { target := .fn (.func 23) #[.pointer (some ⟨bM, 0, none⟩)], args := #[.func (.yield (w.heap.size + 1)) #[] #[]] }, W1, 23,
    #[.func (.yield (w.heap.size + 1)) #[] #[]] ++ #[.pointer (some ⟨bM, 0, none⟩)], W1, ?_, ?_, ?_, ?_, fun _ => by omega, ?_⟩
  · rw [← hW1, hrec]; exact run_enterLoop_outer _ _ _ _ _
  · simp only [resolve, hg]
    simp [go_sem]
  · intro f' _; trivial
  · have eg : ∀ args w, (callFunc 23 args).run Tryd.prog w = .ok (.enter 23 args) w := enters_of Tryd.func23 (by kernel_rfl) rfl
    simp [invoke, go_sem, eg]
  · refine (bits_in (lp := w.heap.size + 1) (bM := bM) (m := m - 1) (mask := mask) (J := fun c W => I c W ∧ w.heap.size + 2 ≤ W.heap.size ∧ W.heap[w.heap.size + 1]? = some (.loop (rec .ready none)) ∧ W.heap[w.heap.size]? = some (.deferred (some [])))
      (by omega) hm ?_ (fun c W h => hIt _ _ h.1) ?_ (fun c W h hz => ⟨hskip _ _ h.1 hz, h.2⟩) W1 ⟨hI1, by rw [← hW1]; simp, hL1, hK1⟩ hM1).mono ?_
    · rintro c W v t u ⟨hi, hs, hl, hk⟩ hbx
      refine ⟨hI _ _ _ hi (.setCell _ _ _), Nat.le_trans hs (KeepsWalks.setCell W _ _).size, (Below.heap_setCell W ⟨bM, 0, none⟩ u _ (by show w.heap.size + 1 ≠ bM; omega)).trans hl, (Below.heap_setCell W ⟨bM, 0, none⟩ u _ (by show w.heap.size ≠ bM; omega)).trans hk⟩
    · rintro c W ⟨hi, hs, hl, hk⟩ hbit hc
      have hy := run_yield (P := Tryd.prog) (args := #[.int .i64 (c : Int)]) hl (by rw [hrec]; simp [hps])
      rw [hrec] at hy
      refine ⟨fn, _, assign, body, hy, roundIn_of_wpIn hfn (hassign _ c W _ ⟨_, run_beginRound hl (by rw [hrec]), ?_⟩)⟩
      obtain ⟨W2, hW2⟩ : ∃ W2, W.putObj (w.heap.size + 1) (.loop { rec .ready none with state := .busy }) = W2 := ⟨_, rfl⟩
      have hA2 : Agree w.heap.size bM W W2 := by rw [← hW2]; exact .putObj _ _ (by omega)
      have hl2 : W2.heap[w.heap.size + 1]? = some (.loop { rec .ready none with state := .busy }) := by rw [← hW2]; exact World.putObj_heap_same (by omega)
      have hk2 : W2.heap[w.heap.size]? = some (.deferred (some [])) := by rw [← hW2]; exact (World.putObj_heap_other (by omega)).trans hk
      have hm2 : W2.heap[bM]? = W.heap[bM]? := by rw [← hW2]; exact World.putObj_heap_other (by omega)
      have hs2 : w.heap.size + 2 ≤ W2.heap.size := Nat.le_trans hs hA2.size
      rw [hW2]
      refine wpIn_mono (hbody _ c W2 (hI _ _ _ hi hA2) hbit hc (by omega)) ?_
      rintro e a3 W3 hp
      cases e with
      | normal =>
        obtain ⟨hr3, hi3⟩ := hp
        have hl3 := (hr3.high _ (by omega) (by omega)).trans hl2
        have hk3 := (hr3.high _ (Nat.le_refl _) (by omega)).trans hk2
        have hend := run_endRound (P := Tryd.prog) none hl3
        refine ⟨_, _, hend, rfl, ⟨hI _ _ _ hi3 (.putObj _ _ (by omega)), by rw [World.putObj_size]; exact Nat.le_trans hs2 hr3.size, ?_, (World.putObj_heap_other (by omega)).trans hk3⟩, (World.putObj_heap_other (by omega)).trans (hr3.mask.trans hm2)⟩
        rw [World.putObj_heap_same (Array.getElem?_eq_some_iff.1 hl3).1, hrec]
        rfl
      | ret => exact hp.elim
      | exit id => exact hp.elim
      | goto t => exact hp.elim
      | panic ch => exact hp.elim
      | outgrown => exact hp.elim
    · rintro e W2 ⟨⟨v, rfl⟩, hi, hs, hl, hk⟩
      have := run_endLoop (P := Tryd.prog) hl (by rw [hrec]; simp)
      rw [hrec] at this
      exact ⟨none, _, this, hdone _ _ (hI _ _ _ hi (.putObj _ _ (by omega))) (Nat.le_refl _) ((World.putObj_heap_other (by omega)).trans hk)⟩

end Go.Proofs.YtkmgfaohppkglaaDoor
