/- Pick. -/
import Derived.Test.YtkmgfaohppkglaaDoorFe
namespace Go.Proofs.YtkmgfaohppkglaaDoor
open Go.RowKit
attribute [local go_sem] Oper.semAt_some

/-- One worker more. -/
def pstep (F : List Nat) (s : Nat × Bool) (n : Nat) : Nat × Bool := if n < F.length ∧ (s.2 = false ∨ shorter (F.getD n 0) (F.getD s.1 0) = true) then (n, true) else s
/-- Who is picked of those below c. -/
def pickTo (mask : Nat) (F : List Nat) : Nat → Nat × Bool
  | 0 => (0, false)
  | c + 1 => if mask.testBit c then pstep F (pickTo mask F c) c else pickTo mask F c

theorem pickTo_in (mask : Nat) (F : List Nat) : ∀ c, (pickTo mask F c).2 = true → (pickTo mask F c).1 < F.length
  | 0, h => by cases h
  | c + 1, h => by
    unfold pickTo at *
    split at h
    · rename_i hb
      rw [if_pos hb]
      unfold pstep at *
      split at h
      · rename_i h1; rw [if_pos h1]; exact h1.1
      · rename_i h1; rw [if_neg h1]; exact pickTo_in mask F c h
    · rename_i hb
      rw [if_neg hb]
      exact pickTo_in mask F c h

theorem pickTo_bit {mask c : Nat} {F : List Nat} (h : mask.testBit c = true) : pickTo mask F (c + 1) = pstep F (pickTo mask F c) c := by
  rw [pickTo, if_pos h]
theorem pickTo_skip {mask c : Nat} {F : List Nat} (h : mask.testBit c = false) : pickTo mask F (c + 1) = pickTo mask F c := by
  rw [pickTo, if_neg (by rw [h]; decide)]

/-- Floats in memory. -/
def FloatsAt (w : World) (ao : Option Addr) (F : List Nat) : Prop := ∀ j, j < F.length → ∃ b off, ao = some ⟨b, off, none⟩ ∧ b < w.heap.size ∧ w.cell? ⟨b, off + j, none⟩ = some (.float .f64 (F.getD j 0))

/-- What lies in memory while the bits are gone through. -/
structure PickIn (w : World) (ao : Option Addr) (len cap : Nat) (s : Nat × Bool) (W : World) : Prop where
  bel : Below w.heap.size w W
  h3 : W.heap[w.heap.size]? = some (.cells #[.slice ao len cap] 28)
  h4 : W.heap[w.heap.size + 1]? = some (.cells #[.int .i64 (s.1 : Int)] 3)
  h5 : W.heap[w.heap.size + 1 + 1]? = some (.cells #[.bool s.2] 4)

theorem PickIn.agree {w W W' : World} {ao : Option Addr} {len cap : Nat} {s : Nat × Bool} {B : Nat} (h : PickIn w ao len cap s W) (hA : Agree B (w.heap.size + 1 + 1 + 1) W W') (hB : w.heap.size + 1 + 1 < B) : PickIn w ao len cap s W' :=
  ⟨⟨hA.os.trans h.bel.os, hA.tape.trans h.bel.tape, hA.output.trans h.bel.output, Nat.le_trans h.bel.size hA.size, fun k hk => (hA.block k (by omega) (by omega)).trans (h.bel.block k hk)⟩,
    (hA.block _ (by omega) (by omega)).trans h.h3, (hA.block _ (by omega) (by omega)).trans h.h4, (hA.block _ (by omega) (by omega)).trans h.h5⟩

theorem PickIn.drewN {w W W' : World} {ao : Option Addr} {len cap : Nat} {s : Nat × Bool} (h : PickIn w ao len cap s W) (hA : ∃ n, W' = W.drewN n) : PickIn w ao len cap s W' := by
  obtain ⟨n, rfl⟩ := hA
  exact ⟨⟨h.bel.os, h.bel.tape, h.bel.output, h.bel.size, h.bel.block⟩, h.h3, h.h4, h.h5⟩

/-- The two stores. -/
theorem PickIn.set {w W : World} {ao : Option Addr} {len cap n : Nat} {s : Nat × Bool} (h : PickIn w ao len cap s W) :
    PickIn w ao len cap (n, true) ((W.setCell ⟨w.heap.size + 1, 0, none⟩ (.int .i64 (n : Int))).setCell ⟨w.heap.size + 1 + 1, 0, none⟩ (.bool true)) ∧
    ∀ B, w.heap.size + 1 + 1 < B → Round B (w.heap.size + 1 + 1 + 1) W ((W.setCell ⟨w.heap.size + 1, 0, none⟩ (.int .i64 (n : Int))).setCell ⟨w.heap.size + 1 + 1, 0, none⟩ (.bool true)) := by
  have hk : ∀ k, k ≠ w.heap.size + 1 → k ≠ w.heap.size + 1 + 1 → ((W.setCell ⟨w.heap.size + 1, 0, none⟩ (.int .i64 (n : Int))).setCell ⟨w.heap.size + 1 + 1, 0, none⟩ (.bool true)).heap[k]? = W.heap[k]? := fun k h1 h2 =>
    (Below.heap_setCell _ ⟨w.heap.size + 1 + 1, 0, none⟩ _ k h2).trans (Below.heap_setCell W ⟨w.heap.size + 1, 0, none⟩ _ k h1)
  have hz : ((W.setCell ⟨w.heap.size + 1, 0, none⟩ (.int .i64 (n : Int))).setCell ⟨w.heap.size + 1 + 1, 0, none⟩ (.bool true)).heap.size = W.heap.size := by simp
  have h5 : (W.setCell ⟨w.heap.size + 1, 0, none⟩ (.int .i64 (n : Int))).heap[w.heap.size + 1 + 1]? = some (.cells #[.bool s.2] 4) := (Below.heap_setCell W ⟨w.heap.size + 1, 0, none⟩ _ _ (by show w.heap.size + 1 + 1 ≠ w.heap.size + 1; omega)).trans h.h5
  refine ⟨⟨⟨h.bel.os, h.bel.tape, h.bel.output, by rw [hz]; exact h.bel.size, fun k hk1 => (hk k (by omega) (by omega)).trans (h.bel.block k hk1)⟩, (hk _ (by omega) (by omega)).trans h.h3, ?_, one_set h5 _⟩, fun B hB => ⟨by rw [hz]; exact Nat.le_refl _, hk _ (by omega) (by omega), fun k h1 _ => hk k (by omega) (by omega)⟩⟩
  exact (Below.heap_setCell _ ⟨w.heap.size + 1 + 1, 0, none⟩ _ _ (by show w.heap.size + 1 ≠ w.heap.size + 1 + 1; omega)).trans (one_set h.h4 _)

theorem Round.of_drew {B bM : Nat} {W W' W'' : World} (hA : ∃ n, W' = W.drewN n) (h : Round B bM W' W'') : Round B bM W W'' := by
  obtain ⟨n, rfl⟩ := hA
  exact ⟨h.size, h.mask, h.high⟩
theorem Round.refl_drew {B bM : Nat} {W W' : World} (hA : ∃ n, W' = W.drewN n) : Round B bM W W' := by
  obtain ⟨n, rfl⟩ := hA
  exact ⟨Nat.le_refl _, rfl, fun _ _ _ => rfl⟩

theorem results_cells2 {P : Program} {fn : Func} {p q : Tmp} {t u : TypeId} {d1 d2 : TypeDesc} {w : World} {v1 v2 : Value} {x y : Addr} (h : fn.results = #[.cell p t, .cell q u]) (tmps : Array Value)
    (hp : tmps.getD p undef = .pointer (some x)) (hq : tmps.getD q undef = .pointer (some y))
    (hu : P.underlying t = some d1) (hd : (match d1 with | .struct _ | .array _ _ => true | _ => false) = false) (hu2 : P.underlying u = some d2) (hd2 : (match d2 with | .struct _ | .array _ _ => true | _ => false) = false)
    (hc : w.cell? x = some v1) (hc2 : w.cell? y = some v2) : (results fn tmps).run P w = .ok (.tuple #[v1, v2]) w := by
  have hp' : tmps[p]?.getD undef = .pointer (some x) := by simpa using hp
  have hq' : tmps[q]?.getD undef = .pointer (some y) := by simpa using hq
  have l1 : (loadVar t x).run P w = .ok v1 w := by
    cases d1 <;> simp at hd <;> simp [loadVar, isAgg, run_underlying hu, load, Sem.run, hc]
  have l2 : (loadVar u y).run P w = .ok v2 w := by
    cases d2 <;> simp at hd2 <;> simp [loadVar, isAgg, run_underlying hu2, load, Sem.run, hc2]
  simp [results, h, hp', hq', asAddr, l1, l2]

/-- What holds at the end: the two results, and the rounds' calls. -/
structure PickEnd (w : World) (ao : Option Addr) (len cap : Nat) (s : Nat × Bool) (D : Nat) (W : World) : Prop where
  pin : PickIn w ao len cap s W
  calls : W.heap[D]? = some (.deferred (some []))

theorem PickEnd.drew {w W : World} {ao : Option Addr} {len cap D : Nat} {s : Nat × Bool} (h : PickEnd w ao len cap s D W) : PickEnd w ao len cap s D W.drew := ⟨h.pin.drewN ⟨1, rfl⟩, h.calls⟩
theorem PickEnd.same {w W W' : World} {ao : Option Addr} {len cap D b : Nat} {s : Nat × Bool} (h : PickEnd w ao len cap s D W) (hW : Wrote W W' b) (hb : W'.heap[b]? = W.heap[b]?) : PickEnd w ao len cap s D W' := by
  have hk : ∀ k, W'.heap[k]? = W.heap[k]? := fun k => by
    by_cases e : k = b
    · subst e; exact hb
    · exact hW.block k e
  exact ⟨⟨⟨hW.os.trans h.pin.bel.os, hW.tape.trans h.pin.bel.tape, hW.output.trans h.pin.bel.output, by rw [hW.size]; exact h.pin.bel.size, fun k hlt => (hk k).trans (h.pin.bel.block k hlt)⟩, (hk _).trans h.pin.h3, (hk _).trans h.pin.h4, (hk _).trans h.pin.h5⟩, (hk _).trans h.calls⟩

/-- A store of what a block of one cell holds already. -/
theorem rn_again {Q : Exit → Act → World → Prop} {K : Act → World → Prop} {w : World} {a : Act} {l : List Oper} {j b : Nat} {t e : TypeId} {x y : Operand} {ty : TypeId} {pos : String} {after : Array Edge} {v : Value}
    (hi : l[j]? = some ⟨none, .store t x y, ty, pos, after, none⟩) (hp : a.eval x = .pointer (some ⟨b, 0, none⟩)) (hx : a.eval y = v) (hv : v.cells = #[v]) (h1 : v.oneCell' = true) (hs : (Tryd.prog.info? t).map (·.size) = some 1) (hg : w.heap[b]? = some (.cells #[v] e))
    (hk : ∀ w1, w1.heap[b]? = w.heap[b]? → Wrote w w1 b → K a w1) : wpOp Tryd.prog l.toArray Q j K a w := by
  refine run_skip hi rfl rfl (exec_store_sub (A := #[v]) rfl hp hx hv hg (by simp) (by simp; exact h1) (by simpa using hs)) (hk _ ?_ (Wrote.setRow _ _ _))
  rw [splice_whole (by simp), hg]
  exact setRow_heap w b _ _ e _ hg

set_option maxRecDepth 20000 in
set_option maxHeartbeats 1600000 in
theorem pick_any {mask : Nat} {ao : Option Addr} {F : List Nat} {cap : Nat} (w : World) (hm : mask < 18446744073709551616) (ht : TabAt w) (hp : 1 < w.heap.size) (hF : FloatsAt w ao F) :
    Calls Tryd.prog 14 #[.int .u64 (mask : Int), .slice ao F.length cap] w fun e w' => e = .returned (.tuple #[.int .i64 ((pickTo mask F 64).1 : Int), .bool (pickTo mask F 64).2]) ∧ Below w.heap.size w w' := by
  obtain ⟨len, hl⟩ : ∃ len, F.length = len := ⟨_, rfl⟩
  rw [hl]
  have HL := Lib.hid hl
  have HF := Lib.hid hF
  clear hl hF
  refine (callsIn_wide (n := 10)).1 ?_
  refine callsIn_of_wp_marks Tryd.func14 rfl trivial ?_ rfl
  simp only [Tryd.ntmps14, List.size_toArray, List.length_cons, List.length_nil, Nat.reduceAdd, Nat.reduceSub, Array.replicate_succ, Array.replicate_zero, List.push_toArray, List.append_toArray, List.nil_append, List.cons_append]
  gi_wp2_with fail
  refine ⟨trivial, ?_⟩
  refine (callsIn_wide.2 (set_any _ _)).mono ?_
  rintro e w' ⟨rfl, rfl⟩
  gi_wp2_with fail
  have hB4 : Below w.heap.size w ((((w.alloc (.cells #[.slice ao len cap] 28)).alloc (.cells #[.int .i64 0] 3)).alloc (.cells #[.bool false] 4)).alloc (.cells #[.int .u64 (mask : Int)] 22)) :=
    ((((Below.refl _ w).alloc (Nat.le_refl _) _).alloc (by simp only [World.size_alloc]; omega) _).alloc (by simp only [World.size_alloc]; omega) _).alloc (by simp only [World.size_alloc]; omega) _
  obtain ⟨W0, hW0⟩ : ∃ W0, (((w.alloc (.cells #[.slice ao len cap] 28)).alloc (.cells #[.int .i64 0] 3)).alloc (.cells #[.bool false] 4)).alloc (.cells #[.int .u64 (mask : Int)] 22) = W0 := ⟨_, rfl⟩
  have hsz : W0.heap.size = w.heap.size + 1 + 1 + 1 + 1 := by rw [← hW0]; simp
  have hM : W0.heap[w.heap.size + 1 + 1 + 1]? = some (.cells #[.int .u64 (mask : Int)] 22) := by
    rw [← hW0]
    have := heap_alloc_new (((w.alloc (.cells #[.slice ao len cap] 28)).alloc (.cells #[.int .i64 0] 3)).alloc (.cells #[.bool false] 4)) (.cells #[.int .u64 (mask : Int)] 22)
    simpa using this
  have hP0 : PickIn w ao len cap (pickTo mask F 0) W0 := by
    rw [hW0] at hB4
    refine ⟨hB4, ?_, ?_, ?_⟩
    · rw [← hW0, Below.heap_alloc _ _ _ (by simp only [World.size_alloc]; omega), Below.heap_alloc _ _ _ (by simp only [World.size_alloc]; omega), Below.heap_alloc _ _ _ (by simp)]
      exact heap_alloc_new _ _
    · rw [← hW0, Below.heap_alloc _ _ _ (by simp), Below.heap_alloc _ _ _ (by simp)]
      have := heap_alloc_new (w.alloc (.cells #[.slice ao len cap] 28)) (.cells #[.int .i64 0] 3)
      simpa [pickTo] using this
    · rw [← hW0, Below.heap_alloc _ _ _ (by simp)]
      have := heap_alloc_new ((w.alloc (.cells #[.slice ao len cap] 28)).alloc (.cells #[.int .i64 0] 3)) (.cells #[.bool false] 4)
      simpa [pickTo] using this
  rw [hW0]
  clear hB4 hW0
  refine range_bits (bM := w.heap.size + 1 + 1 + 1) (mask := mask) (m := 10) (by decide) rfl rfl hm hM (fun c W => PickIn w ao len cap (pickTo mask F c) W) ?_ ?_ hP0 ?_
    (fun c => { tmps := #[.int .u64 (mask : Int), .slice ao len cap, undef, .pointer (some ⟨w.heap.size, 0, none⟩), .pointer (some ⟨w.heap.size + 1, 0, none⟩), .pointer (some ⟨w.heap.size + 1 + 1, 0, none⟩), .int .i64 (c : Int), .int .u64 (mask : Int), .func (.func 23) #[] #[.pointer (some ⟨w.heap.size + 1 + 1 + 1, 0, none⟩)], .int .i64 (c : Int), undef, undef, undef, undef, undef, undef, undef, undef, undef, undef, undef, undef, undef, undef, undef, undef, undef, undef, undef, undef, undef, undef], defers := [] }) ?assign ?body ?done
  · intro c W W' h hA
    exact h.agree hA (by omega)
  · intro c W h
    exact ht.of_block (h.bel.block 1 hp)
  · intro c W h hz
    rw [pickTo_skip hz]; exact h
  case assign =>
    intro l c W K hK
    gi_wp2
    exact hK
  case body =>
    rintro l c W h hbit hc hB
    have c3 := one_cell h.h3
    have hin := pickTo_in mask F c
    have HS := Lib.hid (pickTo_bit (F := F) hbit)
    have hc64 : (c : Int) < 64 := by omega
    clear hbit
    generalize pickTo mask F c = s at h hin HS
    obtain ⟨wk, ok⟩ := s
    have c4 := one_cell h.h4
    have c5 := one_cell h.h5
    simp only at c4 c5 hin
    by_cases hlt : c < len
    · have hlt' : (c : Int) < (len : Int) := by omega
      obtain ⟨b, off, rfl, hb, hcn⟩ := HF.out c (by rw [HL.out]; exact hlt)
      have hcn' : W.cell? ⟨b, off + c, none⟩ = some (.float .f64 (F.getD c 0)) := (h.bel.cell (p := ⟨b, off + c, none⟩) hb).trans hcn
      cases ok with
      | false =>
        have hst : pstep F (wk, false) c = (c, true) := if_pos ⟨by rw [HL.out]; exact hlt, .inl rfl⟩
        rw [hst] at HS
        clear hcn hcn' hst
        gi_wp2_with fail
        refine wpIn_region_quiet_lit (by kernel_rfl) (by kernel_rfl) (by kernel_rfl) ?_
        repeat go_big_quiet_step (fail)
        refine wpQuiet_nil ?_
        intro wq hwq
        have h2 := h.drewN hwq
        have d4 := one_cell h2.h4
        have d5 := one_cell h2.h5
        have g4 := one_free h2.h4
        have g5 := one_free h2.h5
        have HQ := Lib.hid hwq
        have HH := Lib.hid h2
        clear h h2 hwq c3 c4 c5
        gi_wp2_with fail
        have hset := HH.out.set (n := c)
        refine ⟨(hset.2 _ (by omega)).of_drew HQ.out, ?_⟩
        show PickIn w _ len cap (pickTo mask F (c + 1)) _
        rw [HS.out]
        exact hset.1
      | true =>
        have hwk := hin rfl
        rw [HL.out] at hwk
        obtain ⟨b2, off2, e2, hb2, hcw⟩ := HF.out wk (by rw [HL.out]; exact hwk)
        simp only [Option.some.injEq, Addr.mk.injEq, and_true] at e2
        obtain ⟨rfl, rfl⟩ := e2
        have hcw' : W.cell? ⟨b, off + wk, none⟩ = some (.float .f64 (F.getD wk 0)) := (h.bel.cell (p := ⟨b, off + wk, none⟩) hb).trans hcw
        have hwk' : (wk : Int) < (len : Int) := by omega
        have hst : pstep F (wk, true) c = if shorter (F.getD c 0) (F.getD wk 0) = true then (c, true) else (wk, true) := by
          unfold pstep
          simp only [Bool.true_eq_false, false_or]
          by_cases hsh : shorter (F.getD c 0) (F.getD wk 0) = true
          · rw [if_pos hsh, if_pos ⟨by rw [HL.out]; exact hlt, hsh⟩]
          · rw [if_neg hsh, if_neg (fun hh => hsh hh.2)]
        rw [hst] at HS
        clear hcn hcw hst hin
        generalize F.getD c 0 = x at hcn' HS
        generalize F.getD wk 0 = y at hcw' HS
        have hsc : ∀ n, Calls Tryd.prog 11 #[.float .f64 x, .float .f64 y] (W.drewN n) fun e w' => e = .returned (.bool (shorter x y)) ∧ ∃ m, w' = W.drewN m := fun n =>
          (shorter_any x y _).mono fun e w' ⟨h1, h2⟩ => ⟨h1, n, h2.symm⟩
        cases hsh : shorter x y with
        | true =>
          rw [hsh] at hsc HS
          have HSC := Lib.hid hsc
          clear hsc hsh
          gi_wp2_with fail
          refine wpIn_region_quiet_lit (by kernel_rfl) (by kernel_rfl) (by kernel_rfl) ?_
          repeat go_big_quiet_step ((go_at_call 11; exact HSC.out _))
          refine wpQuiet_nil ?_
          intro wq hwq
          have h2 := h.drewN hwq
          have d4 := one_cell h2.h4
          have d5 := one_cell h2.h5
          have g4 := one_free h2.h4
          have g5 := one_free h2.h5
          have HQ := Lib.hid hwq
          have HH := Lib.hid h2
          clear h h2 hwq c3 c4 c5 hcn' hcw'
          gi_wp2_with fail
          have hset := HH.out.set (n := c)
          refine ⟨(hset.2 _ (by omega)).of_drew HQ.out, ?_⟩
          show PickIn w _ len cap (pickTo mask F (c + 1)) _
          rw [HS.out]
          exact hset.1
        | false =>
          rw [hsh] at hsc HS
          have HSC := Lib.hid hsc
          clear hsc hsh
          gi_wp2_with fail
          refine wpIn_region_quiet_lit (by kernel_rfl) (by kernel_rfl) (by kernel_rfl) ?_
          repeat go_big_quiet_step ((go_at_call 11; exact HSC.out _))
          refine wpQuiet_nil ?_
          intro wq hwq
          have h2 := h.drewN hwq
          have HQ := Lib.hid hwq
          have HH := Lib.hid h2
          clear h h2 hwq c3 c4 c5 hcn' hcw'
          gi_wp2_with fail
          refine ⟨.refl_drew HQ.out, ?_⟩
          show PickIn w _ len cap (pickTo mask F (c + 1)) _
          rw [HS.out]
          exact HH.out
    · have hlt' : ¬ (c : Int) < (len : Int) := by omega
      have hd : decide ((c : Int) < (len : Int)) = false := decide_eq_false hlt'
      have hst : pstep F (wk, ok) c = (wk, ok) := if_neg (fun hh => hlt (by rw [← HL.out]; exact hh.1))
      rw [hst] at HS
      clear hst
      gi_wp2_with fail
      refine wpIn_region_quiet_lit (by kernel_rfl) (by kernel_rfl) (by kernel_rfl) ?_
      repeat go_big_quiet_step (fail)
      refine wpQuiet_nil ?_
      intro wq hwq
      have h2 := h.drewN hwq
      have HQ := Lib.hid hwq
      have HH := Lib.hid h2
      clear h h2 hwq c3 c4 c5
      gi_wp2_with fail
      refine ⟨.refl_drew HQ.out, ?_⟩
      show PickIn w _ len cap (pickTo mask F (c + 1)) _
      rw [HS.out]
      exact HH.out
  case done =>
    rintro D W h hD hK
    gi_wp2_with fail
    refine wpIn_wide.2 ?_
    have hE0 : PickEnd w ao len cap (pickTo mask F 64) D W := ⟨h, hK⟩
    have hE := hE0.drew
    clear hE0 h hK hP0 hM HF
    obtain ⟨s, hs⟩ : ∃ s, pickTo mask F 64 = s := ⟨_, rfl⟩
    rw [hs] at hE
    have HS := Lib.hid hs
    clear hs
    rename_i K hKret
    refine wp_mono (Q := Exit.then K (fun _ _ _ => False)) ?_ (fun e a w hq => by cases e <;> first | exact hq | exact hq.elim)
    refine wp_regionW (n := 4) (S := PickEnd w ao len cap s D) (late := fun _ => false) rfl (by kernel_rfl) ?_
    refine takeW (j := 0) (v := .int .i64 (s.1 : Int)) rfl rfl rfl (by kernel_rfl) (by kernel_rfl) (by kernel_rfl) (by kernel_rfl) (fun _ _ _ h => h) (fun W hW => exec_load_cell rfl rfl Tryd.underlying3 rfl (one_cell hW.pin.h4)) hE ?_
    simp only [List.set_cons_zero, List.set_cons_succ]
    refine takeW (j := 1) (v := .bool s.2) rfl rfl rfl (by kernel_rfl) (by kernel_rfl) (by kernel_rfl) (by kernel_rfl) (fun _ _ _ h => h) (fun W hW => exec_load_cell rfl rfl Tryd.underlying4 rfl (one_cell hW.pin.h5)) hE ?_
    simp only [List.set_cons_zero, List.set_cons_succ]
    refine oneW 2 (by kernel_rfl) (rn_again rfl rfl rfl rfl rfl (by kernel_rfl) hE.pin.h4 (fun w1 h1 hW1 => ?_))
    have hE1 := hE.same hW1 h1
    refine ⟨fun _ => hE1, ?_⟩
    refine oneW 3 (by kernel_rfl) (rn_again rfl rfl rfl rfl rfl (by kernel_rfl) hE1.pin.h5 (fun w2 h2 hW2 => ?_))
    have hE2 := hE1.same hW2 h2
    refine ⟨fun _ => hE2, ?_⟩
    refine doneW (by kernel_rfl) ?_ _
    clear hE hE1
    refine hKret _ _ ?_
    gi_wp2
    refine ⟨by simp, .inl ⟨_, _, rfl, run_takeDeferred hE2.calls, ?_⟩⟩
    have hD2 : ∀ k, k < w.heap.size + 1 + 1 + 1 + 1 → (w2.putObj D (.deferred none)).heap[k]? = w2.heap[k]? := fun k hk => World.putObj_heap_other (by omega)
    refine ⟨_, results_cells2 (p := 4) (q := 5) (t := 3) (u := 4) rfl _ rfl rfl Tryd.underlying3 rfl Tryd.underlying4 rfl (one_cell ((hD2 _ (by omega)).trans hE2.pin.h4)) (one_cell ((hD2 _ (by omega)).trans hE2.pin.h5)), ?_, ?_⟩
    · rw [HS.out]
    · have hb := hE2.pin.bel
      exact ⟨hb.os, hb.tape, hb.output, by rw [World.putObj_size]; exact hb.size, fun k hk => (hD2 k (by omega)).trans (hb.block k hk)⟩

end Go.Proofs.YtkmgfaohppkglaaDoor
