/- The chapter's own queue: the walk of its Push. -/
import Derived.Test.YtgipohphnegnhaaH
namespace Go.Proofs.Ytgipohphnegnhaa
open Go.RowKit

/-- What lies in memory while the new list is made. -/
structure RS (w : World) (b : Nat) (v : Value) (L : List (List Int)) (h : List Int) (W : World) : Prop where
  only : Only w W b
  sz : w.heap.size + 2 ≤ W.heap.size
  box : W.heap[w.heap.size]? = some (.cells (icells .u8 h) 26)
  res : W.heap[w.heap.size + 1]? = some (.cells (icells .u8 zeroH) 26)
  que : W.heap[b]? = some (.cells #[v] 40)
  row : SLH W v L

theorem RS.keep {w : World} {b : Nat} {v : Value} {L : List (List Int)} {h : List Int} {W W' : World} (s : RS w b v L h W) (hb : Below W.heap.size W W') : RS w b v L h W' :=
  ⟨s.only.below hb, Nat.le_trans s.sz hb.size, (hb.block _ (Array.getElem?_eq_some_iff.1 s.box).1).trans s.box, (hb.block _ (Array.getElem?_eq_some_iff.1 s.res).1).trans s.res, (hb.block _ (Array.getElem?_eq_some_iff.1 s.que).1).trans s.que, s.row.kept hb⟩
theorem RS.drew {w : World} {b : Nat} {v : Value} {L : List (List Int)} {h : List Int} {W : World} (s : RS w b v L h W) : RS w b v L h W.drew := ⟨s.only.drew, s.sz, s.box, s.res, s.que, s.row⟩


theorem list32 (h : List Int) (hl : h.length = 32) : ∃ a0 a1 a2 a3 a4 a5 a6 a7 a8 a9 b0 b1 b2 b3 b4 b5 b6 b7 b8 b9 c0 c1 c2 c3 c4 c5 c6 c7 c8 c9 d0 d1,
    h = [a0, a1, a2, a3, a4, a5, a6, a7, a8, a9, b0, b1, b2, b3, b4, b5, b6, b7, b8, b9, c0, c1, c2, c3, c4, c5, c6, c7, c8, c9, d0, d1] := by
  refine ⟨h.getD 0 0, h.getD 1 0, h.getD 2 0, h.getD 3 0, h.getD 4 0, h.getD 5 0, h.getD 6 0, h.getD 7 0, h.getD 8 0, h.getD 9 0, h.getD 10 0, h.getD 11 0, h.getD 12 0, h.getD 13 0, h.getD 14 0, h.getD 15 0, h.getD 16 0, h.getD 17 0, h.getD 18 0, h.getD 19 0, h.getD 20 0, h.getD 21 0, h.getD 22 0, h.getD 23 0, h.getD 24 0, h.getD 25 0, h.getD 26 0, h.getD 27 0, h.getD 28 0, h.getD 29 0, h.getD 30 0, h.getD 31 0, ?_⟩
  have e : ∀ n (l : List Int), l.length = n → l = (List.range n).map fun i => l.getD i 0 := fun n l hn => by
    apply List.ext_getElem?
    intro i
    by_cases hi : i < n
    · rw [List.getElem?_eq_getElem (by omega)]
      simp [hi, hn]
    · rw [List.getElem?_eq_none (by omega), List.getElem?_eq_none (by simp; omega)]
  exact e 32 h hl

theorem run_build38 (h : List Int) (hl : h.length = 32) (w : World) :
    (Instr.buildSlice 38 1 #[(0, hv h)]).run Try.prog w = .ok (.slice (some ⟨w.heap.size, 0, none⟩) 1 1) (w.alloc (.cells (icells .u8 h) 26)) := by
  obtain ⟨a0, a1, a2, a3, a4, a5, a6, a7, a8, a9, b0, b1, b2, b3, b4, b5, b6, b7, b8, b9, c0, c1, c2, c3, c4, c5, c6, c7, c8, c9, d0, d1, rfl⟩ := list32 h hl
  kernel_rfl

theorem exec_buildSlice {P : Program} {a : Act} {w w' : World} {o : Oper} {t n : Nat} {parts : Array (Nat × Operand)} {ps : Array (Nat × Value)} {v : Value} (ho : o.op = .buildSlice t n parts) (hp : parts.map (fun x => (x.1, a.eval x.2)) = ps)
    (hb : (Instr.buildSlice t n ps).run P w = .ok v w') : (execOp a.eval o).run P w = .ok (.value v) w' := by
  unfold execOp
  subst hp
  simp only [ho, Sem.run_bind, hb, Result.andThen_ok, Sem.run_pure]

theorem SLH_one (w : World) (h : List Int) (hl : h.length = 32) : SLH (w.alloc (.cells (icells .u8 h) 26)) (.slice (some ⟨w.heap.size, 0, none⟩) 1 1) [h] w.heap.size :=
  ⟨by simpa using hl, by simp [flat, hl], .inr ⟨w.heap.size, 1, icells .u8 h, rfl, Nat.le_refl _, heap_alloc_new _ _, by simp, by unfold maxLen; omega, by simp [hl], by simp only [icells, flat, List.flatMap_cons, List.flatMap_nil, List.append_nil, List.length_singleton, Nat.one_mul]; rw [List.take_of_length_le (by simp [hl])]⟩⟩

theorem info26 : (Try.prog.info? 26).map (fun i => (i.zero, i.size, i.bytes)) = some (some (hv zeroH), 32, 32) := by kernel_rfl
theorem u38 : Try.prog.underlying 38 = some (.slice 26) := by kernel_rfl

theorem exec_append_slh {a : Act} {w : World} {o : Oper} {s x : Operand} {v u : Value} {L M : List (List Int)} {base : Nat} (ho : o.op = .call { callee := .builtin .append, args := #[s, x], argTypes := #[38, 38] })
    (hs : a.eval s = v) (hx : a.eval x = u) (hvL : SLH w v L base) (hu : SLH w u M) (hlen : L.length + M.length ≤ 1000) (hbase : base ≤ w.heap.size) :
    ∃ v' w', (execOp a.eval o).run Try.prog w = .ok (.value v') w' ∧ SLH w' v' (L ++ M) base ∧ w.grownBy w' v.ownBlock := by
  obtain ⟨i0, hi, hz0, hz1, hz2⟩ := info_parts info26
  have hall : ∀ h ∈ L ++ M, h.length = 32 := fun h hh => by
    rcases List.mem_append.1 hh with hh | hh
    · exact hvL.1 h hh
    · exact hu.1 h hh
  have hflat : flat (L ++ M) = flat L ++ flat M := by unfold flat; rw [List.flatMap_append]
  rcases hu.2.2 with ⟨h1, h2⟩ | ⟨g, cap, cur, h1, _⟩
  · have hrun := run_append_owned_none (P := Try.prog) (w := w) base 38 o.type 26 i0 32 u38 hi v L.length (flat L) hvL.2
    have hM : M = [] := List.eq_nil_of_length_eq_zero h2
    refine ⟨v, w, ?_, by rw [hM, List.append_nil]; exact hvL, ⟨rfl, rfl, rfl, Nat.le_refl _, fun _ _ _ => rfl⟩⟩
    simp [execOp, ho, resolve, invoke, builtin, hs, hx, h1, hrun, Result.andThen]
  · have h1' : u = .slice (some ⟨g, 0, none⟩) M.length cap := h1
    obtain ⟨v', w', hrun, hown, hgr, _⟩ := run_append_own (P := Try.prog) w base 38 o.type 26 i0 (hv zeroH) 32 32 u38 hi hz0 hz1 hz2 rfl (by decide) v L.length (flat L) hvL.2 ⟨g, 0, none⟩ M.length cap (flat M) (flat_len hu.1)
      (World.ownsRow.cells hu.2 (by rw [h1']; rfl)) (fun c hc => by
        simp only [flat, List.mem_flatMap, List.mem_map] at hc
        obtain ⟨_, _, _, _, rfl⟩ := hc
        rfl) (by unfold maxLen; omega) (by omega) hbase
    refine ⟨v', w', ?_, ⟨hall, by rw [List.length_append, hflat]; exact hown⟩, hgr⟩
    simp [execOp, ho, resolve, invoke, builtin, hs, hx, h1', hrun, Result.andThen]

theorem rn_append {Q : Exit → Act → World → Prop} {K : Act → World → Prop} {w : World} {l : List Oper} {j d : Nat} {s x : Operand} {ty : TypeId} {pos : String} {after : Array Edge} {tmps : List Value} {defers : List Deferred} {v u : Value} {L M : List (List Int)} {base : Nat}
    (hi : l[j]? = some ⟨some d, .call { callee := .builtin .append, args := #[s, x], argTypes := #[38, 38] }, ty, pos, after, none⟩) (hs : Act.eval ⟨tmps.toArray, defers⟩ s = v) (hx : Act.eval ⟨tmps.toArray, defers⟩ x = u)
    (hvL : SLH w v L base) (hu : SLH w u M) (hlen : L.length + M.length ≤ 1000) (hbase : base ≤ w.heap.size)
    (hk : ∀ v' w', SLH w' v' (L ++ M) base → w.grownBy w' v.ownBlock → K ⟨(tmps.set d v').toArray, defers⟩ w') : wpOp Try.prog l.toArray Q j K ⟨tmps.toArray, defers⟩ w := by
  obtain ⟨v', w', hr, h1, h2⟩ := exec_append_slh (a := ⟨tmps.toArray, defers⟩) (o := ⟨some d, .call { callee := .builtin .append, args := #[s, x], argTypes := #[38, 38] }, ty, pos, after, none⟩) rfl hs hx hvL hu hlen hbase
  exact run_val hi rfl rfl hr (hk v' w' h1 h2)

theorem rn_store38 {Q : Exit → Act → World → Prop} {K : Act → World → Prop} {w : World} {l : List Oper} {j : Nat} {x y : Operand} {ty : TypeId} {pos : String} {after : Array Edge} {a : Act} {b : Nat} {v u : Value}
    (hi : l[j]? = some ⟨none, .store 38 x y, ty, pos, after, none⟩) (hp : a.eval x = .pointer (some ⟨b, 0, none⟩)) (hx : a.eval y = u) (hu : ∃ ad n c, u = .slice ad n c) (hg : w.heap[b]? = some (.cells #[v] 40))
    (hk : ∀ w1, w1.heap[b]? = some (.cells #[u] 40) → Wrote w w1 b → K a w1) : wpOp Try.prog l.toArray Q j K a w := by
  obtain ⟨ad, n, c, rfl⟩ := hu
  refine run_skip hi rfl rfl (exec_store_sub (A := #[.slice ad n c]) rfl hp hx rfl hg (by simp) (by simp [Value.oneCell']) (by kernel_rfl)) (hk _ ?_ (Wrote.setRow _ _ _))
  rw [splice_whole (by simp)]
  exact setRow_heap w b _ _ 40 _ hg

theorem wl_store38 {ops : Array Oper} {Q : Exit → Act → World → Prop} {a : Act} {w : World} {rest : List Oper} {dst : Option Tmp} {x y : Operand} {ty : TypeId} {pos : String} {after : Array Edge} {b : Nat} {v u : Value}
    (hp : a.eval x = .pointer (some ⟨b, 0, none⟩)) (hx : a.eval y = u) (hu : ∃ ad n c, u = .slice ad n c) (hg : w.heap[b]? = some (.cells #[v] 40))
    (K : ∀ w1, w1.heap[b]? = some (.cells #[u] 40) → Wrote w w1 b → wpList Try.prog ops Q rest (a.put dst undef) w1) : wpList Try.prog ops Q (⟨dst, .store 38 x y, ty, pos, after, none⟩ :: rest) a w := by
  obtain ⟨ad, n, c, rfl⟩ := hu
  refine wpList_runSkip rfl (exec_store_sub (A := #[.slice ad n c]) rfl hp hx rfl hg (by simp) (by simp [Value.oneCell']) (by kernel_rfl)) (K _ ?_ (Wrote.setRow _ _ _))
  rw [splice_whole (by simp)]
  exact setRow_heap w b _ _ 40 _ hg

theorem SLH.wrote {w w' : World} {v v1 : Value} {b : Nat} {L : List (List Int)} {base : Nat} (h : SLH w v L base) (hb : w.heap[b]? = some (.cells #[v1] 40)) (hw : Wrote w w' b) : SLH w' v L base :=
  h.keep fun g C _ hg => (hw.block g (by rintro rfl; rw [hb] at hg; cases hg)).trans hg

set_option maxRecDepth 20000 in
set_option maxHeartbeats 400000 in
theorem rpush_new (b : Nat) (L : List (List Int)) (hL : L.length ≤ 150) (h : List Int) (hl : h.length = 32) (w : World) (hq : RQ w b L) (hk : ageOf L h = none) :
    Calls Try.prog 13 #[.pointer (some ⟨b, 0, none⟩), hv h] w fun e w' => e = .returned (pushVal L h) ∧ RQ w' b (pushed L h) ∧ Only w w' b := by
  have hlt := hq.lt
  obtain ⟨v, hv0, hs⟩ := hq
  have hb2 : Below w.heap.size w ((w.alloc (.cells (icells .u8 h) 26)).alloc (.cells (icells .u8 zeroH) 26)) := ((Below.refl _ _).alloc (Nat.le_refl _) _).alloc (by simp) _
  obtain ⟨w2, hw2⟩ : ∃ w2, w2 = (w.alloc (.cells (icells .u8 h) 26)).alloc (.cells (icells .u8 zeroH) 26) := ⟨_, rfl⟩
  have hS2 : RS w b v L h w2 := by
    rw [hw2]
    exact ⟨.of_below hb2, by simp, heap_alloc2_old _ _ _, heap_alloc2_new _ _ _, (hb2.block _ hlt).trans hv0, hs.kept hb2⟩
  have HW := Lib.hid hw2
  clear hw2 hb2
  have r2 := RowAt.of_cells hS2.box
  have hage : Calls Try.prog 14 #[.pointer (some ⟨b, 0, none⟩), hv h] w2 fun e w' => e = .returned (.tuple #[.int .i64 0, .bool false]) ∧ Below w2.heap.size w2 w' :=
    (rage_any b L (by omega) h hl w2 ⟨v, hS2.que, hS2.row⟩).mono fun e w' ⟨h1, h2⟩ => ⟨by rw [h1]; unfold ageVal; rw [hk]; rfl, h2⟩
  have HA := Lib.hid hage
  have HK := Lib.hid hk
  clear hage hk
  go_enter Try.func13, Try.ntmps13
  go_wp2_with (first
    | ((with_reducible refine wl_box26 (h := h) ?_ ?_); (exact rfl))
    | ((with_reducible refine wl_alloc26 ?_); rw [← HW.out])
    | ((with_reducible refine wl_load26 (b := w.heap.size) ?_ r2 hl ?_); (exact rfl))
    | (go_at_call 14; refine HA.out.mono ?_; rintro e w3 ⟨rfl, hb3⟩))
  have hS3 := hS2.keep hb3
  clear hb3 hS2 r2
  have hS := hS3.drew
  refine wp_regionW (n := 11) (S := RS w b v L h) (late := fun j => j == 10) rfl (by kernel_rfl) ?_
  refine takeW (j := 0) (v := .pointer (some ⟨b, 0, none⟩)) rfl rfl rfl (by kernel_rfl) (by kernel_rfl) (by kernel_rfl) (by kernel_rfl) (fun _ _ _ h => h) (fun W hW => exec_move rfl rfl) hS ?_
  simp only [List.set_cons_zero, List.set_cons_succ]
  refine takeW (j := 1) (v := hv h) rfl rfl rfl (by kernel_rfl) (by kernel_rfl) (by kernel_rfl) (by kernel_rfl) (fun _ _ _ h => h) (fun W hW => exec_load_sub rfl rfl (RowAt.of_cells hW.box) hash_u26 rfl (by rw [size_icells, hl]; exact hash_s26)) hS ?_
  simp only [List.set_cons_zero, List.set_cons_succ]
  refine takeW (j := 3) (v := .pointer (some ⟨b, 0, none⟩)) rfl rfl rfl (by kernel_rfl) (by kernel_rfl) (by kernel_rfl) (by kernel_rfl) (fun _ _ _ h => h) (fun W hW => exec_move rfl rfl) hS ?_
  simp only [List.set_cons_zero, List.set_cons_succ]
  refine takeW (j := 4) (v := .pointer (some ⟨b, 0, none⟩)) rfl rfl rfl (by kernel_rfl) (by kernel_rfl) (by kernel_rfl) (by kernel_rfl) (fun _ _ _ h => h) (fun W hW => exec_nilCheck rfl rfl) hS ?_
  simp only [List.set_cons_zero, List.set_cons_succ]
  refine takeW (j := 5) (v := .pointer (some ⟨b, 0, none⟩)) rfl rfl rfl (by kernel_rfl) (by kernel_rfl) (by kernel_rfl) (by kernel_rfl) (fun _ _ _ h => h) (fun W hW => by go_simp) hS ?_
  simp only [List.set_cons_zero, List.set_cons_succ]
  refine takeW (j := 6) (v := v) rfl rfl rfl (by kernel_rfl) (by kernel_rfl) (by kernel_rfl) (by kernel_rfl) (fun _ _ _ h => h) (fun W hW => exec_load_cell rfl rfl Try.underlying38 rfl (by simp [World.cell?, hW.que])) hS ?_
  simp only [List.set_cons_zero, List.set_cons_succ]
  refine oneW 2 (by kernel_rfl) (run_val rfl rfl rfl (exec_buildSlice (ps := #[(0, hv h)]) rfl (by simp [Act.eval]) (run_build38 h hl _)) ⟨fun _ => hS.keep ((Below.refl _ _).alloc (Nat.le_refl _) _), ?_⟩)
  simp only [List.set_cons_zero, List.set_cons_succ]
  have hS4 := hS.keep ((Below.refl _ _).alloc (Nat.le_refl _) (.cells (icells .u8 h) 26))
  refine oneW 7 (by kernel_rfl) (rn_append (v := .slice (some ⟨w3.drew.heap.size, 0, none⟩) 1 1) (u := v) rfl rfl rfl (SLH_one w3.drew h hl) hS4.row (by simp; omega) (by simp) (fun v5 w5 hv5 hg5 => ?_))
  have hbel : Below w3.drew.heap.size w3.drew w5 := ((Below.refl _ _).alloc (Nat.le_refl _) _).grown hg5 (by simp) (fun k hk => by cases hk; exact Nat.le_refl _)
  have hS5 := hS.keep hbel
  refine ⟨fun _ => hS5, ?_⟩
  simp only [List.set_cons_zero, List.set_cons_succ]
  refine oneW 8 (by kernel_rfl) (run_val (v := .pointer (some ⟨b, 0, none⟩)) rfl rfl rfl (exec_nilCheck rfl rfl) ⟨fun _ => hS5, ?_⟩)
  simp only [List.set_cons_zero, List.set_cons_succ]
  refine oneW 9 (by kernel_rfl) (run_val (v := .pointer (some ⟨b, 0, none⟩)) rfl rfl rfl (by go_simp) ⟨fun _ => hS5, ?_⟩)
  simp only [List.set_cons_zero, List.set_cons_succ]
  have hform : ∃ ad n c, v5 = .slice ad n c := by obtain ⟨ad, c, e⟩ := hv5.form; exact ⟨ad, _, c, e⟩
  refine oneW 10 (by kernel_rfl) (rn_store38 (u := v5) rfl rfl rfl hform hS5.que (fun w6 hw6 hW6 => ⟨(fun h => by cases h), doneW (by kernel_rfl) ?_ _⟩))
  have hb2 : w.heap.size + 1 ≠ b := by omega
  have hz3 := hS3.sz
  have hv6 : SLH w6 v5 (h :: L) w3.heap.size := hv5.wrote hS5.que hW6
  have hres := (hW6.block _ hb2).trans hS5.res
  have honly : Only w w6 b := hS5.only.wrote hW6 (.inl rfl)
  clear hS hS4 hS5 hg5 hbel hv5 hform hS3 hs hv0 hW6
  obtain ⟨ad, c5, rfl⟩ := hv6.form
  have hc6 : w6.cell? ⟨b, 0, none⟩ = some (.slice ad (L.length + 1) c5) := by simp [World.cell?, hw6]
  have HQ := Lib.hid hw6
  clear hw6
  have hlb := hlt
  by_cases hlen : L.length < 150
  · have hlen' : (L.length : Int) + 1 ≤ 150 := by omega
    go_wp2_with (first
      | ((with_reducible refine wl_zero26 ?_))
      | ((with_reducible refine wl_store26 (b := w.heap.size + 1) (h := zeroH) ?_ ?_ zeroH_len hres zeroH_size ?_); (exact rfl); (exact rfl); intro w8 hw8 hW8))
    refine bodyPost_ret (results_cell_tmps2 rfl _ rfl (RowAt.of_cells hw8) hash_u26 rfl hash_s26) rfl ⟨?_, ?_, honly.wrote hW8 (.inr (by omega))⟩
    · rw [pushVal_room HK.out (by omega)]; rfl
    · rw [pushed_new HK.out, List.take_of_length_le (by simp; omega)]
      exact ⟨_, (hW8.block b (fun e => hb2 e.symm)).trans HQ.out, (hv6.keep fun g C hg0 hg => (hW8.block g (by omega)).trans hg).low⟩
  · have hlen2 : L.length = 150 := by omega
    obtain ⟨x, hx⟩ : ∃ x, L[149]? = some x := ⟨L[149], List.getElem?_eq_getElem (by omega)⟩
    have hxl := hv6.1 x (by simp [List.mem_of_getElem? hx])
    obtain ⟨g, cap, hvv, hrow⟩ := hv6.low.row (i := 150) (x := x) (by rw [List.getElem?_cons_succ]; exact hx)
    have hrow' : RowAt w6 g 4800 (icells .u8 x) := hrow
    clear hrow
    cases hvv
    have HX := Lib.hid hx
    have HL := Lib.hid hlen2
    have hlen' : ¬ (L.length : Int) + 1 ≤ 150 := by omega
    have hlen3 : (150 : Int) < (L.length : Int) + 1 := by omega
    have hlen4 : (150 : Int) ≤ (L.length : Int) + 1 := by omega
    clear hx hlen2 hlen
    have hcap : L.length + 1 ≤ c5 := by
      rcases hv6.2.2 with ⟨h1, _⟩ | ⟨_, _, _, h1, _, _, h2, _⟩
      · cases h1
      · cases h1; simpa using h2
    have hcap' : (150 : Int) ≤ (c5 : Int) := by omega
    have hcap2 : 150 ≤ c5 := by omega
    clear hcap
    have z6 : w.heap.size + 1 < w6.heap.size := (Array.getElem?_eq_some_iff.1 hres).1
    have hb6 : b ≠ w6.heap.size := by omega
    go_wp2_with (first
      | ((with_reducible refine wl_load26 (b := g) ?_ hrow' hxl ?_); (exact rfl))
      | ((with_reducible refine wl_alloc26 ?_))
      | ((with_reducible refine wl_store26 (b := w6.heap.size) (h := x) ?_ ?_ hxl (heap_alloc_new _ _) zeroH_size ?_); (exact rfl); (exact rfl); intro w7 hw7 hW7; have hq7 := (hW7.block b hb6).trans ((Below.heap_alloc w6 _ b (by omega)).trans HQ.out); have hc7 : w7.cell? ⟨b, 0, none⟩ = some (.slice (some ⟨g, 0, none⟩) (L.length + 1) c5) := by simp [World.cell?, hq7])
      | ((with_reducible refine wl_store38 (b := b) (u := .slice (some ⟨g, 0, none⟩) 150 c5) ?_ ?_ ⟨_, _, _, rfl⟩ hq7 ?_); (exact rfl); (exact rfl); intro w8 hw8 hW8; have r8 := RowAt.of_cells ((hW8.block w6.heap.size (fun e => hb6 e.symm)).trans hw7); have g8 := (hW8.block (w.heap.size + 1) hb2).trans ((hW7.block (w.heap.size + 1) (by omega)).trans ((Below.heap_alloc w6 _ _ z6).trans hres)))
      | ((with_reducible refine wl_load26 (b := w6.heap.size) ?_ r8 hxl ?_); (exact rfl))
      | ((with_reducible refine wl_store26 (b := w.heap.size + 1) (h := x) ?_ ?_ hxl g8 zeroH_size ?_); (exact rfl); (exact rfl); intro w9 hw9 hW9))
    have hxz : (icells .u8 x).size = 32 := by simp [hxl]
    refine bodyPost_ret (results_cell_tmps2 rfl _ rfl (RowAt.of_cells hw9) hash_u26 rfl (by rw [hxz]; exact hash_s26)) rfl ⟨?_, ?_, ?_⟩
    · have hx149 : L.getD 149 zeroH = x := by rw [List.getD_eq_getElem?_getD, HX.out]; rfl
      rw [pushVal_full HK.out HL.out, hx149]
      rfl
    · rw [pushed_new HK.out]
      have hs7 : SLH w7 (.slice (some ⟨g, 0, none⟩) (h :: L).length c5) (h :: L) w3.heap.size := hv6.keep fun g' C _ hg => by
        have hlt6 := (Array.getElem?_eq_some_iff.1 hg).1
        exact (hW7.block g' (by omega)).trans ((Below.heap_alloc w6 _ _ hlt6).trans hg)
      have hs8 := hs7.wrote hq7 hW8
      have hs9 : SLH w9 (.slice (some ⟨g, 0, none⟩) (h :: L).length c5) (h :: L) w3.heap.size := hs8.keep fun g' C hg0 hg => (hW9.block g' (by omega)).trans hg
      exact ⟨_, (hW9.block b (fun e => hb2 e.symm)).trans hw8, hs9.low.take (by rw [List.length_cons, HL.out]; omega)⟩
    · exact ((((honly.alloc _).wrote hW7 (.inr (by have := honly.size; omega))).wrote hW8 (.inl rfl)).wrote hW9 (.inr (by omega)))

set_option maxRecDepth 20000 in
set_option maxHeartbeats 400000 in
theorem rpush_there (b : Nat) (L : List (List Int)) (hL : L.length ≤ 150) (h : List Int) (hl : h.length = 32) (w : World) (hq : RQ w b L) (k : Nat) (hk : ageOf L h = some k) :
    Calls Try.prog 13 #[.pointer (some ⟨b, 0, none⟩), hv h] w fun e w' => e = .returned (pushVal L h) ∧ RQ w' b (pushed L h) ∧ Only w w' b := by
  have hlt := hq.lt
  have hb2 : Below w.heap.size w ((w.alloc (.cells (icells .u8 h) 26)).alloc (.cells (icells .u8 zeroH) 26)) := ((Below.refl _ _).alloc (Nat.le_refl _) _).alloc (by simp) _
  obtain ⟨w2, hw2⟩ : ∃ w2, w2 = (w.alloc (.cells (icells .u8 h) 26)).alloc (.cells (icells .u8 zeroH) 26) := ⟨_, rfl⟩
  rw [← hw2] at hb2
  have g0 : w2.heap[w.heap.size]? = some (.cells (icells .u8 h) 26) := by rw [hw2]; exact heap_alloc2_old _ _ _
  have g1 : w2.heap[w.heap.size + 1]? = some (.cells (icells .u8 zeroH) 26) := by rw [hw2]; exact heap_alloc2_new _ _ _
  have l1 : w.heap.size + 1 < w2.heap.size := (Array.getElem?_eq_some_iff.1 g1).1
  have HW := Lib.hid hw2
  clear hw2
  have hq2 := hq.keep hb2
  have r2 := RowAt.of_cells g0
  have hage : Calls Try.prog 14 #[.pointer (some ⟨b, 0, none⟩), hv h] w2 fun e w' => e = .returned (.tuple #[.int .i64 (k : Int), .bool true]) ∧ Below w2.heap.size w2 w' :=
    (rage_any b L (by omega) h hl w2 hq2).mono fun e w' ⟨h1, h2⟩ => ⟨by rw [h1]; unfold ageVal; rw [hk]; rfl, h2⟩
  have HA := Lib.hid hage
  have HK := Lib.hid hk
  have HG := Lib.hid g1
  clear hage hk g0 g1
  go_enter Try.func13, Try.ntmps13
  go_wp2_with (first
    | ((with_reducible refine wl_box26 (h := h) ?_ ?_); (exact rfl))
    | ((with_reducible refine wl_alloc26 ?_); rw [← HW.out])
    | ((with_reducible refine wl_load26 (b := w.heap.size) ?_ r2 hl ?_); (exact rfl))
    | (go_at_call 14; refine HA.out.mono ?_; rintro e w3 ⟨rfl, hb3⟩; have g3 := (hb3.block _ l1).trans HG.out)
    | ((with_reducible refine wl_zero26 ?_))
    | ((with_reducible refine wl_store26 (b := w.heap.size + 1) (h := zeroH) ?_ ?_ zeroH_len g3 zeroH_size ?_); (exact rfl); (exact rfl); intro w4 hw4 hW4))
  have hq3 := hq2.keep hb3
  have hq4 : RQ w4 b L := by
    obtain ⟨v, h1, h2⟩ := hq
    have hb23 : Below w.heap.size w w3 := hb2.trans (hb3.mono hb2.size)
    exact ⟨v, (hW4.block b (by omega)).trans ((hb23.block _ hlt).trans h1), h2.keep fun g C _ hg => (hW4.block g (by have := (Array.getElem?_eq_some_iff.1 hg).1; omega)).trans ((hb23.block _ (Array.getElem?_eq_some_iff.1 hg).1).trans hg)⟩
  refine bodyPost_ret (results_cell_tmps2 rfl _ rfl (RowAt.of_cells hw4) hash_u26 rfl hash_s26) rfl ⟨?_, ?_, ?_⟩
  · rw [pushVal_there HK.out]; rfl
  · rw [pushed_there HK.out]; exact hq4
  · exact ((Only.of_below hb2).below hb3).wrote hW4 (.inr (by omega))

theorem rpush_law (b : Nat) (L : List (List Int)) (hL : L.length ≤ 150) (h : List Int) (hl : h.length = 32) (w : World) (hq : RQ w b L) :
    Calls Try.prog 13 #[.pointer (some ⟨b, 0, none⟩), hv h] w fun e w' => e = .returned (pushVal L h) ∧ RQ w' b (pushed L h) ∧ Only w w' b := by
  cases hk : ageOf L h with
  | some k => exact rpush_there b L hL h hl w hq k hk
  | none => exact rpush_new b L hL h hl w hq hk

end Go.Proofs.Ytgipohphnegnhaa
