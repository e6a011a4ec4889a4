/- once: no key twice. -/
import Derived.Test.YtgjijoielfpmkaaF
set_option linter.unusedVariables false
namespace Go.Proofs.Ytgjijoielfpmkaa
open Go.RowKit Go.ChangeMaps

/-- The keys, each once, in the order in which they came. -/
def keysOf (K : List (List Int)) : List (List Int) := K.foldl ins []

theorem keysOf_take {K : List (List Int)} {i : Nat} {k : List Int} (h : K[i]? = some k) : keysOf (K.take (i + 1)) = ins (keysOf (K.take i)) k := by
  obtain ⟨hi, e⟩ := List.getElem?_eq_some_iff.1 h
  unfold keysOf
  rw [List.take_succ_eq_append_getElem hi, List.foldl_append, e]
  rfl

theorem keysOf_spec (K : List (List Int)) : ∀ i, i ≤ K.length → (∀ k, k ∈ keysOf (K.take i) ↔ k ∈ K.take i) ∧ (keysOf (K.take i)).length ≤ i ∧ ((keysOf (K.take i)).length = i ↔ (K.take i).Nodup)
  | 0, _ => by simp [keysOf]
  | i + 1, hi => by
    obtain ⟨h1, h2, h3⟩ := keysOf_spec K i (by omega)
    have hlt : i < K.length := by omega
    rw [keysOf_take (List.getElem?_eq_getElem hlt), List.take_succ_eq_append_getElem hlt]
    generalize K[i] = k at *
    generalize K.take i = T at *
    unfold ins
    by_cases hk : k ∈ keysOf T
    · rw [if_pos hk]
      have hkT := (h1 k).1 hk
      refine ⟨fun x => ?_, by omega, ?_⟩
      · rw [h1 x, List.mem_append, List.mem_singleton]
        constructor
        · exact .inl
        · rintro (h | rfl)
          · exact h
          · exact hkT
      · constructor
        · intro e; omega
        · intro hn
          exact absurd rfl ((List.nodup_append.1 hn).2.2 k hkT k (List.mem_singleton.2 rfl))
    · rw [if_neg hk]
      have hkT : k ∉ T := fun h => hk ((h1 k).2 h)
      refine ⟨fun x => ?_, by rw [List.length_append, List.length_singleton]; omega, ?_⟩
      · rw [List.mem_append, List.mem_append, h1 x]
      · rw [List.length_append, List.length_singleton]
        constructor
        · intro e
          refine List.nodup_append.2 ⟨h3.1 (by omega), by simp, fun a ha b hb => ?_⟩
          rw [List.mem_singleton.1 hb]
          rintro rfl
          exact hkT ha
        · intro hn
          have := h3.2 (List.nodup_append.1 hn).1
          omega

theorem keysOf_whole (K : List (List Int)) : (keysOf K).length = K.length ↔ K.Nodup := by
  have := (keysOf_spec K K.length (Nat.le_refl _)).2.2
  rwa [List.take_length] at this

def onc (X : Tx) : Bool := decide X.K.Nodup

section
variable {ops : Array Oper} {Q : Exit → Act → World → Prop} {a : Act} {w : World} {rest : List Oper} {dst : Option Tmp} {x y : Operand} {ty : TypeId} {pos : String} {after : Array Edge}
theorem wl_makeMap (K : ∀ r w1 es clock, MapOf w1 r [] 0 es clock → w.heap.size ≤ r → Below w.heap.size w w1 → wpList Try.prog ops Q rest (a.put dst (.map (some r))) w1) :
    wpList Try.prog ops Q (⟨dst, .makeMap 45 none, ty, pos, after, none⟩ :: rest) a w := by
  refine wpList_run (v := .map (some w.heap.size)) (w' := w.alloc (.map #[] 0)) rfl ?_ (K w.heap.size _ #[] 0 ⟨heap_alloc_new w _, MapKept.stamped_empty 0, rfl, by simp⟩ (Nat.le_refl _) ((Below.refl _ _).alloc (Nat.le_refl _) _))
  simp [execOp, Instr.makeMap, newObj, Sem.run, Result.andThen]
theorem len_map {w : World} {r clock : Nat} {S : List (List Int)} {N : Int} {es : Array MapEntry} (h : MapOf w r S N es clock) : (Builtin.len_ #[45] 3 #[Value.map (some r)]).run Try.prog w = .ok (.int .i64 (S.length : Int)) w := by
  rw [← h.len]
  simp [Builtin.len_, run_underlying u45, MapKept.run_getObj_map h.heap, Result.andThen, goInt]
theorem exec_lookup {o : Oper} {x y : Operand} {r : Nat} {k : List Int} {c : Int} (ho : o.op = .lookup 45 x y false) (hx : a.eval x = .map (some r)) (hy : a.eval y = kv k) (h : Looks w r k c) : (execOp a.eval o).run Try.prog w = .ok (.value (.int .i64 c)) w := by
  unfold execOp
  unfold Looks at h
  simp only [ho, hx, hy, Sem.run_bind, h, Result.andThen_ok, Sem.run_pure]
theorem exec_mapEntry {o : Oper} {x y : Operand} {r : Nat} {k : List Int} {v : Value} {w' : World} (ho : o.op = .mapEntry 45 x y) (hx : a.eval x = .map (some r)) (hy : a.eval y = kv k) (h : (Instr.mapEntry 45 (.map (some r)) (kv k)).run Try.prog w = .ok v w') : (execOp a.eval o).run Try.prog w = .ok (.value v) w' := by
  unfold execOp
  simp only [ho, hx, hy, Sem.run_bind, h, Result.andThen_ok, Sem.run_pure]
theorem exec_entryStore {o : Oper} {x y z : Operand} {r : Nat} {u v : Value} {w' : World} (ho : o.op = .entryStore 45 x y z) (hx : a.eval x = .map (some r)) (hy : a.eval y = u) (hz : a.eval z = v) (h : (Instr.entryStore 45 (.map (some r)) u v).run Try.prog w = .ok () w') : (execOp a.eval o).run Try.prog w = .ok .skip w' := by
  unfold execOp
  simp only [ho, hx, hy, hz, Sem.run_bind, h, Result.andThen_ok, Sem.run_pure]
end

set_option maxRecDepth 20000 in
set_option maxHeartbeats 1600000 in
theorem once_any {X : Tx} (w : World) (hT : TxAt w X) : Calls Try.prog 25 #[X.val] w fun e w' => e = .returned (.bool (onc X)) ∧ Below w.heap.size w w' := by
  have hR := hT.R
  have hkl := hT.kl
  unfold lenMax at hkl
  unfold onc
  obtain ⟨n, hn⟩ : ∃ n, X.K.length = n := ⟨_, rfl⟩
  obtain ⟨ka, hka⟩ : ∃ ka, X.ka = ka := ⟨_, rfl⟩
  obtain ⟨K, hK⟩ : ∃ K, X.K = K := ⟨_, rfl⟩
  have hat := fun (j : Nat) (k : List Int) hj => hT.keyAt (j := j) (k := k) hj
  have hok := hT.key
  rw [hK] at hat hok ⊢
  rw [hn] at hkl
  rw [hka] at hat
  have HN := Lib.hid hn
  have HN2 : Hid (K.length = n) := Lib.hid (by rw [← hK, hn])
  have HKA := Lib.hid hka
  have HAT := Lib.hid hat
  have HOK := Lib.hid hok
  have HR := Lib.hid hR
  clear hT hn hat hok hK hka hR
  go_enter Try.func25, Try.ntmps25
  go_wp2_with (first
    | ((with_reducible refine wl_box33 (X := X) ?_ ?_); (exact rfl); intro b w1 hb hle hB; have hb' := Lib.hid hb; clear hb)
    | ((with_reducible refine wl_makeMap ?_); intro r w2 es cl hM hle2 hB2; have c5 := Below.keepCell hB2 (Nat.le_refl _) (txCells HR.out hb'.out).c5; rw [HN.out, HKA.out] at c5))
  have hrne : r ≠ b := fun e => by have := (Array.getElem?_eq_some_iff.1 hb'.out).1; omega
  have HRNE := Lib.hid hrne
  have hrle : w.heap.size ≤ r := Nat.le_trans hB.size hle2
  have HB2 : Hid (Below w.heap.size w w2) := Lib.hid (hB.trans (hB2.mono hB.size))
  have HBB : Hid (w2.heap[b]? = some (.cells X.cells 33)) := Lib.hid ((hB2.block b (Array.getElem?_eq_some_iff.1 hb'.out).1).trans hb'.out)
  have HM := Lib.hid hM
  clear c5 hB hB2 hb' hle hle2 hM hrne
  go_loopw [5, 11] (fun v5 v11 wr => ∃ (i : Nat) (es : Array MapEntry) (cl : Nat), i ≤ n ∧ v11 = .int .i64 i ∧ MapOf wr r (keysOf (K.take i)) i es cl ∧ wr.heap[b]? = some (.cells X.cells 33) ∧ Below w.heap.size w wr) (fun _ v11 _ => n - (intOf v11).toNat)
  case atStart => exact ⟨0, _, _, Nat.zero_le _, rfl, HM.out, HBB.out, HB2.out⟩
  case round =>
    clear HB2 HBB HM w2 es cl w1
    obtain ⟨i, es, cl, hi, rfl, hM, hbb, hB⟩ := hrel
    by_cases hlt : i < n
    · have hlt' : (i : Int) < (n : Int) := by omega
      obtain ⟨k, hk⟩ : ∃ k, K[i]? = some k := ⟨K[i]'(by rw [HN2.out]; exact hlt), List.getElem?_eq_getElem _⟩
      obtain ⟨b2, off, rfl, hrow⟩ := HAT.out i k hk
      have hkey := HOK.out k (List.mem_of_getElem? hk)
      have hr2 := Lib.hid (Below.row hB hrow hrow.lt)
      have HNEXT : Hid (keysOf (K.take (i + 1)) = ins (keysOf (K.take i)) k) := Lib.hid (keysOf_take hk)
      have HS : Hid (∀ x ∈ keysOf (K.take i), IsKey x) := Lib.hid fun x hx => by
        have := ((keysOf_spec K i (by rw [HN2.out]; exact hi)).1 x).1 hx
        exact HOK.out x (List.mem_of_mem_take this)
      have HKEY := Lib.hid hkey
      have H32 : Hid (k.length = 32) := Lib.hid hkey.1
      have HSZ : Hid ((icells .u8 k).size = 32) := Lib.hid (by rw [size_icells]; exact hkey.1)
      generalize keysOf (K.take i) = S at hM HNEXT HS
      have HM := Lib.hid hM
      have HBB := Lib.hid hbb
      have HB := Lib.hid hB
      clear hrow hk hkey hM hbb hB
      go_wp2_with (first
        | ((with_reducible refine wl_load41 (k := k) ?_ hr2.out H32.out ?_); (exact rfl))
        | ((with_reducible refine wl_allocN zero41 ?_); intro g w3 Z hZ1 hZ2 hle3 hB3)
        | ((with_reducible refine wl_storeN (n := 32) (A := icells .u8 k) (Z := Z) ?_ ?_ hZ1 hZ2 HSZ.out (icells_one _ _) s41 ?_); (exact rfl); (exact rfl); intro w4 h4 hW4))
      have c0lt := (Array.getElem?_eq_some_iff.1 HM.out.heap).1
      have hbl := (Array.getElem?_eq_some_iff.1 HBB.out).1
      have hM4 : MapOf w4.drew r S i es cl := HM.out.of_block ((hW4.block r (by omega)).trans (hB3.block r c0lt))
      obtain ⟨c, st, es1, cl1, w5, hrun, hM5, hst, hW5, hlk, hlk5, p1, p2⟩ := hM4.entry HS.out HKEY.out (by omega)
      have hgr : g ≠ r := by omega
      have hcw : (IntKind.i64.wrap (c + 1)) = c + 1 := by rw [IntKind.wrap_i64]; omega
      simp only [Act.put, List.setIfInBounds_toArray, List.set_cons_zero, List.set_cons_succ]
      refine wp_regionW (n := 7) (S := fun W => W.heap[g]? = some (.cells (icells .u8 k) 41) ∧ Looks W r k c) (late := fun j => j == 6) rfl (by kernel_rfl) ?_
      have hS0 : w4.drew.heap[g]? = some (.cells (icells .u8 k) 41) ∧ Looks w4.drew r k c := ⟨h4, hlk⟩
      refine takeW (j := 0) (v := .map (some r)) rfl rfl rfl (by kernel_rfl) (by kernel_rfl) (by kernel_rfl) (by kernel_rfl) (fun _ _ _ h => h) (fun W hW => exec_move rfl rfl) hS0 ?_
      simp only [List.set_cons_zero, List.set_cons_succ]
      refine takeW (j := 1) (v := kv k) rfl rfl rfl (by kernel_rfl) (by kernel_rfl) (by kernel_rfl) (by kernel_rfl) (fun _ _ _ h => h) (fun W hW => exec_load_sub rfl rfl (RowAt.of_cells hW.1) u41 rfl (by rw [HSZ.out]; exact s41)) hS0 ?_
      simp only [List.set_cons_zero, List.set_cons_succ]
      refine takeW (j := 2) (v := .int .i64 c) rfl rfl rfl (by kernel_rfl) (by kernel_rfl) (by kernel_rfl) (by kernel_rfl) (fun _ _ _ h => h) (fun W hW => exec_lookup rfl rfl rfl hW.2) hS0 ?_
      simp only [List.set_cons_zero, List.set_cons_succ]
      refine takeW (j := 3) (v := .int .i64 (c + 1)) rfl rfl rfl (by kernel_rfl) (by kernel_rfl) (by kernel_rfl) (by kernel_rfl) (fun _ _ _ h => h) (fun W hW => by go_simp) hS0 ?_
      simp only [List.set_cons_zero, List.set_cons_succ]
      refine oneW 4 (by kernel_rfl) (run_val (v := .tuple #[.int .i64 c, goInt st]) rfl rfl rfl (exec_mapEntry rfl rfl rfl hrun) ?_)
      have hS5 : w5.heap[g]? = some (.cells (icells .u8 k) 41) ∧ Looks w5 r k c := ⟨(hW5.block g hgr).trans h4, hlk5⟩
      refine ⟨fun _ => hS5, ?_⟩
      simp only [List.set_cons_zero, List.set_cons_succ]
      refine takeW (j := 5) (v := goInt st) rfl rfl rfl (by kernel_rfl) (by kernel_rfl) (by kernel_rfl) (by kernel_rfl) (fun _ _ _ h => h) (fun W hW => exec_extract rfl rfl rfl) hS5 ?_
      simp only [List.set_cons_zero, List.set_cons_succ]
      obtain ⟨es6, cl6, w6, hrun6, hM6, hW6⟩ := (hM5.mono (M := (i : Int) + 1) (by omega)).store hst (c := c + 1) (by omega) (by omega)
      refine oneW 6 (by kernel_rfl) (run_skip rfl rfl rfl (exec_entryStore rfl rfl rfl rfl hrun6) ⟨fun h => (by cases h), ?_⟩)
      refine doneW (by kernel_rfl) ?_ _
      have hlast : w6.heap[b]? = some (.cells X.cells 33) := (hW6.block b HRNE.out.symm).trans ((hW5.block b HRNE.out.symm).trans ((hW4.block b (by omega)).trans ((hB3.block b hbl).trans HBB.out)))
      have hBl : Below w.heap.size w w6 := hW6.below (hW5.below ((hW4.below (HB.out.trans (hB3.mono HB.out.size)) (Nat.le_trans HB.out.size hle3)).drew) hrle) hrle
      go_wp2
      go_roundw
      case rel => exact ⟨i + 1, _, _, by omega, by go_num, by rw [HNEXT.out]; exact hM6, hlast, hBl⟩
      case measure => simp [intOf]; omega
    · obtain rfl : i = n := by omega
      have hlt' : ¬ (i : Int) < (i : Int) := by omega
      have e : K.take i = K := by rw [← HN2.out, List.take_length]
      rw [e] at hM
      have hln := len_map hM
      have hw := keysOf_whole K
      rw [HN2.out] at hw
      have c5 := (txCells HR.out hbb).c5
      rw [HN.out, HKA.out] at c5
      have HW := Lib.hid hw
      clear hM hw
      go_wp2
      go_ret
      refine ⟨?_, hB⟩
      have e2 := HW.out
      generalize (keysOf K).length = z at *
      by_cases hnd : K.Nodup
      · have := e2.2 hnd
        simp [hnd, this]
      · have : ¬ z = i := fun h => hnd (e2.1 h)
        simp [hnd]
        omega
end Go.Proofs.Ytgjijoielfpmkaa
