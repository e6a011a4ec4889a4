/- The chapter's slab: Put, Numbers. -/
import Derived.Test.YtghphopbfamclaaDoorRd
namespace Go.Proofs.YtghphopbfamclaaDoor
open Go.RowKit

section
variable {ops : Array Oper} {Q : Exit → Act → World → Prop} {a : Act} {w : World} {rest : List Oper} {dst : Option Tmp} {x y : Operand} {ty : TypeId} {pos : String} {after : Array Edge} {v : Value} {L : List (Nat × Nat)} {base : Nat}

theorem run_build60 (n x : Int) (w : World) : (Instr.buildSlice 60 1 #[(0, .agg #[.int .i64 n, .int .u64 x])]).run Tryd.prog w = .ok (.slice (some ⟨w.heap.size, 0, none⟩) 1 1) (w.alloc (.cells #[.int .i64 n, .int .u64 x] 70)) := by kernel_rfl

theorem exec_buildSlice {P : Program} {a : Act} {w w' : World} {o : Oper} {t n : Nat} {parts : Array (Nat × Operand)} {ps : Array (Nat × Value)} {v : Value} (ho : o.op = .buildSlice t n parts) (hp : parts.map (fun x => (x.1, a.eval x.2)) = ps)
    (hb : (Instr.buildSlice t n ps).run P w = .ok v w') : (execOp a.eval o).run P w = .ok (.value v) w' := by
  unfold execOp
  subst hp
  simp only [ho, Sem.run_bind, hb, Result.andThen_ok, Sem.run_pure]

theorem SLT_one (w : World) (n x : Nat) : SLT (w.alloc (.cells #[.int .i64 (n : Int), .int .u64 (x : Int)] 70)) (.slice (some ⟨w.heap.size, 0, none⟩) 1 1) [(n, x)] w.heap.size :=
  ⟨by simp [pcells, pc], .inr ⟨w.heap.size, 1, _, rfl, Nat.le_refl _, heap_alloc_new _ _, by simp, by unfold maxLen; omega, by simp, by simp [pcells, pc]⟩⟩

theorem wl_one {n x' : Nat} (hx : a.eval x = .agg #[.int .i64 (n : Int), .int .u64 (x' : Int)])
    (K : ∀ w1, SLT w1 (.slice (some ⟨w.heap.size, 0, none⟩) 1 1) [(n, x')] w.heap.size → Below w.heap.size w w1 → wpList Tryd.prog ops Q rest (a.put dst (.slice (some ⟨w.heap.size, 0, none⟩) 1 1)) w1) :
    wpList Tryd.prog ops Q (⟨dst, .buildSlice 60 1 #[(0, x)], ty, pos, after, none⟩ :: rest) a w :=
  wpList_run rfl (exec_buildSlice (ps := #[(0, .agg #[.int .i64 (n : Int), .int .u64 (x' : Int)])]) rfl (by simp [hx]) (run_build60 _ _ _)) (K _ (SLT_one w n x') ((Below.refl _ _).alloc (Nat.le_refl _) _))

theorem wl_to {n : Nat} (hx : a.eval x = v) (hy : a.eval y = .int .i64 (n : Int)) (hv : SLT w v L base) (hn : n ≤ L.length)
    (K : ∀ u, SLT w u (L.take n) base → wpList Tryd.prog ops Q rest (a.put dst u) w) :
    wpList Tryd.prog ops Q (⟨dst, .slice 60 x none (some y) none, ty, pos, after, none⟩ :: rest) a w := by
  obtain ⟨ad, c, h⟩ := exec_slice_to (a := a) (o := ⟨dst, .slice 60 x none (some y) none, ty, pos, after, none⟩) rfl hx hy hv hn
  exact wpList_run rfl (h w).1 (K _ ((h w).2 hv))

theorem wl_from {n : Nat} (hx : a.eval x = v) (hy : a.eval y = .int .i64 (n : Int)) (hv : SLT w v L base) (hn : n ≤ L.length)
    (K : ∀ u, TCells w u (L.drop n) → wpList Tryd.prog ops Q rest (a.put dst u) w) :
    wpList Tryd.prog ops Q (⟨dst, .slice 60 x (some y) none none, ty, pos, after, none⟩ :: rest) a w := by
  obtain ⟨u, h⟩ := exec_slice_from (a := a) (o := ⟨dst, .slice 60 x (some y) none none, ty, pos, after, none⟩) rfl hx hy hv hn
  exact wpList_run rfl (h w).1 (K u ((h w).2 hv))

theorem wl_store60 {r room : Nat} {v0 u : Value} (hp : a.eval x = .pointer (some ⟨r, 1, none⟩)) (hx : a.eval y = u) (hu : ∃ ad n c, u = .slice ad n c) (hg : w.heap[r]? = some (.cells #[.int .i64 (room : Int), v0] 62))
    (K : ∀ w1, w1.heap[r]? = some (.cells #[.int .i64 (room : Int), u] 62) → Wrote w w1 r → wpList Tryd.prog ops Q rest (a.put dst undef) w1) :
    wpList Tryd.prog ops Q (⟨dst, .store 60 x y, ty, pos, after, none⟩ :: rest) a w := by
  obtain ⟨ad, n, c, rfl⟩ := hu
  refine wpList_runSkip rfl (exec_store_sub (A := #[.slice ad n c]) rfl hp hx rfl hg (by simp) (by simp [Value.oneCell']) (by kernel_rfl)) (K _ ?_ (Wrote.setRow _ _ _))
  rw [splice_one (by simp), World.setRow, Array.getElem?_modify, if_pos rfl, hg]
  rfl
end

section
variable {w : World} {r room : Nat} {L : List (Nat × Nat)} {base : Nat}

set_option maxRecDepth 20000 in
set_option maxHeartbeats 400000 in
theorem rput_full (h : RefAt w r room L base) (x : Nat) (hf : L.length = room) :
    Calls Tryd.prog 21 #[.pointer (some ⟨r, 0, none⟩), .int .u64 (x : Int)] w fun e w' => e = .returned (.tuple #[.int .i64 0, .int .i64 3]) ∧ RefAt w' r room L base ∧ RTurn w w' r base := by
  obtain ⟨v, hv, hs⟩ := h.ex
  have hmost := h.most
  obtain ⟨ad, cap, rfl⟩ := hs.form
  have c1 := RefAt.cell1 hv
  have c0 := RefAt.cell0 hv
  rw [hf] at c1
  have H := Lib.hid h
  clear hv hs h hf
  go_enter Tryd.func21, Tryd.ntmps21
  go_wp2
  refine wp_region_quiet_lit (by kernel_rfl) (by kernel_rfl) ?_
  repeat quiet_step (fail)
  refine wpQuiet_nil ?_
  intro wq hwq
  have hB : Below w.heap.size w wq := by obtain ⟨k, rfl⟩ := hwq; exact ⟨rfl, rfl, rfl, Nat.le_refl _, fun _ _ => rfl⟩
  clear hwq c0 c1
  go_wp2
  go_ret2
  exact ⟨rfl, H.out.keep hB, .of_below hB⟩

set_option maxRecDepth 20000 in
set_option maxHeartbeats 800000 in
theorem rput_room (h : RefAt w r room L base) (x n : Nat) (hroom : L.length < room) (hn : n ≤ L.length) (hlo : ∀ j, j < n → ∃ y, L[j]? = some (j, y)) (hhi : ∀ q : Nat × Nat, L[n]? = some q → n < q.1) :
    Calls Tryd.prog 21 #[.pointer (some ⟨r, 0, none⟩), .int .u64 (x : Int)] w fun e w' => e = .returned (.tuple #[.int .i64 (n : Int), .int .i64 0]) ∧ RefAt w' r room (L.take n ++ [(n, x)] ++ L.drop n) base ∧ RTurn w w' r base := by
  have hlow := h.low
  have hlt := h.lt
  obtain ⟨v, hv, hs⟩ := h.ex
  have hmost := h.most
  obtain ⟨ad, cap, rfl⟩ := hs.form
  have c1 := RefAt.cell1 hv
  have c0 := RefAt.cell0 hv
  obtain ⟨len, hlen⟩ : ∃ len, L.length = len := ⟨_, rfl⟩
  rw [hlen] at c1 hroom hn hs hv
  have H := Lib.hid h
  have HL := Lib.hid hlen
  have HV := Lib.hid hv
  have HS := Lib.hid hs
  have HLO := Lib.hid hlo
  have HHI := Lib.hid hhi
  clear hv hs h hlen hlo hhi
  go_enter Tryd.func21, Tryd.ntmps21
  go_wp2
  refine wp_region_quiet_lit (by kernel_rfl) (by kernel_rfl) ?_
  repeat quiet_step (fail)
  refine wpQuiet_nil ?_
  intro wq hwq
  have hS : RS w r room (.slice ad len cap) L base wq := RS.drewN (W := w) ⟨Below.refl _ _, HV.out, HS.out⟩ hwq
  clear hwq c0 c1
  have c1 := hS.cell1
  go_wp2
  go_loopw [6] (fun v6 wr => ∃ k : Nat, k ≤ n ∧ v6 = .int .i64 k ∧ wr = wq) (fun v6 _ => n - (intOf v6).toNat)
  case atStart => exact ⟨0, Nat.zero_le _, rfl, rfl⟩
  case round =>
    obtain ⟨k, hk, rfl, rfl⟩ := hrel
    by_cases hlt2 : k < n
    · obtain ⟨y, hy⟩ := HLO.out k hlt2
      obtain ⟨g, cap', e1, hb, hc0, hc1⟩ := (hS.row).at hy
      rw [HL.out] at e1
      simp only [Value.slice.injEq] at e1
      obtain ⟨rfl, _, rfl⟩ := e1
      have hk' : (k : Int) < (len : Int) := by omega
      clear hy hc1 hb
      go_wp2
      go_roundw
      case rel => exact ⟨k + 1, by omega, by go_num, trivial⟩
      case measure => simp [intOf]; omega
    · obtain rfl : k = n := by omega
      clear hlt2 hk
      have hrow := hS.row
      have HR := Lib.hid hrow
      clear hrow
      have hlenL := HL.out
      have hbase : base ≤ wr.heap.size := by have := hS.bel.size; omega
      have hle1 : ([] : List (Nat × Nat)).length + (L.take k).length ≤ 10000 := by simp; omega
      have hle2 : (([] : List (Nat × Nat)) ++ L.take k).length + [(k, x)].length ≤ 10000 := by simp; omega
      have hle3 : ((([] : List (Nat × Nat)) ++ L.take k) ++ [(k, x)]).length + (L.drop k).length ≤ 10000 := by simp; omega
      have hle4 : (L.take k ++ [(k, x)] ++ L.drop k).length ≤ room := by simp; omega
      clear hlenL
      by_cases hkl : k < len
      · obtain ⟨q, hq⟩ : ∃ q, L[k]? = some q := ⟨L[k]'(by rw [HL.out]; exact hkl), List.getElem?_eq_getElem _⟩
        have hqn := HHI.out q hq
        obtain ⟨g, cap', e1, hb, hc0, hc1⟩ := (hS.row).at hq
        rw [HL.out] at e1
        simp only [Value.slice.injEq] at e1
        obtain ⟨rfl, _, rfl⟩ := e1
        have hk' : (k : Int) < (len : Int) := by omega
        have hne : ((q.1 : Int) == (k : Int)) = false := by simp; omega
        clear hq hc1 hb
        go_wp2_with (first
          | ((with_reducible refine wl_to (x := .tmp 42) (y := .tmp 43) (v := .slice (some ⟨g, 0, none⟩) len cap) (L := L) (base := base) (n := k) ?_ ?_ HR.out ?_ ?_); (exact rfl); (exact rfl); (rw [HL.out]; exact hn); intro u1 hu1)
          | ((with_reducible refine wl_append_slt (s := .const (.slice none 0 0)) (x := .tmp 44) (v := .slice none 0 0) (u := u1) (L := []) (M := L.take k) (base := wr.heap.size) ?_ ?_ (SLT.nil _ _) hu1.tcells ?_ (Nat.le_refl _) ?_); (exact rfl); (exact rfl); (exact hle1); intro v2 w2 hv2 hg2; have hS2 := hS.keep (below_of_grown hg2); have hz2 := hg2.size)
          | ((with_reducible refine wl_one (x := .tmp 49) (n := k) (x' := x) ?_ ?_); (exact rfl); intro w3 hv3 hb3; have hS3 := hS2.keep hb3; have hz3 := hb3.size; have hv2' := hv2.kept hb3)
          | ((with_reducible refine wl_append_slt (s := .tmp 46) (x := .tmp 50) (v := v2) (u := .slice (some ⟨w2.heap.size, 0, none⟩) 1 1) (L := [] ++ L.take k) (M := [(k, x)]) (base := wr.heap.size) ?_ ?_ hv2' hv3.tcells ?_ ?_ ?_); (exact rfl); (exact rfl); (exact hle2); (omega); intro v4 w4 hv4 hg4; have hS4 := hS.keep (((below_of_grown hg2).trans (hb3.mono hz2)).grown hg4 (Nat.le_trans hz2 hz3) (fun i hi => (hv2'.lt i hi).1)); have c4 := hS4.cell1; have hz4 := hg4.size)
          | ((with_reducible refine wl_from (x := .tmp 57) (y := .tmp 58) (v := .slice (some ⟨g, 0, none⟩) len cap) (L := L) (base := base) (n := k) ?_ ?_ hS4.row ?_ ?_); (exact rfl); (exact rfl); (rw [HL.out]; exact hn); intro u5 hu5)
          | ((with_reducible refine wl_append_slt (s := .tmp 53) (x := .tmp 59) (v := v4) (u := u5) (L := ([] ++ L.take k) ++ [(k, x)]) (M := L.drop k) (base := wr.heap.size) ?_ ?_ hv4 hu5 ?_ ?_ ?_); (exact rfl); (exact rfl); (exact hle3); (omega); intro v6 w6 hv6 hg6; have hS6 := hS.keep ((((below_of_grown hg2).trans (hb3.mono hz2)).grown hg4 (Nat.le_trans hz2 hz3) (fun i hi => (hv2'.lt i hi).1)).grown hg6 (Nat.le_trans hz2 (Nat.le_trans hz3 hz4)) (fun i hi => (hv4.lt i hi).1)))
          | ((with_reducible refine wl_store60 (x := .tmp 62) (y := .tmp 60) (r := r) (room := room) (v0 := .slice (some ⟨g, 0, none⟩) len cap) (u := v6) ?_ ?_ ?_ hS6.head ?_); (exact rfl); (exact rfl); (obtain ⟨a6, c6, e6⟩ := hv6.form; exact ⟨_, _, _, e6⟩); intro w7 h7 hW7))
        go_ret2
        have hfin := hS6.done H.out (show SLT w6 v6 (L.take k ++ [(k, x)] ++ L.drop k) base from SLT.low hv6 hbase) hle4 h7 hW7
        exact ⟨rfl, by first | exact hfin.1 | simpa using hfin.1, hfin.2⟩
      · obtain rfl : k = len := by omega
        have hk' : ¬ (k : Int) < (k : Int) := by omega
        go_wp2_with (first
          | ((with_reducible refine wl_to (x := .tmp 42) (y := .tmp 43) (v := .slice ad k cap) (L := L) (base := base) (n := k) ?_ ?_ HR.out ?_ ?_); (exact rfl); (exact rfl); (rw [HL.out]; exact hn); intro u1 hu1)
          | ((with_reducible refine wl_append_slt (s := .const (.slice none 0 0)) (x := .tmp 44) (v := .slice none 0 0) (u := u1) (L := []) (M := L.take k) (base := wr.heap.size) ?_ ?_ (SLT.nil _ _) hu1.tcells ?_ (Nat.le_refl _) ?_); (exact rfl); (exact rfl); (exact hle1); intro v2 w2 hv2 hg2; have hS2 := hS.keep (below_of_grown hg2); have hz2 := hg2.size)
          | ((with_reducible refine wl_one (x := .tmp 49) (n := k) (x' := x) ?_ ?_); (exact rfl); intro w3 hv3 hb3; have hS3 := hS2.keep hb3; have hz3 := hb3.size; have hv2' := hv2.kept hb3)
          | ((with_reducible refine wl_append_slt (s := .tmp 46) (x := .tmp 50) (v := v2) (u := .slice (some ⟨w2.heap.size, 0, none⟩) 1 1) (L := [] ++ L.take k) (M := [(k, x)]) (base := wr.heap.size) ?_ ?_ hv2' hv3.tcells ?_ ?_ ?_); (exact rfl); (exact rfl); (exact hle2); (omega); intro v4 w4 hv4 hg4; have hS4 := hS.keep (((below_of_grown hg2).trans (hb3.mono hz2)).grown hg4 (Nat.le_trans hz2 hz3) (fun i hi => (hv2'.lt i hi).1)); have c4 := hS4.cell1; have hz4 := hg4.size)
          | ((with_reducible refine wl_from (x := .tmp 57) (y := .tmp 58) (v := .slice ad k cap) (L := L) (base := base) (n := k) ?_ ?_ hS4.row ?_ ?_); (exact rfl); (exact rfl); (rw [HL.out]; exact hn); intro u5 hu5)
          | ((with_reducible refine wl_append_slt (s := .tmp 53) (x := .tmp 59) (v := v4) (u := u5) (L := ([] ++ L.take k) ++ [(k, x)]) (M := L.drop k) (base := wr.heap.size) ?_ ?_ hv4 hu5 ?_ ?_ ?_); (exact rfl); (exact rfl); (exact hle3); (omega); intro v6 w6 hv6 hg6; have hS6 := hS.keep ((((below_of_grown hg2).trans (hb3.mono hz2)).grown hg4 (Nat.le_trans hz2 hz3) (fun i hi => (hv2'.lt i hi).1)).grown hg6 (Nat.le_trans hz2 (Nat.le_trans hz3 hz4)) (fun i hi => (hv4.lt i hi).1)))
          | ((with_reducible refine wl_store60 (x := .tmp 62) (y := .tmp 60) (r := r) (room := room) (v0 := .slice ad k cap) (u := v6) ?_ ?_ ?_ hS6.head ?_); (exact rfl); (exact rfl); (obtain ⟨a6, c6, e6⟩ := hv6.form; exact ⟨_, _, _, e6⟩); intro w7 h7 hW7))
        go_ret2
        have hfin := hS6.done H.out (show SLT w6 v6 (L.take k ++ [(k, x)] ++ L.drop k) base from SLT.low hv6 hbase) hle4 h7 hW7
        exact ⟨rfl, by first | exact hfin.1 | simpa using hfin.1, hfin.2⟩

end

/-- The numbers, in new memory. -/
def NumAt (w : World) (v : Value) (M : List Nat) (base : Nat) : Prop := w.ownsRow base 3 1 v M.length (ivals M)

theorem NumAt.form {v : Value} {M : List Nat} {b : Nat} {w : World} (h : NumAt w v M b) : ∃ a cap, v = .slice a M.length cap := by
  rcases h.2 with ⟨h1, h2⟩ | ⟨g, cap, _, h1, _⟩
  · exact ⟨none, 0, by rw [h1, h2]⟩
  · exact ⟨_, _, h1⟩

theorem NumAt.alloc {v : Value} {M : List Nat} {b : Nat} {w : World} (h : NumAt w v M b) (o : Obj) : NumAt (w.alloc o) v M b := World.ownsRow.alloc h o
theorem NumAt.lt {v : Value} {M : List Nat} {b : Nat} {w : World} (h : NumAt w v M b) : ∀ k, v.ownBlock = some k → b ≤ k ∧ k < w.heap.size := World.ownsRow.lt h
theorem NumAt.cells {v : Value} {M : List Nat} {b : Nat} {w : World} {ad : Option Addr} {n c : Nat} (h : NumAt w v M b) (hv : v = .slice ad n c) : CellsAt w ad (M.map Int.ofNat) := by
  intro j hj
  rw [List.length_map] at hj
  rcases h.2 with ⟨h1, h2⟩ | ⟨g, cap, cur, h1, _⟩
  · omega
  · rw [hv] at h1
    simp only [Value.slice.injEq] at h1
    obtain ⟨rfl, _, _⟩ := h1
    have hc := World.ownsRow.cells h (g := g) (by rw [hv]; rfl) j (.int .i64 ((M.getD j 0 : Nat) : Int)) (by simp [ivals, hj])
    have e1 : (⟨g, 0, none⟩ : Addr).add j = ⟨g, 0 + j, none⟩ := by unfold Addr.add; split <;> simp_all
    rw [e1] at hc
    refine ⟨g, 0, rfl, ?_⟩
    rw [hc]
    simp [hj]

theorem wl_append_num {Q : Exit → Act → World → Prop} {w : World} {ops rest : _} {a : Act} {dst : Option Tmp} {s x : Operand} {ty : TypeId} {pos : String} {after : Array Edge} {v : Value} {M : List Nat} {b n y : Nat}
    (hs : a.eval s = v) (hx : a.eval x = .slice (some ⟨b, 0, none⟩) 1 1) (hv : NumAt w v M n) (hc : w.cell? ⟨b, 0, none⟩ = some (.int .i64 (y : Int))) (hlen : M.length ≤ 5000) (hn : n ≤ w.heap.size)
    (K : ∀ v' w', NumAt w' v' (M ++ [y]) n → w.grownBy w' v.ownBlock → wpList Tryd.prog ops Q rest (a.put dst v') w') :
    wpList Tryd.prog ops Q (⟨dst, .call { callee := .builtin .append, args := #[s, x], argTypes := #[36, 36] }, ty, pos, after, none⟩ :: rest) a w := by
  obtain ⟨i0, hi, hz0, hz1, hz2⟩ := info_parts info3
  obtain ⟨v', w', hrun, hown, hgr, _⟩ := run_append_own (P := Tryd.prog) w n 36 ty 3 i0 (.int .i64 0) 1 8 und36 hi hz0 hz1 hz2 rfl (by decide) v M.length (ivals M) hv ⟨b, 0, none⟩ 1 1 [.int .i64 (y : Int)] rfl
    (fun j u hu => by
      cases j with
      | zero => simp at hu; subst hu; exact hc
      | succ j => simp at hu) (fun u hu => by simp at hu; subst hu; rfl) (by unfold maxLen; omega) (by omega) hn
  refine wpList_run (v := v') (w' := w') rfl ?_ (K v' w' ?_ hgr)
  · simp [execOp, resolve, invoke, builtin, hs, hx, hrun, Result.andThen]
  · unfold NumAt
    rw [List.length_append]
    simpa [ivals] using hown

section
variable {w : World} {r room : Nat} {L : List (Nat × Nat)} {base : Nat}
set_option maxRecDepth 20000 in
set_option maxHeartbeats 800000 in
theorem rnumbers_any (h : RefAt w r room L base) :
    Calls Tryd.prog 26 #[.pointer (some ⟨r, 0, none⟩)] w fun e w' => ∃ v, e = .returned v ∧ NumAt w' v (L.map Prod.fst) w.heap.size ∧ Below w.heap.size w w' := by
  obtain ⟨v, hv, hs⟩ := h.ex
  have hmost := h.most
  have hle := h.le
  obtain ⟨ad, cap, rfl⟩ := hs.form
  obtain ⟨len, hlen⟩ : ∃ len, L.length = len := ⟨_, rfl⟩
  rw [hlen] at hv hs hle
  have hS : RS w r room (.slice ad len cap) L base w := ⟨Below.refl _ _, hv, hs⟩
  have HL := Lib.hid hlen
  clear hv hs h hlen
  go_enter Tryd.func26, Tryd.ntmps26
  go_wp2
  go_loopw [3, 4] (fun v3 v4 wr => ∃ k : Nat, k ≤ len ∧ v4 = .int .i64 k ∧ Below w.heap.size w wr ∧ NumAt wr v3 ((L.take k).map Prod.fst) w.heap.size) (fun _ v4 _ => len - (intOf v4).toNat)
  case atStart => exact ⟨0, Nat.zero_le _, rfl, Below.refl _ _, World.ownsRow_nil _ _ _ _⟩
  case round =>
    obtain ⟨k, hk, rfl, hB, hN⟩ := hrel
    replace hS := hS.keep hB
    have c1 := hS.cell1
    by_cases hlt : k < len
    · have hlt' : (k : Int) < (len : Int) := by omega
      obtain ⟨q, hq⟩ : ∃ q, L[k]? = some q := ⟨L[k]'(by rw [HL.out]; exact hlt), List.getElem?_eq_getElem _⟩
      obtain ⟨g, cap', e1, hb, hc0, hc1⟩ := (hS.row).at hq
      rw [HL.out] at e1
      simp only [Value.slice.injEq] at e1
      obtain ⟨rfl, _, rfl⟩ := e1
      have hnext : (L.take (k + 1)).map Prod.fst = (L.take k).map Prod.fst ++ [q.1] := by
        obtain ⟨h1, h2⟩ := List.getElem?_eq_some_iff.1 hq
        rw [List.take_succ_eq_append_getElem h1, h2]; simp
      have HN := Lib.hid hnext
      have hl5 : ((L.take k).map Prod.fst).length ≤ 5000 := by simp; omega
      have hz := hS.bel.size
      clear hq hc1 hb hnext
      go_wp2_with ((with_reducible refine wl_append_num (s := .tmp 14) (x := .tmp 23) (M := (L.take k).map Prod.fst) (b := wr.heap.size) (n := w.heap.size) (y := q.1) ?_ ?_ (hN.alloc _) (new_cell _ _ _) hl5 ?_ ?_); (exact rfl); (exact rfl); (rw [World.size_alloc]; omega); intro v5 w5 hv5 hg5; have hB5 := (hB.alloc hz _).grown hg5 (by rw [World.size_alloc]; omega) (fun i hi => (hN.lt i hi).1))
      go_roundw
      case rel => exact ⟨k + 1, by omega, by go_num, hB5, by rw [HN.out]; exact hv5⟩
      case measure => simp [intOf]; omega
    · obtain rfl : k = len := by omega
      have hlt' : ¬ (k : Int) < (k : Int) := by omega
      go_wp2
      go_ret
      have e : L.take k = L := by rw [List.take_of_length_le (by rw [HL.out]; exact Nat.le_refl _)]
      rw [e] at hN
      exact ⟨_, rfl, hN, hS.bel⟩
end

end Go.Proofs.YtghphopbfamclaaDoor
