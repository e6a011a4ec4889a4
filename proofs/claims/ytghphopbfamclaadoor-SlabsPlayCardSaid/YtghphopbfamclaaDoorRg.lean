/- SlabsPlay: the walk. -/
import Derived.Test.YtghphopbfamclaaDoorRf
import Derived.Deep.CutRange
import Derived.Deep.CutBlock
set_option linter.unusedVariables false
namespace Go.Proofs.YtghphopbfamclaaDoor
open Go.RowKit

/-! ### Guarded operations of a region that draws -/
section
variable {P : Program} {Q : Exit → Act → World → Prop} {md : Region.Mode} {S : World → Prop} {late : Nat → Bool}
theorem takeG {l : List Oper} {j d fuel : Nat} {o : Oper} {v : Value} {listed : Array Bool} {tmps : List Value} {defers : List Deferred} {w : World}
    (hi : l[j]? = some o) (hd : o.dst = some d) (hg : Region.wanted o (yielded l.toArray tmps.toArray) = true) (hs : Region.noSelect l.toArray = true) (hf : Region.free md l.toArray listed j = true) (hr : (Region.ready md l.toArray listed).contains j = true)
    (hw : lateWaits md l.toArray late j = true) (hQ : ∀ c a w, Q (.panic c) (a.put o.dst v) w → Q (.panic c) a w) (hx : ∀ w, S w → (execOp (Act.eval ⟨tmps.toArray, defers⟩) o).run P w = .ok (.value v) w) (hS : S w)
    (h : wpAnyW P md l.toArray Q S late fuel (listed.setIfInBounds j true) ⟨(tmps.set d v).toArray, defers⟩ w) : wpAnyW P md l.toArray Q S late (fuel + 1) listed ⟨tmps.toArray, defers⟩ w :=
  wpAnyW_first (by simpa using hi) (Region.noSelect_spec hs) hQ hw fuel listed _ w (Region.free_spec (by simpa using hi) hf) (by simpa using hr) (.inl ⟨hg, hx⟩) hS (by rw [hd]; simpa [Act.put] using h)

theorem run_callG {l : List Oper} {j d : Nat} {o : Oper} {f : FuncId} {args : Array Value} {R : Ending → World → Prop} {tmps : List Value} {defers : List Deferred} {w : World} {K : Act → World → Prop} (hi : l[j]? = some o) (hd : o.dst = some d) (hg : Region.wanted o (yielded l.toArray tmps.toArray) = true)
    (hr : (execOp (Act.eval ⟨tmps.toArray, defers⟩) o).run P w = .ok (.enter f args) w) (hc : Calls P f args w R)
    (h : ∀ e w', R e w' → ∃ v, e = .returned v ∧ K ⟨(tmps.set d v).toArray, defers⟩ w') : wpOp P l.toArray Q j K ⟨tmps.toArray, defers⟩ w := by
  unfold wpOp
  simp only [show l.toArray[j]? = some o by simpa using hi, hg, if_true]
  refine .inl ?_
  unfold Oper.wp
  rw [hr]
  refine hc.mono fun e w' he => ?_
  obtain ⟨v, rfl, hk⟩ := h e w' he
  show K (Act.put _ o.dst v) w'
  rw [hd]
  simpa [Act.put] using hk
end

/-- An act that came in. -/
def ActsAt (w : World) (ao : Option Addr) (A : List (Nat × Int × Nat)) : Prop := ∀ (i : Nat) (q : Nat × Int × Nat), A[i]? = some q → ∃ b off, ao = some ⟨b, off, none⟩ ∧ b < w.heap.size ∧ q.1 < 256 ∧
  w.cell? ⟨b, off + i * 3, none⟩ = some (.int .u8 (q.1 : Int)) ∧ w.cell? ⟨b, off + i * 3 + 1, none⟩ = some (.int .i64 q.2.1) ∧ w.cell? ⟨b, off + i * 3 + 2, none⟩ = some (.int .u64 (q.2.2 : Int))

theorem Pair.cellOld {w0 w : World} {p bt bu r room : Nat} {U : Nat → Bool} {V : Nat → Nat} {L : List (Nat × Nat)} (h : Pair w0 w p bt bu r room U V L) {b o : Nat} (hb : b < w0.heap.size) : w.cell? ⟨b, o, none⟩ = w0.cell? ⟨b, o, none⟩ := h.held.below.cell (p := ⟨b, o, none⟩) hb

/-- The numbers' block: from k on it holds them. -/
def NumBlk (w : World) (g n k : Nat) (M : List Nat) : Prop := ∃ C : Array Value, w.heap[g]? = some (.cells C 3) ∧ n ≤ C.size ∧ ∀ j, k ≤ j → j < n → C[j]? = some (.int .i64 ((M.getD j 0 : Nat) : Int))

theorem OutAt.blk {w0 g cap : Nat} {w : World} {L : List Nat} (h : OutAt w0 w g cap L) : ∃ C : Array Value, w.heap[g]? = some (.cells C 3) ∧ L.length ≤ C.size ∧ ∀ j, j < L.length → C[j]? = some (.int .i64 ((L.getD j 0 : Nat) : Int)) := by
  obtain ⟨h1, h2⟩ := h
  rcases h2 with ⟨h3, _⟩ | ⟨g', cap', cur, h3, h4, h5, h6, h7, h8, h9⟩
  · cases h3
  · simp only [Value.slice.injEq, Option.some.injEq, Addr.mk.injEq, and_true, true_and] at h3
    obtain ⟨rfl, rfl⟩ := h3
    refine ⟨cur, h5, by omega, fun j hj => ?_⟩
    rw [← Array.getElem?_toList]
    have : (cur.toList.take (L.length * 1))[j]? = (ivals L)[j]? := by rw [h9]
    rw [List.getElem?_take_of_lt (by omega)] at this
    rw [this]
    simp [ivals, hj]

/-- What a slot of a switch leaves. -/
structure Left (v11 v12 v13 v14 v15 v16 : Value) : Prop where
  ex : ∃ (g n : Int) (u : Nat), v11 = .int .i64 g ∧ v12 = .int .i64 g ∧ v13 = .int .i64 n ∧ v14 = .int .i64 n ∧ v15 = .int .u64 (u : Int) ∧ v16 = .int .u64 (u : Int)

set_option maxRecDepth 100000 in
set_option maxHeartbeats 3200000 in
theorem play_walk {room : Nat} {ao : Option Addr} {A : List (Nat × Int × Nat)} {c : Nat} (w : World) (ht : TabAt w) (hp : 0 < w.heap.size) (h1 : 1 ≤ room) (h2 : room ≤ 4096) (hA : ActsAt w ao A) (hc : A.length ≤ 100) :
    Calls Tryd.prog 6 #[.int .i64 (room : Int), .slice ao A.length c] w fun e w' => e = .returned (.bool true) ∧ Below w.heap.size w w' := by
  obtain ⟨m, hm⟩ : ∃ m, A.length = m := ⟨_, rfl⟩
  rw [hm] at hc ⊢
  have hm' : ¬ (m : Int) > 100 := by omega
  have HM := Lib.hid hm
  have HA := Lib.hid hA
  clear hm hA
  go_enter Tryd.func6, Tryd.ntmps6
  go_wp2_with fail
  refine (held_new (room := room) w w (Below.refl _ _) ht hp h1 h2).mono ?_
  rintro e w1 ⟨p, bt, bu, rfl, hh⟩
  go_wp2_with fail
  refine (rnew_any (room := room) w1 h1 h2).mono ?_
  rintro e w2 ⟨r, rfl, hr, hrq, hb2⟩
  have hP : Pair w w2 p bt bu r room (fun _ => false) (fun _ => 0) (refL room (fun _ => false) (fun _ => 0)) := by
    have e0 : refL room (fun _ => false) (fun _ => 0) = [] := by simp [refL, nums]
    rw [e0]
    exact ⟨hh.keep hb2, hr _ hh.below.size⟩
  clear hh hr hb2 hrq
  go_wp2_with fail
  go_loopw [10, 11, 12, 13, 14, 15, 16, 17, 18, 9] (fun v10 v11 v12 v13 v14 v15 v16 v17 v18 v9 wr => ∃ (i : Nat) (U : Nat → Bool) (V : Nat → Nat), i ≤ m ∧ v9 = .int .i64 i ∧ Pair w wr p bt bu r room U V (refL room U V)) (fun _ _ _ _ _ _ _ _ _ v9 _ => m - (intOf v9).toNat)
  case atStart => exact ⟨0, _, _, Nat.zero_le _, rfl, hP⟩
  case round =>
    clear hP w1 w2
    obtain ⟨i, U, V, hi, rfl, hP⟩ := hrel
    by_cases hlt : i < m
    · have hlt' : (i : Int) < (m : Int) := by omega
      obtain ⟨q, hq⟩ : ∃ q, A[i]? = some q := ⟨A[i]'(by rw [HM.out]; exact hlt), List.getElem?_eq_getElem _⟩
      obtain ⟨b, off, rfl, hb, hq1, hc0, hc1, hc2⟩ := HA.out i q hq
      obtain ⟨qw, qn, qx⟩ := q
      simp only at hq1 hc0 hc1 hc2
      have HC2 := Lib.hid hc2
      rw [← hP.cellOld hb] at hc0 hc1 hc2
      clear hq
      go_upto_block 2 with fail
      go_cut [11, 12, 13, 14, 15, 16] from 48 to 197 (fun v11 v12 v13 v14 v15 v16 wc => Left v11 v12 v13 v14 v15 v16 ∧ ∃ (U : Nat → Bool) (V : Nat → Nat), Pair w wc p bt bu r room U V (refL room U V))
      case first =>
        have hc2w : ∀ wx U' V' L', Pair w wx p bt bu r room U' V' L' → wx.cell? ⟨b, off + i * 3 + 2, none⟩ = some (.int .u64 (qx : Int)) := fun wx U' V' L' hx => (hx.cellOld hb).trans HC2.out
        have HW := Lib.hid hc2w
        clear hc2w
        by_cases e0 : qw % 4 = 0
        · have k0 : ((qw : Int) % 4 == 0) = true := by simp; omega
          obtain ⟨n, g, U', V', hput, hrput⟩ := pair_put hP qx
          have HR := Lib.hid hrput
          clear e0 hrput
          go_wp2_with fail
          refine hput.mono ?_
          rintro e w3 ⟨rfl, h3⟩
          have c3 := HW.out _ _ _ _ h3
          clear hput hc0 hc1 hc2
          go_wp2_with fail
          refine (HR.out _ h3).mono ?_
          rintro e w4 ⟨rfl, h4⟩
          clear c3 h3
          go_wp2_with fail
          go_meet
          exact ⟨⟨g, n, 0, rfl, rfl, rfl, rfl, rfl, rfl⟩, U', V', h4⟩
        · by_cases e1 : qw % 4 = 1
          · have k0 : ((qw : Int) % 4 == 0) = false := by simp; omega
            have k1 : ((qw : Int) % 4 == 1) = true := by simp; omega
            obtain ⟨u, g, hget, hrget⟩ := pair_get hP qn
            have HR := Lib.hid hrget
            clear e0 e1 hrget
            go_wp2_with fail
            refine hget.mono ?_
            rintro e w3 ⟨rfl, rfl⟩
            clear hget hc0 hc1 hc2
            go_wp2_with fail
            refine HR.out.mono ?_
            rintro e w3 ⟨rfl, rfl⟩
            go_wp2_with fail
            go_meet
            exact ⟨⟨g, 0, u, rfl, rfl, rfl, rfl, rfl, rfl⟩, U, V, hP⟩
          · by_cases e2 : qw % 4 = 2
            · have k0 : ((qw : Int) % 4 == 0) = false := by simp; omega
              have k1 : ((qw : Int) % 4 == 1) = false := by simp; omega
              have k2 : ((qw : Int) % 4 == 2) = true := by simp; omega
              obtain ⟨g, V', hset, hrset⟩ := pair_set hP qn qx
              have HR := Lib.hid hrset
              clear e0 e1 e2 hrset
              go_wp2_with fail
              refine hset.mono ?_
              rintro e w3 ⟨rfl, h3⟩
              have c3 := HW.out _ _ _ _ h3
              clear hset hc0 hc1 hc2
              go_wp2_with fail
              refine (HR.out _ h3).mono ?_
              rintro e w4 ⟨rfl, h4⟩
              clear c3 h3
              go_wp2_with fail
              go_meet
              exact ⟨⟨g, 0, 0, rfl, rfl, rfl, rfl, rfl, rfl⟩, U, V', h4⟩
            · have k0 : ((qw : Int) % 4 == 0) = false := by simp; omega
              have k1 : ((qw : Int) % 4 == 1) = false := by simp; omega
              have k2 : ((qw : Int) % 4 == 2) = false := by simp; omega
              obtain ⟨g, U', hfree, hrfree⟩ := pair_free hP qn
              have HR := Lib.hid hrfree
              clear e0 e1 e2 hrfree
              go_wp2_with fail
              refine hfree.mono ?_
              rintro e w3 ⟨rfl, h3⟩
              clear hfree hc0 hc1 hc2
              go_wp2_with fail
              refine (HR.out _ h3).mono ?_
              rintro e w4 ⟨rfl, h4⟩
              clear h3
              go_wp2_with fail
              go_meet
              exact ⟨⟨g, 0, 0, rfl, rfl, rfl, rfl, rfl, rfl⟩, U', V, h4⟩
      case rest =>
        obtain ⟨⟨g, n, u, rfl, rfl, rfl, rfl, rfl, rfl⟩, U', V', hP'⟩ := hcut
        clear hc0 hc1 hc2 hP
        go_wp2_with fail
        refine (pair_numbers hP').mono ?_
        rintro e w3 ⟨g3, cap, rfl, hg3, hO, hB⟩
        have hlow : w.heap.size ≤ g3 := by rw [← hg3]; exact hP'.held.below.size
        have hP3 := hP'.keep hB
        have hcells := hO.cells
        have hgt := hO.lt.1
        clear hP' hB hg3
        obtain ⟨v, hv, hs⟩ := hP3.ref.ex
        obtain ⟨ad, cp, rfl⟩ := hs.form
        have hrlt := hP3.ref.lt
        have hle : ((nums room U').map Int.ofNat).length ≤ 4096 := by
          rw [List.length_map]; exact Nat.le_trans (cnt_le room U') h2
        rw [refL_len] at hv
        obtain ⟨N, hNl⟩ : ∃ N, (nums room U').length = N := ⟨_, rfl⟩
        have hN2 : cnt room U' = N := hNl
        rw [hN2] at hv
        rw [hNl]
        have hS : Below w3.heap.size w3 w3.drew := (Below.refl _ _).drew
        go_wp2_with fail
        refine wp_regionW (n := 30) (S := fun W => Below w3.heap.size w3 W) (late := fun _ => false) rfl (by kernel_rfl) ?_
        refine takeG (j := 0) (v := .int .i64 g) rfl rfl (by kernel_rfl) (by kernel_rfl) (by kernel_rfl) (by kernel_rfl) (by kernel_rfl) (fun _ _ _ h => h) (fun W hW => exec_move rfl rfl) hS ?_
        simp only [List.set_cons_zero, List.set_cons_succ]
        refine takeG (j := 1) (v := .int .i64 g) rfl rfl (by kernel_rfl) (by kernel_rfl) (by kernel_rfl) (by kernel_rfl) (by kernel_rfl) (fun _ _ _ h => h) (fun W hW => exec_move rfl rfl) hS ?_
        simp only [List.set_cons_zero, List.set_cons_succ]
        refine takeG (j := 2) (v := .bool false) rfl rfl (by kernel_rfl) (by kernel_rfl) (by kernel_rfl) (by kernel_rfl) (by kernel_rfl) (fun _ _ _ h => h) (fun W hW => by go_simp) hS ?_
        simp only [List.set_cons_zero, List.set_cons_succ]
        refine takeG (j := 3) (v := .bool false) rfl rfl (by kernel_rfl) (by kernel_rfl) (by kernel_rfl) (by kernel_rfl) (by kernel_rfl) (fun _ _ _ h => h) (fun W hW => exec_move rfl rfl) hS ?_
        simp only [List.set_cons_zero, List.set_cons_succ]
        refine takeG (j := 4) (v := .int .i64 n) rfl rfl (by kernel_rfl) (by kernel_rfl) (by kernel_rfl) (by kernel_rfl) (by kernel_rfl) (fun _ _ _ h => h) (fun W hW => exec_move rfl rfl) hS ?_
        simp only [List.set_cons_zero, List.set_cons_succ]
        refine takeG (j := 5) (v := .int .i64 n) rfl rfl (by kernel_rfl) (by kernel_rfl) (by kernel_rfl) (by kernel_rfl) (by kernel_rfl) (fun _ _ _ h => h) (fun W hW => exec_move rfl rfl) hS ?_
        simp only [List.set_cons_zero, List.set_cons_succ]
        refine takeG (j := 6) (v := .bool false) rfl rfl (by kernel_rfl) (by kernel_rfl) (by kernel_rfl) (by kernel_rfl) (by kernel_rfl) (fun _ _ _ h => h) (fun W hW => by go_simp) hS ?_
        simp only [List.set_cons_zero, List.set_cons_succ]
        refine takeG (j := 7) (v := .bool false) rfl rfl (by kernel_rfl) (by kernel_rfl) (by kernel_rfl) (by kernel_rfl) (by kernel_rfl) (fun _ _ _ h => h) (fun W hW => by go_simp) hS ?_
        simp only [List.set_cons_zero, List.set_cons_succ]
        refine takeG (j := 8) (v := .bool false) rfl rfl (by kernel_rfl) (by kernel_rfl) (by kernel_rfl) (by kernel_rfl) (by kernel_rfl) (fun _ _ _ h => h) (fun W hW => exec_move rfl rfl) hS ?_
        simp only [List.set_cons_zero, List.set_cons_succ]
        refine takeG (j := 9) (v := .int .u64 (u : Int)) rfl rfl (by kernel_rfl) (by kernel_rfl) (by kernel_rfl) (by kernel_rfl) (by kernel_rfl) (fun _ _ _ h => h) (fun W hW => exec_move rfl rfl) hS ?_
        simp only [List.set_cons_zero, List.set_cons_succ]
        refine takeG (j := 10) (v := .int .u64 (u : Int)) rfl rfl (by kernel_rfl) (by kernel_rfl) (by kernel_rfl) (by kernel_rfl) (by kernel_rfl) (fun _ _ _ h => h) (fun W hW => exec_move rfl rfl) hS ?_
        simp only [List.set_cons_zero, List.set_cons_succ]
        refine takeG (j := 11) (v := .bool false) rfl rfl (by kernel_rfl) (by kernel_rfl) (by kernel_rfl) (by kernel_rfl) (by kernel_rfl) (fun _ _ _ h => h) (fun W hW => by go_simp) hS ?_
        simp only [List.set_cons_zero, List.set_cons_succ]
        refine takeG (j := 12) (v := .bool false) rfl rfl (by kernel_rfl) (by kernel_rfl) (by kernel_rfl) (by kernel_rfl) (by kernel_rfl) (fun _ _ _ h => h) (fun W hW => by go_simp) hS ?_
        simp only [List.set_cons_zero, List.set_cons_succ]
        refine takeG (j := 13) (v := .bool false) rfl rfl (by kernel_rfl) (by kernel_rfl) (by kernel_rfl) (by kernel_rfl) (by kernel_rfl) (fun _ _ _ h => h) (fun W hW => exec_move rfl rfl) hS ?_
        simp only [List.set_cons_zero, List.set_cons_succ]
        refine takeG (j := 14) (v := .pointer (some ⟨p, 0, none⟩)) rfl rfl (by kernel_rfl) (by kernel_rfl) (by kernel_rfl) (by kernel_rfl) (by kernel_rfl) (fun _ _ _ h => h) (fun W hW => exec_move rfl rfl) hS ?_
        simp only [List.set_cons_zero, List.set_cons_succ]
        refine takeG (j := 16) (v := .pointer (some ⟨r, 0, none⟩)) rfl rfl (by kernel_rfl) (by kernel_rfl) (by kernel_rfl) (by kernel_rfl) (by kernel_rfl) (fun _ _ _ h => h) (fun W hW => exec_move rfl rfl) hS ?_
        simp only [List.set_cons_zero, List.set_cons_succ]
        refine takeG (j := 17) (v := .pointer (some ⟨r, 0, none⟩)) rfl rfl (by kernel_rfl) (by kernel_rfl) (by kernel_rfl) (by kernel_rfl) (by kernel_rfl) (fun _ _ _ h => h) (fun W hW => exec_nilCheck rfl rfl) hS ?_
        simp only [List.set_cons_zero, List.set_cons_succ]
        refine takeG (j := 18) (v := .pointer (some ⟨r, 1, none⟩)) rfl rfl (by kernel_rfl) (by kernel_rfl) (by kernel_rfl) (by kernel_rfl) (by kernel_rfl) (fun _ _ _ h => h) (fun W hW => by go_simp) hS ?_
        simp only [List.set_cons_zero, List.set_cons_succ]
        refine takeG (j := 19) (v := .slice ad N cp) rfl rfl (by kernel_rfl) (by kernel_rfl) (by kernel_rfl) (by kernel_rfl) (by kernel_rfl) (fun _ _ _ h => h) (fun W hW => exec_load_cell rfl rfl und60 rfl (RefAt.cell1 ((hW.block r hrlt).trans hv))) hS ?_
        simp only [List.set_cons_zero, List.set_cons_succ]
        refine takeG (j := 20) (v := .int .i64 (N : Int)) rfl rfl (by kernel_rfl) (by kernel_rfl) (by kernel_rfl) (by kernel_rfl) (by kernel_rfl) (fun _ _ _ h => h) (fun W hW => by go_simp) hS ?_
        simp only [List.set_cons_zero, List.set_cons_succ]
        refine oneW 15 (by kernel_rfl) (run_callG (f := 11) (args := #[.pointer (some ⟨p, 0, none⟩)]) rfl rfl (by kernel_rfl) (exec_call1 rfl rfl Tryd.func11 (by decide) rfl) (len_law (hP3.held.slab.keep hS)) ?_)
        rw [hN2]
        rintro e w4 ⟨rfl, rfl⟩
        refine ⟨_, rfl, fun _ => hS, ?_⟩
        simp only [List.set_cons_zero, List.set_cons_succ]
        refine takeG (j := 21) (v := .bool false) rfl rfl (by kernel_rfl) (by kernel_rfl) (by kernel_rfl) (by kernel_rfl) (by kernel_rfl) (fun _ _ _ h => h) (fun W hW => by go_simp) hS ?_
        simp only [List.set_cons_zero, List.set_cons_succ]
        refine takeG (j := 22) (v := .bool false) rfl rfl (by kernel_rfl) (by kernel_rfl) (by kernel_rfl) (by kernel_rfl) (by kernel_rfl) (fun _ _ _ h => h) (fun W hW => by go_simp) hS ?_
        simp only [List.set_cons_zero, List.set_cons_succ]
        refine takeG (j := 23) (v := .bool false) rfl rfl (by kernel_rfl) (by kernel_rfl) (by kernel_rfl) (by kernel_rfl) (by kernel_rfl) (fun _ _ _ h => h) (fun W hW => exec_move rfl rfl) hS ?_
        simp only [List.set_cons_zero, List.set_cons_succ]
        refine takeG (j := 24) (v := .slice (some ⟨g3, 0, none⟩) N cap) rfl rfl (by kernel_rfl) (by kernel_rfl) (by kernel_rfl) (by kernel_rfl) (by kernel_rfl) (fun _ _ _ h => h) (fun W hW => exec_move rfl rfl) hS ?_
        simp only [List.set_cons_zero, List.set_cons_succ]
        refine takeG (j := 25) (v := .pointer (some ⟨r, 0, none⟩)) rfl rfl (by kernel_rfl) (by kernel_rfl) (by kernel_rfl) (by kernel_rfl) (by kernel_rfl) (fun _ _ _ h => h) (fun W hW => exec_move rfl rfl) hS ?_
        simp only [List.set_cons_zero, List.set_cons_succ]
        refine oneW 26 (by kernel_rfl) (run_callG (f := 26) (args := #[.pointer (some ⟨r, 0, none⟩)]) rfl rfl (by kernel_rfl) (exec_call1 rfl rfl Tryd.func26 (by decide) rfl) (pair_rnumbers (hP3.keep hS)) ?_)
        rintro e w5 ⟨ad5, n5, c5, rfl, hn5, hc5, hB5⟩
        have hS5 : Below w3.heap.size w3 w5 := hS.trans (hB5.mono hS.size)
        refine ⟨_, rfl, fun _ => hS5, ?_⟩
        simp only [List.set_cons_zero, List.set_cons_succ]
        have hsame := same_any (c := cap) (d := c5) w5 (hcells.of_block (hS5.block g3 hgt)) hc5 hle hle
        rw [List.length_map, ← hn5] at hsame
        rw [hNl] at hn5
        subst hn5
        refine oneW 27 (by kernel_rfl) (run_callG (f := 25) (args := #[.slice (some ⟨g3, 0, none⟩) n5 cap, .slice ad5 n5 c5]) rfl rfl (by kernel_rfl) (exec_call2 rfl rfl rfl Tryd.func25 (by decide) rfl) hsame ?_)
        rw [beq_self_eq_true]
        rintro e w6 ⟨rfl, hB6⟩
        have hS6 : Below w3.heap.size w3 w6 := hS5.trans (hB6.mono hS5.size)
        refine ⟨_, rfl, fun _ => hS6, ?_⟩
        simp only [List.set_cons_zero, List.set_cons_succ]
        refine takeG (j := 28) (v := .bool false) rfl rfl (by kernel_rfl) (by kernel_rfl) (by kernel_rfl) (by kernel_rfl) (by kernel_rfl) (fun _ _ _ h => h) (fun W hW => by go_simp) hS6 ?_
        simp only [List.set_cons_zero, List.set_cons_succ]
        refine takeG (j := 29) (v := .bool false) rfl rfl (by kernel_rfl) (by kernel_rfl) (by kernel_rfl) (by kernel_rfl) (by kernel_rfl) (fun _ _ _ h => h) (fun W hW => by go_simp) hS6 ?_
        simp only [List.set_cons_zero, List.set_cons_succ]
        refine doneW (by kernel_rfl) ?_ _
        go_wp2_with fail
        have hP6 := hP3.keep hS6
        have hn4 : n5 ≤ 4096 := by rw [← hNl]; exact Nat.le_trans (cnt_le room U') h2
        have hblk : NumBlk w6 g3 n5 0 (nums room U') := by
          obtain ⟨C, q1, q2, q3⟩ := hO.blk
          rw [hNl] at q2 q3
          exact ⟨C, (hS6.block g3 hgt).trans q1, q2, fun j _ hj => q3 j hj⟩
        clear hP3 hO hcells hgt hv hs hrlt hN2 hS hc5 hB5 hS5 hB6 hS6 hle hsame
        go_loopw [11, 12, 15, 16, 18] (fun v11 v12 v15 v16 v18 wr => ∃ k : Nat, k ≤ n5 ∧ v18 = .int .i64 k ∧ Pair w wr p bt bu r room U' V' (refL room U' V') ∧ NumBlk wr g3 n5 k (nums room U')) (fun _ _ _ _ v18 _ => n5 - (intOf v18).toNat)
        case atStart => exact ⟨0, Nat.zero_le _, rfl, hP6, hblk⟩
        case round =>
          clear hP6 hblk w3 w6
          obtain ⟨k, hk, rfl, hP6, hblk⟩ := hrel
          by_cases hkl : k < n5
          · have hkl' : (k : Int) < (n5 : Int) := by omega
            obtain ⟨C, b1, b2, b3⟩ := hblk
            have ck : wr.cell? ⟨g3, k, none⟩ = some (.int .i64 (((nums room U').getD k 0 : Nat) : Int)) := by
              simp only [World.cell?, b1]
              rw [if_neg (by simp)]
              exact b3 k (Nat.le_refl _) hkl
            have B3 := Lib.hid b3
            clear b3
            generalize (nums room U').getD k 0 = z at ck
            obtain ⟨u1, g1, hget, hrget⟩ := pair_get hP6 (z : Int)
            go_wp2_with fail
            refine hget.mono ?_
            rintro e w3 ⟨rfl, rfl⟩
            go_wp2_with fail
            refine hrget.mono ?_
            rintro e w3 ⟨rfl, rfl⟩
            clear hget hrget
            go_wp2_with ((with_reducible refine wl_store1 (ty := 3) (p := .tmp 191) (x := .const (.int .i64 (-1))) (b := g3) (j := k) (v := .int .i64 (-1)) ?_ ?_ ?_ ?_ ?_ ?_ ?_ ?_ b1 ?_ ?_); (exact rfl); (exact rfl); (exact rfl); (exact rfl); (exact rfl); (exact rfl); (exact rfl); (kernel_rfl); (exact Nat.lt_of_lt_of_le hkl b2); intro w6 hw6 hW6)
            refine ⟨⟨k + 1, by omega, by simp, hP6.wrote hW6 ⟨_, b1⟩ hlow, ⟨_, hw6, by rw [Array.size_setIfInBounds]; exact b2, fun j h1 h2 => ?_⟩⟩, ?_⟩
            · rw [Array.getElem?_setIfInBounds, if_neg (by omega)]
              exact B3.out j (by omega) h2
            · simp [intOf]; omega
          · obtain rfl : k = n5 := by omega
            have hkl' : ¬ (k : Int) < (k : Int) := by omega
            clear hblk
            go_wp2_with fail
            refine (pair_numbers hP6).mono ?_
            rintro e w3 ⟨g4, cap4, rfl, hg4, hO, hB⟩
            have hP3 := hP6.keep hB
            have hcells := hO.cells
            have hgt := hO.lt.1
            clear hP6 hB hg4 hO
            go_wp2_with fail
            refine (pair_rnumbers hP3).mono ?_
            rintro e w5 ⟨ad5, n6, c5, rfl, hn6, hc5, hB5⟩
            have hle : ((nums room U').map Int.ofNat).length ≤ 4096 := by
              rw [List.length_map]; exact Nat.le_trans (cnt_le room U') h2
            have hsame2 := same_any (c := cap4) (d := c5) w5 (hcells.of_block (hB5.block g4 hgt)) hc5 hle hle
            have hP5 := hP3.keep hB5
            rw [hNl] at hn6
            subst hn6
            rw [List.length_map, hNl, beq_self_eq_true] at hsame2
            clear hP3 hcells hgt hc5 hB5 hle
            go_wp2_with fail
            refine hsame2.mono ?_
            rintro e w6 ⟨rfl, hB6⟩
            have hP6 := hP5.keep hB6
            clear hP5 hB6 hsame2
            go_wp2_with fail
            go_roundw
            case rel => exact ⟨i + 1, U', V', by omega, by simp, hP6⟩
            case measure => simp [intOf]; omega
    · obtain rfl : i = m := by omega
      have hlt' : ¬ (i : Int) < (i : Int) := by omega
      go_wp2_with fail
      refine (lives_any _ hP.held.tabAt (Nat.lt_of_lt_of_le hp hP.held.below.size)).mono ?_
      rintro e w6 ⟨rfl, hb⟩
      have hb2 := hP.held.below.trans (hb.mono hP.held.below.size)
      clear hP hb
      go_wp2
      go_ret
      exact ⟨rfl, hb2⟩

end Go.Proofs.YtghphopbfamclaaDoor
