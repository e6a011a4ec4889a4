/- Numbers. -/
import Derived.Test.YtghphopbfamclaaDoorG
namespace Go.Proofs.YtghphopbfamclaaDoor
open Go.RowKit

/-- The numbers below m that are set. -/
def numsTo (ws : List Nat) (m : Nat) : List Nat := (List.range m).filter (bitOf ws)

theorem numsTo_succ (ws : List Nat) (m : Nat) : numsTo ws (m + 1) = numsTo ws m ++ (if bitOf ws m then [m] else []) := by
  unfold numsTo
  rw [List.range_succ, List.filter_append]
  cases h : bitOf ws m <;> simp [h]

theorem numsTo_skip (ws : List Nat) {a : Nat} : ∀ d, (∀ j, a ≤ j → j < a + d → bitOf ws j = false) → numsTo ws (a + d) = numsTo ws a
  | 0, _ => rfl
  | d + 1, h => by
    rw [← Nat.add_assoc, numsTo_succ, h (a + d) (by omega) (by omega)]
    simp
    exact numsTo_skip ws d fun j h1 h2 => h j h1 (by omega)

theorem numsTo_le (ws : List Nat) {a b : Nat} (h : a ≤ b) : (numsTo ws a).length ≤ (numsTo ws b).length := by
  obtain ⟨d, rfl⟩ := Nat.exists_eq_add_of_le h
  clear h
  induction d with
  | zero => exact Nat.le_refl _
  | succ d ih => rw [← Nat.add_assoc, numsTo_succ, List.length_append]; omega

/-- The cells of a list of numbers. -/
def ivals (l : List Nat) : List Value := l.map fun x : Nat => Value.int .i64 (x : Int)

def OutAt (w0 : Nat) (w : World) (g cap : Nat) (L : List Nat) : Prop := w.ownsRow w0 3 1 (.slice (some ⟨g, 0, none⟩) L.length cap) L.length (ivals L)

theorem OutAt.of_block {w0 g cap : Nat} {w w' : World} {L : List Nat} (h : OutAt w0 w g cap L) (he : w'.heap[g]? = w.heap[g]?) : OutAt w0 w' g cap L := by
  obtain ⟨h1, h2⟩ := h
  refine ⟨h1, ?_⟩
  rcases h2 with ⟨h3, _⟩ | ⟨g', cap', cur, h3, h4, h5, h6⟩
  · cases h3
  · simp only [Value.slice.injEq, Option.some.injEq, Addr.mk.injEq, and_true, true_and] at h3
    obtain ⟨rfl, rfl⟩ := h3
    exact .inr ⟨g, cap, cur, rfl, h4, he.trans h5, h6⟩
theorem OutAt.lt {w0 g cap : Nat} {w : World} {L : List Nat} (h : OutAt w0 w g cap L) : g < w.heap.size ∧ w0 ≤ g := by
  obtain ⟨h1, h2⟩ := h
  rcases h2 with ⟨h3, _⟩ | ⟨g', cap', cur, h3, h4, h5, h6⟩
  · cases h3
  · simp only [Value.slice.injEq, Option.some.injEq, Addr.mk.injEq, and_true, true_and] at h3
    obtain ⟨rfl, rfl⟩ := h3
    exact ⟨(Array.getElem?_eq_some_iff.1 h5).1, h4⟩
theorem OutAt.alloc {w0 g cap : Nat} {w : World} {L : List Nat} (h : OutAt w0 w g cap L) (o : Obj) : OutAt w0 (w.alloc o) g cap L :=
  h.of_block (Below.heap_alloc _ _ _ h.lt.1)
theorem new_cell (w : World) (v : Value) (t : TypeId) : (w.alloc (.cells #[v] t)).cell? ⟨w.heap.size, 0, none⟩ = some v := by
  have h := heap_alloc_new w (.cells #[v] t)
  simp only [World.cell?, h]
  rfl

section
variable {ops : Array Oper} {Q : Exit → Act → World → Prop} {a : Act} {w : World} {rest : List Oper}

theorem info3 : (Tryd.prog.info? 3).map (fun i => (i.zero, i.size, i.bytes)) = some (some (.int .i64 0), 1, 8) := by kernel_rfl
theorem und36 : Tryd.prog.underlying 36 = some (.slice 3) := by kernel_rfl

theorem wl_make_out {o : Oper} {l c : Operand} {n : Nat} (hg : o.guard = none) (hop : o.op = .makeSlice 36 l c) (hl : a.eval l = .int .i64 0) (hc : a.eval c = .int .i64 (n : Int)) (hn : n ≤ 4096)
    (hK : ∀ w', OutAt w.heap.size w' w.heap.size n [] → w.grownBy w' none → wpList Tryd.prog ops Q rest (a.put o.dst (.slice (some ⟨w.heap.size, 0, none⟩) 0 n)) w') : wpList Tryd.prog ops Q (o :: rest) a w := by
  obtain ⟨i, h1, h2, h3, h4⟩ := info_parts info3
  exact wpList_make_own w hg l c 36 hop w.heap.size 3 i (.int .i64 0) 1 und36 h1 h2 h3 .i64 .i64 (n : Int) n hl hc rfl (by rw [h4]; omega) (Nat.le_trans hn (by decide)) (Nat.le_refl _) hK

theorem wl_append_out {o : Oper} {s x : Operand} {w0 g cap b v : Nat} {L : List Nat} (hg : o.guard = none) (hop : o.op = Op.call { callee := Callee.builtin Builtin.append, args := #[s, x], argTypes := #[36, 36] })
    (hs : a.eval s = .slice (some ⟨g, 0, none⟩) L.length cap) (hx : a.eval x = .slice (some ⟨b, 0, none⟩) 1 1) (hown : OutAt w0 w g cap L) (hc : w.cell? ⟨b, 0, none⟩ = some (.int .i64 (v : Int))) (hlt : L.length < cap)
    (hK : ∀ w', OutAt w0 w' g cap (L ++ [v]) → w.grownBy w' (some g) → wpList Tryd.prog ops Q rest (a.put o.dst (.slice (some ⟨g, 0, none⟩) (L ++ [v]).length cap)) w') : wpList Tryd.prog ops Q (o :: rest) a w := by
  obtain ⟨i, h1, h2, h3, h4⟩ := info_parts info3
  refine wpList_append_fits w hg s x 36 hop w0 3 i 1 und36 h1 h3 g L.length cap (ivals L) hs hown ⟨b, 0, none⟩ 1 1 [.int .i64 (v : Int)] hx rfl ?_ ?_ hlt ?_
  · intro j u hu
    cases j with
    | zero => simp at hu; subst hu; exact hc
    | succ j => simp at hu
  · intro u hu; simp at hu; subst hu; rfl
  · intro w' h5 h6
    have e : (L ++ [v]).length = L.length + 1 := by simp
    rw [e] at hK
    refine hK w' ?_ h6
    unfold OutAt
    rw [e]
    simpa [ivals] using h5
end

theorem below_of_grown {w w' : World} (h : w.grownBy w' none) : Below w.heap.size w w' := ⟨h.os, h.tape, h.output, h.size, fun k hk => h.block k hk (by simp)⟩
theorem below_of_grown_at {B g : Nat} {w0 w w' : World} (h : w.grownBy w' (some g)) (hb : Below B w0 w) (hB : B ≤ g) (hw : B ≤ w.heap.size) : Below B w0 w' :=
  ⟨h.os.trans hb.os, h.tape.trans hb.tape, h.output.trans hb.output, Nat.le_trans hb.size h.size, fun k hk => (h.block k (by omega) (by simp; omega)).trans (hb.block k hk)⟩

theorem SlabIn.lts {w : World} {p bt bu room many : Nat} {ws X : List Nat} (h : SlabIn w p bt bu room ws X many) : p < w.heap.size ∧ bt < w.heap.size ∧ bu < w.heap.size :=
  ⟨(Array.getElem?_eq_some_iff.1 h.head).1, (Array.getElem?_eq_some_iff.1 h.things).1, (Array.getElem?_eq_some_iff.1 h.used).1⟩

theorem SlabIn.keepB {B : Nat} {w w' : World} {p bt bu room many : Nat} {ws X : List Nat} (h : SlabIn w p bt bu room ws X many) (hb : Below B w w') (h1 : p < B) (h2 : bt < B) (h3 : bu < B) : SlabIn w' p bt bu room ws X many :=
  ⟨(hb.block _ h1).trans h.head, (hb.block _ h2).trans h.things, (hb.block _ h3).trans h.used, h.lenX, h.lenW, h.small, h.least, h.most⟩
theorem SlabIn.keep {w w' : World} {p bt bu room many : Nat} {ws X : List Nat} (h : SlabIn w p bt bu room ws X many) (hb : Below w.heap.size w w') : SlabIn w' p bt bu room ws X many :=
  h.keepB hb h.lts.1 h.lts.2.1 h.lts.2.2

theorem numbers_nil (w : World) : Calls Tryd.prog 12 #[.pointer none] w fun e w' => e = .returned (.slice none 0 0) ∧ w = w' := by
  go_enter Tryd.func12, Tryd.ntmps12
  go_wp2
  go_ret
  exact ⟨rfl, rfl⟩

theorem exec_and_nat {P : Program} {a : Act} {w : World} {o : Oper} {x y : Operand} {t t' m n : Nat} (ho : o.op = .binOp .and t x y t') (hx : a.eval x = .int .u64 (m : Int)) (hy : a.eval y = .int .u64 (n : Int)) (hm : m < 18446744073709551616) (hn : n < 18446744073709551616) : (execOp a.eval o).run P w = .ok (.value (.int .u64 ((m &&& n : Nat) : Int))) w := by
  unfold execOp
  simp only [ho, hx, hy]
  simp [go_sem, u64_and_nat m n hm hn]

theorem nums_end {ws : List Nat} {i c : Nat} (h : ∀ j, j < 64 → (0 : Nat).testBit j = (decide (c ≤ j) && bitOf ws (64 * i + j))) (hc : c ≤ 64) : numsTo ws (64 * i + c) = numsTo ws (64 * (i + 1)) := by
  have := numsTo_skip ws (a := 64 * i + c) (64 - c) fun j h1 h2 => by
    have := h (j - 64 * i) (by omega)
    rw [Nat.zero_testBit, decide_eq_true (by omega), Bool.true_and, show 64 * i + (j - 64 * i) = j by omega] at this
    exact this.symm
  rw [show 64 * i + c + (64 - c) = 64 * (i + 1) by omega] at this
  exact this.symm

theorem nums_next {ws : List Nat} {i c x k : Nat} (h : ∀ j, j < 64 → x.testBit j = (decide (c ≤ j) && bitOf ws (64 * i + j))) (hk : k < 64) (hl : Low x k) :
    c ≤ k ∧ numsTo ws (64 * i + (k + 1)) = numsTo ws (64 * i + c) ++ [64 * i + k] := by
  have h1 := h k hk
  rw [hl.set] at h1
  have h2 := (Bool.and_eq_true _ _ ▸ h1.symm : decide (c ≤ k) = true ∧ bitOf ws (64 * i + k) = true)
  have hck : c ≤ k := by simpa using h2.1
  refine ⟨hck, ?_⟩
  have := numsTo_skip ws (a := 64 * i + c) (k - c) fun j h3 h4 => by
    have h5 := h (j - 64 * i) (by omega)
    rw [hl.min _ (by omega), decide_eq_true (by omega), Bool.true_and, show 64 * i + (j - 64 * i) = j by omega] at h5
    exact h5.symm
  rw [show 64 * i + c + (k - c) = 64 * i + k by omega] at this
  rw [← Nat.add_assoc, numsTo_succ, h2.2, this]
  rfl

set_option maxHeartbeats 800000 in
theorem numbers_any {p bt bu room many : Nat} {ws X : List Nat} (w : World) (hs : SlabIn w p bt bu room ws X many) (ht : TabAt w) (hw0 : 0 < w.heap.size) (hm : many = (numsTo ws (64 * ((room + 63) / 64))).length) (hmr : many ≤ room) :
    Calls Tryd.prog 12 #[.pointer (some ⟨p, 0, none⟩)] w fun e w' => ∃ g cap L, e = .returned (.slice (some ⟨g, 0, none⟩) L.length cap) ∧ L = numsTo ws (64 * ((room + 63) / 64)) ∧ w.heap.size = g ∧ OutAt w.heap.size w' g cap L ∧ Below w.heap.size w w' := by
  have c2 := hs.cell2
  have hr := hs.most
  have hms : many ≤ 4096 := by omega
  have HM := Lib.hid hm
  clear hm
  go_enter Tryd.func12, Tryd.ntmps12
  go_wp2_with ((with_reducible refine wl_make_out (l := .const (.int .i64 0)) (c := .tmp 11) (n := many) ?_ ?_ ?_ ?_ hms ?_); (exact rfl); (exact rfl); (exact rfl); (exact rfl); intro w1 ho1 hg1; have hb1 := below_of_grown hg1; have hs1 := hs.keep hb1; have c1 := hs1.cell1)
  clear c1 c2 hg1
  go_loopw [3, 4, 5, 18] (fun v3 v4 v5 v18 wr => ∃ (i : Nat) (L : List Nat), i ≤ (room + 63) / 64 ∧ v18 = .int .i64 i ∧ v3 = .slice (some ⟨w.heap.size, 0, none⟩) L.length many ∧ Hid (L = numsTo ws (64 * i)) ∧ OutAt w.heap.size wr w.heap.size many L ∧ Below w.heap.size w wr)
    (fun _ _ _ v18 _ => (room + 63) / 64 - (intOf v18).toNat)
  case atStart => exact ⟨0, [], Nat.zero_le _, rfl, rfl, Lib.hid rfl, ho1, hb1⟩
  case round =>
    clear ho1 hb1 hs1 w1
    obtain ⟨i, L, hi, rfl, rfl, HL, ho, hb⟩ := hrel
    have hsr := hs.keep hb
    have htr : TabAt wr := ht.of_block (hb.block 0 hw0)
    by_cases hlt : i < (room + 63) / 64
    · have hlt' : (i : Int) < ((room : Int) + 63) / 64 := by omega
      have c3 := ncells_at hsr.used (j := i) (by rw [hsr.lenW]; exact hlt)
      have hy := getD_word (i := i) hsr.small
      go_wp2
      clear c3
      have hn64 : numsTo ws (64 * i + 64) = numsTo ws (64 * (i + 1)) := rfl
      have HN := Lib.hid hn64
      clear hn64
      go_loopw [3, 5] (fun v3 v5 w4 => ∃ (c x : Nat) (M : List Nat), c ≤ 64 ∧ x < 18446744073709551616 ∧ v5 = .int .u64 (x : Int) ∧ v3 = .slice (some ⟨w.heap.size, 0, none⟩) M.length many ∧ Hid (∀ j, j < 64 → x.testBit j = (decide (c ≤ j) && bitOf ws (64 * i + j))) ∧ Hid (M = numsTo ws (64 * i + c)) ∧ OutAt w.heap.size w4 w.heap.size many M ∧ Below w.heap.size w w4)
        (fun _ v5 _ => (intOf v5).toNat)
      case atStart =>
        refine ⟨0, _, L, by omega, hy, rfl, rfl, Lib.hid fun j hj => ?_, HL, ho, hb⟩
        unfold bitOf
        rw [show (64 * i + j) / 64 = i by omega, show (64 * i + j) % 64 = j by omega]
        simp
      case round =>
        clear ho hb hsr htr
        obtain ⟨c, x, M, hc, hx, rfl, rfl, HB, HM2, ho, hb⟩ := hrel
        have hsr := hs.keep hb
        have htr : TabAt wr := ht.of_block (hb.block 0 hw0)
        by_cases hx0 : x = 0
        · subst hx0
          go_wp2
          go_roundw
          case rel =>
            refine ⟨i + 1, M, by omega, by simp, rfl, Lib.hid ?_, ho, hb⟩
            rw [HM2.out]
            exact nums_end HB.out hc
          case measure => simp [intOf]; omega
        · obtain ⟨k, hk, hl⟩ := low_exists (by omega : 0 < x) hx
          have hne : ((x : Int) == 0) = false := by simp; omega
          have e1 : IntKind.u64.wrap ((x : Int) - 1) = ((x - 1 : Nat) : Int) := by rw [IntKind.wrap_u64]; omega
          have e2 : ((x : Int) - 1) = ((x - 1 : Nat) : Int) := by omega
          have e3 : (i : Int) * 64 + (k : Int) = ((64 * i + k : Nat) : Int) := by omega
          have hx1 : x - 1 < 18446744073709551616 := by omega
          have hnx := nums_next HB.out hk hl
          have hck := hnx.1
          have hM : M ++ [64 * i + k] = numsTo ws (64 * i + (k + 1)) := by rw [HM2.out]; exact hnx.2.symm
          have hfit : M.length < many := by
            have h1 : (M ++ [64 * i + k]).length ≤ many := by
              rw [hM, HM.out]; exact numsTo_le ws (by omega)
            rw [List.length_append] at h1
            simp at h1
            omega
          have HM3 := Lib.hid hM
          clear hM hnx
          go_wp2_with fail
          refine (tz_any hx hk hl _ htr).mono ?_
          rintro e w1 ⟨rfl, rfl⟩
          go_wp2_with (first
            | ((with_reducible refine wl_append_out (s := .tmp 29) (x := .tmp 35) (w0 := w.heap.size) (g := w.heap.size) (cap := many) (b := wr.heap.size) (v := 64 * i + k) (L := M) ?_ ?_ ?_ ?_ (ho.alloc _) (new_cell _ _ _) hfit ?_); (exact rfl); (exact rfl); (exact rfl); (exact rfl); intro w5 ho5 hg5)
            | ((with_reducible refine wpList_run (v := .int .u64 ((x &&& (x - 1) : Nat) : Int)) ?_ (exec_and_nat (t := 22) (t' := 22) (x := .tmp 25) (y := .tmp 27) ?_ ?_ ?_ hx hx1) ?_); (exact rfl); (exact rfl); (exact rfl); (exact rfl)))
          have hlow : x &&& (x - 1) < x := Nat.lt_of_le_of_lt Nat.and_le_right (by omega)
          refine ⟨⟨k + 1, x &&& (x - 1), M ++ [64 * i + k], by omega, Nat.lt_of_le_of_lt Nat.and_le_left hx, rfl, by simp, Lib.hid fun j hj => ?_, HM3, ho5, ?_⟩, ?_⟩
          · rw [hl.clear]
            by_cases h1 : j < k + 1
            · rw [decide_eq_false (by omega : ¬ k + 1 ≤ j), Bool.false_and]
              by_cases h2 : j = k
              · subst h2; simp
              · rw [hl.min j (by omega), Bool.false_and]
            · rw [HB.out j hj, decide_eq_true (by omega : c ≤ j), decide_eq_true (by omega : k + 1 ≤ j), decide_eq_true (by omega : j ≠ k)]
              simp
          · exact below_of_grown_at hg5 (hb.alloc hb.size _) (Nat.le_refl _) (by have := hb.size; simp; omega)
          · show ((x &&& (x - 1) : Nat) : Int).toNat < ((x : Nat) : Int).toNat
            rw [Int.toNat_natCast, Int.toNat_natCast]
            exact hlow
    · have hlt' : ¬ ((i : Int) < ((room : Int) + 63) / 64) := by omega
      obtain rfl : i = (room + 63) / 64 := by omega
      go_wp2
      go_ret
      exact ⟨_, _, L, rfl, HL.out, rfl, ho, hb⟩

end Go.Proofs.YtghphopbfamclaaDoor
