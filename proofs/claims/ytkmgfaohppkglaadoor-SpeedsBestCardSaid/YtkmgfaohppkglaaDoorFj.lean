/- SpeedsPick: the walk. -/
import Derived.Test.YtkmgfaohppkglaaDoorFi
import Derived.Laws.OwnMore
set_option linter.unusedVariables false
namespace Go.Proofs.YtkmgfaohppkglaaDoor
open Go.RowKit

def fvals (F : List Nat) : List Value := F.map (Value.float .f64)

theorem info23 : (Tryd.prog.info? 23).map (fun i => (i.zero, i.size, i.bytes)) = some (some (.float .f64 0), 1, 8) := by kernel_rfl

theorem FloatsAt.keep {w w' : World} {ao : Option Addr} {F : List Nat} (h : FloatsAt w ao F) (hb : Below w.heap.size w w') : FloatsAt w' ao F := fun j hj => by
  obtain ⟨b, off, h1, h2, h3⟩ := h j hj
  exact ⟨b, off, h1, Nat.lt_of_lt_of_le h2 hb.size, (hb.cell (p := ⟨b, off + j, none⟩) h2).trans h3⟩
theorem FloatsAt.dr {w w' : World} {ao : Option Addr} {F : List Nat} (h : FloatsAt w ao F) (hd : Dr w w') : FloatsAt w' ao F := h.keep (hd.below _)

theorem fvals_get (F : List Nat) (j : Nat) : (fvals F)[j]? = (F[j]?).map (Value.float .f64) := by simp [fvals]

/-- A copy of a slice of floats, by append. -/
theorem wl_copy {ops : Array Oper} {Q : Exit → Act → World → Prop} {a : Act} {w : World} {rest : List Oper} {dst : Option Tmp} {s x : Operand} {ty : TypeId} {pos : String} {after : Array Edge} {ao : Option Addr} {c : Nat} {F : List Nat}
    (hs : a.eval s = .slice none 0 0) (hx : a.eval x = .slice ao F.length c) (hF : FloatsAt w ao F) (hn : ao = none → c = 0 ∧ F = []) (hlen : F.length ≤ 100)
    (K : ∀ ad c' w', FloatsAt w' ad F → Below w.heap.size w w' → wpList Tryd.prog ops Q rest (a.put dst (.slice ad F.length c')) w') :
    wpList Tryd.prog ops Q (⟨dst, .call { callee := .builtin .append, args := #[s, x], argTypes := #[28, 28] }, ty, pos, after, none⟩ :: rest) a w := by
  obtain ⟨i0, hi, hz0, hz1, hz2⟩ := info_parts info23
  cases ao with
  | none =>
    obtain ⟨rfl, rfl⟩ := hn rfl
    have hrun := run_append_owned_none (P := Tryd.prog) (w := w) w.heap.size 28 ty 23 i0 1 Tryd.underlying28 hi (.slice none 0 0) 0 [] (World.ownsRow_nil _ _ _ _)
    refine wpList_run (v := .slice none 0 0) (w' := w) rfl ?_ (K none 0 w hF (Below.refl _ _))
    simp [execOp, resolve, invoke, builtin, hs, hx, hrun, Result.andThen]
  | some ad =>
    have hnews : ∀ (j : Nat) (u : Value), (fvals F)[j]? = some u → w.cell? (ad.add j) = some u := by
      intro j u hu
      rw [fvals_get] at hu
      have hj : j < F.length := by
        by_cases hj : j < F.length
        · exact hj
        · rw [List.getElem?_eq_none (by omega)] at hu; cases hu
      obtain ⟨b, off, e, _, h3⟩ := hF j hj
      obtain rfl := Option.some.inj e
      have hadd : (⟨b, off, none⟩ : Addr).add j = ⟨b, off + j, none⟩ := by unfold Addr.add; split <;> simp_all
      rw [hadd, h3]
      rw [List.getElem?_eq_getElem hj] at hu
      simp only [Option.map_some, Option.some.injEq] at hu
      rw [← hu]
      simp [hj]
    obtain ⟨v', w', hrun, hown, hgr, _⟩ := run_append_own (P := Tryd.prog) w w.heap.size 28 ty 23 i0 (.float .f64 0) 1 8 Tryd.underlying28 hi hz0 hz1 hz2 rfl (by decide) (.slice none 0 0) 0 [] (World.ownsRow_nil _ _ _ _) ad F.length c (fvals F) (by simp [fvals])
      hnews (fun u hu => by simp [fvals] at hu; obtain ⟨n, _, rfl⟩ := hu; rfl) (by unfold maxLen; omega) (by omega) (Nat.le_refl _)
    rw [Nat.zero_add, List.nil_append] at hown
    have hB : Below w.heap.size w w' := (Below.refl _ _).grown hgr (Nat.le_refl _) (fun k hk => by cases hk)
    have hform : ∃ a2 c2, v' = .slice a2 F.length c2 := by
      rcases hown.2 with ⟨h1, h2⟩ | ⟨g, cap, _, h1, _⟩
      · exact ⟨none, 0, by rw [h1, h2]⟩
      · exact ⟨_, _, h1⟩
    obtain ⟨a2, c2, rfl⟩ := hform
    refine wpList_run (v := .slice a2 F.length c2) (w' := w') rfl ?_ (K a2 c2 w' ?_ hB)
    · simp [execOp, resolve, invoke, builtin, hs, hx, hrun, Result.andThen]
    · intro j hj
      rcases hown.2 with ⟨h1, h2⟩ | ⟨g, cap, cur, h1, h2, h3, _⟩
      · omega
      · simp only [Value.slice.injEq] at h1
        obtain ⟨rfl, _, rfl⟩ := h1
        have hc := World.ownsRow.cells hown (g := g) rfl j (.float .f64 (F.getD j 0)) (by rw [fvals_get, List.getElem?_eq_getElem hj]; simp [hj])
        have hadd : (⟨g, 0, none⟩ : Addr).add j = ⟨g, 0 + j, none⟩ := by unfold Addr.add; split <;> simp_all
        rw [hadd] at hc
        exact ⟨g, 0, rfl, (Array.getElem?_eq_some_iff.1 h3).1, hc⟩

set_option maxHeartbeats 800000 in
theorem pickl_great {mask m c : Nat} {ao : Option Addr} (w : World) (ht : TabAt w) (hm : 100 < m) (hm2 : m ≤ maxLen) :
    Calls Tryd.prog 4 #[.int .u64 (mask : Int), .slice ao m c] w fun e w' => e = .returned (.bool true) ∧ Below w.heap.size w w' := by
  unfold maxLen at hm2
  have hm' : (m : Int) > 100 := by omega
  have hl := lives_any w ht ht.lt
  go_enter Tryd.func4, Tryd.ntmps4
  go_wp2_with fail
  refine hl.mono ?_
  rintro e w1 ⟨rfl, hb⟩
  clear hl
  go_wp2
  go_ret
  exact ⟨rfl, hb⟩

set_option maxRecDepth 20000 in
set_option maxHeartbeats 1600000 in
theorem pickl_walk {mask c : Nat} {ao : Option Addr} {F : List Nat} (w : World) (ht : TabAt w) (hm : mask < 18446744073709551616) (hF : FloatsAt w ao F) (hn : ao = none → c = 0 ∧ F = []) (hlen : F.length ≤ 100) :
    Calls Tryd.prog 4 #[.int .u64 (mask : Int), .slice ao F.length c] w fun e w' => e = .returned (.bool true) ∧ Below w.heap.size w w' := by
  obtain ⟨len, hl⟩ : ∃ len, F.length = len := ⟨_, rfl⟩
  have hcopy := fun (ops : Array Oper) (Q : Exit → Act → World → Prop) (a : Act) (rest : List Oper) (dst : Option Tmp) (s x : Operand) (ty : TypeId) (pos : String) (after : Array Edge) h1 h2 K => @wl_copy ops Q a w rest dst s x ty pos after ao c F h1 h2 hF hn hlen K
  rw [hl] at hlen hcopy ⊢
  have hlen' : ¬ (len : Int) > 100 := by omega
  have HL := Lib.hid hl
  have HF := Lib.hid hF
  have HC := Lib.hid hcopy
  clear hl hF hn hcopy
  go_enter Tryd.func4, Tryd.ntmps4
  go_wp2_with ((with_reducible refine HC.out _ _ _ _ _ (.const (.slice none 0 0)) (.tmp 15) _ _ _ ?_ ?_ ?_); (exact rfl); (exact rfl); intro ad c' w1 hF1 hB1)
  have ht1 := ht.keep hB1 ht.lt
  have hp := pick_any (cap := c') w1 hm ht1 ht1.lt hF1
  rw [HL.out] at hp
  refine hp.mono ?_
  rintro e w2 ⟨rfl, hB2⟩
  have hF2 := hF1.keep hB2
  have hF2' := (HF.out.keep hB1).keep hB2
  have hB12 := hB1.trans (hB2.mono hB1.size)
  clear hp hB1 hB2 hF1 ht1
  go_wp2_with fail
  have hr := rpick_any (cap := c) w2 hm hF2' (by rw [HL.out]; exact hlen)
  rw [HL.out] at hr
  refine hr.mono ?_
  rintro e w3 ⟨rfl, hD3⟩
  have HF3 := Lib.hid (hF2.dr hD3)
  have HF3' := Lib.hid (hF2'.dr hD3)
  have hB13 := hB12.trans (hD3.below _)
  have ht3 := ht.keep hB13 ht.lt
  clear hr hB12 hF2 hF2' hD3 HF ht
  generalize pickTo mask F 64 = s
  obtain ⟨wk, ok⟩ := s
  go_wp2_with fail
  go_loopw [10] (fun v10 wr => ∃ i : Nat, i ≤ len ∧ v10 = .int .i64 i ∧ Dr w3 wr) (fun v10 _ => len - (intOf v10).toNat)
  case atStart => exact ⟨0, Nat.zero_le _, rfl, Dr.refl _⟩
  case round =>
    obtain ⟨i, hi, rfl, hD⟩ := hrel
    by_cases hlt : i < len
    · have hlt' : (i : Int) < (len : Int) := by omega
      obtain ⟨b, off, rfl, hb, hc1⟩ := HF3.out i (by rw [HL.out]; exact hlt)
      obtain ⟨b2, off2, rfl, hb2, hc2⟩ := HF3'.out i (by rw [HL.out]; exact hlt)
      rw [← hD.cell] at hc1 hc2
      generalize F.getD i 0 = x at hc1 hc2
      have hsc : ∀ m, Calls Tryd.prog 8 #[.float .f64 x, .float .f64 x] (wr.drewN m) fun e w' => e = .returned (.bool true) ∧ ∃ m, w' = wr.drewN m := fun m =>
        (same_any x x _).mono fun e w' ⟨h1, h2⟩ => ⟨by rw [h1, sameF_self], m, h2.symm⟩
      have HSC := Lib.hid hsc
      clear hsc hb hb2
      go_wp2
      refine wp_region_quiet_lit (by kernel_rfl) (by kernel_rfl) ?_
      repeat go_big_quiet_step ((go_at_call 8; exact HSC.out _))
      refine wpQuiet_nil ?_
      intro wz hwz
      have hD2 := hD.more hwz
      clear hwz hD hc1 hc2
      go_wp2
      go_roundw
      case rel => exact ⟨i + 1, by omega, by go_num, hD2⟩
      case measure => simp [intOf]; omega
    · obtain rfl : i = len := by omega
      have hlt' : ¬ (i : Int) < (i : Int) := by omega
      have hB4 := hB13.trans (hD.below w.heap.size)
      have ht4 := ht3.of_block (show wr.heap[1]? = w3.heap[1]? by rw [hD.heap])
      have hl := lives_any wr ht4 ht4.lt
      clear HF3 HF3' hB13 ht3 hD ht4
      go_wp2_with fail
      refine hl.mono ?_
      rintro e w5 ⟨rfl, hb⟩
      clear hl
      go_wp2
      go_ret
      exact ⟨rfl, hB4.trans (hb.mono hB4.size)⟩

end Go.Proofs.YtkmgfaohppkglaaDoor
