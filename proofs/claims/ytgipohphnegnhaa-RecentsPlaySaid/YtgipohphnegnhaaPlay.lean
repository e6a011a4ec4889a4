/- For whatever list of 16-bit numbers (nil too), 16-bit number and 32-byte hash, the law RecentsPlay returns true; its arguments read as they did; the memory that was there is as it was. No condition. -/
import Derived.Test.YtgipohphnegnhaaRows
import Derived.Test.YtgipohphnegnhaaK
namespace Go.Proofs.Ytgipohphnegnhaa.recentsPlay
open Go.ChangeShapes Go.WideShapes Go.ChangeAt Go.RowKit
set_option linter.unusedVariables false

theorem own : ownKnob Try.prog.godebug = none := by kernel_rfl
theorem laidOut : laidOutB Try.prog = true := by kernel_rfl

set_option maxRecDepth 40000 in
set_option maxHeartbeats 1000000 in
theorem play_great (a0 : Option Addr) (len cap : Nat) (a1 : Int) (ask : List Int) (w : World) (hlen : len ≤ maxLen) (hsm : ¬ len ≤ 500) :
    Calls Try.prog 4 #[.slice a0 len cap, .int .u16 a1, hv ask] w fun e w' => e = .returned (.bool true) ∧ Below w.heap.size w w' := by
  unfold maxLen at hlen
  have hsm' : (500 : Int) < (len : Int) := by omega
  go_enter Try.func4, Try.ntmps4
  go_wp2_with (first
    | ((with_reducible refine wl_box26 (h := ask) ?_ ?_); (exact rfl))
    | (go_at_call 11; refine (lives_any _).mono ?_; rintro e w' ⟨rfl, hk⟩))
  go_ret
  exact ⟨rfl, ((Below.refl _ _).alloc (Nat.le_refl _) _).trans (hk.mono (by simp))⟩

theorem walk (v0 : Value) (a1 : Int) (ask : List Int) (hask : ask.length = 32) (w : World) (w1 : (Lit.int .u16 a1).wf = true) (h0 : ∃ a len cap zs, v0 = .slice a len cap ∧ IsRow .u16 w a len cap zs) :
    Calls Try.prog 4 #[v0, .int .u16 a1, hv ask] w fun e w' => e = .returned (.bool true) ∧ Below w.heap.size w w' := by
  have hu : 0 ≤ a1 ∧ a1 < 65536 := by
    simp [Lit.wf, IntKind.min, IntKind.max, IntKind.bits, IntKind.signed] at w1
    omega
  obtain ⟨a, len, cap, zs, rfl, hrow⟩ := h0
  have hlen : len ≤ maxLen := by
    rcases hrow with ⟨_, rfl, _⟩ | ⟨x, _, h1, h2, _⟩
    · exact Nat.zero_le _
    · omega
  by_cases hsm : len ≤ 500
  · have hzl : len ≤ zs.length := by
      rcases hrow with ⟨_, rfl, _⟩ | ⟨x, _, h1, _, h2, _⟩ <;> omega
    refine play_walk a len cap (zs.take len) a1 ask hask w hlen (by simp; omega) ?_ hu.1 hu.2 hsm (a1 % (len : Int)).toNat ?_
    · intro i hi
      rcases hrow with ⟨_, rfl, _⟩ | ⟨x, rfl, h1, _, h2, hcell, hwf⟩
      · omega
      · obtain ⟨bx, off, spot⟩ := x
        have hc := hcell i (by omega)
        have hspot : spot = none ∨ i ≠ 0 := by
          by_cases hi0 : i = 0
          · subst hi0
            left
            simpa [Addr.add] using World.cell?_spot hc
          · exact .inr hi0
        have hspot0 : spot = none := by
          have hc0 := hcell 0 (by omega)
          simpa [Addr.add] using World.cell?_spot hc0
        subst hspot0
        have hg : (zs.take len).getD i 0 = zs.getD i 0 := by
          simp [List.getD_eq_getElem?_getD, List.getElem?_take_of_lt hi]
        have hadd : (⟨bx, off, none⟩ : Addr).add i = ⟨bx, off + i, none⟩ := by
          unfold Addr.add
          split <;> simp_all
        rw [hadd] at hc
        have hm : zs.getD i 0 ∈ zs := by
          rw [List.getD_eq_getElem?_getD, List.getElem?_eq_getElem (by omega)]
          exact List.getElem_mem _
        have hw := hwf _ hm
        simp [Lit.wf, IntKind.min, IntKind.max, IntKind.bits, IntKind.signed] at hw
        refine ⟨bx, off, rfl, block_lt_of_cell hc, by rw [hg]; exact hc, ?_, ?_⟩
        · rw [hg, List.getD_eq_getElem?_getD]; omega
        · rw [hg, List.getD_eq_getElem?_getD]; omega
    · intro hp
      have hm1 : 0 ≤ a1 % (len : Int) := Int.emod_nonneg _ (by omega)
      have hm2 : a1 % (len : Int) < (len : Int) := Int.emod_lt_of_pos _ (by omega)
      omega
  · exact play_great a len cap a1 ask w hlen hsm

set_option maxRecDepth 100000 in
theorem lifted (os : Os) (started : os.Started) (H : Type) (enc : TypeId × Value → H) :
    ReturnsInHanded {} Try.checked os 4 .any (Rows.recentsPlaySpec.pre6 enc Try.prog Try.f4 Rows.recentsPlayRow.domain false) (Rows.recentsPlaySpec.post enc Try.prog Try.f4 false true false false) := by
  refine returnsInHanded_of_change (C := Try.checked) own started (by kernel_rfl) Try.func4
    (ChangeSpec.witness6 (enc := enc) (C := Try.checked) false ⟨#[], #[.slice none 0 0, .int .u16 0, hv zeroH], []⟩ 8 (by kernel_rfl) (by kernel_rfl) (by kernel_rfl) (by kernel_rfl)) ?_
  intro W base args ds gs before hval0 hW hcnd _
  have hval : ∀ (j : Nat) t v, Try.f4.params[j]? = some t → args[j]? = some v → Value.okWide Try.prog W .any base t v := hval0
  have hW' := hW
  obtain ⟨p, q, hA0, hV, rfl, hfz, hnd⟩ := hW
  have hA : DataW.TrodAll enc Try.prog W 0 (fun _ => true) true Try.f4.params.toList args.toList ds p := hA0
  rw [Try.params4] at hA hval
  obtain ⟨v0, vs0, d0, ds0, p0, q0, hargs, rfl, rfl, h0, r0⟩ := trodAll_cons hA
  obtain ⟨v1, vs1, d1, ds1, p1, q1, rfl, rfl, rfl, h1, r1⟩ := trodAll_cons r0
  obtain ⟨v2, vs2, d2, ds2, p2, q2, rfl, rfl, rfl, h2, r2⟩ := trodAll_cons r1
  obtain ⟨rfl, rfl, rfl⟩ := trodAll_nil r2
  obtain rfl : args = #[v0, v1, v2] := by cases args; simp_all
  obtain ⟨rfl, rfl⟩ := trodVars_none hV
  have lt0 : ∀ x ∈ p0, x.block < W.heap.size := by obtain ⟨m, hm⟩ := h0; exact DataW.trod_lt m _ _ _ hm
  have lt2 : ∀ x ∈ p2, x.block < W.heap.size := by obtain ⟨m, hm⟩ := h2; exact DataW.trod_lt m _ _ _ hm
  have hrow := open_row Try.underlying36 Try.underlying22 (by kernel_rfl) (hval 0 36 v0 rfl rfl) h0
  obtain ⟨a1, rfl, rfl, rfl, w1⟩ := open_int Try.underlying22 (hval 1 22 v1 rfl rfl) h1
  obtain ⟨l, hl, hlen, _⟩ := open_array hash_u26 hash_u5 (by kernel_rfl) (by kernel_rfl) (hval 2 26 v2 rfl rfl) h2
  clear hA0 hval0
  have hwalk := walk v0 a1 l hlen W w1 hrow
  rw [show hv l = v2 from hl.symm] at hwalk
  refine hwalk.mono fun e W' ⟨he, bel⟩ => ?_
  subst he
  exact ⟨_, rfl, _, _, _, [], _, [], hW', trodAll_mk1 (shut_bool Try.underlying4 _), (trodAll_cons_mk (Below.trod laidOut (by kernel_rfl) (of_decide_eq_true (by kernel_rfl)) h0 bel lt0) (trodAll_cons_mk (shut_int Try.underlying22 w1) (trodAll_cons_mk (Below.trod laidOut (by kernel_rfl) (of_decide_eq_true (by kernel_rfl)) h2 bel lt2) trodAll_mk0))), rfl, bel.frame _, fun h => by cases h⟩

theorem over : Rows.recentsPlayRow.holds Try.pinned (OpenSpec.ofChange Rows.recentsPlaySpec) :=
  OpenClaim.holds_of_wide 4 Try.f4 rfl rfl rfl rfl rfl rfl rfl ⟨rfl, rfl, rfl, rfl, rfl⟩ rfl rfl rfl rfl rfl (by kernel_rfl) Try.func4 (by kernel_rfl)
    (of_decide_eq_true (by kernel_rfl)) (by unfold Func.isWrapper; first | (rw [if_pos (by decide +kernel)]; kernel_rfl) | (rw [if_neg (by decide +kernel)]; exact ⟨rfl, rfl⟩))
    (fun os started H enc _ => lifted os started H enc)

theorem proved : Rows.RecentsPlaySaid :=
  over
#print axioms proved
end Go.Proofs.Ytgipohphnegnhaa.recentsPlay
