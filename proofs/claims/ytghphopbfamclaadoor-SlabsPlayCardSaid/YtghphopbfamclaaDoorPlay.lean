/- SlabsPlay: whatever is put, got, set and freed, the answers are the chapter's. For every room and every list of acts: the law returns true; its arguments read as they did. Condition: the library's table is laid (the card ties it). -/
import Derived.Test.YtghphopbfamclaaDoorRg
import Derived.Test.YtghphopbfamclaaDoorLaid
import Derived.SevenTiedAt
import Derived.Deep.Slices
import Derived.Deep.Fields
import Derived.ChangeSame
namespace Go.Proofs.YtghphopbfamclaaDoor.slabsPlay
open Go.ChangeShapes Go.WideShapes Go.ChangeAt Go.RowKit Go.Deep
set_option maxRecDepth 100000

section
variable {H : Type} {enc : TypeId × Value → H} {P : Program} {w : World} {base : Nat} {spare : Nat → Bool} {held : Bool}
theorem open_slice_fields {t e : TypeId} {fs : Array Field} {fuel : Nat} {cs : List Value} {x : DataW H × List MemPlace} (ht : P.underlying t = some (.slice e)) (he : P.underlying e = some (.struct fs))
    (hone : oneCellFields P fs = true) (hC : P.cellsOf e = fs.size) (h : DataW.trod enc P w base spare held fuel t cs = some x) :
    (cs = [.slice none 0 0] ∧ x = (.nil, [])) ∨
    ∃ (a : Addr) (len cap m : Nat) (D : Nat → DataW H) (Pl : Nat → List MemPlace), cs = [.slice (some a) len cap] ∧ base ≤ a.block ∧ len ≤ cap ∧ cap ≤ maxLen ∧ m = (if spare a.block then cap else len) ∧
      x = (.slice ((List.range len).map D) ((List.range (m - len)).map fun j => D (len + j)), MemPlace.row a (m * fs.size) ++ (List.range m).flatMap Pl) ∧
      ∀ i, i < m → ∃ (ys : List (DataW H × List MemPlace)) (n : Nat), D i = .agg (ys.map (·.1)) ∧ Pl i = ys.flatMap (·.2) ∧ ys.length = fs.size ∧
        ∀ (j : Nat) (f : Field), fs[j]? = some f → ∃ (v : Value) (y : DataW H × List MemPlace), w.cell? (a.add (i * fs.size + j)) = some v ∧ ys[j]? = some y ∧ DataW.trod enc P w base spare held n f.type [v] = some y := by
  rcases open_slice ht h with h0 | ⟨a, len, cap, m, n, D, Pl, hcs, hb, hl, hm, hmm, hx, hi⟩
  · exact .inl h0
  · refine .inr ⟨a, len, cap, m, D, Pl, hcs, hb, hl, hm, hmm, by rw [hC] at hx; exact hx, fun i him => ?_⟩
    obtain ⟨cs', hc, ht'⟩ := hi i him
    rw [hC] at hc
    obtain ⟨ys, n', hn', hy, hlen, hyl, hf⟩ := DataW.trod_struct he ht'
    obtain ⟨_, hcl, hat⟩ := World.cells?_some hc
    simp only [Prod.mk.injEq] at hy
    refine ⟨ys, n', hy.1, hy.2, hyl, fun j f hj => ?_⟩
    obtain ⟨ho, hk⟩ := hone_of hone j f hj
    have hjl : j < fs.size := (Array.getElem?_eq_some_iff.1 hj).1
    have hcell := hat j hjl
    have hv : cs'[j]? = some (cs'[j]'(by omega)) := List.getElem?_eq_getElem (by omega)
    have h1 := hf j f hj
    rw [ho, hk] at h1
    have hone' : (cs'.drop j).take 1 = [cs'[j]'(by omega)] := by
      rw [List.drop_eq_getElem_cons (by omega)]
      rfl
    rw [hone'] at h1
    have hys : ys[j]? = some (ys[j]'(by omega)) := List.getElem?_eq_getElem (by omega)
    refine ⟨_, _, ?_, hys, h1.trans hys⟩
    rw [← Go.Deep.add_add, hcell, hv]
end

set_option maxHeartbeats 1600000 in
theorem play_great {room : Nat} {ao : Option Addr} {m c : Nat} (w : World) (ht : TabAt w) (hp : 0 < w.heap.size) (h1 : 1 ≤ room) (h2 : room ≤ 4096) (hm : 100 < m) (hm2 : m ≤ maxLen) :
    Calls Tryd.prog 6 #[.int .i64 (room : Int), .slice ao m c] w fun e w' => e = .returned (.bool true) ∧ Below w.heap.size w w' := by
  unfold maxLen at hm2
  have hm' : (m : Int) > 100 := by omega
  go_enter Tryd.func6, Tryd.ntmps6
  go_wp2_with fail
  refine (held_new (room := room) w w (Below.refl _ _) ht hp h1 h2).mono ?_
  rintro e w1 ⟨p, bt, bu, rfl, hh⟩
  go_wp2_with fail
  refine (rnew_any (room := room) w1 h1 h2).mono ?_
  rintro e w2 ⟨r, rfl, hr, hrq, hb2⟩
  have hh2 := hh.keep hb2
  clear hh hr hb2 hrq
  go_wp2_with fail
  refine (lives_any _ hh2.tabAt (Nat.lt_of_lt_of_le hp hh2.below.size)).mono ?_
  rintro e w6 ⟨rfl, hb⟩
  have hb2 := hh2.below.trans (hb.mono hh2.below.size)
  clear hh2 hb
  go_wp2
  go_ret
  exact ⟨rfl, hb2⟩

set_option maxHeartbeats 1600000 in
theorem play_less {room : Int} {v : Value} (w : World) (ht : TabAt w) (hp : 0 < w.heap.size) (h1 : room < 1) :
    Calls Tryd.prog 6 #[.int .i64 room, v] w fun e w' => e = .returned (.bool true) ∧ Below w.heap.size w w' := by
  go_enter Tryd.func6, Tryd.ntmps6
  go_wp2_with fail
  refine (new_less w h1).mono ?_
  rintro e w1 ⟨rfl, rfl⟩
  go_wp2_with fail
  refine (rnew_less w h1).mono ?_
  rintro e w1 ⟨rfl, rfl⟩
  go_wp2_with fail
  refine (lives_any _ ht hp).mono ?_
  rintro e w6 ⟨rfl, hb⟩
  go_wp2
  go_ret
  exact ⟨rfl, hb⟩

set_option maxHeartbeats 1600000 in
theorem play_more {room : Int} {v : Value} (w : World) (ht : TabAt w) (hp : 0 < w.heap.size) (h1 : 4096 < room) :
    Calls Tryd.prog 6 #[.int .i64 room, v] w fun e w' => e = .returned (.bool true) ∧ Below w.heap.size w w' := by
  go_enter Tryd.func6, Tryd.ntmps6
  go_wp2_with fail
  refine (new_more w h1).mono ?_
  rintro e w1 ⟨rfl, rfl⟩
  go_wp2_with fail
  refine (rnew_more w h1).mono ?_
  rintro e w1 ⟨rfl, rfl⟩
  go_wp2_with fail
  refine (lives_any _ ht hp).mono ?_
  rintro e w6 ⟨rfl, hb⟩
  go_wp2
  go_ret
  exact ⟨rfl, hb⟩

theorem und54 : Tryd.prog.underlying 54 = some (.slice 59) := by kernel_rfl
theorem und59 : ∃ f0 f1 f2 : Field, Tryd.prog.underlying 59 = some (.struct #[f0, f1, f2]) ∧ f0.type = 5 ∧ f1.type = 3 ∧ f2.type = 22 ∧ oneCellFields Tryd.prog #[f0, f1, f2] = true := ⟨_, _, _, Tryd.underlying59, rfl, rfl, rfl, by kernel_rfl⟩

/-- The acts that came in. -/
theorem acts_of {H : Type} {enc : TypeId × Value → H} {w : World} {v : Value} {d : DataW H} {p : List MemPlace} {b0 : Nat} (hv : Value.okWide Tryd.prog w .any b0 54 v) (h : DataW.Trod enc Tryd.prog w 0 (fun _ => true) true 54 v d p) :
    ∃ ao A c, v = .slice ao A.length c ∧ ActsAt w ao A ∧ A.length ≤ maxLen := by
  obtain ⟨a0, len, cap, rfl⟩ := okWide_slice und54 hv
  obtain ⟨fuel, hf⟩ := h
  obtain ⟨f0, f1, f2, hs, t0, t1, t2, hone⟩ := und59
  rcases open_slice_fields und54 hs hone (by kernel_rfl) hf with ⟨hcs, _⟩ | ⟨a, l, c, m, D, Pl, hcs, _, hl, hm, hmm, _, hi⟩
  · simp [Value.cells] at hcs
    obtain ⟨rfl, rfl, rfl⟩ := hcs
    exact ⟨none, [], 0, rfl, fun i q hq => by simp at hq, by simp⟩
  · simp [Value.cells] at hcs
    obtain ⟨rfl, rfl, rfl⟩ := hcs
    simp only [if_true] at hmm
    subst hmm
    have hget : ∀ i, i < len → ∃ (qw : Nat) (qn : Int) (qx : Nat), qw < 256 ∧ w.cell? (a.add (i * 3 + 0)) = some (.int .u8 (qw : Int)) ∧ w.cell? (a.add (i * 3 + 1)) = some (.int .i64 qn) ∧ w.cell? (a.add (i * 3 + 2)) = some (.int .u64 (qx : Int)) := by
      intro i hil
      obtain ⟨ys, n, _, _, _, hj⟩ := hi i (by omega)
      obtain ⟨v0, y0, c0, _, r0⟩ := hj 0 f0 rfl
      obtain ⟨v1, y1, c1, _, r1⟩ := hj 1 f1 rfl
      obtain ⟨v2, y2, c2, _, r2⟩ := hj 2 f2 rfl
      rw [t0] at r0
      rw [t1] at r1
      rw [t2] at r2
      obtain ⟨x0, e0, _, w0⟩ := DataW.trod_int Tryd.underlying5 r0
      obtain ⟨x1, e1, _, w1⟩ := DataW.trod_int Tryd.underlying3 r1
      obtain ⟨x2, e2, _, w2⟩ := DataW.trod_int Tryd.underlying22 r2
      simp at e0 e1 e2
      subst e0 e1 e2
      simp [Lit.wf, IntKind.min, IntKind.max, IntKind.signed, IntKind.bits] at w0 w2
      refine ⟨x0.toNat, x1, x2.toNat, by omega, ?_, c1, ?_⟩
      · rw [show ((x0.toNat : Nat) : Int) = x0 by omega]; exact c0
      · rw [show ((x2.toNat : Nat) : Int) = x2 by omega]; exact c2
    obtain ⟨f, hf⟩ : ∃ f : Nat → Nat × Int × Nat, ∀ i, i < len → (f i).1 < 256 ∧ w.cell? (a.add (i * 3 + 0)) = some (.int .u8 ((f i).1 : Int)) ∧ w.cell? (a.add (i * 3 + 1)) = some (.int .i64 (f i).2.1) ∧ w.cell? (a.add (i * 3 + 2)) = some (.int .u64 ((f i).2.2 : Int)) :=
      choose_lt (p := fun i (q : Nat × Int × Nat) => q.1 < 256 ∧ w.cell? (a.add (i * 3 + 0)) = some (.int .u8 (q.1 : Int)) ∧ w.cell? (a.add (i * 3 + 1)) = some (.int .i64 q.2.1) ∧ w.cell? (a.add (i * 3 + 2)) = some (.int .u64 (q.2.2 : Int))) fun i hil => by
        obtain ⟨qw, qn, qx, q1, q2, q3, q4⟩ := hget i hil
        exact ⟨(qw, qn, qx), q1, q2, q3, q4⟩
    refine ⟨some a, (List.range len).map f, _, by rw [List.length_map, List.length_range], fun i q hq => ?_, by simp; omega⟩
    have hil : i < len := by
      have := (List.getElem?_eq_some_iff.1 hq).1
      simpa using this
    rw [List.getElem?_map, List.getElem?_range hil] at hq
    obtain rfl : f i = q := by simpa using hq
    obtain ⟨q1, q2, q3, q4⟩ := hf i hil
    have hc0 := (hf 0 (by omega)).2.1
    obtain ⟨b, off, spot⟩ := a
    have hsp : spot = none := by
      cases spot with
      | none => rfl
      | some s =>
        simp only [Addr.add, if_true, World.cell?, Option.isSome_some] at hc0
        split at hc0 <;> cases hc0
    subst hsp
    have hadd : ∀ j, (⟨b, off, none⟩ : Addr).add j = ⟨b, off + j, none⟩ := fun j => by unfold Addr.add; split <;> simp_all
    rw [hadd] at q2 q3 q4
    refine ⟨b, off, rfl, ?_, q1, q2, ?_, ?_⟩
    · simp only [World.cell?] at q2
      by_cases hb : b < w.heap.size
      · exact hb
      · rw [Array.getElem?_eq_none (by omega)] at q2; cases q2
    · rw [Nat.add_assoc]; exact q3
    · rw [Nat.add_assoc]; exact q4

theorem laidOut : laidOutB Tryd.prog = true := by kernel_rfl

theorem walk {a0 : Int} {ao : Option Addr} {A : List (Nat × Int × Nat)} {c : Nat} (w : World) (ht : TabAt w) (hA : ActsAt w ao A) (hm : A.length ≤ maxLen) :
    Calls Tryd.prog 6 #[.int .i64 a0, .slice ao A.length c] w fun e w' => e = .returned (.bool true) ∧ Below w.heap.size w w' := by
  by_cases h1 : a0 < 1
  · exact play_less w ht ht.lt h1
  · by_cases h2 : 4096 < a0
    · exact play_more w ht ht.lt h2
    · obtain ⟨room, rfl⟩ : ∃ room : Nat, a0 = room := ⟨a0.toNat, by omega⟩
      by_cases h3 : A.length ≤ 100
      · exact play_walk w ht ht.lt (by omega) (by omega) hA h3
      · exact play_great w ht ht.lt (by omega) (by omega) (by omega) hm

theorem lifted (os : Os) (started : os.Started) (H : Type) (enc : TypeId × Value → H) :
    ReturnsInHanded {} Tryd.checked os 6 .any (fun w args => (Rows.slabsPlaySpec.pre enc Tryd.prog Tryd.f6 [] false w args ∧ laidMetH Tryd.prog laidL w) ∧ sizedMet enc Tryd.prog Tryd.f6 (OpenSpec.ofChange Rows.slabsPlaySpec) false w args)
      (Rows.slabsPlaySpec.post enc Tryd.prog Tryd.f6 false true false false) := by
  refine returnsInHanded_of_change_and (C := Tryd.checked) (X := fun w _ => laidMetH Tryd.prog laidL w) (fun _ _ _ hh h => h.of_heap hh) own started (by kernel_rfl) Tryd.func6
    (ChangeSpec.witness_shaped (enc := enc) (C := Tryd.checked) (os := os) (X := fun w _ => laidMetH Tryd.prog laidL w) false (World.doorLaid Tryd.prog 400 os) #[.int .i64 0, .slice none 0 0] 8 rfl (World.shaped_of_RefB (by kernel_rfl) (by kernel_rfl)) (by kernel_rfl) (by kernel_rfl) (by kernel_rfl) (door_met os _)) ?_
  intro W base args ds gs before hval0 hW _ _ hL _
  have hval : ∀ (j : Nat) t v, Tryd.f6.params[j]? = some t → args[j]? = some v → Value.okWide Tryd.prog W .any base t v := hval0
  have hW' := hW
  obtain ⟨p, q, hA0, hV, rfl, hfz, hnd⟩ := hW
  have hA : DataW.TrodAll enc Tryd.prog W 0 (fun _ => true) true Tryd.f6.params.toList args.toList ds p := hA0
  rw [Tryd.params6] at hA hval
  obtain ⟨v0, vs0, d0, ds0, p0, q0, hargs, rfl, rfl, h0, r0⟩ := trodAll_cons hA
  obtain ⟨v1, vs1, d1, ds1, p1, q1, rfl, rfl, rfl, h1, r1⟩ := trodAll_cons r0
  obtain ⟨rfl, rfl, rfl⟩ := trodAll_nil r1
  obtain rfl : args = #[v0, v1] := by cases args; simp_all
  obtain ⟨rfl, rfl⟩ := trodVars_none hV
  have lt1 : ∀ x ∈ p1, x.block < W.heap.size := by obtain ⟨m, hm⟩ := h1; exact DataW.trod_lt m _ _ _ hm
  have hv1 := hval 1 54 v1 rfl rfl
  obtain ⟨a0, rfl, rfl, rfl, w0⟩ := open_int Tryd.underlying3 (hval 0 3 v0 rfl rfl) h0
  obtain ⟨ao, A, c, rfl, hacts, hlen⟩ := acts_of hv1 h1
  have ht := tab_of_laid hL
  clear hA0 hval0
  simp only [List.append_nil] at hW'
  refine (walk W ht hacts hlen).mono fun e W' ⟨he, hg⟩ => ?_
  subst he
  exact ⟨_, rfl, _, _, _, [], _, [], hW', trodAll_mk1 (shut_bool Tryd.underlying4 true), (trodAll_cons_mk (shut_int Tryd.underlying3 w0) (trodAll_cons_mk (Below.trod laidOut (by kernel_rfl) (of_decide_eq_true (by kernel_rfl)) h1 hg lt1) trodAll_mk0)), rfl, hg.frame _, fun h => by cases h⟩

theorem over : Rows.SlabsPlaySaid :=
  OpenClaim.holds_of_wide 6 Tryd.f6 rfl rfl rfl rfl rfl rfl rfl ⟨rfl, rfl, rfl, rfl, rfl⟩ rfl rfl rfl rfl rfl (by kernel_rfl) Tryd.func6 (by kernel_rfl)
    (of_decide_eq_true (by kernel_rfl)) (by unfold Func.isWrapper; first | (rw [if_pos (by decide +kernel)]; kernel_rfl) | (rw [if_neg (by decide +kernel)]; exact ⟨rfl, rfl⟩))
    (fun os started H enc _ => lifted os started H enc)

/-- The statement. -/
theorem proved : Rows.SlabsPlayCardSaid :=
  Claim7.holds_tied_plain_at .later [] [.data] true (true, "a5d2b02faea2dd1ce445b1cb79e991e15203259401b2cc3a4493fe2d728c934d") false
    over (fun _ h => by cases h) (by kernel_rfl) (fun _ h => by cases h) slabsPlay_row_tie rfl ⟨rfl, rfl⟩ (by kernel_rfl) rfl
    (fun f fn hf hfn => by
      obtain rfl : f = 6 := Option.some.inj ((show Tryd.prog.funcNamed "ferryhouse/ferryhouselaw17.SlabsPlay" = some 6 by kernel_rfl).symm.trans hf) |>.symm
      obtain rfl : fn = Tryd.f6 := (Option.some.inj (Tryd.func6.symm.trans hfn)).symm
      exact ⟨by kernel_rfl, fun j t ht => by
        rw [Tryd.params6] at ht
        have hm : t ∈ [3, 54] := by simpa using Array.mem_of_getElem? ht
        have hall : ([3, 54].all fun u => !Tryd.prog.wantsStandIn u) = true := by kernel_rfl
        exact (show Tryd.prog.wantsStandIn t = false by simpa using List.all_eq_true.1 hall t hm)⟩)
    (by kernel_rfl)
#print axioms proved
end Go.Proofs.YtghphopbfamclaaDoor.slabsPlay
