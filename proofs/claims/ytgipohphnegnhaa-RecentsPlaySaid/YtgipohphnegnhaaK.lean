/- RecentsPlay: the walk of the law. -/
import Derived.Test.YtgipohphnegnhaaJ
import Derived.Test.YtgipohphnegnhaaOpen
namespace Go.Proofs.Ytgipohphnegnhaa
open Go.RowKit

/-- An element of the list that came in. -/
def Elem (w : World) (a0 : Option Addr) (len : Nat) (zs : List Int) : Prop := ∀ i, i < len → ∃ bx off, a0 = some ⟨bx, off, none⟩ ∧ bx < w.heap.size ∧ w.cell? ⟨bx, off + i, none⟩ = some (.int .u16 (zs.getD i 0)) ∧ 0 ≤ zs.getD i 0 ∧ zs.getD i 0 < 65536

theorem pushVal_form {L : List (List Int)} {h : List Int} (hL : ∀ x ∈ L, x.length = 32) : ∃ f fl er, pushVal L h = .tuple #[hv f, .bool fl, .int .i64 er] ∧ f.length = 32 := by
  unfold pushVal
  split
  · exact ⟨_, _, _, rfl, rfl⟩
  · split
    · refine ⟨_, _, _, rfl, ?_⟩
      rw [List.getD_eq_getElem?_getD]
      cases hx : L[149]? with
      | none => rfl
      | some x => exact hL x (List.mem_of_getElem? hx)
    · exact ⟨_, _, _, rfl, rfl⟩

theorem RQ.lens {w : World} {m : Nat} {L : List (List Int)} (h : RQ w m L) : ∀ x ∈ L, x.length = 32 := by
  obtain ⟨v, _, h2⟩ := h
  exact h2.1

section
variable {ops : Array Oper} {Q : Exit → Act → World → Prop} {a : Act} {w : World} {rest : List Oper} {dst : Option Tmp} {x y : Operand} {ty : TypeId} {pos : String} {after : Array Edge} {h k : List Int}
/-- A store of a hash into a block just laid. -/
theorem wl_store26new {w0 : World} (hw : w = w0.alloc (.cells (icells .u8 zeroH) 26)) (hp : a.eval x = .pointer (some ⟨w0.heap.size, 0, none⟩)) (hx : a.eval y = hv h) (hl : h.length = 32)
    (K : ∀ w1, w1.heap[w0.heap.size]? = some (.cells (icells .u8 h) 26) → Below w0.heap.size w0 w1 → wpList Try.prog ops Q rest (a.put dst undef) w1) :
    wpList Try.prog ops Q (⟨dst, .store 26 x y, ty, pos, after, none⟩ :: rest) a w := by
  subst hw
  exact wl_store26 hp hx hl (heap_alloc_new _ _) zeroH_size fun w1 h1 h2 => K w1 h1 (h2.below ((Below.refl _ _).alloc (Nat.le_refl _) _) (Nat.le_refl _))
end

set_option maxRecDepth 40000 in
set_option maxHeartbeats 4000000 in
theorem play_walk (a0 : Option Addr) (len cap : Nat) (zs : List Int) (a1 : Int) (ask : List Int) (hask : ask.length = 32) (w : World) (hlen : len ≤ maxLen) (hzs : zs.length = len) (hel : Elem w a0 len zs) (h1 : 0 ≤ a1) (h1' : a1 < 65536) (hsm : len ≤ 500)
    (k0 : Nat) (hk0 : 0 < len → a1 % (len : Int) = (k0 : Int) ∧ k0 < len) :
    Calls Try.prog 4 #[.slice a0 len cap, .int .u16 a1, hv ask] w fun e w' => e = .returned (.bool true) ∧ Below w.heap.size w w' := by
  unfold maxLen at hlen
  have hsm' : ¬ (500 : Int) < (len : Int) := by omega
  go_enter Try.func4, Try.ntmps4
  go_wp2_with (first
    | ((with_reducible refine wl_box26 (h := ask) ?_ ?_); (exact rfl)))
  refine (new_law _).mono ?_
  rintro e w1 ⟨b, rfl, hb, hq1, hB1⟩
  have hb' : w.heap.size < b := by rw [World.size_alloc] at hb; omega
  clear hb
  have hS1 : PS w ask b w1.heap.size [] [] (.pointer none) (.slice none 0 0) none (w1.alloc (.cells #[.slice none 0 0] 40)) := by
    have hz := hB1.size
    rw [World.size_alloc] at hz
    refine ⟨(((Below.refl _ _).alloc (Nat.le_refl _) _).trans (hB1.mono (by simp))).alloc (by omega) _, ?_, hq1.keep ((Below.refl _ _).alloc (Nat.le_refl _) _), ⟨_, heap_alloc_new _ _, SLH.nil _⟩, hb', by omega, ⟨rfl, rfl⟩⟩
    exact (Below.heap_alloc w1 _ _ (by omega)).trans ((hB1.block _ (by simp)).trans (heap_alloc_new _ _))
  obtain ⟨m, hm⟩ : ∃ m, w1.heap.size = m := ⟨_, rfl⟩
  rw [hm] at hS1
  go_wp2_with (first
    | ((with_reducible refine wpList_run (o := ⟨some 33, .build 40 #[], _, _, _, _⟩) rfl (exec_build (ps := #[]) rfl (by simp) (zero40 w1)) ?_))
    | ((with_reducible refine wpList_run (o := ⟨some 34, .box 40 _, _, _, _, _⟩) rfl (exec_box (C := #[.slice none 0 0]) rfl rfl rfl) ?_)))
  have HM := Lib.hid hm
  clear hq1 hB1 hm
  go_loopw [9, 10, 11] (fun v9 v10 v11 wr => ∃ i : Nat, i ≤ len ∧ v11 = .int .i64 i ∧ PS w ask b m (LP zs i) (LP zs i) v9 v10 (if k0 < i then some (LP zs k0) else none) wr) (fun _ _ v11 _ => len - (intOf v11).toNat)
  case atStart => exact ⟨0, Nat.zero_le _, rfl, hS1⟩
  case round =>
    clear hS1
    obtain ⟨i, hi, rfl, hS⟩ := hrel
    by_cases hlt : i < len
    · obtain ⟨bx, off, rfl, hbx, hcx, hz1, hz2⟩ := hel i hlt
      have hlt' : (i : Int) < (len : Int) := by omega
      have hL := LP_ok zs i (by omega)
      have hnext := LP_succ (zs := zs) (i := i) (by omega)
      obtain ⟨hkk, hk1⟩ := hk0 (by omega)
      have HN := Lib.hid hnext
      clear hnext
      obtain ⟨z, hz⟩ : ∃ z, zs.getD i 0 = z := ⟨_, rfl⟩
      rw [hz] at hz1 hz2 hcx
      have hcxW : ∀ W, Below w.heap.size w W → W.cell? ⟨bx, off + i, none⟩ = some (.int .u16 z) := fun W hW => (hW.cell (p := ⟨bx, off + i, none⟩) hbx).trans hcx
      have hcx' := hcxW _ hS.bel
      have HCX := Lib.hid hcxW
      clear hcxW
      have HZ := Lib.hid hz
      have HEL := Lib.hid hel
      have HK0 := Lib.hid hk0
      clear hz hel hk0 hcx
      by_cases hik : i = k0
      · have hikb : ((i : Int) == (k0 : Int)) = true := by simp [hik]
        obtain rfl : k0 = i := hik.symm
        rw [if_neg (Nat.lt_irrefl _)] at hS
        obtain ⟨hv9, hv10⟩ := hS.cp
        subst hv9 hv10
        go_wp2_with fail
        refine (copy_law b (LP zs k0) _ hS.q).mono ?_
        rintro e wc ⟨c, rfl, hc, hqc, hkc⟩
        have hcb : c ≠ b := by have := hS.q.lt; omega
        replace hS := hS.keep hkc
        clear hc hkc
        obtain ⟨vr, hvr, hsr⟩ := hS.r
        obtain ⟨ar, cr, rfl⟩ := hsr.form
        have hcm : wc.cell? ⟨m, 0, none⟩ = some (.slice ar (LP zs k0).length cr) := by simp [World.cell?, hvr]
        go_wp2_with (first
          | ((with_reducible refine wl_append (v := .slice none 0 0) (u := .slice ar (LP zs k0).length cr) (L := []) ?_ ?_ (SLH.nil _) hsr ?_ ?_); (exact rfl); (exact rfl); (exact (by simp; omega)); intro vw wd hvw hgd; have hkd : Below wc.heap.size wc wd := (Below.refl _ _).grown hgd (Nat.le_refl _) (fun k hk => by cases hk); have hSd := hS.keep hkd; have hcxd := HCX.out wd hSd.bel))
        have hSn : PS w ask b m (LP zs k0) (LP zs k0) (.pointer (some ⟨c, 0, none⟩)) vw (if k0 < k0 + 1 then some (LP zs k0) else none) wd := by
          rw [if_pos (Nat.lt_succ_self _)]
          exact ⟨hSd.bel, hSd.box, hSd.q, hSd.r, hSd.hb, hSd.hm, c, rfl, hcb, hqc.keep hkd, hvw⟩
        clear hSd hS hqc hkd hvw hgd hvr hsr hcm hcx'
        have hS := hSn
        clear hSn
        go_wp2_with fail
        refine (hash_any z hz1 hz2 _).mono ?_
        rintro e w2 ⟨rfl, hk⟩
        replace hS := hS.keep hk
        clear hk hcxd
        go_wp2_with fail
        obtain ⟨f, fl, er, hpv, hfl⟩ := pushVal_form (h := hashOf z) hS.r.lens
        refine (push_law b (LP zs k0) (hashOf z) rfl _ hS.q).mono ?_
        rw [hpv]
        rintro e w3 ⟨rfl, hq', ho⟩
        replace hS := hS.pushQ ho hq'
        clear hq' ho
        have HPV := Lib.hid hpv
        clear hpv
        go_wp2_with (first
          | ((with_reducible refine wl_alloc26 ?_))
          | ((with_reducible refine wl_store26new (w0 := w3) (h := f) rfl ?_ ?_ hfl ?_); (exact rfl); (exact rfl); intro w4 hr4 hB4; have hS4 := hS.keep hB4; have hcx4 := HCX.out w4 hS4.bel))
        refine (hash_any z hz1 hz2 _).mono ?_
        rintro e w5 ⟨rfl, hk⟩
        have hS5 := hS4.keep hk
        have g12 := (hk.block _ (Array.getElem?_eq_some_iff.1 hr4).1).trans hr4
        clear hk hcx4 hr4 hB4 hS hS4
        go_wp2_with fail
        refine (rpush_law m (LP zs k0) hL.2 (hashOf z) rfl _ hS5.r).mono ?_
        rw [HPV.out]
        rintro e w6 ⟨rfl, hr', ho⟩
        have hS6 := hS5.pushR ho hr'
        have hne12 : w3.heap.size ≠ m := by
          rintro e
          obtain ⟨v, hv, _⟩ := hS5.r
          rw [← e, g12] at hv
          injection hv with hv
          injection hv with _ hv
          exact absurd hv (by decide)
        have g12' := (ho.block _ (Array.getElem?_eq_some_iff.1 g12).1 hne12).trans g12
        clear hr' ho g12 hne12 hS5
        go_wp2_with (first
          | ((with_reducible refine wl_alloc26 ?_))
          | ((with_reducible refine wl_store26new (w0 := w6) (h := f) rfl ?_ ?_ hfl ?_); (exact rfl); (exact rfl); intro w7 hr7 hB7; have hS7 := hS6.keep hB7))
        have g12q := (hB7.block _ (Array.getElem?_eq_some_iff.1 g12').1).trans g12'
        have r12C : ∀ W, (∃ n, W = w7.drewN n) → RowAt W w3.heap.size 0 (icells .u8 f) := fun W ⟨n, e⟩ => by subst e; exact (RowAt.of_cells g12q).of_block rfl
        have r15C : ∀ W, (∃ n, W = w7.drewN n) → RowAt W w6.heap.size 0 (icells .u8 f) := fun W ⟨n, e⟩ => by subst e; exact (RowAt.of_cells hr7).of_block rfl
        have hlenq : ∀ n, Calls Try.prog 10 #[.pointer (some ⟨b, 0, none⟩)] (w7.drewN n) fun e w' => e = .returned (.int .i64 ((pushed (LP zs k0) (hashOf z)).length : Int)) ∧ ∃ m, w' = w7.drewN m := fun n =>
          (len_law b _ _ (hS7.drew n).q).mono fun e w' ⟨h1, h2⟩ => ⟨h1, n, h2.symm⟩
        obtain ⟨vr, hvr, hsr⟩ := hS7.r
        obtain ⟨ar, cr, rfl⟩ := hsr.form
        have hcm : w7.cell? ⟨m, 0, none⟩ = some (.slice ar (pushed (LP zs k0) (hashOf z)).length cr) := by simp [World.cell?, hvr]
        obtain ⟨nl, hnl⟩ : ∃ nl, (pushed (LP zs k0) (hashOf z)).length = nl := ⟨_, rfl⟩
        rw [hnl] at hlenq hcm
        have HLQ := Lib.hid hlenq
        clear hlenq g12' g12q hr7 hB7 hS6 hvr hsr hnl
        refine wp_region_quiet_lit (by kernel_rfl) (by kernel_rfl) ?_
        refine wq_load26 rfl r12C hfl ?_
        refine wq_load26 rfl r15C hfl ?_
        refine wq_neq26 rfl rfl hfl hfl ?_
        rw [show (f == f) = true by simp]
        repeat quiet_step ((go_at_call 10; exact HLQ.out _))
        refine wpQuiet_nil ?_
        rintro w8 ⟨nq, hw8⟩
        have hS8 := hS7.drew nq
        rw [← hw8] at hS8
        clear hw8 r12C r15C hcm hS7
        go_wp2
        go_roundw
        case rel =>
          refine ⟨k0 + 1, hlt, by go_num, ?_⟩
          rw [HN.out, HZ.out]
          exact hS8
        case measure => simp [intOf]; omega
      · have hikb : ((i : Int) == (k0 : Int)) = false := by simp; omega
        have ho : (if k0 < i then some (LP zs k0) else none) = (if k0 < i + 1 then some (LP zs k0) else none) := by
          by_cases h : k0 < i
          · rw [if_pos h, if_pos (by omega)]
          · rw [if_neg h, if_neg (by omega)]
        rw [ho] at hS
        clear ho
        go_wp2_with fail
        refine (hash_any z hz1 hz2 _).mono ?_
        rintro e w2 ⟨rfl, hk⟩
        replace hS := hS.keep hk
        clear hk hcx'
        go_wp2_with fail
        obtain ⟨f, fl, er, hpv, hfl⟩ := pushVal_form (h := hashOf z) hS.r.lens
        refine (push_law b (LP zs i) (hashOf z) rfl _ hS.q).mono ?_
        rw [hpv]
        rintro e w3 ⟨rfl, hq', ho⟩
        replace hS := hS.pushQ ho hq'
        clear hq' ho
        have HPV := Lib.hid hpv
        clear hpv
        go_wp2_with (first
          | ((with_reducible refine wl_alloc26 ?_))
          | ((with_reducible refine wl_store26new (w0 := w3) (h := f) rfl ?_ ?_ hfl ?_); (exact rfl); (exact rfl); intro w4 hr4 hB4; have hS4 := hS.keep hB4; have hcx4 := HCX.out w4 hS4.bel))
        refine (hash_any z hz1 hz2 _).mono ?_
        rintro e w5 ⟨rfl, hk⟩
        have hS5 := hS4.keep hk
        have g12 := (hk.block _ (Array.getElem?_eq_some_iff.1 hr4).1).trans hr4
        clear hk hcx4 hr4 hB4 hS hS4
        go_wp2_with fail
        refine (rpush_law m (LP zs i) hL.2 (hashOf z) rfl _ hS5.r).mono ?_
        rw [HPV.out]
        rintro e w6 ⟨rfl, hr', ho⟩
        have hS6 := hS5.pushR ho hr'
        have hne12 : w3.heap.size ≠ m := by
          rintro e
          obtain ⟨v, hv, _⟩ := hS5.r
          rw [← e, g12] at hv
          injection hv with hv
          injection hv with _ hv
          exact absurd hv (by decide)
        have g12' := (ho.block _ (Array.getElem?_eq_some_iff.1 g12).1 hne12).trans g12
        clear hr' ho g12 hne12 hS5
        go_wp2_with (first
          | ((with_reducible refine wl_alloc26 ?_))
          | ((with_reducible refine wl_store26new (w0 := w6) (h := f) rfl ?_ ?_ hfl ?_); (exact rfl); (exact rfl); intro w7 hr7 hB7; have hS7 := hS6.keep hB7))
        have g12q := (hB7.block _ (Array.getElem?_eq_some_iff.1 g12').1).trans g12'
        have r12C : ∀ W, (∃ n, W = w7.drewN n) → RowAt W w3.heap.size 0 (icells .u8 f) := fun W ⟨n, e⟩ => by subst e; exact (RowAt.of_cells g12q).of_block rfl
        have r15C : ∀ W, (∃ n, W = w7.drewN n) → RowAt W w6.heap.size 0 (icells .u8 f) := fun W ⟨n, e⟩ => by subst e; exact (RowAt.of_cells hr7).of_block rfl
        have hlenq : ∀ n, Calls Try.prog 10 #[.pointer (some ⟨b, 0, none⟩)] (w7.drewN n) fun e w' => e = .returned (.int .i64 ((pushed (LP zs i) (hashOf z)).length : Int)) ∧ ∃ m, w' = w7.drewN m := fun n =>
          (len_law b _ _ (hS7.drew n).q).mono fun e w' ⟨h1, h2⟩ => ⟨h1, n, h2.symm⟩
        obtain ⟨vr, hvr, hsr⟩ := hS7.r
        obtain ⟨ar, cr, rfl⟩ := hsr.form
        have hcm : w7.cell? ⟨m, 0, none⟩ = some (.slice ar (pushed (LP zs i) (hashOf z)).length cr) := by simp [World.cell?, hvr]
        obtain ⟨nl, hnl⟩ : ∃ nl, (pushed (LP zs i) (hashOf z)).length = nl := ⟨_, rfl⟩
        rw [hnl] at hlenq hcm
        have HLQ := Lib.hid hlenq
        clear hlenq g12' g12q hr7 hB7 hS6 hvr hsr hnl
        refine wp_region_quiet_lit (by kernel_rfl) (by kernel_rfl) ?_
        refine wq_load26 rfl r12C hfl ?_
        refine wq_load26 rfl r15C hfl ?_
        refine wq_neq26 rfl rfl hfl hfl ?_
        rw [show (f == f) = true by simp]
        repeat quiet_step ((go_at_call 10; exact HLQ.out _))
        refine wpQuiet_nil ?_
        rintro w8 ⟨nq, hw8⟩
        have hS8 := hS7.drew nq
        rw [← hw8] at hS8
        clear hw8 r12C r15C hcm hS7
        go_wp2
        go_roundw
        case rel =>
          refine ⟨i + 1, hlt, by go_num, ?_⟩
          rw [HN.out, HZ.out]
          exact hS8
        case measure => simp [intOf]; omega
    · obtain rfl : i = len := by omega
      clear hlt hi
      have hL := LP_ok zs i (by omega)
      obtain ⟨L, hLe⟩ : ∃ L, LP zs i = L := ⟨_, rfl⟩
      rw [hLe] at hS hL
      clear hLe
      have hl150 := hL.2
      obtain ⟨hnd, _⟩ := hL
      have HND := Lib.hid hnd
      have HEL := Lib.hid hel
      clear hnd hel
      go_wp2_with fail
      go_loopw [18] (fun v18 wr2 => ∃ j : Nat, j ≤ L.length ∧ v18 = .int .i64 j ∧ PS w ask b m L L u9 u10 (if k0 < i then some (LP zs k0) else none) wr2) (fun v18 _ => L.length - (intOf v18).toNat)
      case atStart => exact ⟨0, Nat.zero_le _, rfl, hS⟩
      case round =>
        clear hS
        obtain ⟨j, hj, rfl, hS⟩ := hrel
        obtain ⟨vr, hvr, hsr⟩ := hS.r
        obtain ⟨ar, cr, rfl⟩ := hsr.form
        have hcm : wr.cell? ⟨m, 0, none⟩ = some (.slice ar L.length cr) := by simp [World.cell?, hvr]
        clear hvr
        by_cases hlt : j < L.length
        · obtain ⟨x, hx⟩ : ∃ x, L[j]? = some x := ⟨L[j], List.getElem?_eq_getElem hlt⟩
          have hxl := hsr.1 x (List.mem_of_getElem? hx)
          obtain ⟨g, cap', hv1, hrow⟩ := hsr.row hx
          cases hv1
          have hlt' : (j : Int) < (L.length : Int) := by omega
          have HAV := Lib.hid (ageVal_self HND.out hx)
          clear hx
          go_wp2_with (first
            | ((with_reducible refine wl_load26 (b := g) ?_ hrow hxl ?_); (exact rfl)))
          refine (age_law b L x hxl _ hS.q).mono ?_
          rw [HAV.out]
          rintro e w2 ⟨rfl, hk⟩
          have hS2 := hS.keep hk
          clear hk hS hsr hrow hcm
          go_wp2_with fail
          go_roundw
          case rel => exact ⟨j + 1, hlt, by go_num, hS2⟩
          case measure => simp [intOf]; omega
        · have hlt' : ¬ (j : Int) < (L.length : Int) := by omega
          have hbox := RowAt.of_cells hS.box
          obtain ⟨nn, bb, hav⟩ : ∃ (nn : Int) (bb : Bool), ageVal L ask = .tuple #[.int .i64 nn, .bool bb] := ⟨_, _, rfl⟩
          have HAV := Lib.hid hav
          clear hav
          go_wp2_with (first
            | ((with_reducible refine wl_load26 (b := w.heap.size) ?_ hbox hask ?_); (exact rfl)))
          refine (age_law b L ask hask _ hS.q).mono ?_
          rw [HAV.out]
          rintro e w2 ⟨rfl, hk⟩
          have hS2 := hS.keep hk
          have hbox2 := RowAt.of_cells hS2.box
          clear hk hS hsr hcm hbox
          go_wp2_with (first
            | ((with_reducible refine wl_load26 (b := w.heap.size) ?_ hbox2 hask ?_); (exact rfl)))
          refine (rage_any m L (by omega) ask hask _ hS2.r).mono ?_
          rw [HAV.out]
          rintro e w3 ⟨rfl, hk⟩
          have hS3 := hS2.keep hk
          clear hk hS2 hbox2
          by_cases h0 : i = 0
          · subst h0
            obtain ⟨hv9, hv10⟩ := hS3.cp
            subst hv9 hv10
            go_wp2_with (go_at_call 11; refine (lives_any _).mono ?_; rintro e w' ⟨rfl, hk⟩)
            go_ret
            exact ⟨rfl, (hS3.keep hk).bel⟩
          · have hki := (hk0 (by omega)).2
            rw [if_pos hki] at hS3
            obtain ⟨c, hv9, hcb, hqc, hsc⟩ := hS3.cp
            subst hv9
            obtain ⟨av, cv, hv10⟩ := hsc.form
            subst hv10
            obtain ⟨hndk, hlk⟩ := LP_ok zs k0 (by omega)
            have HNK := Lib.hid hndk
            clear hndk
            obtain ⟨L1, hL1⟩ : ∃ L1, LP zs k0 = L1 := ⟨_, rfl⟩
            rw [hL1] at HNK hlk hS3 hqc hsc
            go_wp2_with fail
            have hbel := hS3.bel
            clear hS3
            have HL1 := Lib.hid hL1
            clear hL1
            go_loopw [25] (fun v25 wr3 => ∃ q : Nat, q ≤ L1.length ∧ v25 = .int .i64 q ∧ QL wr3 c L1 ∧ SLH wr3 (.slice av L1.length cv) L1 ∧ Below w.heap.size w wr3) (fun v25 _ => L1.length - (intOf v25).toNat)
            case atStart => exact ⟨0, Nat.zero_le _, rfl, hqc, hsc, hbel⟩
            case round =>
              clear hqc hsc hbel
              obtain ⟨q, hq, rfl, hqc, hsc, hbel⟩ := hrel
              by_cases hlq : q < L1.length
              · obtain ⟨x, hx⟩ : ∃ x, L1[q]? = some x := ⟨L1[q], List.getElem?_eq_getElem hlq⟩
                have hxl := hsc.1 x (List.mem_of_getElem? hx)
                obtain ⟨g, cap', hv1, hrow⟩ := hsc.row hx
                cases hv1
                have hlq' : (q : Int) < (L1.length : Int) := by omega
                have HAQ := Lib.hid (ageVal_self (HL1.out ▸ HNK.out) hx)
                clear hx
                go_wp2_with (first
                  | ((with_reducible refine wl_load26 (b := g) ?_ hrow hxl ?_); (exact rfl)))
                refine (age_law c L1 x hxl _ hqc).mono ?_
                rw [HAQ.out]
                rintro e w4 ⟨rfl, hk⟩
                have hqc4 := hqc.keep hk
                have hsc4 := hsc.kept hk
                have hbel4 := hbel.trans (hk.mono hbel.size)
                clear hk hqc hsc hbel hrow
                go_wp2_with fail
                go_roundw
                case rel => exact ⟨q + 1, hlq, by go_num, hqc4, hsc4, hbel4⟩
                case measure => simp [intOf]; omega
              · have hlq' : ¬ (q : Int) < (L1.length : Int) := by omega
                go_wp2_with (first
                  | (go_at_call 10; refine (len_law c L1 _ hqc).mono ?_; rintro e w' ⟨rfl, rfl⟩)
                  | (go_at_call 11; refine (lives_any _).mono ?_; rintro e w' ⟨rfl, hk⟩))
                go_ret
                exact ⟨rfl, hbel.trans (hk.mono hbel.size)⟩

end Go.Proofs.Ytgipohphnegnhaa
