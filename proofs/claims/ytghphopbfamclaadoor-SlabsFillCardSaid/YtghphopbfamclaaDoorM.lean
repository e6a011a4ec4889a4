/- SlabsFill: the walk. -/
import Derived.Test.YtghphopbfamclaaDoorL
namespace Go.Proofs.YtghphopbfamclaaDoor
open Go.RowKit

set_option maxRecDepth 60000 in
set_option maxHeartbeats 3200000 in
theorem fill_walk {a0 : Int} {n x c : Nat} {ao : Option Addr} {G : List Nat} (w : World) (ht : TabAt w) (hp : 0 < w.heap.size) (h0 : 0 ≤ a0) (h1 : a0 < 65536) (hn : (n : Int) = 1 + a0 % 300) (hG : BytesAt w ao G) (hc : G.length < 9223372036854775808) :
    Calls Tryd.prog 5 #[.int .u16 a0, .int .u64 (x : Int), .slice ao G.length c] w fun e w' => e = .returned (.bool true) ∧ Below w.heap.size w w' := by
  have e1 : Int.tmod a0 300 = a0 % 300 := Int.tmod_eq_emod_of_nonneg h0
  have e2 : 1 + a0 % 300 = (n : Int) := hn.symm
  have hn1 : 1 ≤ n := by omega
  have hn2 : n ≤ 300 := by omega
  clear hn
  obtain ⟨m, hm⟩ : ∃ m, G.length = m := ⟨_, rfl⟩
  rw [hm] at hc ⊢
  have HM := Lib.hid hm
  clear hm
  go_enter Tryd.func5, Tryd.ntmps5
  go_wp2_with fail
  refine (held_new (room := n) w w (Below.refl _ _) ht hp hn1 (by omega)).mono ?_
  rintro e w1 ⟨p, bt, bu, rfl, hh⟩
  by_cases hbig : 300 < m
  · have hbig' : (m : Int) > 300 := by omega
    have hp1 : 0 < w1.heap.size := Nat.lt_of_lt_of_le hp hh.below.size
    go_wp2_with fail
    refine (lives_any w1 hh.tabAt hp1).mono ?_
    rintro e w2 ⟨rfl, hb⟩
    have hb2 := hh.below.trans (hb.mono hh.below.size)
    clear hh hb hp1
    go_wp2
    go_ret
    exact ⟨rfl, hb2⟩
  · have hbig' : ¬ (m : Int) > 300 := by omega
    go_wp2_with fail
    go_loopw [6, 10] (fun v6 v10 wr => ∃ (i : Nat) (V : Nat → Nat), i ≤ n ∧ v10 = .int .i64 i ∧ v6 = .bool false ∧ Held w wr p bt bu n (below i) V ∧ Hid (∀ j, j < i → V j = plus x j)) (fun _ v10 _ => n - (intOf v10).toNat)
    case atStart => exact ⟨0, _, by omega, rfl, rfl, by rw [below_zero]; exact hh, Lib.hid fun j hj => absurd hj (Nat.not_lt_zero _)⟩
    case round =>
      clear hh w1
      obtain ⟨i, V, hi, rfl, rfl, hh, HV⟩ := hrel
      by_cases hlt : i < n
      · have hlt' : (i : Int) < n := by omega
        have e3 := plus_wrap x i
        have e4 : IntKind.u64.wrap (i : Int) = i := by rw [IntKind.wrap_u64]; omega
        have e5 : (i : Int) < 18446744073709551616 := by omega
        go_wp2_with fail
        refine (held_put hh (plus x i) i hlt below_set (below_at i)).mono ?_
        rintro e w1 ⟨rfl, h2⟩
        rw [below_next] at h2
        have HV2 : Hid (∀ j, j < i + 1 → upd V i (plus x i) j = plus x j) := Lib.hid fun j hj => by
          by_cases e : j = i
          · subst e; exact upd_same _ _ _
          · rw [upd_other _ _ e]; exact HV.out j (by omega)
        clear hh HV
        go_wp2
        go_roundw
        case rel => exact ⟨i + 1, _, by omega, by simp, rfl, h2, HV2⟩
        case measure => simp [intOf]; omega
      · obtain rfl : n = i := by omega
        go_wp2_with fail
        refine (held_full hh x below_set).mono ?_
        rintro e w1 ⟨rfl, h2⟩
        go_wp2_with fail
        refine (held_len h2).mono ?_
        rintro e w2 ⟨he, h3⟩
        rw [cnt_full below_set] at he
        subst he
        have HV2 : Hid (∀ j, j < n → V j = plus x j) := HV
        clear hh h2 HV
        have hlts := h3.slab.lts
        obtain ⟨fb, hfb⟩ : ∃ fb, w2.heap.size = fb := ⟨_, rfl⟩
        have hf1 : fb ≠ p := by omega
        have hf2 : fb ≠ bt := by omega
        have hf3 : fb ≠ bu := by omega
        have hf4 : w.heap.size ≤ fb := by rw [← hfb]; exact h3.below.size
        have hmk : (w2.alloc (.cells (icells .i64 (List.replicate n 0)) 3)).heap[fb]? = some (.cells (icells .i64 (marks n (fun _ => false))) 3) := by
          rw [marks_none, ← hfb]; exact heap_alloc_new _ _
        have h4 : Held w (w2.alloc (.cells (icells .i64 (List.replicate n 0)) 3)) p bt bu n (stay n (fun _ => false) 0) V := by
          rw [stay_none]; exact h3.keep ((Below.refl _ _).alloc (Nat.le_refl _) _)
        have hn3 : n ≤ 4096 := by omega
        have hcn : cnt n (fun _ => false) = 0 := by simp [cnt, nums]
        go_wp2_with ((with_reducible refine wpList_run (v := .slice (some ⟨w2.heap.size, 0, none⟩) n n) ?_ (exec_make_ints (t := 36) (x := .tmp 80) (n := n) ?_ ?_ ?_ ?_ hn3) ?_); (exact rfl); (exact rfl); (exact rfl); (kernel_rfl); (kernel_rfl))
        generalize w2.alloc (.cells (icells .i64 (List.replicate n 0)) 3) = w3 at hmk h4
        clear hlts h3 hfb w2 hcn
        go_loopw [6, 14, 15] (fun v6 v14 v15 wr => ∃ (i : Nat) (F : Nat → Bool), i ≤ m ∧ v15 = .int .i64 i ∧ v14 = .int .i64 (cnt n F : Nat) ∧ v6 = .bool false ∧ Held w wr p bt bu n (stay n F 0) V ∧ wr.heap[fb]? = some (.cells (icells .i64 (marks n F)) 3)) (fun _ _ v15 _ => m - (intOf v15).toNat)
        case atStart => exact ⟨0, fun _ => false, by omega, rfl, by rw [cnt_none]; rfl, rfl, h4, hmk⟩
        case round =>
          clear h4 hmk w3
          obtain ⟨i, F, hi, rfl, rfl, rfl, hh, hmk⟩ := hrel
          have hcl := cnt_le n F
          by_cases hlt : i < m
          · have hlt' : (i : Int) < m := by omega
            obtain ⟨b, off, rfl, hb1, hb2, hb3⟩ := hG i (by rw [HM.out]; exact hlt)
            have hb4 : wr.cell? ⟨b, off + i, none⟩ = some (.int .u8 ((G.getD i 0 : Nat) : Int)) := by
              rw [← hb2]; simp only [World.cell?]; rw [hh.below.block b hb1]
            generalize G.getD i 0 = g at hb4 hb3
            obtain ⟨k, hk⟩ : ∃ k, g % n = k := ⟨_, rfl⟩
            have hkn : k < n := by rw [← hk]; exact Nat.mod_lt _ (by omega)
            have hkn' : (k : Int) < n := by omega
            have e3 : Int.tmod (g : Int) n = (k : Int) := by rw [Int.tmod_eq_emod_of_nonneg (by omega), ← hk]; simp
            have e4 : (g : Int) % n = (k : Int) := by rw [← hk]; simp
            clear hb2 hk
            have c1 := marks_cell hmk hkn
            cases hF : F k with
            | true =>
              rw [hF] at c1
              go_wp2_with fail
              refine (free_again hh hkn hF).mono ?_
              rintro e w5 ⟨rfl, h5, hT⟩
              have c5 : w5.cell? ⟨fb, k, none⟩ = some (.int .i64 1) := cell_keep (hT.block fb hf1 hf2 hf3) c1
              have hmk5 := (hT.block fb hf1 hf2 hf3).trans hmk
              clear hh hmk c1 hT hb4 hF
              go_wp2
              go_roundw
              case rel => exact ⟨i + 1, F, by omega, by simp, rfl, rfl, h5, hmk5⟩
              case measure => simp [intOf]; omega
            | false =>
              rw [hF] at c1
              have hcn := cnt_on hkn hF
              go_wp2_with fail
              refine (free_first hh hkn hF).mono ?_
              rintro e w5 ⟨rfl, h5, hT⟩
              have c5 : w5.cell? ⟨fb, k, none⟩ = some (.int .i64 0) := cell_keep (hT.block fb hf1 hf2 hf3) c1
              have hmk5 := (hT.block fb hf1 hf2 hf3).trans hmk
              clear hh hmk c1 hT hb4 hF
              have hcz : (cnt n F : Int) ≤ 300 := by omega
              go_wp2_with ((with_reducible refine wl_store1 (ty := 3) (p := .tmp 118) (x := .const (.int .i64 1)) (b := fb) (j := k) (v := .int .i64 1) ?_ ?_ ?_ ?_ ?_ ?_ ?_ ?_ hmk5 ?_ ?_); (exact rfl); (exact rfl); (exact rfl); (exact rfl); (exact rfl); (exact rfl); (exact rfl); (kernel_rfl); (rw [size_icells, marks_len]; exact hkn); intro w6 hw6 hW6)
              refine ⟨⟨i + 1, upd F k true, by omega, by simp, by rw [hcn]; simp, rfl, h5.wrote hW6 hf1 hf2 hf3 hf4, by rw [hw6, marks_set]⟩, ?_⟩
              simp [intOf]; omega
          · obtain rfl : m = i := by omega
            have e5 : (n : Int) - (cnt n F : Int) = ((n - cnt n F : Nat) : Int) := by omega
            have hcs := cnt_stay n F
            clear hG
            go_wp2_with fail
            refine (len_law hh.slab).mono ?_
            rw [hcs]
            rintro e w5 ⟨rfl, rfl⟩
            clear hcs
            go_wp2_with fail
            go_loopw [6, 18] (fun v6 v18 wq => ∃ i : Nat, i ≤ n ∧ v18 = .int .i64 i ∧ v6 = .bool false ∧ wq = wr) (fun _ v18 _ => n - (intOf v18).toNat)
            case atStart => exact ⟨0, by omega, rfl, rfl, rfl⟩
            case round =>
              obtain ⟨i, hi, rfl, rfl, rfl⟩ := hrel
              by_cases hlt : i < n
              · have hlt' : (i : Int) < n := by omega
                have c1 := marks_cell hmk hlt
                cases hF : F i with
                | true =>
                  rw [hF, if_pos rfl] at c1
                  go_wp2_with fail
                  refine (get_gone hh hlt hF).mono ?_
                  rintro e w5 ⟨rfl, rfl⟩
                  clear hF
                  go_wp2
                  go_roundw
                  case rel => exact ⟨i + 1, by omega, by simp, rfl, trivial⟩
                  case measure => simp [intOf]; omega
                | false =>
                  rw [hF, if_neg (by decide)] at c1
                  have hv := HV2.out i hlt
                  have e6 := plus_wrap x i
                  have e7 : IntKind.u64.wrap (i : Int) = i := by rw [IntKind.wrap_u64]; omega
                  have e8 : (i : Int) < 18446744073709551616 := by omega
                  go_wp2_with fail
                  refine (get_stay hh hlt hF).mono ?_
                  rw [hv]
                  rintro e w5 ⟨rfl, rfl⟩
                  clear hF hv
                  go_wp2
                  go_roundw
                  case rel => exact ⟨i + 1, by omega, by simp, rfl, trivial⟩
                  case measure => simp [intOf]; omega
              · obtain rfl : n = i := by omega
                go_wp2_with fail
                go_loopw [6, 21] (fun v6 v21 wq => ∃ (i : Nat) (V4 : Nat → Nat), i ≤ n ∧ v21 = .int .i64 i ∧ v6 = .bool false ∧ Held w wq p bt bu n (stay n F i) V4 ∧ wq.heap[fb]? = some (.cells (icells .i64 (marks n F)) 3)) (fun _ v21 _ => n - (intOf v21).toNat)
                case atStart => exact ⟨0, V, by omega, rfl, rfl, hh, hmk⟩
                case round =>
                  clear hh hmk
                  obtain ⟨i, V4, hi, rfl, rfl, hh, hmk⟩ := hrel
                  by_cases hlt : i < n
                  · have hlt' : (i : Int) < n := by omega
                    have c1 := marks_cell hmk hlt
                    cases hF : F i with
                    | true =>
                      rw [hF, if_pos rfl] at c1
                      go_wp2_with fail
                      refine (held_putT hh x i hlt (stay_set hlt) (stay_at hF)).mono ?_
                      rw [stay_put hlt]
                      rintro e w5 ⟨rfl, h5, hT⟩
                      have hmk5 := (hT.block fb hf1 hf2 hf3).trans hmk
                      clear hh hmk c1 hF hT
                      go_wp2
                      go_roundw
                      case rel => exact ⟨i + 1, _, by omega, by simp, rfl, h5, hmk5⟩
                      case measure => simp [intOf]; omega
                    | false =>
                      rw [hF, if_neg (by decide)] at c1
                      have h5 := hh
                      rw [stay_skip hF] at h5
                      clear hh hF
                      go_wp2
                      go_roundw
                      case rel => exact ⟨i + 1, _, by omega, by simp, rfl, h5, hmk⟩
                      case measure => simp [intOf]; omega
                  · obtain rfl : n = i := by omega
                    have hcs := cnt_stay_all n F
                    clear hmk
                    go_wp2_with fail
                    refine (len_law hh.slab).mono ?_
                    rw [hcs]
                    rintro e w5 ⟨rfl, rfl⟩
                    clear hcs
                    go_wp2_with fail
                    refine (lives_any _ hh.tabAt (Nat.lt_of_lt_of_le hp hh.below.size)).mono ?_
                    rintro e w6 ⟨rfl, hb⟩
                    have hb2 := hh.below.trans (hb.mono hh.below.size)
                    clear hh hb
                    go_wp2
                    go_ret
                    exact ⟨rfl, hb2⟩

end Go.Proofs.YtghphopbfamclaaDoor
