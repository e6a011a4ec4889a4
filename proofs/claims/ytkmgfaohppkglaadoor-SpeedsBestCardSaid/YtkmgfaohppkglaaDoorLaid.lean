/- What the laid table gives; the tied card's frame. -/
import Derived.Test.YtkmgfaohppkglaaDoorOpen
import Derived.Test.YtkmgfaohppkglaaDoorA
import Derived.Test.YtkmgfaohppkglaaDoorTie
import Derived.Test.YtkmgfaohppkglaaDoorCards
import Derived.MakeChecks
import Derived.LaidMore
import Derived.Stop.Joined
namespace Go.Proofs.YtkmgfaohppkglaaDoor
open Go.ChangeShapes Go.WideShapes Go.ChangeAt Go.RowKit
set_option maxRecDepth 100000

def laidL : List (String × DataW Unit) := [("math/bits.deBruijn64tab", Rows.laid_math_bits_deBruijn64tab)]

theorem gTab : Tryd.prog.globalNamed "math/bits.deBruijn64tab" = some 1 := by kernel_rfl
theorem tTab : (Tryd.prog.globals[1]?).map (·.type) = some 47 := by kernel_rfl
theorem own : ownKnob Tryd.prog.godebug = none := by kernel_rfl

theorem door_met (os : Os) (args : Array Value) : laidMetH Tryd.prog laidL ((World.doorLaid Tryd.prog 400 os).forCall (fun _ _ => 0) ⟨#[], args, []⟩).memory :=
  laidMetH_of_parts3 (fuel := 8) (laidMet_of_run' 8 (by kernel_rfl) (by kernel_rfl)) (by kernel_rfl) (by kernel_rfl)

theorem tab_of_laid {W : World} (h : laidMetH Tryd.prog laidL W) : TabAt W := by
  rw [MakeChecks.laidMetH_plain _ _ _ (by kernel_rfl)] at h
  obtain ⟨ps, ⟨g0, t0, cs0, f0, p0, q0, hg0, ht0, hv0, hd0, _, _⟩, _, _⟩ := h
  obtain rfl := Option.some.inj (gTab.symm.trans hg0)
  obtain rfl := Option.some.inj (tTab.symm.trans ht0)
  obtain ⟨l, hl, hlen, _, hx⟩ := array_of_trod (n := 64) (k := .u8) (e := 5) (by kernel_rfl) (by kernel_rfl) (by kernel_rfl) (by kernel_rfl) hd0
  have hlt : l = tab := by
    simp only [Prod.mk.injEq] at hx
    have h1 : (Rows.laid_math_bits_deBruijn64tab : DataW Unit) = .agg (tab.map fun m => .lit (.int .u8 m)) := rfl
    rw [h1] at hx
    have h2 := hx.1
    injection h2 with h3
    have hinj : ∀ (a b : List Int), (a.map fun m => (DataW.lit (.int .u8 m) : DataW Unit)) = (b.map fun m => DataW.lit (.int .u8 m)) → a = b := by
      intro a
      induction a with
      | nil => intro b hb; cases b with
        | nil => rfl
        | cons y b => cases hb
      | cons x a ih => intro b hb; cases b with
        | nil => cases hb
        | cons y b =>
          simp only [List.map_cons, List.cons.injEq, DataW.lit.injEq, Lit.int.injEq, true_and] at hb
          rw [hb.1, ih b hb.2]
    exact (hinj _ _ h3).symm
  subst hlt
  have hc : cs0 = icells .u8 tab := by
    apply Array.ext'
    rw [hl]; rfl
  subst hc
  simp only [World.var?, gTab, Option.bind_some] at hv0
  split at hv0
  · next cs t fr hh =>
    cases hv0
    exact RowAt.of_cells hh
  · cases hv0

end Go.Proofs.YtkmgfaohppkglaaDoor
