/- Rows of things appended to a slice of one's own. -/
import Derived.Test.YtgjijoielfpmkaaJ
import Derived.Laws.OwnMore
set_option linter.unusedVariables false
namespace Go.Proofs.Ytgjijoielfpmkaa
open Go.RowKit

def flat (D : List (Array Value)) : List Value := (D.map Array.toList).flatten

theorem flat_length {D : List (Array Value)} {s : Nat} (h : ∀ C ∈ D, C.size = s) : (flat D).length = D.length * s := by
  induction D with
  | nil => simp [flat]
  | cons C D ih =>
    have := ih (fun C' h' => h C' (List.mem_cons_of_mem _ h'))
    simp only [flat, List.map_cons, List.flatten_cons, List.length_append, List.length_cons, Array.length_toList] at this ⊢
    rw [this, h C List.mem_cons_self, Nat.add_mul]
    omega
theorem flat_append (D E : List (Array Value)) : flat (D ++ E) = flat D ++ flat E := by simp [flat]
theorem flat_get {D : List (Array Value)} {s : Nat} (h : ∀ C ∈ D, C.size = s) : ∀ {j : Nat} {C : Array Value} {k : Nat}, D[j]? = some C → k < s → (flat D)[j * s + k]? = C[k]? := by
  induction D with
  | nil => intro j C k hj; simp at hj
  | cons C0 D ih =>
    intro j C k hj hk
    have h0 := h C0 List.mem_cons_self
    simp only [flat, List.map_cons, List.flatten_cons]
    match j, hj with
    | 0, hj =>
      simp only [List.getElem?_cons_zero, Option.some.injEq] at hj
      subst hj
      rw [Nat.zero_mul, Nat.zero_add, List.getElem?_append_left (by simpa [h0] using hk), Array.getElem?_toList]
    | j + 1, hj =>
      simp only [List.getElem?_cons_succ] at hj
      rw [List.getElem?_append_right (by simp only [Array.length_toList, h0, Nat.add_mul]; omega)]
      have e : (j + 1) * s + k - C0.toList.length = j * s + k := by simp only [Array.length_toList, h0, Nat.add_mul]; omega
      rw [e]
      exact ih (fun C' h' => h C' (List.mem_cons_of_mem _ h')) hj hk

/-- A slice of one's own, row by row. -/
structure OwnAt (w : World) (base : Nat) (e : TypeId) (s : Nat) (v : Value) (D : List (Array Value)) : Prop where
  own : w.ownsRow base e s v D.length (flat D)
  size : ∀ C ∈ D, C.size = s

theorem OwnAt.nil (w : World) (base : Nat) (e : TypeId) (s : Nat) : OwnAt w base e s (.slice none 0 0) [] := ⟨World.ownsRow_nil _ _ _ _, by simp⟩

theorem OwnAt.form {w : World} {base : Nat} {e : TypeId} {s : Nat} {v : Value} {D : List (Array Value)} (h : OwnAt w base e s v D) :
    (v = .slice none 0 0 ∧ D = []) ∨ ∃ g cap cur, v = .slice (some ⟨g, 0, none⟩) D.length cap ∧ base ≤ g ∧ w.heap[g]? = some (.cells cur e) ∧ cur.size = cap * s ∧ D.length ≤ cap ∧ cap ≤ maxLen ∧ RowsAt w (some ⟨g, 0, none⟩) s D := by
  rcases h.own.2 with ⟨h1, h2⟩ | ⟨g, cap, cur, h1, h2, h3, h4, h5, h6, h7⟩
  · exact .inl ⟨h1, List.length_eq_zero_iff.1 h2⟩
  · refine .inr ⟨g, cap, cur, h1, h2, h3, h6, h4, h5, fun j C hj => ⟨g, 0, rfl, cur, e, (0, 0), h3, ?_, fun k hk => ?_⟩⟩
    · have hC := h.size C (List.mem_of_getElem? hj)
      have hjl := (List.getElem?_eq_some_iff.1 hj).1
      have : (j + 1) * s ≤ cap * s := Nat.mul_le_mul_right s (by omega)
      rw [Nat.add_mul] at this
      omega
    · have hC := h.size C (List.mem_of_getElem? hj)
      have hjl := (List.getElem?_eq_some_iff.1 hj).1
      have hg := flat_get h.size hj (k := k) (by omega)
      rw [← h7] at hg
      have : (j + 1) * s ≤ D.length * s := Nat.mul_le_mul_right s (by omega)
      rw [Nat.add_mul] at this
      rw [List.getElem?_take_of_lt (by omega), Array.getElem?_toList] at hg
      rw [Nat.zero_add]
      exact hg

theorem OwnAt.rows {w : World} {base : Nat} {e : TypeId} {s : Nat} {v : Value} {D : List (Array Value)} (h : OwnAt w base e s v D) : ∃ ao c, v = .slice ao D.length c ∧ RowsAt w ao s D ∧ (ao = none → c = 0) := by
  rcases h.form with ⟨h1, rfl⟩ | ⟨g, cap, cur, h1, _, _, _, _, _, h2⟩
  · exact ⟨none, 0, h1, fun j C hj => by simp at hj, fun _ => rfl⟩
  · exact ⟨_, _, h1, h2, fun e => by cases e⟩

theorem OwnAt.keep {w w' : World} {base : Nat} {e : TypeId} {s : Nat} {v : Value} {D : List (Array Value)} (h : OwnAt w base e s v D) (hb : Below w.heap.size w w') : OwnAt w' base e s v D := by
  refine ⟨⟨h.own.1, ?_⟩, h.size⟩
  rcases h.own.2 with h1 | ⟨g, cap, cur, h1, h2, h3, h4⟩
  · exact .inl h1
  · exact .inr ⟨g, cap, cur, h1, h2, (hb.block g (Array.getElem?_eq_some_iff.1 h3).1).trans h3, h4⟩

/-- append. -/
theorem run_append_rows {w : World} {base : Nat} {t ty e : TypeId} {z : Value} {s bytes : Nat} (ht : Try.prog.underlying t = some (.slice e)) (hi : (Try.prog.info? e).map (fun i => (i.zero, i.size, i.bytes)) = some (some z, s, bytes)) (hzs : z.cells.size = s) (hs : 0 < s)
    {v : Value} {D : List (Array Value)} (hown : OwnAt w base e s v D) {ao : Option Addr} {c : Nat} {E : List (Array Value)} (hE : RowsAt w ao s E) (hEs : ∀ C ∈ E, C.size = s) (hE1 : ∀ C ∈ E, ∀ u ∈ C.toList, u.oneCell' = true) (hn : ao = none → c = 0)
    (h63 : D.length + E.length ≤ maxLen) (hby : (D.length + E.length) * bytes ≤ 140737488355328) (hbase : base ≤ w.heap.size) :
    ∃ v' w', (Builtin.append_ #[t, t] ty #[v, .slice ao E.length c]).run Try.prog w = .ok v' w' ∧ OwnAt w' base e s v' (D ++ E) ∧ w.grownBy w' v.ownBlock := by
  obtain ⟨i, h1, h2, h3, h4⟩ := info_parts hi
  cases ao with
  | none =>
    obtain rfl := hn rfl
    obtain rfl : E = [] := by
      cases E with
      | nil => rfl
      | cons C E => obtain ⟨b, off, h, _⟩ := hE 0 C rfl; cases h
    refine ⟨v, w, run_append_owned_none (P := Try.prog) (w := w) base t ty e i s ht h1 v D.length _ hown.own, by rw [List.append_nil]; exact hown, ⟨rfl, rfl, rfl, Nat.le_refl _, fun _ _ _ => rfl⟩⟩
  | some ad =>
    have hnews : ∀ (j : Nat) (u : Value), (flat E)[j]? = some u → w.cell? (ad.add j) = some u := by
      intro j u hj
      have hjl := (List.getElem?_eq_some_iff.1 hj).1
      rw [flat_length hEs] at hjl
      have hq : j / s < E.length := Nat.div_lt_of_lt_mul (by rw [Nat.mul_comm]; exact hjl)
      have hr : j % s < s := Nat.mod_lt _ hs
      have he : j / s * s + j % s = j := by rw [Nat.mul_comm]; exact Nat.div_add_mod j s
      have hC : E[j / s]? = some E[j / s] := List.getElem?_eq_getElem hq
      have hg := flat_get hEs hC hr
      rw [he, hj] at hg
      obtain ⟨b, off, ea, hrow⟩ := hE _ _ hC
      obtain rfl := Option.some.inj ea
      have hsz := hEs _ (List.mem_of_getElem? hC)
      have hc := hrow.cell (j := j % s) (by omega)
      have hadd : (⟨b, off, none⟩ : Addr).add j = ⟨b, off + j / s * s + j % s, none⟩ := by
        have : off + j = off + j / s * s + j % s := by omega
        rw [← this]
        unfold Addr.add; split <;> simp_all
      rw [hadd, hc, ← Array.getElem?_eq_getElem]
      exact hg.symm
    obtain ⟨v', w', hrun, hown', hgr, _⟩ := run_append_own (P := Try.prog) w base t ty e i z s bytes ht h1 h2 h3 h4 hzs hs v D.length (flat D) hown.own ad E.length c (flat E) (flat_length hEs) hnews (fun u hu => by
        simp only [flat, List.mem_flatten, List.mem_map] at hu
        obtain ⟨l, ⟨C, hC, rfl⟩, hu⟩ := hu
        exact hE1 C hC u hu) h63 hby hbase
    refine ⟨v', w', hrun, ⟨?_, fun C hC => ?_⟩, hgr⟩
    · rw [List.length_append, flat_append]; exact hown'
    · rcases List.mem_append.1 hC with h | h
      · exact hown.size C h
      · exact hEs C h
end Go.Proofs.Ytgjijoielfpmkaa
