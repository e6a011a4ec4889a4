/- RecentsPlay: what lies in memory while the law runs, and the plain laws of the lists. -/
import Derived.Test.YtgipohphnegnhaaI
namespace Go.Proofs.Ytgipohphnegnhaa
open Go.RowKit

theorem ageOf_none_iff {L : List (List Int)} {h : List Int} : ageOf L h = none ↔ h ∉ L := by
  unfold ageOf
  rw [List.findIdx?_eq_none_iff]
  constructor
  · intro H hm
    have := H h hm
    simp at this
  · intro H x hx
    have : x ≠ h := by rintro rfl; exact H hx
    simpa using this

theorem pushed_nodup {L : List (List Int)} {h : List Int} (hL : L.Nodup) : (pushed L h).Nodup := by
  cases hk : ageOf L h with
  | some k => rw [pushed_there hk]; exact hL
  | none =>
    rw [pushed_new hk]
    have : (h :: L).Nodup := List.nodup_cons.2 ⟨ageOf_none_iff.1 hk, hL⟩
    exact this.sublist (List.take_sublist _ _)

theorem pushed_len {L : List (List Int)} {h : List Int} (hL : L.length ≤ 150) : (pushed L h).length ≤ 150 := by
  cases hk : ageOf L h with
  | some k => rw [pushed_there hk]; exact hL
  | none => rw [pushed_new hk, List.length_take]; omega

theorem ageOf_self {L : List (List Int)} (hL : L.Nodup) {i : Nat} {h : List Int} (hi : L[i]? = some h) : ageOf L h = some i := by
  refine ageOf_some_of hi fun j hj e => ?_
  obtain ⟨h1, e1⟩ := List.getElem?_eq_some_iff.1 hi
  obtain ⟨h2, e2⟩ := List.getElem?_eq_some_iff.1 e
  have := (List.getElem_inj hL).1 (e2.trans e1.symm)
  omega

theorem ageVal_self {L : List (List Int)} (hL : L.Nodup) {i : Nat} {h : List Int} (hi : L[i]? = some h) : ageVal L h = .tuple #[.int .i64 (i : Int), .bool true] := by
  unfold ageVal; rw [ageOf_self hL hi]; rfl

/-- The list behind i pushes. -/
def LP (zs : List Int) (i : Nat) : List (List Int) := (zs.take i).foldl (fun L z => pushed L (hashOf z)) []

theorem LP_zero (zs : List Int) : LP zs 0 = [] := rfl
theorem LP_succ {zs : List Int} {i : Nat} (hi : i < zs.length) : LP zs (i + 1) = pushed (LP zs i) (hashOf (zs.getD i 0)) := by
  have e : zs.take (i + 1) = zs.take i ++ [zs.getD i 0] := by
    rw [List.take_succ_eq_append_getElem hi]
    simp [hi]
  unfold LP
  rw [e, List.foldl_append]
  rfl
theorem LP_ok (zs : List Int) : ∀ i, i ≤ zs.length → (LP zs i).Nodup ∧ (LP zs i).length ≤ 150
  | 0, _ => ⟨by simp [LP_zero], by simp [LP_zero]⟩
  | i + 1, hi => by
    have h := LP_ok zs i (by omega)
    rw [LP_succ (by omega)]
    exact ⟨pushed_nodup h.1, pushed_len h.2⟩

theorem QL.cells {w : World} {b : Nat} {L : List (List Int)} (h : QL w b L) : ∃ C, w.heap[b]? = some (.cells C 44) := by
  obtain ⟨s, _, ⟨C, h1, _⟩, _⟩ := h
  exact ⟨C, h1⟩
theorem RQ.ne {w : World} {b m : Nat} {L M : List (List Int)} (hr : RQ w m M) (hq : QL w b L) : m ≠ b := by
  rintro rfl
  obtain ⟨v, h1, _⟩ := hr
  obtain ⟨C, h2⟩ := hq.cells
  rw [h2] at h1
  cases h1
theorem SLH.onlyQ {w w' : World} {b : Nat} {v : Value} {L M : List (List Int)} (h : SLH w v L) (hq : QL w b M) (ho : Only w w' b) : SLH w' v L :=
  h.keep fun g C _ hg => (ho.block g (Array.getElem?_eq_some_iff.1 hg).1 (by
    rintro rfl
    obtain ⟨C', h2⟩ := hq.cells
    rw [h2] at hg
    cases hg)).trans hg
theorem SLH.onlyR {w w' : World} {m : Nat} {v : Value} {L M : List (List Int)} (h : SLH w v L) (hr : RQ w m M) (ho : Only w w' m) : SLH w' v L :=
  h.keep fun g C _ hg => (ho.block g (Array.getElem?_eq_some_iff.1 hg).1 (by
    rintro rfl
    obtain ⟨v', h2, _⟩ := hr
    rw [h2] at hg
    cases hg)).trans hg
theorem RQ.onlyQ {w w' : World} {b m : Nat} {L M : List (List Int)} (h : RQ w m L) (hq : QL w b M) (ho : Only w w' b) : RQ w' m L := by
  have hne := h.ne hq
  obtain ⟨v, h1, h2⟩ := h
  exact ⟨v, (ho.block m (Array.getElem?_eq_some_iff.1 h1).1 hne).trans h1, h2.onlyQ hq ho⟩
theorem QL.only {w w' : World} {b c : Nat} {L : List (List Int)} (h : QL w c L) (hc : c ≠ b) (ho : Only w w' b) : QL w' c L :=
  h.of_block (ho.block c h.lt hc)

/-- The copy that was taken, and the list beside it. -/
def CP (b : Nat) (v9 v10 : Value) (o : Option (List (List Int))) (W : World) : Prop :=
  match o with
  | none => v9 = .pointer none ∧ v10 = .slice none 0 0
  | some L1 => ∃ c, v9 = .pointer (some ⟨c, 0, none⟩) ∧ c ≠ b ∧ QL W c L1 ∧ SLH W v10 L1

/-- What lies in memory while the law runs. -/
structure PS (w : World) (ask : List Int) (b m : Nat) (Lq Lr : List (List Int)) (v9 v10 : Value) (o : Option (List (List Int))) (W : World) : Prop where
  bel : Below w.heap.size w W
  box : W.heap[w.heap.size]? = some (.cells (icells .u8 ask) 26)
  q : QL W b Lq
  r : RQ W m Lr
  hb : w.heap.size < b
  hm : w.heap.size < m
  cp : CP b v9 v10 o W

theorem PS.keep {w : World} {ask : List Int} {b m : Nat} {Lq Lr : List (List Int)} {v9 v10 : Value} {o : Option (List (List Int))} {W W' : World} (s : PS w ask b m Lq Lr v9 v10 o W) (hk : Below W.heap.size W W') : PS w ask b m Lq Lr v9 v10 o W' := by
  refine ⟨s.bel.trans (hk.mono s.bel.size), (hk.block _ (Array.getElem?_eq_some_iff.1 s.box).1).trans s.box, s.q.keep hk, s.r.keep hk, s.hb, s.hm, ?_⟩
  cases o with
  | none => exact s.cp
  | some L1 =>
    obtain ⟨c, h1, h2, h3, h4⟩ := s.cp
    exact ⟨c, h1, h2, h3.keep hk, h4.kept hk⟩

theorem PS.drew {w : World} {ask : List Int} {b m : Nat} {Lq Lr : List (List Int)} {v9 v10 : Value} {o : Option (List (List Int))} {W : World} (s : PS w ask b m Lq Lr v9 v10 o W) (n : Nat) : PS w ask b m Lq Lr v9 v10 o (W.drewN n) :=
  s.keep ⟨rfl, rfl, rfl, Nat.le_refl _, fun _ _ => rfl⟩

theorem PS.pushQ {w : World} {ask : List Int} {b m : Nat} {Lq Lr Lq' : List (List Int)} {v9 v10 : Value} {o : Option (List (List Int))} {W W' : World} (s : PS w ask b m Lq Lr v9 v10 o W) (ho : Only W W' b) (hq : QL W' b Lq') : PS w ask b m Lq' Lr v9 v10 o W' := by
  have hb := s.hb
  refine ⟨ho.toBelow s.bel s.bel.size (by omega), (ho.block _ (Array.getElem?_eq_some_iff.1 s.box).1 (by omega)).trans s.box, hq, s.r.onlyQ s.q ho, s.hb, s.hm, ?_⟩
  cases o with
  | none => exact s.cp
  | some L1 =>
    obtain ⟨c, h1, h2, h3, h4⟩ := s.cp
    exact ⟨c, h1, h2, h3.only h2 ho, h4.onlyQ s.q ho⟩

theorem PS.pushR {w : World} {ask : List Int} {b m : Nat} {Lq Lr Lr' : List (List Int)} {v9 v10 : Value} {o : Option (List (List Int))} {W W' : World} (s : PS w ask b m Lq Lr v9 v10 o W) (ho : Only W W' m) (hr : RQ W' m Lr') : PS w ask b m Lq Lr' v9 v10 o W' := by
  have hm := s.hm
  refine ⟨ho.toBelow s.bel s.bel.size (by omega), (ho.block _ (Array.getElem?_eq_some_iff.1 s.box).1 (by omega)).trans s.box, s.q.only (fun e => s.r.ne s.q e.symm) ho, hr, s.hb, s.hm, ?_⟩
  cases o with
  | none => exact s.cp
  | some L1 =>
    obtain ⟨c, h1, h2, h3, h4⟩ := s.cp
    exact ⟨c, h1, h2, h3.only (fun e => s.r.ne h3 e.symm) ho, h4.onlyR s.r ho⟩

theorem zero40 (w : World) : (Instr.build 40 #[]).run Try.prog w = .ok (.agg #[.slice none 0 0]) w := by kernel_rfl

section
variable {ops : Array Oper} {Q : Exit → Act → World → Prop} {a : Act} {w : World} {rest : List Oper} {dst : Option Tmp} {x y : Operand} {ty : TypeId} {pos : String} {after : Array Edge}
theorem wl_append {v u : Value} {L M : List (List Int)} (hs : a.eval x = v) (hx : a.eval y = u) (hvL : SLH w v L) (hu : SLH w u M) (hlen : L.length + M.length ≤ 1000)
    (K : ∀ v' w', SLH w' v' (L ++ M) → w.grownBy w' v.ownBlock → wpList Try.prog ops Q rest (a.put dst v') w') :
    wpList Try.prog ops Q (⟨dst, .call { callee := .builtin .append, args := #[x, y], argTypes := #[38, 38] }, ty, pos, after, none⟩ :: rest) a w := by
  obtain ⟨v', w', hr, h1, h2⟩ := exec_append_slh (a := a) (o := ⟨dst, .call { callee := .builtin .append, args := #[x, y], argTypes := #[38, 38] }, ty, pos, after, none⟩) rfl hs hx hvL hu hlen (Nat.zero_le _)
  exact wpList_run rfl hr (K v' w' h1 h2)
end

end Go.Proofs.Ytgipohphnegnhaa
