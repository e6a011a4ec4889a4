/- The map of keys: how many times each stood there. -/
import Derived.Test.YtgjijoielfpmkaaE
import Derived.WideKeyEntry
import Derived.WideKeyArr2
set_option linter.unusedVariables false
namespace Go.Proofs.Ytgjijoielfpmkaa
open Go.RowKit Go.ChangeMaps Go.MapKept Go.WideMaps

theorem kv_inj {k k' : List Int} (h : kv k = kv k') : k = k' := by
  simp only [kv, icells, Value.agg.injEq] at h
  have h' : (k.map (Value.int .u8)) = (k'.map (Value.int .u8)) := by simpa using h
  exact (List.map_inj_right (fun a b e => by cases e; rfl)).1 h'

theorem arr41 : ArrKey Try.prog 41 5 32 := ⟨u41, by kernel_rfl, by kernel_rfl, by kernel_rfl⟩
theorem law41 : KeyLaw Try.prog 41 := arr41.law

theorem keyOf_kv {k : List Int} (h : IsKey k) : ∃ kl, keyOf Try.prog 41 (kv k) = some kl := by
  obtain ⟨h1, h2⟩ := h
  have hsz : ∃ m, Try.prog.types.size = m + 1 := ⟨_, rfl⟩
  have hkt := arr41.keyType hsz
  obtain ⟨m0, hm0⟩ := hsz
  have hn : (icells .u8 k).size = 32 := by rw [size_icells, h1]
  have hl : ∀ L : List Nat, (∀ i ∈ L, i < 32) → L.mapM (fun i => Try.prog.keyLits (m0 + 1) 5 (((icells .u8 k).toList.drop (i * Try.prog.cellsOf 5)).take (Try.prog.cellsOf 5))) = some (L.map fun i => [Lit.int .u8 (k.getD i 0)]) := by
    intro L hL
    induction L with
    | nil => rfl
    | cons i L ih =>
      rw [List.mapM_cons, ih (fun j hj => hL j (List.mem_cons_of_mem _ hj))]
      have hi := hL i (List.mem_cons_self)
      have e : ((icells .u8 k).toList.drop (i * Try.prog.cellsOf 5)).take (Try.prog.cellsOf 5) = [Value.int .u8 (k.getD i 0)] := by
        rw [arr41.one, Nat.mul_one, List.drop_eq_getElem_cons (by simpa [icells, h1] using hi)]
        simp [icells, h1, hi]
      rw [e]
      have hm : k.getD i 0 ∈ k := by
        rw [List.getD_eq_getElem?_getD, List.getElem?_eq_getElem (by omega)]
        exact List.getElem_mem _
      have hw := h2 _ hm
      have hwf : (Lit.int .u8 (k.getD i 0)).wf = true := by
        simp only [Lit.wf, IntKind.min, IntKind.max, IntKind.signed, IntKind.bits]
        generalize k.getD i 0 = x at hw
        simp
        omega
      simp only [Program.keyLits, u5, hwf, and_self, if_true, List.map_cons, Option.bind_eq_bind, Option.bind_some, pure]
  refine ⟨.string (keyBytes ((List.range 32).map fun i => [Lit.int .u8 (k.getD i 0)]).flatten), ?_⟩
  unfold keyOf kv
  simp only [u41]
  rw [if_pos (by simp [hkt, Value.formed, arr41.size, hn]), hm0]
  unfold Program.keyLits
  simp only [u41, Value.cells]
  rw [if_pos (by rw [arr41.size]; simpa using hn), hl _ (fun i hi => by simpa using hi)]
  rfl

/-- The map in block r: its keys, in the order in which they came; each stands for a number of 0 to N. -/
structure MapOf (w : World) (r : Nat) (S : List (List Int)) (N : Int) (es : Array MapEntry) (clock : Nat) : Prop where
  heap : w.heap[r]? = some (.map es clock)
  stamped : Stamped es clock
  keys : es.toList.map (·.key) = S.map kv
  vals : ∀ x ∈ es.toList, ∃ c : Int, x.val = .int .i64 c ∧ 0 ≤ c ∧ c ≤ N

theorem MapOf.len {w : World} {r clock : Nat} {S : List (List Int)} {N : Int} {es : Array MapEntry} (h : MapOf w r S N es clock) : es.size = S.length := by
  have := congrArg List.length h.keys
  simpa using this

theorem MapOf.mono {w : World} {r clock : Nat} {S : List (List Int)} {N M : Int} {es : Array MapEntry} (h : MapOf w r S N es clock) (hm : N ≤ M) : MapOf w r S M es clock :=
  { h with vals := fun x hx => by obtain ⟨c, h1, h2, h3⟩ := h.vals x hx; exact ⟨c, h1, h2, by omega⟩ }
theorem MapOf.of_block {w w' : World} {r clock : Nat} {S : List (List Int)} {N : Int} {es : Array MapEntry} (h : MapOf w r S N es clock) (e : w'.heap[r]? = w.heap[r]?) : MapOf w' r S N es clock :=
  { h with heap := e.trans h.heap }

/-- The key, put among those that are there. -/
def ins (S : List (List Int)) (k : List Int) : List (List Int) := if k ∈ S then S else S ++ [k]

/-- Whose key it is, if anybody's. -/
theorem MapOf.find {w W : World} {r clock : Nat} {S : List (List Int)} {N : Int} {es : Array MapEntry} (h : MapOf w r S N es clock) (hS : ∀ k ∈ S, IsKey k) {k : List Int} (hk : IsKey k) :
    ((Instr.findKey 41 (kv k) es.toList).run Try.prog W = .ok none W ∧ k ∉ S) ∨ ∃ j e, (Instr.findKey 41 (kv k) es.toList).run Try.prog W = .ok (some (j, e.val)) W ∧ es[j]? = some e ∧ e.key = kv k ∧ k ∈ S := by
  obtain ⟨kl, hkl⟩ := keyOf_kv hk
  have hkeys : ∀ e ∈ es.toList, ∃ l, keyOf Try.prog 41 e.key = some l := fun e he => by
    have hm : e.key ∈ S.map kv := by rw [← h.keys]; exact List.mem_map_of_mem he
    obtain ⟨k', hk', e1⟩ := List.mem_map.1 hm
    rw [← e1]
    exact keyOf_kv (hS k' hk')
  rcases law41.find W hkl es.toList hkeys with ⟨h1, h2⟩ | ⟨j, e, h1, h2, h3⟩
  · refine .inl ⟨h1, fun hm => ?_⟩
    have : kv k ∈ es.toList.map (·.key) := by rw [h.keys]; exact List.mem_map_of_mem hm
    obtain ⟨e, he, e1⟩ := List.mem_map.1 this
    exact h2 e he e1
  · refine .inr ⟨j, e, h1, by simpa using h2, h3, ?_⟩
    have : e.key ∈ S.map kv := by rw [← h.keys]; exact List.mem_map_of_mem (List.mem_of_getElem? h2)
    obtain ⟨k', hk', e1⟩ := List.mem_map.1 this
    rw [h3] at e1
    rw [← kv_inj e1]
    exact hk'

theorem u45 : Try.prog.underlying 45 = some (.map 41 3) := by kernel_rfl
theorem z3 (w : World) : (zeroValue 3).run Try.prog w = .ok (.int .i64 0) w := by
  have h := zero3
  cases hi : Try.prog.info? 3 with
  | none => rw [hi] at h; cases h
  | some i =>
    rw [hi] at h
    simp only [Option.bind_some] at h
    simp [zeroValue, typeInfo, hi, h, Sem.run_bind, Result.andThen]

/-- The look-up. -/
theorem MapOf.lookup {w : World} {r clock : Nat} {S : List (List Int)} {N : Int} {es : Array MapEntry} (h : MapOf w r S N es clock) (hS : ∀ k ∈ S, IsKey k) {k : List Int} (hk : IsKey k) (hN : 0 ≤ N) :
    ∃ c : Int, (Instr.lookup 45 (.map (some r)) (kv k) false).run Try.prog w = .ok (.int .i64 c) w ∧ 0 ≤ c ∧ c ≤ N := by
  obtain ⟨kl, hkl⟩ := keyOf_kv hk
  rcases h.find (W := w) hS hk with ⟨h1, _⟩ | ⟨j, e, h1, h2, h3, _⟩
  · exact ⟨0, by simp [Instr.lookup, run_underlying u45, MapKept.run_getObj_map h.heap, law41.check w _ hkl, h1, Result.andThen], Int.le_refl _, hN⟩
  · obtain ⟨c, e1, e2, e3⟩ := h.vals e (by simpa using List.mem_of_getElem? (l := es.toList) (by simpa using h2))
    exact ⟨c, by simp [Instr.lookup, run_underlying u45, MapKept.run_getObj_map h.heap, law41.check w _ hkl, h1, e1, Result.andThen], e2, e3⟩

/-- What the look-up at k hands back. -/
def Looks (W : World) (r : Nat) (k : List Int) (c : Int) : Prop := (Instr.lookup 45 (.map (some r)) (kv k) false).run Try.prog W = .ok (.int .i64 c) W

theorem MapOf.looks_none {w : World} {r clock : Nat} {S : List (List Int)} {N : Int} {es : Array MapEntry} (h : MapOf w r S N es clock) (hS : ∀ k ∈ S, IsKey k) {k : List Int} (hk : IsKey k) (hno : k ∉ S) : Looks w r k 0 := by
  obtain ⟨kl, hkl⟩ := keyOf_kv hk
  rcases h.find (W := w) hS hk with ⟨h1, _⟩ | ⟨j, e, h1, h2, h3, h4⟩
  · unfold Looks
    simp [Instr.lookup, run_underlying u45, MapKept.run_getObj_map h.heap, law41.check w _ hkl, h1, Result.andThen]
  · exact absurd h4 hno
theorem MapOf.looks {w : World} {r clock : Nat} {S : List (List Int)} {N : Int} {es : Array MapEntry} (h : MapOf w r S N es clock) (hS : ∀ k ∈ S, IsKey k) {k : List Int} (hk : IsKey k) {e : MapEntry} {c : Int} (he : e ∈ es.toList) (hkey : e.key = kv k) (hv : e.val = .int .i64 c) : Looks w r k c := by
  obtain ⟨kl, hkl⟩ := keyOf_kv hk
  rcases h.find (W := w) hS hk with ⟨h1, h2⟩ | ⟨j, e', h1, h2, h3, _⟩
  · exfalso
    have : e.key ∈ S.map kv := by rw [← h.keys]; exact List.mem_map_of_mem he
    obtain ⟨k', hk', e1⟩ := List.mem_map.1 this
    rw [hkey] at e1
    rw [← kv_inj e1] at h2
    exact h2 hk'
  · obtain ⟨i, hi⟩ := List.mem_iff_getElem?.1 he
    have h2' : es.toList[j]? = some e' := by simpa using h2
    have hn := h.stamped.2.2
    have g1 : (es.toList.map (·.key))[i]? = some (kv k) := by rw [List.getElem?_map, hi]; simp [hkey]
    have g2 : (es.toList.map (·.key))[j]? = some (kv k) := by rw [List.getElem?_map, h2']; simp [h3]
    obtain ⟨a1, b1⟩ := List.getElem?_eq_some_iff.1 g1
    obtain ⟨a2, b2⟩ := List.getElem?_eq_some_iff.1 g2
    have hij := (List.getElem_inj hn).1 (b1.trans b2.symm)
    subst hij
    rw [hi] at h2'
    obtain rfl := Option.some.inj h2'
    unfold Looks
    simp [Instr.lookup, run_underlying u45, MapKept.run_getObj_map h.heap, law41.check w _ hkl, h1, hv, Result.andThen]

/-- A stamp that is there. -/
def HasStamp (es : Array MapEntry) (st : Nat) : Prop := ∃ (j : Nat) (e : MapEntry), es[j]? = some e ∧ e.born = st

/-- The entry is made, if it isn't there. -/
theorem MapOf.entry {w : World} {r clock : Nat} {S : List (List Int)} {N : Int} {es : Array MapEntry} (h : MapOf w r S N es clock) (hS : ∀ k ∈ S, IsKey k) {k : List Int} (hk : IsKey k) (hN : 0 ≤ N) :
    ∃ (c : Int) (st : Nat) (es1 : Array MapEntry) (clock1 : Nat) (w1 : World), (Instr.mapEntry 45 (.map (some r)) (kv k)).run Try.prog w = .ok (.tuple #[.int .i64 c, goInt st]) w1 ∧ MapOf w1 r (ins S k) N es1 clock1 ∧ HasStamp es1 st ∧ Wrote w w1 r ∧
      Looks w r k c ∧ Looks w1 r k c ∧ 0 ≤ c ∧ c ≤ N := by
  obtain ⟨kl, hkl⟩ := keyOf_kv hk
  have hwr : ∀ o, Wrote w (setBlock w r o) r := fun o => ⟨rfl, rfl, rfl, by simp [setBlock], fun i hi => by simp only [setBlock]; rw [Array.getElem?_setIfInBounds_ne (fun e => hi e.symm)]⟩
  rcases h.find (W := w) hS hk with ⟨h1, h2⟩ | ⟨j, e, h1, h2, h3, h4⟩
  · have hnew : MapOf (setBlock w r (.map (es.push ⟨kv k, .int .i64 0, clock⟩) (clock + 1))) r (S ++ [k]) N (es.push ⟨kv k, .int .i64 0, clock⟩) (clock + 1) := by
      refine ⟨heap_setBlock_same h.heap _, stamped_push h.stamped (fun x hx e => h2 ?_), ?_, ?_⟩
      · have : x.key ∈ S.map kv := by rw [← h.keys]; exact List.mem_map_of_mem hx
        obtain ⟨k', hk', e1⟩ := List.mem_map.1 this
        rw [e] at e1
        rw [← kv_inj e1]
        exact hk'
      · rw [Array.toList_push, List.map_append, h.keys]
        simp
      · intro x hx
        rw [Array.toList_push, List.mem_append] at hx
        rcases hx with hx | hx
        · exact h.vals x hx
        · rw [List.mem_singleton.1 hx]
          exact ⟨0, rfl, Int.le_refl _, hN⟩
    refine ⟨0, clock, es.push ⟨kv k, .int .i64 0, clock⟩, clock + 1, setBlock w r (.map (es.push ⟨kv k, .int .i64 0, clock⟩) (clock + 1)), ?_, by rw [ins, if_neg h2]; exact hnew, ⟨es.size, ⟨kv k, .int .i64 0, clock⟩, by simp, rfl⟩, hwr _, h.looks_none hS hk h2, ?_, Int.le_refl _, hN⟩
    · simp [Instr.mapEntry, run_underlying u45, MapKept.run_getObj_map h.heap, law41.check w false hkl, h1, MapKept.run_setObj_map _ h.heap, Result.andThen, setBlock]
    · exact hnew.looks (fun x hx => by
        rcases List.mem_append.1 hx with h | h
        · exact hS x h
        · rw [List.mem_singleton.1 h]; exact hk) hk (e := ⟨kv k, .int .i64 0, clock⟩) (by simp) rfl rfl
  · obtain ⟨c, e1, p1, p2⟩ := h.vals e (by simpa using List.mem_of_getElem? (l := es.toList) (by simpa using h2))
    have hsame : es.modify j (fun e => { e with key := kv k }) = es := by
      apply Array.ext'
      rw [Array.toList_modify, modify_eq_set _ _ _ _ (by simpa using h2)]
      have : ({ e with key := kv k } : MapEntry) = e := by rw [← h3]
      rw [this]
      exact WideElems.set_self _ _ _ (by simpa using h2)
    refine ⟨c, e.born, es, clock, setBlock w r (.map es clock), ?_, ?_, ⟨j, e, h2, rfl⟩, hwr _, h.looks hS hk (by simpa using List.mem_of_getElem? (l := es.toList) (by simpa using h2)) h3 e1, ?_, p1, p2⟩
    · simp [Instr.mapEntry, run_underlying u45, MapKept.run_getObj_map h.heap, law41.check w false hkl, h1, h2, h3, law41.stays w hkl, hsame, e1, MapKept.run_setObj_map _ h.heap, Result.andThen, setBlock]
    · rw [ins, if_pos h4]
      exact { h with heap := heap_setBlock_same h.heap _ }
    · exact MapOf.looks (S := S) (N := N) (es := es) (clock := clock) { h with heap := heap_setBlock_same h.heap _ } hS hk (by simpa using List.mem_of_getElem? (l := es.toList) (by simpa using h2)) h3 e1

/-- The entry is written. -/
theorem MapOf.store {w : World} {r clock st : Nat} {S : List (List Int)} {N c : Int} {es : Array MapEntry} (h : MapOf w r S N es clock) (hs : HasStamp es st) (h0 : 0 ≤ c) (hc : c ≤ N) :
    ∃ (es1 : Array MapEntry) (clock1 : Nat) (w1 : World), (Instr.entryStore 45 (.map (some r)) (goInt st) (.int .i64 c)).run Try.prog w = .ok () w1 ∧ MapOf w1 r S N es1 clock1 ∧ Wrote w w1 r := by
  have hwr : ∀ o, Wrote w (setBlock w r o) r := fun o => ⟨rfl, rfl, rfl, by simp [setBlock], fun i hi => by simp only [setBlock]; rw [Array.getElem?_setIfInBounds_ne (fun e => hi e.symm)]⟩
  obtain ⟨j, e, h2, rfl⟩ := hs
  have hidx : es.findIdx? (fun x => ((x.born : Nat) : Int) == ((e.born : Nat) : Int)) = some j := by
    rw [WideElems.findIdx_arr]
    exact WideElems.findIdx_born h.stamped.2.1 (by simpa using h2)
  refine ⟨es.modify j (fun x => { x with val := .int .i64 c }), clock, setBlock w r (.map (es.modify j (fun x => { x with val := .int .i64 c })) clock), ?_, ⟨heap_setBlock_same h.heap _, stamped_modify h.stamped _ _ (fun _ _ => rfl) (fun _ _ _ => rfl), ?_, ?_⟩, hwr _⟩
  · simp [Instr.entryStore, MapKept.run_getObj_map h.heap, asInt, asIntOf, goInt, hidx, MapKept.run_setObj_map _ h.heap, Result.andThen, setBlock]
  · rw [← h.keys]
    apply List.ext_getElem?
    intro i
    simp only [List.getElem?_map, Array.getElem?_toList, Array.getElem?_modify]
    split
    · cases es[i]? <;> rfl
    · rfl
  · intro x hx
    rw [Array.mem_toList_iff, Array.mem_iff_getElem?] at hx
    obtain ⟨i, hi⟩ := hx
    rw [Array.getElem?_modify] at hi
    split at hi
    · cases he : es[i]? with
      | none => rw [he] at hi; cases hi
      | some y => rw [he] at hi; simp only [Option.map_some, Option.some.injEq] at hi; rw [← hi]; exact ⟨c, rfl, h0, hc⟩
    · exact h.vals x (by simpa using List.mem_of_getElem? (l := es.toList) (by simpa using hi))
end Go.Proofs.Ytgjijoielfpmkaa
