/- Two operations of a region that draws, in whichever order; appended rows, in such a region. -/
import Derived.Test.YtgjijoielfpmkaaQ0
set_option linter.unusedVariables false
namespace Go.Proofs.Ytgjijoielfpmkaa
open Go.RowKit

section
variable {P : Program} {Q : Exit → Act → World → Prop} {md : Region.Mode} {S : World → Prop} {late : Nat → Bool}
theorem twoW {l : List Oper} {i j di dj fuel : Nat} {oi oj : Oper} {listed : Array Bool} {tmps : List Value} {defers : List Deferred} {w : World} (R : Value → Value → World → Prop)
    (hi : l[i]? = some oi) (hj : l[j]? = some oj) (hdi : oi.dst = some di) (hdj : oj.dst = some dj) (hgi : oi.guard = none) (hgj : oj.guard = none)
    (hr : Region.ready md l.toArray listed = [i, j]) (hr1 : Region.ready md l.toArray (listed.setIfInBounds i true) = [j]) (hr2 : Region.ready md l.toArray (listed.setIfInBounds j true) = [i]) (hij : i ≠ j) (hd : di ≠ dj)
    (H1 : ∃ v W1, (execOp (Act.eval ⟨tmps.toArray, defers⟩) oi).run P w = .ok (.value v) W1 ∧ S W1 ∧ ∃ u W2, (execOp (Act.eval ⟨(tmps.set di v).toArray, defers⟩) oj).run P W1 = .ok (.value u) W2 ∧ S W2 ∧ R v u W2)
    (H2 : ∃ u W1, (execOp (Act.eval ⟨tmps.toArray, defers⟩) oj).run P w = .ok (.value u) W1 ∧ S W1 ∧ ∃ v W2, (execOp (Act.eval ⟨(tmps.set dj u).toArray, defers⟩) oi).run P W1 = .ok (.value v) W2 ∧ S W2 ∧ R v u W2)
    (K : ∀ v u W, R v u W → S W → wpAnyW P md l.toArray Q S late fuel ((listed.setIfInBounds i true).setIfInBounds j true) ⟨((tmps.set di v).set dj u).toArray, defers⟩ W) :
    wpAnyW P md l.toArray Q S late (fuel + 2) listed ⟨tmps.toArray, defers⟩ w := by
  refine allW hr rfl (fun r hr' => ?_)
  simp only [List.mem_cons, List.not_mem_nil, or_false] at hr'
  rcases hr' with rfl | rfl
  · obtain ⟨v, W1, e1, s1, u, W2, e2, s2, r2⟩ := H1
    exact run_val hi hdi hgi e1 ⟨fun _ => s1, oneW j hr1 (run_val hj hdj hgj e2 ⟨fun _ => s2, K v u W2 r2 s2⟩)⟩
  · obtain ⟨u, W1, e1, s1, v, W2, e2, s2, r2⟩ := H2
    refine run_val hj hdj hgj e1 ⟨fun _ => s1, oneW i hr2 (run_val hi hdi hgi e2 ⟨fun _ => s2, ?_⟩)⟩
    have := K v u W2 r2 s2
    rw [List.set_comm _ _ hd, Array.setIfInBounds_comm _ _ hij] at this
    exact this
end

theorem OwnAt.ownBlock {w : World} {base : Nat} {e : TypeId} {s : Nat} {v : Value} {D : List (Array Value)} (h : OwnAt w base e s v D) : ∀ k, v.ownBlock = some k → base ≤ k := fun k hk => by
  rcases h.form with ⟨rfl, _⟩ | ⟨g, cap, cur, rfl, h2, _⟩
  · cases hk
  · cases hk; exact h2
theorem OwnAt.below {w w' w0 : World} {B base : Nat} {e : TypeId} {s : Nat} {v : Value} {D : List (Array Value)} (h : OwnAt w base e s v D) (hb : Below B w0 w) (hB : B ≤ base) (hs : B ≤ w.heap.size) (g : w.grownBy w' v.ownBlock) : Below B w0 w' :=
  Below.grownBy hb g (fun k hk => Nat.le_trans hB (h.ownBlock k hk)) hs

/-- append, in whatever region. -/
theorem append_own {w : World} {base : Nat} (t ty : TypeId) {e : TypeId} {z : Value} {s bytes : Nat} (ht : Try.prog.underlying t = some (.slice e)) (hi : (Try.prog.info? e).map (fun i => (i.zero, i.size, i.bytes)) = some (some z, s, bytes)) (hzs : z.cells.size = s) (hs : 0 < s)
    {v : Value} {D : List (Array Value)} (hown : OwnAt w base e s v D) {ao : Option Addr} {c m : Nat} {E : List (Array Value)} (hm : m = E.length) (hE : RowsAt w ao s E) (hEs : ∀ C ∈ E, C.size = s) (hE1 : ∀ C ∈ E, ∀ u ∈ C.toList, u.oneCell' = true) (hn : ao = none → c = 0)
    (h63 : D.length + E.length ≤ maxLen) (hby : (D.length + E.length) * bytes ≤ 140737488355328) (hbase : base ≤ w.heap.size) :
    ∃ v' w', (∀ (a : Act) (o : Oper) (x y : Operand), o.op = .call { callee := .builtin .append, args := #[x, y], argTypes := #[t, t] } → o.type = ty → a.eval x = v → a.eval y = .slice ao m c → (execOp a.eval o).run Try.prog w = .ok (.value v') w') ∧
      OwnAt w' base e s v' (D ++ E) ∧ (∀ B w0, Below B w0 w → B ≤ base → Below B w0 w') ∧ w.grownBy w' v.ownBlock := by
  subst hm
  obtain ⟨v', w', hrun, h1, h2⟩ := run_append_rows (ty := ty) ht hi hzs hs hown hE hEs hE1 hn h63 hby hbase
  exact ⟨v', w', fun a o x y ho hty hx hy => exec_append_rows ho hx hy (by rw [hty]; exact hrun), h1, fun B w0 hb hB => hown.below hb hB (Nat.le_trans hB hbase) h2, h2⟩
/-- A store into one cell. -/
theorem store_one {w : World} {ty t b off : Nat} {C : Array Value} {v : Value} (hv : v.cells = #[v]) (h1 : v.oneCell' = true) (hg : w.heap[b]? = some (.cells C t)) (hlt : off < C.size) (hi : (Try.prog.info? ty).map (·.size) = some 1) :
    ∃ w1, (∀ (a : Act) (o : Oper) (p x : Operand), o.op = .store ty p x → a.eval p = .pointer (some ⟨b, off, none⟩) → a.eval x = v → (execOp a.eval o).run Try.prog w = .ok .skip w1) ∧ w1.heap[b]? = some (.cells (C.setIfInBounds off v) t) ∧ Wrote w w1 b := by
  have hone : ∀ u ∈ (#[v] : Array Value).toList, u.oneCell' = true := by
    intro u hu
    have e : u = v := by simpa using hu
    rw [e]; exact h1
  refine ⟨w.setRow b (splice C off #[v]), fun a o p x ho hp hx => exec_store_sub (t := t) (C := C) (A := #[v]) ho hp hx hv hg (by simp; omega) hone hi, ?_, Wrote.setRow _ _ _⟩
  rw [setRow_heap w b C _ t _ hg, splice_one hlt]

/-- Rows of one's own, behind a store into a block of another type. -/
theorem OwnAt.rowsWrote {w w1 : World} {base : Nat} {e t : TypeId} {s g n c : Nat} {ao : Option Addr} {D : List (Array Value)} {C : Array Value} (h : OwnAt w base e s (.slice ao n c) D) (hW : Wrote w w1 g) (hg : w.heap[g]? = some (.cells C t)) (hne : t ≠ e) : RowsAt w1 ao s D := by
  rcases h.form with ⟨_, rfl⟩ | ⟨g1, c1, cur1, e1, e2, e3, e4, e5, e6, e7⟩
  · exact fun j C hj => by simp at hj
  · have hn : g1 ≠ g := by
      intro e
      rw [e, hg] at e3
      simp only [Option.some.injEq, Obj.cells.injEq] at e3
      exact hne e3.2.1
    have ea : ao = some ⟨g1, 0, none⟩ := by
      simp only [Value.slice.injEq] at e1
      exact e1.1
    rw [ea]
    exact e7.wrote hW hn

theorem keys_size {K : List (List Int)} (h : ∀ k ∈ K, IsKey k) : ∀ C ∈ K.map (icells .u8), C.size = 32 := fun C hC => by
  obtain ⟨k, hk, rfl⟩ := List.mem_map.1 hC
  rw [size_icells]; exact (h k hk).1
theorem keys_one {K : List (List Int)} : ∀ C ∈ K.map (icells .u8), ∀ u ∈ C.toList, u.oneCell' = true := fun C hC => by
  obtain ⟨k, hk, rfl⟩ := List.mem_map.1 hC
  exact icells_one _ _
theorem ins_size {I : List Ins} : ∀ C ∈ I.map Ins.cells, C.size = 3 := fun C hC => by
  obtain ⟨k, hk, rfl⟩ := List.mem_map.1 hC
  exact Ins.size _
theorem ins_one {I : List Ins} : ∀ C ∈ I.map Ins.cells, ∀ u ∈ C.toList, u.oneCell' = true := fun C hC => by
  obtain ⟨k, hk, rfl⟩ := List.mem_map.1 hC
  exact Ins.one _
theorem exec_call0 {a : Act} {w : World} {o : Oper} {f : FuncId} {fn : Func} (ho : o.op = .call { callee := .value (.func f), args := #[], argTypes := #[] }) (hf : Try.prog.funcs[f]? = some fn) (hn : (fn.name == "runtime.NumGoroutine") = false) (hb : fn.body.isNone = false) :
    (execOp a.eval o).run Try.prog w = .ok (.enter f #[]) w :=
  exec_call (vs := #[]) ho (by simp) hf hn hb
theorem load33_exec {a : Act} {w : World} {o : Oper} {x : Operand} {b off : Nat} {X : Tx} (ho : o.op = .load 33 x) (hx : a.eval x = .pointer (some ⟨b, off, none⟩)) (hr : RowAt w b off X.cells) (hR : X.R.length = 32) : (execOp a.eval o).run Try.prog w = .ok (.value X.val) w := by
  obtain ⟨fs, hu⟩ := u33
  exact exec_load_sub ho hx hr hu rfl (by rw [Tx.size hR]; exact s33)
theorem newIns_size (p : Nat) : (newIns p).cells.size = 3 := rfl
theorem le3 : 3 ≤ 16777216 := by decide
theorem one_len {C : Array Value} : 1 = [C].length := rfl
theorem oneNew_size {p : Nat} : ∀ C ∈ [(newIns p).cells], C.size = 3 := fun C hC => by rw [List.mem_singleton.1 hC]; rfl
theorem oneNew_one {p : Nat} : ∀ C ∈ [(newIns p).cells], ∀ u ∈ C.toList, u.oneCell' = true := fun C hC => by rw [List.mem_singleton.1 hC]; exact Ins.one _
theorem lt1 {α : Type} {x : α} : [x].length < 4000 := by simp
theorem lt0 {α : Type} : ([] : List α).length < 4000 := by simp
theorem le56 : 56 ≤ 64 := by decide
theorem lt38 {X : Tx} (h : X.R.length = 32) : 38 < X.cells.size := by rw [Tx.size h]; decide
theorem pos3 : 0 < 3 := by decide
theorem small63 {a b : Nat} (ha : a < 4000) (hb : b < 4000) : a + b ≤ maxLen := by unfold maxLen; omega
theorem smallBy {a b c : Nat} (ha : a < 4000) (hb : b < 4000) (hc : c ≤ 64) : (a + b) * c ≤ 140737488355328 := by
  have : (a + b) * c ≤ 8000 * 64 := Nat.mul_le_mul (by omega) hc
  omega
end Go.Proofs.Ytgjijoielfpmkaa
