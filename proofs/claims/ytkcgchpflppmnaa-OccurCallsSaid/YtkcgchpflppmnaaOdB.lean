/- Rows that are filled in one after the other, in a block with room. -/
import Derived.Test.YtkcgchpflppmnaaOdA
namespace Go.Proofs.Ytkcgchpflppmnaa
open Go.RowKit
set_option linter.unusedSimpArgs false
set_option linter.unusedVariables false

theorem ExIs.form {W : World} {d : Nat} {v : Value} {x : Ex d} (h : ExIs W d v x) : ∃ (k : Int) (nm : ByteArray) (m : Int) (p q r s : Option Addr) (p1 p2 q1 q2 r1 r2 s1 s2 : Nat), v = .agg (exV k nm m p q r s p1 p2 q1 q2 r1 r2 s1 s2).toArray := by
  cases d with
  | zero => exact nomatch (x : Empty)
  | succ d =>
    obtain ⟨l, rfl, h2⟩ := h
    obtain ⟨p, q, r, s, p2, q2, r2, s2, rfl⟩ := parts_form h2
    exact ⟨_, _, _, p, q, r, s, _, p2, _, q2, _, r2, _, s2, rfl⟩
theorem ExIs.put {W : World} {d b o : Nat} {l : List Value} {x : Ex d} (h : ExIs W d (.agg l.toArray) x) (hc : CellsAt W b o l) : ExAt W d b o x := by
  cases d with
  | zero => exact nomatch (x : Empty)
  | succ d =>
    obtain ⟨l', hl, h2⟩ := h
    obtain rfl : l = l' := by simpa using hl
    exact ⟨l, hc, h2⟩
structure RowsIn {β : Type} (W : World) (g cap n m : Nat) (t : TypeId) (sz : Nat) (rows : List (List Value × β)) (P : List Value × β → World → Prop) : Prop where
  own : ROwn W g t sz (.slice (some ⟨g, 0, none⟩) rows.length cap) (rows.map (·.1))
  lt : g < n
  ml : m ≤ W.heap.size
  nm : n ≤ m
  len : ∀ y ∈ rows, y.1.length = sz
  one : ∀ y ∈ rows, ∀ u ∈ y.1, u.oneCell' = true
  held : ∀ y ∈ rows, Held n m W (P y)
section
variable {β : Type} {W : World} {g cap n m : Nat} {t : TypeId} {sz : Nat} {rows : List (List Value × β)} {P : List Value × β → World → Prop}
theorem RowsIn.to {W' : World} (h : RowsIn W g cap n m t sz rows P) (hs : m ≤ W'.heap.size) (hg : W'.heap[g]? = W.heap[g]?) (hb : ∀ k, n ≤ k → k < m → W'.heap[k]? = W.heap[k]?) : RowsIn W' g cap n m t sz rows P := by
  refine ⟨⟨h.own.1, ?_⟩, h.lt, hs, h.nm, h.len, h.one, fun y hy => (h.held y hy).to hs hb⟩
  rcases h.own.2 with h2 | ⟨g', cap', cur, hv, hg', hh, r⟩
  · exact .inl h2
  · simp only [Value.slice.injEq, Option.some.injEq, Addr.mk.injEq, and_true, true_and] at hv
    obtain ⟨rfl, -, rfl⟩ := hv
    exact .inr ⟨g, cap, cur, by rw [List.length_map], hg', hg.trans hh, r⟩
theorem RowsIn.below {W' : World} (h : RowsIn W g cap n m t sz rows P) (hb : Below W.heap.size W W') : RowsIn W' g cap n m t sz rows P :=
  h.to (Nat.le_trans h.ml hb.size) (hb.block g (Nat.lt_of_lt_of_le h.lt (Nat.le_trans h.nm h.ml))) fun k _ hk => hb.block k (Nat.lt_of_lt_of_le hk h.ml)
theorem RowsIn.other {W' : World} {g' : Nat} (h : RowsIn W g cap n m t sz rows P) (hb : W.grownBy W' (some g')) (hg : m ≤ g') : RowsIn W' g cap n m t sz rows P :=
  h.to (Nat.le_trans h.ml hb.size) (hb.block g (Nat.lt_of_lt_of_le h.lt (Nat.le_trans h.nm h.ml)) (fun e => by have := h.lt; have := h.nm; simp at e; omega)) fun k _ hk => hb.block k (Nat.lt_of_lt_of_le hk h.ml) (fun e => by simp at e; omega)
theorem RowsIn.wide {m' : Nat} (h : RowsIn W g cap n m t sz rows P) (h1 : m ≤ m') (h2 : m' ≤ W.heap.size) : RowsIn W g cap n m' t sz rows P :=
  ⟨h.own, h.lt, h2, Nat.le_trans h.nm h1, h.len, h.one, fun y hy => (h.held y hy).wide (Nat.le_refl _) h1 h2⟩
theorem RowsIn.at (h : RowsIn W g cap n m t sz rows P) (hz : 0 < sz) {k : Nat} {y : List Value × β} (hy : rows[k]? = some y) : CellsAt W g (k * sz) y.1 := by
  intro j u hj
  have hyl := h.len y (List.mem_of_getElem? hy)
  have hjz : j < sz := by rw [← hyl]; exact (List.getElem?_eq_some_iff.1 hj).1
  have := World.ownsRow.cells h.own (g := g) rfl (k * sz + j) u (by
    rw [flatten_get hz (fun r hr => by obtain ⟨y, hy, rfl⟩ := List.mem_map.1 hr; exact h.len y hy), show (k * sz + j) / sz = k by rw [Nat.mul_comm, Nat.mul_add_div hz, Nat.div_eq_of_lt hjz, Nat.add_zero], show (k * sz + j) % sz = j by rw [Nat.mul_comm, Nat.mul_add_mod, Nat.mod_eq_of_lt hjz], List.getElem?_map, hy]
    exact hj)
  rwa [show (⟨g, 0, none⟩ : Addr).add (k * sz + j) = ⟨g, k * sz + j, none⟩ from by unfold Addr.add; split <;> simp_all] at this
/-- One more row, made just now. -/
theorem RowsIn.push {st : TypeId} {i : TypeInfo} (ht : Try.prog.underlying st = some (.slice t)) (hi : Try.prog.info? t = some i) (hz : i.size = sz) (h : RowsIn W g cap n m t sz rows P) (y : List Value × β) (hy1 : y.1.length = sz) (hy2 : ∀ u ∈ y.1, u.oneCell' = true) (hy : Held n m W (P y)) (hr : rows.length + 1 ≤ cap) :
    ∃ W', (Builtin.append_ #[st, st] st #[.slice (some ⟨g, 0, none⟩) rows.length cap, .slice (some ⟨W.heap.size, 0, none⟩) 1 1]).run Try.prog (W.alloc (.cells y.1.toArray t)) = .ok (.slice (some ⟨g, 0, none⟩) (rows.length + 1) cap) W' ∧
      RowsIn W' g cap n W'.heap.size t sz (rows ++ [y]) P ∧ W.grownBy W' (some g) := by
  have ha : Below W.heap.size W (W.alloc (.cells y.1.toArray t)) := (Below.refl _ W).alloc (Nat.le_refl _) _
  have R := Blk.new W y.1.toArray t
  have h1 := h.below ha
  have ho : (W.alloc (.cells y.1.toArray t)).ownsRow g t sz (.slice (some ⟨g, 0, none⟩) rows.length cap) rows.length (rows.map (·.1)).flatten := by have := h1.own; unfold ROwn at this; rwa [List.length_map] at this
  obtain ⟨W', k1, k2, k3⟩ := run_append_fits (P := Try.prog) _ g st st t i sz ht hi hz g rows.length cap _ ho ⟨W.heap.size, 0, none⟩ 1 1 y.1 (by rw [hy1, Nat.one_mul])
    (fun j u hj => by
      have := R.cell j
      unfold Addr.add
      split
      · next e => subst e; rw [this]; simpa using hj
      · show World.cell? _ ⟨W.heap.size, 0 + j, none⟩ = _; rw [Nat.zero_add, this]; simpa using hj) hy2 hr
  have hgr : W.grownBy W' (some g) := ⟨k3.os, k3.tape, k3.output, Nat.le_trans ha.size k3.size, fun k hk hne => (k3.block k (Nat.lt_of_lt_of_le hk ha.size) hne).trans (ha.block k hk)⟩
  refine ⟨W', k1, ⟨?_, h.lt, Nat.le_refl _, Nat.le_trans h.nm (Nat.le_trans h.ml hgr.size), fun z hz => ?_, fun z hz => ?_, fun z hz => ?_⟩, hgr⟩
  · unfold ROwn
    rw [List.map_append, List.flatten_append, List.length_append, List.length_append, List.length_map]
    simpa using k2
  · rcases List.mem_append.1 hz with hz | hz
    · exact h.len z hz
    · simp at hz; subst hz; exact hy1
  · rcases List.mem_append.1 hz with hz | hz
    · exact h.one z hz
    · simp at hz; subst hz; exact hy2
  · have : Held n m W (P z) := by
      rcases List.mem_append.1 hz with hz | hz
      · exact h.held z hz
      · simp at hz; subst hz; exact hy
    exact (this.grown hgr h.lt).wide (Nat.le_refl _) (Nat.le_trans h.ml hgr.size) (Nat.le_refl _)
theorem RowsIn.made {st : TypeId} {i : TypeInfo} {z : Value} (W : World) (ht : Try.prog.underlying st = some (.slice t)) (hi : Try.prog.info? t = some i) (hzz : i.zero = some z) (hz : i.size = sz) (cap : Nat) (hby : i.bytes * cap ≤ 281474976710656) (hc : cap ≤ maxLen) (P : List Value × β → World → Prop) :
    ∃ W', (Instr.makeSlice st (.int .i64 0) (.int .i64 (cap : Int))).run Try.prog W = .ok (.slice (some ⟨W.heap.size, 0, none⟩) 0 cap) W' ∧ RowsIn (β := β) W' W.heap.size cap (W.heap.size + 1) W'.heap.size t sz [] P ∧ Below W.heap.size W W' := by
  obtain ⟨W', k1, k2, k3⟩ := run_make_own (P := Try.prog) W W.heap.size st t i z sz ht hi hzz hz .i64 .i64 cap hby hc (Nat.le_refl _)
  have hB : Below W.heap.size W W' := (Below.refl _ W).grown k3 (Nat.le_refl _) (fun i e => by simp at e)
  have hlt : W.heap.size < W'.heap.size := own_lt k2 W.heap.size rfl
  exact ⟨W', k1, ⟨k2, Nat.lt_succ_self _, Nat.le_refl _, hlt, fun y hy => (by cases hy), fun y hy => (by cases hy), fun y hy => (by cases hy)⟩, hB⟩
end
end Go.Proofs.Ytkcgchpflppmnaa
