/- What holds as long as an interval of blocks stays; kit.Texts. Rows that are filled in one after the other, in a block with room. -/
import Derived.Test.YtkcgchpflppmnaaOcZ
import Derived.Laws.MakeOwn
import Derived.Laws.OwnMore
namespace Go.Proofs.Ytkcgchpflppmnaa
open Go.RowKit
set_option linter.unusedSimpArgs false
set_option linter.unusedVariables false

/-- It holds, and in every world with the same blocks from n to below m. -/
structure Held (n m : Nat) (W : World) (P : World → Prop) : Prop where
  le : m ≤ W.heap.size
  on : ∀ W', m ≤ W'.heap.size → (∀ k, n ≤ k → k < m → W'.heap[k]? = W.heap[k]?) → P W'
theorem Held.now {n m : Nat} {W : World} {P : World → Prop} (h : Held n m W P) : P W := h.on W h.le (fun _ _ _ => rfl)
theorem Held.to {n m : Nat} {W W' : World} {P : World → Prop} (h : Held n m W P) (hm : m ≤ W'.heap.size) (hb : ∀ k, n ≤ k → k < m → W'.heap[k]? = W.heap[k]?) : Held n m W' P :=
  ⟨hm, fun W2 h2 hb2 => h.on W2 h2 fun k h3 h4 => (hb2 k h3 h4).trans (hb k h3 h4)⟩
theorem Held.wide {n m n' m' : Nat} {W : World} {P : World → Prop} (h : Held n m W P) (h1 : n' ≤ n) (h2 : m ≤ m') (h3 : m' ≤ W.heap.size) : Held n' m' W P :=
  ⟨h3, fun W2 k2 hb2 => h.on W2 (Nat.le_trans h2 k2) fun k h4 h5 => hb2 k (Nat.le_trans h1 h4) (Nat.lt_of_lt_of_le h5 h2)⟩
theorem Held.below {n m : Nat} {W W' : World} {P : World → Prop} (h : Held n m W P) (hb : Below W.heap.size W W') : Held n m W' P :=
  h.to (Nat.le_trans h.le hb.size) fun k _ hk => hb.block k (Nat.lt_of_lt_of_le hk h.le)
theorem Held.grown {n m g : Nat} {W W' : World} {P : World → Prop} (h : Held n m W P) (hb : W.grownBy W' (some g)) (hg : g < n) : Held n m W' P :=
  h.to (Nat.le_trans h.le hb.size) fun k h1 hk => hb.block k (Nat.lt_of_lt_of_le hk h.le) (fun e => by simp at e; omega)
theorem Held.mp {n m : Nat} {W : World} {P Q : World → Prop} (h : Held n m W P) (hq : ∀ W, P W → Q W) : Held n m W Q := ⟨h.le, fun W' a b => hq _ (h.on W' a b)⟩
theorem below_grown_new {w a b : World} {g : Nat} (h : Below w.heap.size w a) (k : a.grownBy b (some g)) (hg : w.heap.size ≤ g) : Below w.heap.size w b := h.grown k h.size (fun i e => by simp at e; omega)
theorem SOwn.held {W : World} {B n m : Nat} {v : Value} {l : List ByteArray} (h : SOwn W B v l) (hn : n ≤ B) (hm : ∀ g, v.ownBlock = some g → g < m) (hs : m ≤ W.heap.size) : Held n m W (fun W => Txs W v l) :=
  ⟨hs, fun W' h1 hb => SOwn.txs (B := B) ⟨h.1, by
    rcases h.2 with h2 | ⟨g, cap, cur, rfl, hg, hh, r⟩
    · exact .inl h2
    · exact .inr ⟨g, cap, cur, rfl, hg, (hb g (Nat.le_trans hn hg) (hm g rfl)).trans hh, r⟩⟩⟩
theorem SOwn.shape {W : World} {B : Nat} {v : Value} {l : List ByteArray} (h : SOwn W B v l) : ∃ a c, v = .slice a l.length c := own_shape h
theorem SOwn.blt {W : World} {B : Nat} {v : Value} {l : List ByteArray} (h : SOwn W B v l) : ∀ g, v.ownBlock = some g → g < W.heap.size := own_lt h
/-- Texts put behind. -/
theorem SOwn.cat {W : World} {B : Nat} {v v2 : Value} {l l2 : List ByteArray} (h : SOwn W B v l) (h2 : Txs W v2 l2) (hl : l.length + l2.length ≤ 100000000) (hB : B ≤ W.heap.size) :
    ∃ v' W', (Builtin.append_ #[24, 24] 24 #[v, v2]).run Try.prog W = .ok v' W' ∧ SOwn W' B v' (l ++ l2) ∧ Below B W W' := by
  obtain ⟨i0, hi, hz0, hz1, hz2⟩ := info_parts infoS
  obtain ⟨a, c, rfl, hc⟩ := h2
  rcases Nat.eq_zero_or_pos l2.length with h0 | h0
  · have e0 : l2 = [] := List.eq_nil_of_length_eq_zero h0
    subst e0
    exact ⟨v, W, append_empty Try.underlying24 hi h a c, by rw [List.append_nil]; exact h, Below.refl _ _⟩
  · obtain ⟨b, o, rfl, hb, hat⟩ := hc h0
    obtain ⟨v', W', k1, k2, k3, _, _⟩ := run_append_own_at (P := Try.prog) W B 24 24 9 i0 (.string ⟨#[]⟩) 1 16 Try.underlying24 hi hz0 hz1 hz2 rfl (by decide) v l.length (strV l) h ⟨b, o, none⟩ l2.length c (strV l2) (by simp [strV])
      (fun j u hj => by
        unfold strV at hj
        rw [List.getElem?_map] at hj
        rcases hx : l2[j]? with _ | x
        · rw [hx] at hj; simp at hj
        · rw [hx] at hj
          obtain rfl : .string x = u := by simpa using hj
          have := hat j x hx
          rw [Nat.mul_one] at this
          unfold Addr.add
          split
          · next e => subst e; exact this
          · exact this)
      (fun u hu => by unfold strV at hu; obtain ⟨x, _, rfl⟩ := List.mem_map.1 hu; rfl) (by unfold maxLen; omega) (by omega) hB
    refine ⟨v', W', k1, ?_, Below.refl B W |>.grown k3 hB (fun g e => own_from h g e)⟩
    unfold SOwn
    rw [List.length_append, show strV (l ++ l2) = strV l ++ strV l2 from List.map_append]
    exact k2

set_option maxRecDepth 100000 in
set_option maxHeartbeats 8000000 in
theorem texts_any (v : Value) (l : List ByteArray) (w : World) (h : Txs w v l) (hn : l.length ≤ 10000000) :
    Calls Try.prog 24 #[v] w fun e w' => ∃ v', e = .returned v' ∧ SOwn w' w.heap.size v' l ∧ Below w.heap.size w w' := by
  obtain ⟨i0, hinf, hz0, hz1, hz2⟩ := info_parts infoS
  obtain ⟨w1, hmk, own1, hg1⟩ := run_make_own (P := Try.prog) w w.heap.size 24 9 i0 _ 1 Try.underlying24 hinf hz0 hz1 .i64 .i64 (l.length + 2) (by rw [hz2]; omega) (by unfold maxLen; omega) (Nat.le_refl _)
  have hB1 : Below w.heap.size w w1 := (Below.refl _ w).grown hg1 (Nat.le_refl _) (fun i e => by simp [Value.ownBlock] at e)
  have h1 := h.below hB1
  obtain ⟨v2, w2, hrun, o2, k2⟩ := SOwn.cat (l := []) (show SOwn w1 w.heap.size _ [] from own1) h1 (by simp; omega) hB1.size
  rw [List.nil_append] at o2
  have O2 := Lib.hid o2
  have K2 := Lib.hid (hB1.trans k2)
  obtain ⟨a, cap, rfl, _⟩ := h
  obtain ⟨N, hN⟩ : ∃ N, l.length = N := ⟨_, rfl⟩
  have hi : IntKind.i64.wrap ((N : Int) + 2) = (N : Int) + 2 := IntWalk.i64_in _ (by omega)
  rw [hN, show ((N + 2 : Nat) : Int) = (N : Int) + 2 by omega] at hmk
  rw [hN] at hrun ⊢
  clear o2 k2 h1 own1 hg1
  go_enter Try.func24, Try.ntmps24
  go_wp2_with (at_builtin; refine wpList_append_run rfl _ _ _ _ rfl _ _ _ _ rfl rfl hrun ?_)
  go_ret
  exact ⟨_, rfl, O2.out, K2.out⟩
end Go.Proofs.Ytkcgchpflppmnaa

namespace Go.Proofs.Ytkcgchpflppmnaa
open Go.RowKit
set_option linter.unusedSimpArgs false
set_option linter.unusedVariables false

theorem ExIs.form {W : World} {d : Nat} {v : Value} {x : Ex d} (h : ExIs W d v x) : ∃ (k : Int) (nm : ByteArray) (m : Int) (p q r s : Option Addr) (p1 p2 q1 q2 r1 r2 s1 s2 : Nat), v = .agg (exV k nm m p q r s p1 p2 q1 q2 r1 r2 s1 s2).toArray := by
  cases d with
  | zero => exact nomatch (x : Empty)
  | succ d =>
    obtain ⟨l, rfl, h2⟩ := h
    obtain ⟨p, q, r, s, p2, q2, r2, s2, rfl⟩ := parts_form h2
    exact ⟨_, _, _, p, q, r, s, _, p2, _, q2, _, r2, _, s2, rfl⟩
theorem ExIs.put {W : World} {d b o : Nat} {l : List Value} {x : Ex d} (h : ExIs W d (.agg l.toArray) x) (hc : CellsAt W b o l) : ExAt W d b o x := by
  cases d with
  | zero => exact nomatch (x : Empty)
  | succ d =>
    obtain ⟨l', hl, h2⟩ := h
    obtain rfl : l = l' := by simpa using hl
    exact ⟨l, hc, h2⟩
structure RowsIn {β : Type} (W : World) (g cap n m : Nat) (t : TypeId) (sz : Nat) (rows : List (List Value × β)) (P : List Value × β → World → Prop) : Prop where
  own : ROwn W g t sz (.slice (some ⟨g, 0, none⟩) rows.length cap) (rows.map (·.1))
  lt : g < n
  ml : m ≤ W.heap.size
  nm : n ≤ m
  len : ∀ y ∈ rows, y.1.length = sz
  one : ∀ y ∈ rows, ∀ u ∈ y.1, u.oneCell' = true
  held : ∀ y ∈ rows, Held n m W (P y)
section
variable {β : Type} {W : World} {g cap n m : Nat} {t : TypeId} {sz : Nat} {rows : List (List Value × β)} {P : List Value × β → World → Prop}
theorem RowsIn.to {W' : World} (h : RowsIn W g cap n m t sz rows P) (hs : m ≤ W'.heap.size) (hg : W'.heap[g]? = W.heap[g]?) (hb : ∀ k, n ≤ k → k < m → W'.heap[k]? = W.heap[k]?) : RowsIn W' g cap n m t sz rows P := by
  refine ⟨⟨h.own.1, ?_⟩, h.lt, hs, h.nm, h.len, h.one, fun y hy => (h.held y hy).to hs hb⟩
  rcases h.own.2 with h2 | ⟨g', cap', cur, hv, hg', hh, r⟩
  · exact .inl h2
  · simp only [Value.slice.injEq, Option.some.injEq, Addr.mk.injEq, and_true, true_and] at hv
    obtain ⟨rfl, -, rfl⟩ := hv
    exact .inr ⟨g, cap, cur, by rw [List.length_map], hg', hg.trans hh, r⟩
theorem RowsIn.below {W' : World} (h : RowsIn W g cap n m t sz rows P) (hb : Below W.heap.size W W') : RowsIn W' g cap n m t sz rows P :=
  h.to (Nat.le_trans h.ml hb.size) (hb.block g (Nat.lt_of_lt_of_le h.lt (Nat.le_trans h.nm h.ml))) fun k _ hk => hb.block k (Nat.lt_of_lt_of_le hk h.ml)
theorem RowsIn.other {W' : World} {g' : Nat} (h : RowsIn W g cap n m t sz rows P) (hb : W.grownBy W' (some g')) (hg : m ≤ g') : RowsIn W' g cap n m t sz rows P :=
  h.to (Nat.le_trans h.ml hb.size) (hb.block g (Nat.lt_of_lt_of_le h.lt (Nat.le_trans h.nm h.ml)) (fun e => by have := h.lt; have := h.nm; simp at e; omega)) fun k _ hk => hb.block k (Nat.lt_of_lt_of_le hk h.ml) (fun e => by simp at e; omega)
theorem RowsIn.wide {m' : Nat} (h : RowsIn W g cap n m t sz rows P) (h1 : m ≤ m') (h2 : m' ≤ W.heap.size) : RowsIn W g cap n m' t sz rows P :=
  ⟨h.own, h.lt, h2, Nat.le_trans h.nm h1, h.len, h.one, fun y hy => (h.held y hy).wide (Nat.le_refl _) h1 h2⟩
theorem RowsIn.at (h : RowsIn W g cap n m t sz rows P) (hz : 0 < sz) {k : Nat} {y : List Value × β} (hy : rows[k]? = some y) : CellsAt W g (k * sz) y.1 := by
  intro j u hj
  have hyl := h.len y (List.mem_of_getElem? hy)
  have hjz : j < sz := by rw [← hyl]; exact (List.getElem?_eq_some_iff.1 hj).1
  have := World.ownsRow.cells h.own (g := g) rfl (k * sz + j) u (by
    rw [flatten_get hz (fun r hr => by obtain ⟨y, hy, rfl⟩ := List.mem_map.1 hr; exact h.len y hy), show (k * sz + j) / sz = k by rw [Nat.mul_comm, Nat.mul_add_div hz, Nat.div_eq_of_lt hjz, Nat.add_zero], show (k * sz + j) % sz = j by rw [Nat.mul_comm, Nat.mul_add_mod, Nat.mod_eq_of_lt hjz], List.getElem?_map, hy]
    exact hj)
  rwa [show (⟨g, 0, none⟩ : Addr).add (k * sz + j) = ⟨g, k * sz + j, none⟩ from by unfold Addr.add; split <;> simp_all] at this
/-- One more row, made just now. -/
theorem RowsIn.push {st : TypeId} {i : TypeInfo} (ht : Try.prog.underlying st = some (.slice t)) (hi : Try.prog.info? t = some i) (hz : i.size = sz) (h : RowsIn W g cap n m t sz rows P) (y : List Value × β) (hy1 : y.1.length = sz) (hy2 : ∀ u ∈ y.1, u.oneCell' = true) (hy : Held n m W (P y)) (hr : rows.length + 1 ≤ cap) :
    ∃ W', (Builtin.append_ #[st, st] st #[.slice (some ⟨g, 0, none⟩) rows.length cap, .slice (some ⟨W.heap.size, 0, none⟩) 1 1]).run Try.prog (W.alloc (.cells y.1.toArray t)) = .ok (.slice (some ⟨g, 0, none⟩) (rows.length + 1) cap) W' ∧
      RowsIn W' g cap n W'.heap.size t sz (rows ++ [y]) P ∧ W.grownBy W' (some g) := by
  have ha : Below W.heap.size W (W.alloc (.cells y.1.toArray t)) := (Below.refl _ W).alloc (Nat.le_refl _) _
  have R := Blk.new W y.1.toArray t
  have h1 := h.below ha
  have ho : (W.alloc (.cells y.1.toArray t)).ownsRow g t sz (.slice (some ⟨g, 0, none⟩) rows.length cap) rows.length (rows.map (·.1)).flatten := by have := h1.own; unfold ROwn at this; rwa [List.length_map] at this
  obtain ⟨W', k1, k2, k3⟩ := run_append_fits (P := Try.prog) _ g st st t i sz ht hi hz g rows.length cap _ ho ⟨W.heap.size, 0, none⟩ 1 1 y.1 (by rw [hy1, Nat.one_mul])
    (fun j u hj => by
      have := R.cell j
      unfold Addr.add
      split
      · next e => subst e; rw [this]; simpa using hj
      · show World.cell? _ ⟨W.heap.size, 0 + j, none⟩ = _; rw [Nat.zero_add, this]; simpa using hj) hy2 hr
  have hgr : W.grownBy W' (some g) := ⟨k3.os, k3.tape, k3.output, Nat.le_trans ha.size k3.size, fun k hk hne => (k3.block k (Nat.lt_of_lt_of_le hk ha.size) hne).trans (ha.block k hk)⟩
  refine ⟨W', k1, ⟨?_, h.lt, Nat.le_refl _, Nat.le_trans h.nm (Nat.le_trans h.ml hgr.size), fun z hz => ?_, fun z hz => ?_, fun z hz => ?_⟩, hgr⟩
  · unfold ROwn
    rw [List.map_append, List.flatten_append, List.length_append, List.length_append, List.length_map]
    simpa using k2
  · rcases List.mem_append.1 hz with hz | hz
    · exact h.len z hz
    · simp at hz; subst hz; exact hy1
  · rcases List.mem_append.1 hz with hz | hz
    · exact h.one z hz
    · simp at hz; subst hz; exact hy2
  · have : Held n m W (P z) := by
      rcases List.mem_append.1 hz with hz | hz
      · exact h.held z hz
      · simp at hz; subst hz; exact hy
    exact (this.grown hgr h.lt).wide (Nat.le_refl _) (Nat.le_trans h.ml hgr.size) (Nat.le_refl _)
theorem RowsIn.made {st : TypeId} {i : TypeInfo} {z : Value} (W : World) (ht : Try.prog.underlying st = some (.slice t)) (hi : Try.prog.info? t = some i) (hzz : i.zero = some z) (hz : i.size = sz) (cap : Nat) (hby : i.bytes * cap ≤ 281474976710656) (hc : cap ≤ maxLen) (P : List Value × β → World → Prop) :
    ∃ W', (Instr.makeSlice st (.int .i64 0) (.int .i64 (cap : Int))).run Try.prog W = .ok (.slice (some ⟨W.heap.size, 0, none⟩) 0 cap) W' ∧ RowsIn (β := β) W' W.heap.size cap (W.heap.size + 1) W'.heap.size t sz [] P ∧ Below W.heap.size W W' := by
  obtain ⟨W', k1, k2, k3⟩ := run_make_own (P := Try.prog) W W.heap.size st t i z sz ht hi hzz hz .i64 .i64 cap hby hc (Nat.le_refl _)
  have hB : Below W.heap.size W W' := (Below.refl _ W).grown k3 (Nat.le_refl _) (fun i e => by simp at e)
  have hlt : W.heap.size < W'.heap.size := own_lt k2 W.heap.size rfl
  exact ⟨W', k1, ⟨k2, Nat.lt_succ_self _, Nat.le_refl _, hlt, fun y hy => (by cases hy), fun y hy => (by cases hy), fun y hy => (by cases hy)⟩, hB⟩
end
end Go.Proofs.Ytkcgchpflppmnaa
