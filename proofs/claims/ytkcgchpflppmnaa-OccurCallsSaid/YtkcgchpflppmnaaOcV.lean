/- The reference's Parts: the expressions that stand right within one, as values of their own. -/
import Derived.Test.YtkcgchpflppmnaaOcU
namespace Go.Proofs.Ytkcgchpflppmnaa
open Go.RowKit
set_option linter.unusedSimpArgs false
set_option linter.unusedVariables false

def partsK {d : Nat} (e : ExN (Ex d)) : List (Ex d) := e.binds.flatMap (fun x => [x.2]) ++ (e.args.flatMap (fun x => [x]) ++ (e.alts.flatMap (fun x => [x.e]) ++ []))
theorem parts_size (d : Nat) (e : ExN (Ex d)) : 1 + ((partsK e).map (sizeK d)).sum = sizeK (d + 1) e := by
  rw [size_succ]
  unfold partsK
  simp only [List.append_nil, ← List.map_eq_flatMap, List.map_append, List.sum_append, List.map_map, Function.comp_def, List.map_id']
  omega
theorem parts_sm (d : Nat) (e : ExN (Ex d)) (h : Sm (d + 1) e) : ∀ x ∈ partsK e, Sm d x := by
  intro x hx
  unfold partsK at hx
  simp only [List.append_nil, ← List.map_eq_flatMap, List.map_id', List.mem_append, List.mem_map] at hx
  rcases hx with ⟨y, hy, rfl⟩ | hx | ⟨y, hy, rfl⟩
  · exact h.2.1.2 y hy
  · exact h.2.2.1.2 x hx
  · exact (h.2.2.2.2 y hy).2
theorem flatten_get {α : Type} {n : Nat} (hn : 0 < n) : ∀ {l : List (List α)} (_ : ∀ r ∈ l, r.length = n) (j : Nat), l.flatten[j]? = (l[j / n]?).bind (·[j % n]?)
  | [], _, j => by simp
  | r :: l, h, j => by
    have hr := h r (List.mem_cons_self ..)
    rw [List.flatten_cons]
    rcases Nat.lt_or_ge j n with hj | hj
    · rw [List.getElem?_append_left (by omega), Nat.div_eq_of_lt hj, Nat.mod_eq_of_lt hj]; rfl
    · rw [List.getElem?_append_right (by omega), hr, flatten_get hn (fun r hr => h r (List.mem_cons_of_mem _ hr)) (j - n)]
      obtain ⟨q, rfl⟩ : ∃ q, j = q + n := ⟨j - n, by omega⟩
      rw [Nat.add_sub_cancel, Nat.add_div_right _ hn, Nat.add_mod_right]
      rfl
/-- A row of seven cells that is an expression. -/
def Good (W0 : World) (d : Nat) (y : List Value × Ex d) : Prop :=
  ∃ (k : Int) (nm : ByteArray) (m : Int) (p q r s : Option Addr) (p1 p2 q1 q2 r1 r2 s1 s2 : Nat), y.1 = exV k nm m p q r s p1 p2 q1 q2 r1 r2 s1 s2 ∧ ExIs W0 d (.agg y.1.toArray) y.2
theorem Good.len {W0 : World} {d : Nat} {y : List Value × Ex d} (h : Good W0 d y) : y.1.length = 7 := by
  obtain ⟨_, _, _, _, _, _, _, _, _, _, _, _, _, _, _, h, _⟩ := h; rw [h]; rfl
theorem Good.one {W0 : World} {d : Nat} {y : List Value × Ex d} (h : Good W0 d y) : ∀ u ∈ y.1, u.oneCell' = true := by
  obtain ⟨_, _, _, _, _, _, _, _, _, _, _, _, _, _, _, h, _⟩ := h
  intro u hu
  rw [h] at hu
  simp [exV] at hu
  rcases hu with rfl | rfl | rfl | rfl | rfl | rfl | rfl <;> rfl
structure EOwn (W0 W : World) (B d : Nat) (v : Value) (cur : List (List Value × Ex d)) : Prop where
  own : ROwn W B 29 7 v (cur.map (·.1))
  good : ∀ y ∈ cur, Good W0 d y
theorem EOwn.below {W0 W W' : World} {B d : Nat} {v : Value} {cur : List (List Value × Ex d)} (h : EOwn W0 W B d v cur) (hb : Below W.heap.size W W') : EOwn W0 W' B d v cur := ⟨h.own.below hb, h.good⟩
theorem infoX : (Try.prog.info? 29).map (fun i => (i.zero, i.size, i.bytes)) = some (some (.agg #[.int .i64 0, .string ⟨#[]⟩, .int .i64 0, .slice none 0 0, .slice none 0 0, .slice none 0 0, .slice none 0 0]), 7, 128) := by kernel_rfl
theorem append_empty {W : World} {B : Nat} {t st ty : TypeId} {i : TypeInfo} {sz n : Nat} (ht : Try.prog.underlying st = some (.slice t)) (hi : Try.prog.info? t = some i) {v : Value} {xs : List Value} (hown : W.ownsRow B t sz v n xs) (a : Option Addr) (c : Nat) :
    (Builtin.append_ #[st, st] ty #[v, .slice a 0 c]).run Try.prog W = .ok v W := by
  rcases hown.2 with ⟨rfl, rfl⟩ | ⟨g, cap, cur, rfl, _, _, hnc, _⟩
  · simp [Builtin.append_, run_underlying ht, sizeOf, typeInfo, hi, Builtin.lenOf, Builtin.firstCells, loadCells, loadCellsFrom]
    try (cases a <;> simp [Builtin.firstCells, loadCells, loadCellsFrom])
  · cases a <;> simp [Builtin.append_, run_underlying ht, sizeOf, typeInfo, hi, Builtin.lenOf, Builtin.firstCells, hnc, storeCells, loadCells, loadCellsFrom]
/-- Many rows put behind. -/
theorem EOwn.many {W0 W : World} {B d : Nat} {v : Value} {cur : List (List Value × Ex d)} (h : EOwn W0 W B d v cur) (a o c : Nat) (new : List (List Value × Ex d)) (hg : ∀ y ∈ new, Good W0 d y) (hc : ∀ i y, new[i]? = some y → CellsAt W a (o + i * 7) y.1) (hl : cur.length + new.length ≤ 100000000) (hB : B ≤ W.heap.size) :
    ∃ v' W', (Builtin.append_ #[26, 26] 26 #[v, .slice (some ⟨a, o, none⟩) new.length c]).run Try.prog W = .ok v' W' ∧ EOwn W0 W' B d v' (cur ++ new) ∧ Below B W W' := by
  obtain ⟨i0, hi, hz0, hz1, hz2⟩ := info_parts infoX
  obtain ⟨v', W', k1, k2, k3, k4, k5⟩ := ROwn.push h.own 26 (i := i0) (z := .agg #[.int .i64 0, .string ⟨#[]⟩, .int .i64 0, .slice none 0 0, .slice none 0 0, .slice none 0 0, .slice none 0 0]) Try.underlying26 hi hz0 hz1 hz2 rfl (by decide) a o new.length c (new.map (·.1)) (by simp) (fun r hr => by obtain ⟨y, hy, rfl⟩ := List.mem_map.1 hr; exact (hg y hy).len)
    (fun j u hj => by
      rw [flatten_get (n := 7) (by decide) (fun r hr => by obtain ⟨y, hy, rfl⟩ := List.mem_map.1 hr; exact (hg y hy).len), List.getElem?_map] at hj
      rcases hy : new[j / 7]? with _ | y
      · rw [hy] at hj; simp at hj
      · rw [hy] at hj
        have := hc (j / 7) y hy (j % 7) u (by simpa using hj)
        rwa [show o + j / 7 * 7 + j % 7 = o + j by omega] at this)
    (fun r hr u hu => by obtain ⟨y, hy, rfl⟩ := List.mem_map.1 hr; exact (hg y hy).one u hu) (by rw [List.length_map]; omega) (by rw [List.length_map]; unfold maxLen; omega) hB
  refine ⟨v', W', k1, ⟨by rw [List.map_append]; exact k2, fun y hy => ?_⟩, k4 hB⟩
  rcases List.mem_append.1 hy with hy | hy
  · exact h.good y hy
  · exact hg y hy
/-- One row put behind, made just now. -/
theorem EOwn.one {W0 w : World} {B d : Nat} {v : Value} {cur : List (List Value × Ex d)} (h : EOwn W0 w B d v cur) (y : List Value × Ex d) (hy : Good W0 d y) (hl : cur.length + 1 ≤ 100000000) (hB : B ≤ w.heap.size) :
    ∃ v' W', (Builtin.append_ #[26, 26] 26 #[v, .slice (some ⟨w.heap.size, 0, none⟩) 1 1]).run Try.prog (w.alloc (.cells y.1.toArray 29)) = .ok v' W' ∧ EOwn W0 W' B d v' (cur ++ [y]) ∧ Below B w W' := by
  have ha : Below w.heap.size w (w.alloc (.cells y.1.toArray 29)) := (Below.refl _ w).alloc (Nat.le_refl _) _
  have R := Blk.new w y.1.toArray 29
  obtain ⟨v', W', k1, k2, k3⟩ := EOwn.many (h.below ha) w.heap.size 0 1 [y] (fun z hz => by simp at hz; subst hz; exact hy) (fun i z hz => by
    match i with
    | 0 => simp at hz; subst hz; intro j c hj; rw [show 0 + 0 * 7 + j = j by omega, R.cell j]; simpa using hj
    | i + 1 => simp at hz) (by simpa using hl) (by simp; omega)
  exact ⟨v', W', k1, k2, (ha.mono hB).trans k3⟩
theorem rows_of {W0 W : World} {d : Nat} {b o : Nat} {l : List (Ex d)} (hb : b < W0.heap.size) (hW : Below W0.heap.size W0 W) (h : ∀ k x, l[k]? = some x → ExAt W0 d b (o + k * 7) x) :
    ∃ new : List (List Value × Ex d), new.map (·.2) = l ∧ (∀ y ∈ new, Good W0 d y) ∧ ∀ i y, new[i]? = some y → CellsAt W b (o + i * 7) y.1 := by
  obtain ⟨new, hl, hp⟩ := list_of (β := List Value × Ex d) l.length (p := fun i y => l[i]? = some y.2 ∧ Good W0 d y ∧ CellsAt W b (o + i * 7) y.1) (fun i hi => by
    obtain ⟨k, nm, m, p, q, r, s, p1, p2, q1, q2, r1, r2, s1, s2, hc, hv⟩ := ex_val (h i l[i] (List.getElem?_eq_getElem hi))
    exact ⟨(exV k nm m p q r s p1 p2 q1 q2 r1 r2 s1 s2, l[i]), List.getElem?_eq_getElem hi, ⟨k, nm, m, p, q, r, s, p1, p2, q1, q2, r1, r2, s1, s2, rfl, hv⟩, hc.below hW hb⟩)
  refine ⟨new, List.ext_getElem? fun i => ?_, fun y hy => ?_, fun i y hy => (hp i y hy).2.2⟩
  · rw [List.getElem?_map]
    rcases hy : new[i]? with _ | y
    · have : new.length ≤ i := List.getElem?_eq_none_iff.1 hy
      rw [List.getElem?_eq_none (by omega)]; rfl
    · rw [(hp i y hy).1]; rfl
  · obtain ⟨i, hi⟩ := List.mem_iff_getElem?.1 hy
    exact (hp i y hi).2.1
end Go.Proofs.Ytkcgchpflppmnaa
