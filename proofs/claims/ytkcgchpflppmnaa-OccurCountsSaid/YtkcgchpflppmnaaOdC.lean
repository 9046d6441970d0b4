/- kit.Expr: a copy in memory of its own. -/
import Derived.Test.YtkcgchpflppmnaaOdB
import Derived.Deep.DeepCutAuto
import Derived.Deep.RegionWith
import Derived.Deep.DrawnRows
namespace Go.Proofs.Ytkcgchpflppmnaa
open Go.RowKit
set_option linter.unusedSimpArgs false
set_option linter.unusedVariables false

/-- What is said of the rows of a copy. -/
def PB (d : Nat) (y : List Value × (ByteArray × Ex d)) (W : World) : Prop := ∃ l, y.1 = .string y.2.1 :: l ∧ ExIs W d (.agg l.toArray) y.2.2
def PA (d : Nat) (y : List Value × Ex d) (W : World) : Prop := ExIs W d (.agg y.1.toArray) y.2
def PL (d : Nat) (y : List Value × AltN (Ex d)) (W : World) : Prop := ∃ vs l, y.1 = .int .i64 y.2.kind :: .string y.2.name :: .int .i64 y.2.num :: vs :: l ∧ Txs W vs y.2.vars ∧ ExIs W d (.agg l.toArray) y.2.e
theorem infoB : (Try.prog.info? 56).map (fun i => (i.zero, i.size, i.bytes)) = some (some (.agg #[.string ⟨#[]⟩, .int .i64 0, .string ⟨#[]⟩, .int .i64 0, .slice none 0 0, .slice none 0 0, .slice none 0 0, .slice none 0 0]), 8, 144) := by kernel_rfl
theorem infoL : (Try.prog.info? 52).map (fun i => (i.zero, i.size, i.bytes)) = some (some (.agg #[.int .i64 0, .string ⟨#[]⟩, .int .i64 0, .slice none 0 0, .int .i64 0, .string ⟨#[]⟩, .int .i64 0, .slice none 0 0, .slice none 0 0, .slice none 0 0, .slice none 0 0]), 11, 184) := by kernel_rfl
def zeroX : Array Value := #[.int .i64 0, .string ⟨#[]⟩, .int .i64 0, .slice none 0 0, .slice none 0 0, .slice none 0 0, .slice none 0 0]
structure KSt (w wr : World) (b mP : Nat) (C : Array Value) (pv : Value) (ps : List ByteArray) : Prop where
  bel : Below w.heap.size w wr
  blk : Blk wr b C
  res : Blk wr (b + 1) zeroX
  pp : Held (b + 2) mP wr (fun W => Txs W pv ps)
  bw : w.heap.size = b
  mp : b + 2 ≤ mP
theorem KSt.below {w wr wr' : World} {b mP : Nat} {C : Array Value} {pv : Value} {ps : List ByteArray} (h : KSt w wr b mP C pv ps) (hb : Below wr.heap.size wr wr') : KSt w wr' b mP C pv ps :=
  ⟨chain h.bel hb, h.blk.below hb h.blk.lt, h.res.below hb h.res.lt, h.pp.below hb, h.bw, h.mp⟩
theorem KSt.grown {w wr wr' : World} {b mP g : Nat} {C : Array Value} {pv : Value} {ps : List ByteArray} (h : KSt w wr b mP C pv ps) (hb : wr.grownBy wr' (some g)) (hg : mP ≤ g) : KSt w wr' b mP C pv ps := by
  have h1 := h.mp
  have h2 := h.bw
  refine ⟨below_grown_new h.bel hb (by omega), h.blk.of_same (hb.block _ h.blk.lt (fun e => by simp at e; omega)) hb.size, h.res.of_same (hb.block _ h.res.lt (fun e => by simp at e; omega)) hb.size, h.pp.to (Nat.le_trans h.pp.le hb.size) fun k _ hk => hb.block k (Nat.lt_of_lt_of_le hk h.pp.le) (fun e => by simp at e; omega), h2, h1⟩
theorem take_next {β : Type} {l : List β} {k : Nat} {x : β} (hx : l[k]? = some x) : l.take (k + 1) = l.take k ++ [x] := by rw [List.take_add_one, hx]; rfl
theorem take_whole {β : Type} {l : List β} {n : Nat} (h : l.length = n) : l.take n = l := by subst h; exact List.take_length
theorem exV_one {k : Int} {nm : ByteArray} {m : Int} {p q r s : Option Addr} {p1 p2 q1 q2 r1 r2 s1 s2 : Nat} : ∀ u ∈ exV k nm m p q r s p1 p2 q1 q2 r1 r2 s1 s2, u.oneCell' = true := by
  intro u hu
  simp [exV] at hu
  rcases hu with rfl | rfl | rfl | rfl | rfl | rfl | rfl <;> rfl
theorem oneB {xn : ByteArray} {k : Int} {nm : ByteArray} {m : Int} {p q r s : Option Addr} {p1 p2 q1 q2 r1 r2 s1 s2 : Nat} : ∀ u ∈ (Value.string xn :: exV k nm m p q r s p1 p2 q1 q2 r1 r2 s1 s2), u.oneCell' = true := by
  intro u hu
  rcases List.mem_cons.1 hu with rfl | hu
  · rfl
  · exact exV_one u hu
theorem oneL {xk : Int} {xn : ByteArray} {xm : Int} {a : Option Addr} {a1 a2 : Nat} {k : Int} {nm : ByteArray} {m : Int} {p q r s : Option Addr} {p1 p2 q1 q2 r1 r2 s1 s2 : Nat} : ∀ u ∈ (Value.int .i64 xk :: .string xn :: .int .i64 xm :: .slice a a1 a2 :: exV k nm m p q r s p1 p2 q1 q2 r1 r2 s1 s2), u.oneCell' = true := by
  intro u hu
  simp only [List.mem_cons] at hu
  rcases hu with rfl | rfl | rfl | rfl | hu
  · rfl
  · rfl
  · rfl
  · rfl
  · exact exV_one u hu
theorem PB_of {d : Nat} {xn : ByteArray} {l : List Value} {x : ByteArray × Ex d} {W : World} (h : x.1 = xn) (hx : ExIs W d (.agg l.toArray) x.2) : PB d (.string xn :: l, x) W := ⟨l, by rw [h], hx⟩
theorem PL_of {d : Nat} {x : AltN (Ex d)} {vs : Value} {l : List Value} {W : World} (h : Txs W vs x.vars) (hx : ExIs W d (.agg l.toArray) x.e) : PL d (.int .i64 x.kind :: .string x.name :: .int .i64 x.num :: vs :: l, x) W := ⟨vs, l, rfl, h, hx⟩
theorem Held.and {n m : Nat} {W : World} {P Q : World → Prop} (h : Held n m W P) (k : Held n m W Q) : Held n m W (fun W => P W ∧ Q W) := ⟨h.le, fun W' a b => ⟨h.on W' a b, k.on W' a b⟩⟩
theorem set_cells {W : World} {b : Nat} {c : Array Value} (h : Blk W b c) : ∀ (l : List Value) (o : Nat), o + l.length ≤ c.size → ∃ W', W' = (l.zipIdx o).foldl (fun W p => W.setCell ⟨b, p.2, none⟩ p.1) W ∧ W.grownBy W' (some b) ∧ W'.heap.size = W.heap.size ∧ ∃ c', Blk W' b c' ∧ c'.size = c.size ∧ (∀ j : Nat, c'[j]? = if o ≤ j ∧ j < o + l.length then l[j - o]? else c[j]?)
  | [], o, _ => ⟨W, rfl, grown_refl _ _, rfl, c, h, rfl, fun j => by rw [if_neg (by simp only [List.length_nil]; omega)]⟩
  | v :: l, o, hl => by
    have hl' : o + (l.length + 1) ≤ c.size := hl
    obtain ⟨W', e, g, hs, c', hb, hc, hj⟩ := set_cells (h.set o v (by omega)) l (o + 1) (by simp; omega)
    refine ⟨W', e, grown_trans (grown_set _ _ _ _) g, hs.trans (by simp [World.setCell]), c', hb, by simpa using hc, fun j => ?_⟩
    rw [hj]
    by_cases h1 : o + 1 ≤ j ∧ j < o + 1 + l.length
    · rw [if_pos h1, if_pos (by simp only [List.length_cons]; omega), show j - o = (j - (o + 1)) + 1 by omega, List.getElem?_cons_succ]
    · rw [if_neg h1]
      by_cases h2 : o = j
      · subst h2
        rw [if_pos (by simp only [List.length_cons]; omega), Nat.sub_self, Array.getElem?_setIfInBounds_self_of_lt (by omega)]
        rfl
      · rw [if_neg (by simp only [List.length_cons]; omega), Array.getElem?_setIfInBounds_ne h2]
theorem Blk.eq {W : World} {b : Nat} {c c' : Array Value} (h : Blk W b c) (hc : ∀ j : Nat, c[j]? = c'[j]?) : Blk W b c' := ⟨h.lt, fun j => (h.cell j).trans (hc j), h.free⟩
theorem RowsIn.sl {β : Type} {W : World} {g cap n m : Nat} {t : TypeId} {sz : Nat} {rows : List (List Value × β)} {P : List Value × β → World → Prop} {R : Nat → Nat → β → Prop} (h : RowsIn W g cap n m t sz rows P) (hz : 0 < sz) {l : List β} (hl : rows.map (·.2) = l) (hR : ∀ y o, y ∈ rows → CellsAt W g o y.1 → P y W → R g o y.2) :
    SlAt W sz R (.slice (some ⟨g, 0, none⟩) l.length cap) l := by
  refine ⟨some ⟨g, 0, none⟩, cap, rfl, fun _ => ⟨g, 0, rfl, Nat.lt_of_lt_of_le h.lt (Nat.le_trans h.nm h.ml), fun k x hx => ?_⟩⟩
  rw [← hl, List.getElem?_map] at hx
  rcases hy : rows[k]? with _ | y
  · rw [hy] at hx; simp at hx
  · rw [hy] at hx
    obtain rfl : y.2 = x := by simpa using hx
    rw [Nat.zero_add]
    exact hR y _ (List.mem_of_getElem? hy) (h.at hz hy) (h.held y (List.mem_of_getElem? hy)).now
theorem sl_B {d : Nat} {W : World} {g cap n m : Nat} {t : TypeId} {rows : List (List Value × (ByteArray × Ex d))} {l : List (ByteArray × Ex d)} (h : RowsIn W g cap n m t 8 rows (PB d)) (hl : rows.map (·.2) = l) :
    SlAt W 8 (fun b o x => W.cell? ⟨b, o, none⟩ = some (.string x.1) ∧ ExAt W d b (o + 1) x.2) (.slice (some ⟨g, 0, none⟩) l.length cap) l :=
  h.sl (by decide) hl fun y o _ hc ⟨l, hy, hx⟩ => by
    rw [hy] at hc
    exact ⟨by simpa using hc 0 _ rfl, hx.put fun j c hj => by rw [show o + 1 + j = o + (j + 1) by omega]; exact hc (j + 1) c (by simpa using hj)⟩
theorem sl_A {d : Nat} {W : World} {g cap n m : Nat} {t : TypeId} {rows : List (List Value × Ex d)} {l : List (Ex d)} (h : RowsIn W g cap n m t 7 rows (PA d)) (hl : rows.map (·.2) = l) :
    SlAt W 7 (ExAt W d) (.slice (some ⟨g, 0, none⟩) l.length cap) l :=
  h.sl (by decide) hl fun y o _ hc hx => ExIs.put hx hc
theorem sl_L {d : Nat} {W : World} {g cap n m : Nat} {t : TypeId} {rows : List (List Value × AltN (Ex d))} {l : List (AltN (Ex d))} (h : RowsIn W g cap n m t 11 rows (PL d)) (hl : rows.map (·.2) = l) :
    SlAt W 11 (fun b o x => ∃ vs, CellsAt W b o [.int .i64 x.kind, .string x.name, .int .i64 x.num, vs] ∧ Txs W vs x.vars ∧ ExAt W d b (o + 4) x.e) (.slice (some ⟨g, 0, none⟩) l.length cap) l :=
  h.sl (by decide) hl fun y o _ hc ⟨vs, l, hy, ht, hx⟩ => by
    rw [hy] at hc
    refine ⟨vs, fun j c hj => ?_, ht, hx.put fun j c hj => by rw [show o + 4 + j = o + (j + 4) by omega]; exact hc (j + 4) c (by simpa using hj)⟩
    have hj4 : j < 4 := by simpa using (List.getElem?_eq_some_iff.1 hj).1
    refine hc j c ?_
    match j, hj4 with
    | 0, _ => exact hj
    | 1, _ => exact hj
    | 2, _ => exact hj
    | 3, _ => exact hj
theorem arr7 {a0 a1 a2 a3 a4 a5 a6 : Value} {c' : Array Value} (h : ∀ j : Nat, c'[j]? = if 0 ≤ j ∧ j < 0 + [a0, a1, a2, a3, a4, a5, a6].length then [a0, a1, a2, a3, a4, a5, a6][j - 0]? else zeroX[j]?) : ∀ j : Nat, c'[j]? = #[a0, a1, a2, a3, a4, a5, a6][j]? := by
  intro j
  rw [h j]
  by_cases hj : j < 7
  · rw [if_pos (by simp; omega)]; simp
  · rw [if_neg (by simp; omega), Array.getElem?_eq_none (by simp [zeroX]; omega), Array.getElem?_eq_none (by simp; omega)]
theorem arr4 {a0 a1 a2 a3 a4 a5 a6 n4 n5 n6 : Value} {c' : Array Value} (h : ∀ j : Nat, c'[j]? = if 4 ≤ j ∧ j < 4 + [n4, n5, n6].length then [n4, n5, n6][j - 4]? else #[a0, a1, a2, a3, a4, a5, a6][j]?) : ∀ j : Nat, c'[j]? = #[a0, a1, a2, a3, n4, n5, n6][j]? := by
  intro j
  rw [h j]
  by_cases hj : j < 4
  · rw [if_neg (by simp; omega)]
    match j, hj with
    | 0, _ => rfl
    | 1, _ => rfl
    | 2, _ => rfl
    | 3, _ => rfl
  · by_cases hj2 : j < 7
    · rw [if_pos (by simp; omega)]
      obtain ⟨i, rfl⟩ : ∃ i, j = i + 4 := ⟨j - 4, by omega⟩
      simp
    · rw [if_neg (by simp; omega), Array.getElem?_eq_none (by simp; omega), Array.getElem?_eq_none (by simp; omega)]
theorem arr11 {k m : Value} {nm a3 b4 b5 b6 b7 b8 b9 b10 n3 n4 n5 n6 n7 n8 n9 n10 : Value} {c' : Array Value} (h : ∀ j : Nat, c'[j]? = if 3 ≤ j ∧ j < 3 + [n3, n4, n5, n6, n7, n8, n9, n10].length then [n3, n4, n5, n6, n7, n8, n9, n10][j - 3]? else #[k, nm, m, a3, b4, b5, b6, b7, b8, b9, b10][j]?) : ∀ j : Nat, c'[j]? = #[k, nm, m, n3, n4, n5, n6, n7, n8, n9, n10][j]? := by
  intro j
  rw [h j]
  by_cases hj : j < 3
  · rw [if_neg (by simp; omega)]
    match j, hj with
    | 0, _ => rfl
    | 1, _ => rfl
    | 2, _ => rfl
  · by_cases hj2 : j < 11
    · rw [if_pos (by simp; omega)]
      obtain ⟨i, rfl⟩ : ∃ i, j = i + 3 := ⟨j - 3, by omega⟩
      simp
    · rw [if_neg (by simp; omega), Array.getElem?_eq_none (by simp; omega), Array.getElem?_eq_none (by simp; omega)]
set_option maxRecDepth 100000 in
set_option maxHeartbeats 8000000 in
theorem kexpr_step (d : Nat)
    (hcp : ∀ (x : Ex d) (v : Value) (W : World), ExIs W d v x → Sm d x → Calls Try.prog 12 #[v] W fun r W' => ∃ v', r = .returned v' ∧ Held W.heap.size W'.heap.size W' (fun W => ExIs W d v' x) ∧ Below W.heap.size W W')
    (v : Value) (e : ExN (Ex d)) (w : World) (h : ExIs w (d + 1) v e) (hs : Sm (d + 1) e) :
    Calls Try.prog 12 #[v] w fun r W' => ∃ v', r = .returned v' ∧ Held w.heap.size W'.heap.size W' (fun W => ExIs W (d + 1) v' e) ∧ Below w.heap.size w W' := by
  obtain ⟨l0, rfl, hp⟩ := h
  obtain ⟨pa, pb, pc, pd, pa2, pb2, pc2, pd2, rfl⟩ := parts_form hp
  have R0 := Blk.new w #[.int .i64 e.kind, .string e.name, .int .i64 e.num, .slice pa e.params.length pa2, .slice pb e.binds.length pb2, .slice pc e.args.length pc2, .slice pd e.alts.length pd2] 29
  have hB0 : Below w.heap.size w (w.alloc (.cells #[.int .i64 e.kind, .string e.name, .int .i64 e.num, .slice pa e.params.length pa2, .slice pb e.binds.length pb2, .slice pc e.args.length pc2, .slice pd e.alts.length pd2] 29)) := (Below.refl _ w).alloc (Nat.le_refl _) _
  obtain ⟨ps, bs, es, ls, hq, ⟨xa, ya, hqa, h1⟩, ⟨xb, yb, hqb, h2⟩, ⟨xc, yc, hqc, h3⟩, ⟨xd, yd, hqd, h4⟩⟩ := hp
  simp only [exV, List.cons.injEq] at hq
  obtain ⟨-, -, -, rfl, rfl, rfl, rfl, -⟩ := hq
  simp only [Value.slice.injEq] at hqa hqb hqc hqd
  obtain ⟨rfl, -, rfl⟩ := hqa
  obtain ⟨rfl, -, rfl⟩ := hqb
  obtain ⟨rfl, -, rfl⟩ := hqc
  obtain ⟨rfl, -, rfl⟩ := hqd
  obtain ⟨N3, hN3⟩ : ∃ N, e.params.length = N := ⟨_, rfl⟩
  obtain ⟨N4, hN4⟩ : ∃ N, e.binds.length = N := ⟨_, rfl⟩
  obtain ⟨N5, hN5⟩ : ∃ N, e.args.length = N := ⟨_, rfl⟩
  obtain ⟨N6, hN6⟩ : ∃ N, e.alts.length = N := ⟨_, rfl⟩
  have m3 : N3 ≤ 10000000 := hN3 ▸ hs.1
  have m4 : N4 ≤ 10000000 := hN4 ▸ hs.2.1.1
  have m5 : N5 ≤ 10000000 := hN5 ▸ hs.2.2.1.1
  have m6 : N6 ≤ 10000000 := hN6 ▸ hs.2.2.2.1
  unfold exV
  rw [hN3, hN4, hN5, hN6] at R0 hB0 ⊢
  have HN3 := Lib.hid hN3
  have HN4 := Lib.hid hN4
  have HN5 := Lib.hid hN5
  have HN6 := Lib.hid hN6
  have H1 := Lib.hid (show True ∧ True ∧ _ from ⟨trivial, trivial, h1⟩)
  have H2 := Lib.hid (show True ∧ _ from ⟨trivial, h2⟩)
  have H3 := Lib.hid h3
  have H4 := Lib.hid h4
  have HS := Lib.hid hs
  have HCP := Lib.hid hcp
  have KT := Lib.hid (fun W (hW : Below w.heap.size w W) => texts_any _ e.params W ((show Txs w (.slice pa N3 pa2) e.params from ⟨pa, pa2, by rw [hN3], h1⟩).below hW) hs.1)
  obtain ⟨kd, hkd⟩ : ∃ kd, e.kind = kd := ⟨_, rfl⟩
  obtain ⟨nm, hnm⟩ : ∃ nm, e.name = nm := ⟨_, rfl⟩
  obtain ⟨nu, hnu⟩ : ∃ nu, e.num = nu := ⟨_, rfl⟩
  rw [hkd, hnm, hnu] at R0 hB0 ⊢
  have HKD := Lib.hid hkd
  have HNM := Lib.hid hnm
  have HNU := Lib.hid hnu
  clear h1 h2 h3 h4 hN3 hN4 hN5 hN6 hs hcp hkd hnm hnu
  go_enter Try.func12, Try.ntmps12
  go_upto_region 1 with fail
  have R1 := Blk.new (w.alloc (.cells #[.int .i64 kd, .string nm, .int .i64 nu, .slice pa N3 pa2, .slice pb N4 pb2, .slice pc N5 pc2, .slice pd N6 pd2] 29)) #[.int .i64 0, .string ⟨#[]⟩, .int .i64 0, .slice none 0 0, .slice none 0 0, .slice none 0 0, .slice none 0 0] 29
  have R0' := R0.alloc (.cells #[.int .i64 0, .string ⟨#[]⟩, .int .i64 0, .slice none 0 0, .slice none 0 0, .slice none 0 0, .slice none 0 0] 29)
  have hB1 : Below w.heap.size w ((w.alloc (.cells #[.int .i64 kd, .string nm, .int .i64 nu, .slice pa N3 pa2, .slice pb N4 pb2, .slice pc N5 pc2, .slice pd N6 pd2] 29)).alloc (.cells #[.int .i64 0, .string ⟨#[]⟩, .int .i64 0, .slice none 0 0, .slice none 0 0, .slice none 0 0, .slice none 0 0] 29)) := hB0.alloc hB0.size _
  have hs1 : ((w.alloc (.cells #[.int .i64 kd, .string nm, .int .i64 nu, .slice pa N3 pa2, .slice pb N4 pb2, .slice pc N5 pc2, .slice pd N6 pd2] 29)).alloc (.cells #[.int .i64 0, .string ⟨#[]⟩, .int .i64 0, .slice none 0 0, .slice none 0 0, .slice none 0 0, .slice none 0 0] 29)).heap.size = w.heap.size + 2 := by simp
  rw [show (w.alloc (.cells #[.int .i64 kd, .string nm, .int .i64 nu, .slice pa N3 pa2, .slice pb N4 pb2, .slice pc N5 pc2, .slice pd N6 pd2] 29)).heap.size = w.heap.size + 1 by simp] at R1
  generalize (w.alloc (.cells #[.int .i64 kd, .string nm, .int .i64 nu, .slice pa N3 pa2, .slice pb N4 pb2, .slice pc N5 pc2, .slice pd N6 pd2] 29)).alloc (.cells #[.int .i64 0, .string ⟨#[]⟩, .int .i64 0, .slice none 0 0, .slice none 0 0, .slice none 0 0, .slice none 0 0] 29) = W0 at R0' R1 hB1 hs1 ⊢
  have HB1 := Lib.hid hB1
  generalize hbq : w.heap.size = b at R0' R1 hs1 ⊢
  have HR0 := Lib.hid R0'
  have HR1 := Lib.hid R1
  have c3 : W0.cell? ⟨b, 3, none⟩ = _ := R0'.cell 3
  simp only [List.getElem?_toArray, List.getElem?_cons_zero, List.getElem?_cons_succ] at c3
  have HKT := Lib.hid (KT.out W0 hB1)
  clear hB0 R0 R1 R0' hB1 KT
  go_upto_region 2 with (go_at_call 24; with_reducible (refine HKT.out.mono ?_); rintro r1 w1 ⟨pv, rfl, o1, b1⟩; obtain ⟨qa, qa2, rfl⟩ := o1.shape; rw [HN3.out] at o1 ⊢; have B1 := Lib.hid b1; have O1 := Lib.hid o1; have rr := HR0.out.below b1 HR0.out.lt; have cc3 : w1.cell? ⟨b, 3, none⟩ = _ := rr.cell 3; have ff3 := rr.free 3; simp only [List.getElem?_toArray, List.getElem?_cons_zero, List.getElem?_cons_succ] at cc3; have RR := Lib.hid rr; have hlw := rr.lt; clear rr o1 b1)
  have hsw := B1.out.size
  have hgs := grown_set w1 b 3 (.slice qa N3 qa2)
  have HK := Lib.hid (show KSt w (w1.setCell ⟨b, 3, none⟩ (.slice qa N3 qa2)) b w1.heap.size #[.int .i64 kd, .string nm, .int .i64 nu, .slice qa N3 qa2, .slice pb N4 pb2, .slice pc N5 pc2, .slice pd N6 pd2] (.slice qa N3 qa2) e.params from
    ⟨below_grown_new (HB1.out.trans (B1.out.mono HB1.out.size)) hgs (by omega), RR.out.set 3 _ (by simp), ((HR1.out.below B1.out HR1.out.lt).other ⟨b, 3, none⟩ _ (by simp)),
      (O1.out.held (n := b + 2) (m := w1.heap.size) (by omega) O1.out.blt (Nat.le_refl _)).grown hgs (by omega), hbq, by omega⟩)
  generalize hW1 : w1.setCell ⟨b, 3, none⟩ (.slice qa N3 qa2) = W1 at HK ⊢
  have hmP : w1.heap.size ≤ W1.heap.size := by rw [← hW1]; simp [World.setCell]
  generalize w1.heap.size = mP at HK hmP
  clear hW1 hgs cc3 ff3 RR O1 B1 HR0 HR1 HKT c3 hlw hsw hs1
  have hkc := HK.out.blk
  have HC := Lib.hid (show ∀ W, KSt w W b mP #[.int .i64 kd, .string nm, .int .i64 nu, .slice qa N3 qa2, .slice pb N4 pb2, .slice pc N5 pc2, .slice pd N6 pd2] (.slice qa N3 qa2) e.params → W.cell? ⟨b, 4, none⟩ = some (.slice pb N4 pb2) ∧ W.cell? ⟨b, 5, none⟩ = some (.slice pc N5 pc2) ∧ W.cell? ⟨b, 6, none⟩ = some (.slice pd N6 pd2) from fun W hW => ⟨hW.blk.cell 4, hW.blk.cell 5, hW.blk.cell 6⟩)
  obtain ⟨x4, x5, x6⟩ := HC.out W1 HK.out
  obtain ⟨iB, hiB, hzB0, hzB1, hzB2⟩ := info_parts infoB
  obtain ⟨W2, hmk, hR2, hb2⟩ := RowsIn.made (β := ByteArray × Ex d) W1 Try.underlying25 hiB hzB0 hzB1 (N4 + 1) (by rw [hzB2]; omega) (by unfold maxLen; omega) (PB d)
  rw [show ((N4 + 1 : Nat) : Int) = (N4 : Int) + 1 from rfl] at hmk
  have HK2 := Lib.hid (HK.out.below hb2)
  obtain ⟨gb, hgb⟩ : ∃ gb, W1.heap.size = gb := ⟨_, rfl⟩
  rw [hgb] at hR2 hmk hmP
  have HR2 := Lib.hid hR2
  have HgB := Lib.hid hgb
  have HIB := Lib.hid (show Try.prog.info? 56 = some iB ∧ iB.size = 8 from ⟨hiB, hzB1⟩)
  clear hkc hb2 hR2 hgb hiB hzB0 hzB1 hzB2
  go_upto_region 4 with fail
  clear hmk x4 x5 x6
  go_loopw [3, 4] (fun v i wr => ∃ (k : Nat) (rows : List (List Value × (ByteArray × Ex d))), i = .int .i64 k ∧ v = .slice (some ⟨gb, 0, none⟩) k (N4 + 1) ∧ k ≤ N4 ∧ Hid (rows.length = k) ∧ Hid (rows.map (·.2) = e.binds.take k) ∧ Hid (RowsIn wr gb (N4 + 1) (gb + 1) wr.heap.size 56 8 rows (PB d)) ∧ Hid (KSt w wr b mP #[.int .i64 kd, .string nm, .int .i64 nu, .slice qa N3 qa2, .slice pb N4 pb2, .slice pc N5 pc2, .slice pd N6 pd2] (.slice qa N3 qa2) e.params)) (fun _ i _ => N4 - (intOf i).toNat)
  case atStart => exact ⟨0, [], rfl, rfl, Nat.zero_le _, Lib.hid rfl, Lib.hid rfl, HR2, HK2⟩
  case round =>
    clear HR2 HK2
    obtain ⟨k, rows, rfl, rfl, hk, HLn, HMp, HR, HK⟩ := hrel
    obtain ⟨x4, x5, x6⟩ := HC.out wr HK.out
    by_cases hlt : k < N4
    · have hlt2 : decide ((k : Int) < (N4 : Int)) = true := by simp; omega
      have hlt3 : decide (k < N4) = true := by simp; omega
      have hi0 : (0 : Int) ≤ (k : Int) := by omega
      have hkt : k < e.binds.length := by rw [HN4.out]; exact hlt
      obtain ⟨p, o', hq, hp, hat⟩ := H2.out.2 (by omega)
      subst hq
      obtain ⟨x, hx⟩ : ∃ x, e.binds[k]? = some x := ⟨_, List.getElem?_eq_getElem hkt⟩
      obtain ⟨hnm, hex⟩ := hat k x hx
      obtain ⟨y0, y1, y2, y3, y4, y5, y6, y7, y8, y9, ya, yb, yc, yd, ye, hyc, hyv⟩ := ex_val hex
      have KO := Lib.hid (fun W (hW : Below w.heap.size w W) => HCP.out x.2 _ W (ExIs.below hW d _ x.2 hyv) (HS.out.2.1.2 x (List.mem_of_getElem? hx)))
      unfold exV at KO
      have HTk := Lib.hid (take_next hx)
      obtain ⟨xn, hxn⟩ : ∃ xn, x.1 = xn := ⟨_, rfl⟩
      have HXN := Lib.hid hxn
      rw [hxn] at hnm
      have HS9 := Lib.hid (show ∀ W, KSt w W b mP #[.int .i64 kd, .string nm, .int .i64 nu, .slice qa N3 qa2, .slice (some ⟨p, o', none⟩) N4 pb2, .slice pc N5 pc2, .slice pd N6 pd2] (.slice qa N3 qa2) e.params → W.cell? ⟨b, 4, none⟩ = some (.slice (some ⟨p, o', none⟩) N4 pb2) ∧ W.cell? ⟨p, o' + k * 8, none⟩ = some (.string xn) ∧ W.cell? ⟨p, o' + k * 8 + 1, none⟩ = some (.int .i64 y0) ∧ W.cell? ⟨p, o' + k * 8 + 2, none⟩ = some (.string y1) ∧ W.cell? ⟨p, o' + k * 8 + 3, none⟩ = some (.int .i64 y2) ∧ W.cell? ⟨p, o' + k * 8 + 4, none⟩ = some (.slice y3 y7 y8) ∧ W.cell? ⟨p, o' + k * 8 + 5, none⟩ = some (.slice y4 y9 ya) ∧ W.cell? ⟨p, o' + k * 8 + 6, none⟩ = some (.slice y5 yb yc) ∧ W.cell? ⟨p, o' + k * 8 + 7, none⟩ = some (.slice y6 yd ye) from fun W hW => by
        have hWw := hW.bel
        have g := hyc.below hWw hp
        exact ⟨hW.blk.cell 4, (hWw.cell (p := ⟨p, o' + k * 8, none⟩) hp).trans hnm, g 0 _ rfl, g 1 _ rfl, g 2 _ rfl, g 3 _ rfl, g 4 _ rfl, g 5 _ rfl, g 6 _ rfl⟩)
      have hbel := Lib.hid HK.out.bel
      clear hat hx hnm hex hyc hyv hxn
      go_upto_region 6 with fail
      have hS0 : wr.drew.cell? ⟨b, 4, none⟩ = some (.slice (some ⟨p, o', none⟩) N4 pb2) ∧ wr.drew.cell? ⟨p, o' + k * 8, none⟩ = some (.string xn) ∧ wr.drew.cell? ⟨p, o' + k * 8 + 1, none⟩ = some (.int .i64 y0) ∧ wr.drew.cell? ⟨p, o' + k * 8 + 2, none⟩ = some (.string y1) ∧ wr.drew.cell? ⟨p, o' + k * 8 + 3, none⟩ = some (.int .i64 y2) ∧ wr.drew.cell? ⟨p, o' + k * 8 + 4, none⟩ = some (.slice y3 y7 y8) ∧ wr.drew.cell? ⟨p, o' + k * 8 + 5, none⟩ = some (.slice y4 y9 ya) ∧ wr.drew.cell? ⟨p, o' + k * 8 + 6, none⟩ = some (.slice y5 yb yc) ∧ wr.drew.cell? ⟨p, o' + k * 8 + 7, none⟩ = some (.slice y6 yd ye) := HS9.out wr HK.out
      go_region_held3 (fun wx => wx.cell? ⟨b, 4, none⟩ = some (.slice (some ⟨p, o', none⟩) N4 pb2) ∧ wx.cell? ⟨p, o' + k * 8, none⟩ = some (.string xn) ∧ wx.cell? ⟨p, o' + k * 8 + 1, none⟩ = some (.int .i64 y0) ∧ wx.cell? ⟨p, o' + k * 8 + 2, none⟩ = some (.string y1) ∧ wx.cell? ⟨p, o' + k * 8 + 3, none⟩ = some (.int .i64 y2) ∧ wx.cell? ⟨p, o' + k * 8 + 4, none⟩ = some (.slice y3 y7 y8) ∧ wx.cell? ⟨p, o' + k * 8 + 5, none⟩ = some (.slice y4 y9 ya) ∧ wx.cell? ⟨p, o' + k * 8 + 6, none⟩ = some (.slice y5 yb yc) ∧ wx.cell? ⟨p, o' + k * 8 + 7, none⟩ = some (.slice y6 yd ye)) (assumption) (first | (go_at_call 12; with_reducible (refine (KO.out _ hbel.out.drew).mono ?_); rintro r1 w1 ⟨v', rfl, hd, b1⟩; have q1 := below_of_drew b1; obtain ⟨n0, n1, n2, n3, n4, n5, n6, n7, n8, n9, na, nb, nc, nd, ne, rfl⟩ := hd.now.form; have k1 := HK.out.below q1; have hS1 := HS9.out w1 k1; obtain ⟨W2, hrun, r2, g2⟩ := RowsIn.push Try.underlying25 HIB.out.1 HIB.out.2 ((HR.out.below q1).wide q1.size (Nat.le_refl _)) (.string xn :: exV n0 n1 n2 n3 n4 n5 n6 n7 n8 n9 na nb nc nd ne, x) rfl oneB (((hd.wide (n' := gb + 1) (by have := HR.out.nm; simpa using this) (Nat.le_refl _) (Nat.le_refl _))).mp (fun W hW => PB_of HXN.out hW)) (by rw [HLn.out]; omega); rw [HLn.out] at hrun; unfold exV at hrun ⊢; have hS2 := HS9.out _ (k1.below ((Below.refl _ w1).alloc (Nat.le_refl _) (.cells (#[.string xn, .int .i64 n0, .string n1, .int .i64 n2, .slice n3 n7 n8, .slice n4 n9 na, .slice n5 nb nc, .slice n6 nd ne]) 56))); have k2 := k1.grown g2 (by omega); have hS3 := HS9.out W2 k2; have K2 := Lib.hid k2; have R2 := Lib.hid r2; clear r2 g2 k2 k1 hd q1 b1) | (refine step_append_run (by rfl) _ _ _ _ (by rfl) _ _ _ _ (by rfl) (by rfl) hrun ?_))
      all_goals
        go_wp2
        go_roundw
        case measure => simp [intOf]; omega
        case rel => exact ⟨k + 1, _, by go_num, rfl, by omega, Lib.hid (by rw [List.length_append, HLn.out]; rfl), Lib.hid (by rw [List.map_append, HMp.out, HTk.out]; rfl), R2, K2⟩
    · have hlt2 : decide ((k : Int) < (N4 : Int)) = false := by simp; omega
      have hlt3 : decide (k < N4) = false := by simp; omega
      obtain rfl : N4 = k := by omega
      have hlen := HLn.out
      have HRB0 := Lib.hid HR.out
      have HMB := Lib.hid (show rows.map (·.2) = e.binds by rw [HMp.out]; exact take_whole HN4.out)
      have HLB := Lib.hid hlen
      obtain ⟨rowsB, rfl⟩ : ∃ r, r = rows := ⟨_, rfl⟩
      obtain ⟨iA, hiA, hzA0, hzA1, hzA2⟩ := info_parts infoX
      obtain ⟨W2, hmk, hR2, hb2⟩ := RowsIn.made (β := Ex d) wr Try.underlying26 hiA hzA0 hzA1 (N5 + 1) (by rw [hzA2]; omega) (by unfold maxLen; omega) (PA d)
      rw [show ((N5 + 1 : Nat) : Int) = (N5 : Int) + 1 from rfl] at hmk
      have HK2 := Lib.hid (HK.out.below hb2)
      have hgl := HRB0.out.nm
      have HRB := Lib.hid (HRB0.out.below hb2)
      obtain ⟨ga, hga⟩ : ∃ ga, wr.heap.size = ga := ⟨_, rfl⟩
      rw [hga] at hR2 hmk HRB hgl
      have HR2 := Lib.hid hR2
      have HIA := Lib.hid (show Try.prog.info? 29 = some iA ∧ iA.size = 7 from ⟨hiA, hzA1⟩)
      clear hb2 hR2 hga hiA hzA0 hzA1 hzA2 HR HRB0 HMp HLn hlen hk hlt hlt2 hlt3
      go_upto_region 9 with fail
      clear hmk x4 x5 x6 HK
      go_loopw [5, 6] (fun v i wr => ∃ (k : Nat) (rows : List (List Value × Ex d)), i = .int .i64 k ∧ v = .slice (some ⟨ga, 0, none⟩) k (N5 + 1) ∧ k ≤ N5 ∧ Hid (rows.length = k) ∧ Hid (rows.map (·.2) = e.args.take k) ∧ Hid (RowsIn wr ga (N5 + 1) (ga + 1) wr.heap.size 29 7 rows (PA d)) ∧ Hid (KSt w wr b mP #[.int .i64 kd, .string nm, .int .i64 nu, .slice qa N3 qa2, .slice pb N4 pb2, .slice pc N5 pc2, .slice pd N6 pd2] (.slice qa N3 qa2) e.params) ∧ Hid (RowsIn wr gb (N4 + 1) (gb + 1) ga 56 8 rowsB (PB d))) (fun _ i _ => N5 - (intOf i).toNat)
      case atStart => exact ⟨0, [], rfl, rfl, Nat.zero_le _, Lib.hid rfl, Lib.hid rfl, HR2, HK2, HRB⟩
      case round =>
        clear HR2 HK2 HRB
        obtain ⟨k, rows, rfl, rfl, hk, HLn, HMp, HR, HK, HRB⟩ := hrel
        obtain ⟨x4, x5, x6⟩ := HC.out wr HK.out
        by_cases hlt : k < N5
        · have hlt2 : decide ((k : Int) < (N5 : Int)) = true := by simp; omega
          have hlt3 : decide (k < N5) = true := by simp; omega
          have hi0 : (0 : Int) ≤ (k : Int) := by omega
          have hkt : k < e.args.length := by rw [HN5.out]; exact hlt
          obtain ⟨p, o', hq, hp, hat⟩ := H3.out (by omega)
          subst hq
          obtain ⟨x, hx⟩ : ∃ x, e.args[k]? = some x := ⟨_, List.getElem?_eq_getElem hkt⟩
          obtain ⟨y0, y1, y2, y3, y4, y5, y6, y7, y8, y9, ya, yb, yc, yd, ye, hyc, hyv⟩ := ex_val (hat k x hx)
          have KO := Lib.hid (fun W (hW : Below w.heap.size w W) => HCP.out x _ W (ExIs.below hW d _ x hyv) (HS.out.2.2.1.2 x (List.mem_of_getElem? hx)))
          unfold exV at KO
          have HTk := Lib.hid (take_next hx)
          have vv := hyc.below HK.out.bel hp
          have v0 := vv 0 _ rfl
          have v1 := vv 1 _ rfl
          have v2 := vv 2 _ rfl
          have v3 := vv 3 _ rfl
          have v4 := vv 4 _ rfl
          have v5 := vv 5 _ rfl
          have v6 := vv 6 _ rfl
          rw [Nat.add_zero] at v0
          clear hat hx hyc hyv vv
          go_wp2_with (first | (go_at_call 12; refine (KO.out _ HK.out.bel).mono ?_; rintro r1 w1 ⟨v', rfl, hd, b1⟩; obtain ⟨n0, n1, n2, n3, n4, n5, n6, n7, n8, n9, na, nb, nc, nd, ne, rfl⟩ := hd.now.form; have k1 := HK.out.below b1; obtain ⟨W2, hrun, r2, g2⟩ := RowsIn.push Try.underlying26 HIA.out.1 HIA.out.2 ((HR.out.below b1).wide b1.size (Nat.le_refl _)) (exV n0 n1 n2 n3 n4 n5 n6 n7 n8 n9 na nb nc nd ne, x) rfl exV_one ((hd.wide (n' := ga + 1) HR.out.nm (Nat.le_refl _) (Nat.le_refl _))) (by rw [HLn.out]; omega); rw [HLn.out] at hrun; unfold exV at hrun ⊢; have K2 := Lib.hid (k1.grown g2 (by omega)); have R2 := Lib.hid r2; have RB2 := Lib.hid ((HRB.out.below b1).other g2 (Nat.le_refl _)); clear r2 g2 k1 hd b1) | (at_builtin; refine wpList_append_run rfl _ _ _ _ rfl _ _ _ _ rfl rfl hrun ?_))
          go_roundw
          case measure => simp [intOf]; omega
          case rel => exact ⟨k + 1, _, by go_num, rfl, by omega, Lib.hid (by rw [List.length_append, HLn.out]; rfl), Lib.hid (by rw [List.map_append, HMp.out, HTk.out]; rfl), R2, K2, RB2⟩
        · have hlt2 : decide ((k : Int) < (N5 : Int)) = false := by simp; omega
          have hlt3 : decide (k < N5) = false := by simp; omega
          obtain rfl : N5 = k := by omega
          have HRA0 := Lib.hid HR.out
          have HMA := Lib.hid (show rows.map (·.2) = e.args by rw [HMp.out]; exact take_whole HN5.out)
          have HLA := Lib.hid HLn.out
          obtain ⟨rowsA, rfl⟩ : ∃ r, r = rows := ⟨_, rfl⟩
          obtain ⟨iL, hiL, hzL0, hzL1, hzL2⟩ := info_parts infoL
          obtain ⟨W2, hmk, hR2, hb2⟩ := RowsIn.made (β := AltN (Ex d)) wr Try.underlying27 hiL hzL0 hzL1 (N6 + 1) (by rw [hzL2]; omega) (by unfold maxLen; omega) (PL d)
          rw [show ((N6 + 1 : Nat) : Int) = (N6 : Int) + 1 from rfl] at hmk
          have HK2 := Lib.hid (HK.out.below hb2)
          have hgl2 := HRA0.out.nm
          have HRA := Lib.hid (HRA0.out.below hb2)
          have HRB2 := Lib.hid (HRB.out.below hb2)
          obtain ⟨gl, hgl'⟩ : ∃ gl, wr.heap.size = gl := ⟨_, rfl⟩
          rw [hgl'] at hR2 hmk HRA hgl2
          have HR2 := Lib.hid hR2
          have HIL := Lib.hid (show Try.prog.info? 52 = some iL ∧ iL.size = 11 from ⟨hiL, hzL1⟩)
          clear hb2 hR2 hgl' hiL hzL0 hzL1 hzL2 HR HRA0 HMp HLn hk hlt hlt2 hlt3 HRB
          go_upto_region 14 with fail
          clear hmk x4 x5 x6 HK
          go_loopw [7, 8, 9] (fun v i _ wr => ∃ (k : Nat) (rows : List (List Value × AltN (Ex d))), i = .int .i64 k ∧ v = .slice (some ⟨gl, 0, none⟩) k (N6 + 1) ∧ k ≤ N6 ∧ Hid (rows.length = k) ∧ Hid (rows.map (·.2) = e.alts.take k) ∧ Hid (RowsIn wr gl (N6 + 1) (gl + 1) wr.heap.size 52 11 rows (PL d)) ∧ Hid (KSt w wr b mP #[.int .i64 kd, .string nm, .int .i64 nu, .slice qa N3 qa2, .slice pb N4 pb2, .slice pc N5 pc2, .slice pd N6 pd2] (.slice qa N3 qa2) e.params) ∧ Hid (RowsIn wr gb (N4 + 1) (gb + 1) ga 56 8 rowsB (PB d)) ∧ Hid (RowsIn wr ga (N5 + 1) (ga + 1) gl 29 7 rowsA (PA d))) (fun _ i _ _ => N6 - (intOf i).toNat)
          case atStart => exact ⟨0, [], rfl, rfl, Nat.zero_le _, Lib.hid rfl, Lib.hid rfl, HR2, HK2, HRB2, HRA⟩
          case round =>
            clear HR2 HK2 HRB2 HRA
            obtain ⟨k, rows, rfl, rfl, hk, HLn, HMp, HR, HK, HRB, HRA⟩ := hrel
            obtain ⟨x4, x5, x6⟩ := HC.out wr HK.out
            by_cases hlt : k < N6
            · have hlt2 : decide ((k : Int) < (N6 : Int)) = true := by simp; omega
              have hlt3 : decide (k < N6) = true := by simp; omega
              have hi0 : (0 : Int) ≤ (k : Int) := by omega
              have hkt : k < e.alts.length := by rw [HN6.out]; exact hlt
              obtain ⟨p, o', hq, hp, hat⟩ := H4.out (by omega)
              subst hq
              obtain ⟨x, hx⟩ : ∃ x, e.alts[k]? = some x := ⟨_, List.getElem?_eq_getElem hkt⟩
              obtain ⟨vs, hcs, ⟨aw, cw, rfl, htx⟩, hex⟩ := hat k x hx
              have hsm := HS.out.2.2.2.2 x (List.mem_of_getElem? hx)
              obtain ⟨y0, y1, y2, y3, y4, y5, y6, y7, y8, y9, ya, yb, yc, yd, ye, hyc, hyv⟩ := ex_val hex
              have KO := Lib.hid (fun W (hW : Below w.heap.size w W) => HCP.out x.e _ W (ExIs.below hW d _ x.e hyv) hsm.2)
              unfold exV at KO
              obtain ⟨M, hM⟩ : ∃ M, x.vars.length = M := ⟨_, rfl⟩
              have KT := Lib.hid (fun W (hW : Below w.heap.size w W) => texts_any _ x.vars W ((show Txs w (.slice aw M cw) x.vars from ⟨aw, cw, by rw [hM], htx⟩).below hW) hsm.1)
              rw [hM] at hcs
              have HTk := Lib.hid (take_next hx)
              have a0 := (HK.out.bel.cell (p := ⟨p, o' + k * 11 + 0, none⟩) hp).trans (hcs 0 _ rfl)
              have a1 := (HK.out.bel.cell (p := ⟨p, o' + k * 11 + 1, none⟩) hp).trans (hcs 1 _ rfl)
              have a2 := (HK.out.bel.cell (p := ⟨p, o' + k * 11 + 2, none⟩) hp).trans (hcs 2 _ rfl)
              have a3 := (HK.out.bel.cell (p := ⟨p, o' + k * 11 + 3, none⟩) hp).trans (hcs 3 _ rfl)
              rw [Nat.add_zero] at a0
              have vv := hyc.below HK.out.bel hp
              have v0 : wr.cell? ⟨p, o' + k * 11 + 4, none⟩ = _ := vv 0 _ rfl
              have v1 : wr.cell? ⟨p, o' + k * 11 + 5, none⟩ = _ := vv 1 _ rfl
              have v2 : wr.cell? ⟨p, o' + k * 11 + 6, none⟩ = _ := vv 2 _ rfl
              have v3 : wr.cell? ⟨p, o' + k * 11 + 7, none⟩ = _ := vv 3 _ rfl
              have v4 : wr.cell? ⟨p, o' + k * 11 + 8, none⟩ = _ := vv 4 _ rfl
              have v5 : wr.cell? ⟨p, o' + k * 11 + 9, none⟩ = _ := vv 5 _ rfl
              have v6 : wr.cell? ⟨p, o' + k * 11 + 10, none⟩ = _ := vv 6 _ rfl
              have HM := Lib.hid hM
              clear hat hx hcs htx hex hsm hyc hyv vv hM
              go_upto_region 17 with fail
              have ha := (Below.refl wr.heap.size wr).alloc (Nat.le_refl _) (.cells #[.int .i64 x.kind, .string x.name, .int .i64 x.num, .slice aw M cw, .int .i64 y0, .string y1, .int .i64 y2, .slice y3 y7 y8, .slice y4 y9 ya, .slice y5 yb yc, .slice y6 yd ye] 52)
              have BX := Blk.new wr #[.int .i64 x.kind, .string x.name, .int .i64 x.num, .slice aw M cw, .int .i64 y0, .string y1, .int .i64 y2, .slice y3 y7 y8, .slice y4 y9 ya, .slice y5 yb yc, .slice y6 yd ye] 52
              have HK3 := Lib.hid (HK.out.below ha)
              have HRB3 := Lib.hid (HRB.out.below ha)
              have HRA3 := Lib.hid (HRA.out.below ha)
              have HR3 := Lib.hid (HR.out.below ha)
              have hmw := HR.out.nm
              generalize wr.alloc (.cells #[.int .i64 x.kind, .string x.name, .int .i64 x.num, .slice aw M cw, .int .i64 y0, .string y1, .int .i64 y2, .slice y3 y7 y8, .slice y4 y9 ya, .slice y5 yb yc, .slice y6 yd ye] 52) = W3 at BX HK3 HRB3 HRA3 HR3 ⊢
              clear ha
              obtain ⟨bx, hbx⟩ : ∃ bx, wr.heap.size = bx := ⟨_, rfl⟩
              rw [hbx] at BX HR3 hmw ⊢
              have HBX := Lib.hid BX
              have e0 : W3.cell? ⟨bx, 0, none⟩ = _ := BX.cell 0
              have e1 : W3.cell? ⟨bx, 1, none⟩ = _ := BX.cell 1
              have e2 : W3.cell? ⟨bx, 2, none⟩ = _ := BX.cell 2
              have e3 : W3.cell? ⟨bx, 3, none⟩ = _ := BX.cell 3
              have e4 : W3.cell? ⟨bx, 4, none⟩ = _ := BX.cell 4
              have e5 : W3.cell? ⟨bx, 5, none⟩ = _ := BX.cell 5
              have e6 : W3.cell? ⟨bx, 6, none⟩ = _ := BX.cell 6
              have e7 : W3.cell? ⟨bx, 7, none⟩ = _ := BX.cell 7
              have e8 : W3.cell? ⟨bx, 8, none⟩ = _ := BX.cell 8
              have e9 : W3.cell? ⟨bx, 9, none⟩ = _ := BX.cell 9
              have e10 : W3.cell? ⟨bx, 10, none⟩ = _ := BX.cell 10
              simp only [List.getElem?_toArray, List.getElem?_cons_zero, List.getElem?_cons_succ] at e0 e1 e2 e3 e4 e5 e6 e7 e8 e9 e10
              clear a0 a1 a2 a3 v0 v1 v2 v3 v4 v5 v6 x4 x5 x6 BX hbx HK HRB HRA HR
              have hbx1 : bx + 1 ≤ W3.drew.heap.size := HBX.out.lt
              go_cut [] (fun wx => ∃ (qv : Option Addr) (qc : Nat) (n0 : Int) (n1 : ByteArray) (n2 : Int) (n3 n4 n5 n6 : Option Addr) (n7 n8 n9 na nb nc nd ne : Nat), Blk wx bx #[.int .i64 x.kind, .string x.name, .int .i64 x.num, .slice qv M qc, .int .i64 n0, .string n1, .int .i64 n2, .slice n3 n7 n8, .slice n4 n9 na, .slice n5 nb nc, .slice n6 nd ne] ∧ Hid (Held (bx + 1) wx.heap.size wx (fun W => Txs W (.slice qv M qc) x.vars ∧ ExIs W d (.agg (exV n0 n1 n2 n3 n4 n5 n6 n7 n8 n9 na nb nc nd ne).toArray) x.e)) ∧ Hid (KSt w wx b mP #[.int .i64 kd, .string nm, .int .i64 nu, .slice qa N3 qa2, .slice pb N4 pb2, .slice pc N5 pc2, .slice (some ⟨p, o', none⟩) N6 pd2] (.slice qa N3 qa2) e.params) ∧ Hid (RowsIn wx gb (N4 + 1) (gb + 1) ga 56 8 rowsB (PB d)) ∧ Hid (RowsIn wx ga (N5 + 1) (ga + 1) gl 29 7 rowsA (PA d)) ∧ Hid (RowsIn wx gl (N6 + 1) (gl + 1) bx 52 11 rows (PL d)))
              case first =>
                go_region_with (first | (go_at_call 24; with_reducible (refine (KT.out _ HK3.out.bel.drew).mono ?_); rintro r1 w4 ⟨pv, rfl, o4, b4⟩; obtain ⟨qv, qc, rfl⟩ := o4.shape; rw [HM.out] at o4 ⊢; have q4 := below_of_drew b4; have B4 := HBX.out.below q4 HBX.out.lt; have K4 := HK3.out.below q4; have T4 := o4.held (n := bx + 1) (m := w4.heap.size) hbx1 o4.blt (Nat.le_refl _); have g4 := B4.cell) | (go_at_call 12; refine (KO.out _ K4.bel).mono ?_; rintro r2 w5 ⟨v', rfl, hd5, b5⟩; obtain ⟨n0, n1, n2, n3, n4, n5, n6, n7, n8, n9, na, nb, nc, nd, ne, rfl⟩ := hd5.now.form; unfold exV; have B5 := B4.below b5 B4.lt; have g5 := B5.cell; have f5 := B5.free))
                all_goals
                  obtain ⟨wz, hwz, gz, sz, cz, bz, -, cj⟩ := set_cells B5 [.slice qv M qc, .int .i64 n0, .string n1, .int .i64 n2, .slice n3 n7 n8, .slice n4 n9 na, .slice n5 nb nc, .slice n6 nd ne] 3 (by simp)
                  simp only [List.zipIdx_cons, List.zipIdx_nil, List.foldl_cons, List.foldl_nil, Nat.reduceAdd] at hwz
                  rw [← hwz]
                  have hz5 : w4.heap.size ≤ w5.heap.size := b5.size
                  have hbx4 : bx < w4.heap.size := B4.lt
                  go_wp2
                  go_meet
                  exact ⟨qv, qc, n0, n1, n2, n3, n4, n5, n6, n7, n8, n9, na, nb, nc, nd, ne, bz.eq (arr11 cj), Lib.hid ((((T4.below b5).grown gz (Nat.lt_succ_self _)).wide (Nat.le_refl _) (by omega) (Nat.le_refl _)).and ((hd5.grown gz hbx4).wide hbx4 (by omega) (Nat.le_refl _))),
                    Lib.hid ((K4.below b5).grown gz (by omega)), Lib.hid (((HRB3.out.below q4).below b5).other gz (by omega)), Lib.hid (((HRA3.out.below q4).below b5).other gz (by omega)), Lib.hid (((HR3.below q4).below b5).other gz (Nat.le_refl _))⟩
              case rest =>
                obtain ⟨qv, qc, n0, n1, n2, n3, n4, n5, n6, n7, n8, n9, na, nb, nc, nd, ne, Bx, HH, HK, HRB, HRA, HR⟩ := hcut
                clear e0 e1 e2 e3 e4 e5 e6 e7 e8 e9 e10 HK3 HRB3 HRA3 HR3 KO KT HBX hbx1
                have z0 : wc.cell? ⟨bx, 0, none⟩ = _ := Bx.cell 0
                have z1 : wc.cell? ⟨bx, 1, none⟩ = _ := Bx.cell 1
                have z2 : wc.cell? ⟨bx, 2, none⟩ = _ := Bx.cell 2
                have z3 : wc.cell? ⟨bx, 3, none⟩ = _ := Bx.cell 3
                have z4 : wc.cell? ⟨bx, 4, none⟩ = _ := Bx.cell 4
                have z5 : wc.cell? ⟨bx, 5, none⟩ = _ := Bx.cell 5
                have z6 : wc.cell? ⟨bx, 6, none⟩ = _ := Bx.cell 6
                have z7 : wc.cell? ⟨bx, 7, none⟩ = _ := Bx.cell 7
                have z8 : wc.cell? ⟨bx, 8, none⟩ = _ := Bx.cell 8
                have z9 : wc.cell? ⟨bx, 9, none⟩ = _ := Bx.cell 9
                have z10 : wc.cell? ⟨bx, 10, none⟩ = _ := Bx.cell 10
                simp only [List.getElem?_toArray, List.getElem?_cons_zero, List.getElem?_cons_succ] at z0 z1 z2 z3 z4 z5 z6 z7 z8 z9 z10
                have hbl := Bx.lt
                obtain ⟨W2, hrun, r2, g2⟩ := RowsIn.push Try.underlying27 HIL.out.1 HIL.out.2 (HR.out.wide (Nat.le_of_lt hbl) (Nat.le_refl _)) (.int .i64 x.kind :: .string x.name :: .int .i64 x.num :: .slice qv M qc :: exV n0 n1 n2 n3 n4 n5 n6 n7 n8 n9 na nb nc nd ne, x) rfl oneL ((HH.out.wide (n' := gl + 1) (by omega) (Nat.le_refl _) (Nat.le_refl _)).mp (fun W hW => PL_of hW.1 hW.2)) (by rw [HLn.out]; omega)
                rw [HLn.out] at hrun
                unfold exV at hrun
                have K2 := Lib.hid (HK.out.grown g2 (by omega))
                have R2 := Lib.hid r2
                have RB2 := Lib.hid (HRB.out.other g2 (by omega))
                have RA2 := Lib.hid (HRA.out.other g2 (Nat.le_refl _))
                clear r2 g2 Bx HH
                go_wp2_with (at_builtin; refine wpList_append_run rfl _ _ _ _ rfl _ _ _ _ rfl rfl hrun ?_)
                go_roundw
                case measure => simp [intOf]; omega
                case rel =>
                  exact ⟨k + 1, _, by go_num, rfl, by omega, Lib.hid (by rw [List.length_append, HLn.out]; rfl), Lib.hid (by rw [List.map_append, HMp.out, HTk.out]; rfl), R2, K2, RB2, RA2⟩
            · have hlt2 : decide ((k : Int) < (N6 : Int)) = false := by simp; omega
              have hlt3 : decide (k < N6) = false := by simp; omega
              obtain rfl : N6 = k := by omega
              have HML := Lib.hid (show rows.map (·.2) = e.alts by rw [HMp.out]; exact take_whole HN6.out)
              obtain ⟨rowsL, rfl⟩ : ∃ r, r = rows := ⟨_, rfl⟩
              obtain ⟨W5, hw5, g5, s5, c5, B5, -, j5⟩ := set_cells HK.out.blk [.slice (some ⟨gb, 0, none⟩) N4 (N4 + 1), .slice (some ⟨ga, 0, none⟩) N5 (N5 + 1), .slice (some ⟨gl, 0, none⟩) N6 (N6 + 1)] 4 (by simp)
              have B5' := B5.eq (arr4 j5)
              have Z5 : Blk W5 (b + 1) zeroX := HK.out.res.of_same (g5.block _ HK.out.res.lt (by simp)) g5.size
              obtain ⟨WF, hwF, gF, sF, cF, BF, -, jF⟩ := set_cells Z5 [.int .i64 kd, .string nm, .int .i64 nu, .slice qa N3 qa2, .slice (some ⟨gb, 0, none⟩) N4 (N4 + 1), .slice (some ⟨ga, 0, none⟩) N5 (N5 + 1), .slice (some ⟨gl, 0, none⟩) N6 (N6 + 1)] 0 (by simp [zeroX])
              have BF' := BF.eq (arr7 jF)
              have HG := Lib.hid (show ∀ k, k < wr.heap.size → k ≠ b → k ≠ b + 1 → WF.heap[k]? = wr.heap[k]? from fun k h1 h2 h3 => (gF.block k (by omega) (by simp; omega)).trans (g5.block k h1 (by simp; omega)))
              have HSZ := Lib.hid (show WF.heap.size = wr.heap.size by omega)
              have HBL := Lib.hid (below_grown_new (below_grown_new HK.out.bel g5 (by have := HK.out.bw; omega)) gF (by have := HK.out.bw; omega))
              have hwz := HK.out.bw
              simp only [List.zipIdx_cons, List.zipIdx_nil, List.foldl_cons, List.foldl_nil, Nat.reduceAdd, Nat.zero_add] at hw5 hwF
              have bk := HK.out.blk.cell
              have bf := HK.out.blk.free
              go_upto_region 20 with fail
              rw [← hw5]
              have q0 : W5.cell? ⟨b, 0, none⟩ = _ := B5'.cell 0
              have q1 : W5.cell? ⟨b, 1, none⟩ = _ := B5'.cell 1
              have q2 : W5.cell? ⟨b, 2, none⟩ = _ := B5'.cell 2
              have q3 : W5.cell? ⟨b, 3, none⟩ = _ := B5'.cell 3
              have q4 : W5.cell? ⟨b, 4, none⟩ = _ := B5'.cell 4
              have q5 : W5.cell? ⟨b, 5, none⟩ = _ := B5'.cell 5
              have q6 : W5.cell? ⟨b, 6, none⟩ = _ := B5'.cell 6
              simp only [List.getElem?_toArray, List.getElem?_cons_zero, List.getElem?_cons_succ] at q0 q1 q2 q3 q4 q5 q6
              have zf := Z5.free
              have zc := Z5.cell
              unfold zeroX at zc
              have HWF := Lib.hid hwF
              clear bk bf hw5 hwF g5 B5 B5' j5 gF BF jF Z5 x4 x5 x6
              go_wp2
              rw [← HWF.out]
              have rff := BF'.cell
              refine bodyPost_ret (v := .agg #[.int .i64 kd, .string nm, .int .i64 nu, .slice qa N3 qa2, .slice (some ⟨gb, 0, none⟩) N4 (N4 + 1), .slice (some ⟨ga, 0, none⟩) N5 (N5 + 1), .slice (some ⟨gl, 0, none⟩) N6 (N6 + 1)]) (by simp [results, Try.results12, go_sem, rff]) rfl ?_
              refine ⟨_, rfl, ⟨Nat.le_refl _, fun W' hW' hag => ?_⟩, HBL.out⟩
              have hag2 : ∀ k, b + 2 ≤ k → k < wr.heap.size → W'.heap[k]? = wr.heap[k]? := fun k h1 h2 => (hag k (by omega) (by rw [HSZ.out]; exact h2)).trans (HG.out k h2 (by omega) (by omega))
              have hsw : wr.heap.size ≤ W'.heap.size := by rw [← HSZ.out]; exact hW'
              have hmp := HK.out.mp
              have hpl := HK.out.pp.le
              have hla := HRA.out.ml
              have hlb := HRB.out.ml
              have hll := HR.out.nm
              have t1 := HK.out.pp.to (W' := W') (Nat.le_trans hpl hsw) (fun k h1 h2 => hag2 k h1 (by omega))
              have tB := HRB.out.to (W' := W') (Nat.le_trans hlb hsw) (hag2 gb (by omega) (by omega)) (fun k h1 h2 => hag2 k (by omega) (by omega))
              have tA := HRA.out.to (W' := W') (Nat.le_trans hla hsw) (hag2 ga (by omega) (by omega)) (fun k h1 h2 => hag2 k (by omega) (by omega))
              have tL := HR.out.to (W' := W') hsw (hag2 gl (by omega) (by omega)) (fun k h1 h2 => hag2 k (by omega) (by omega))
              refine ⟨[_, _, _, _, _, _, _], rfl, _, _, _, _, ?_, t1.now, sl_B (cap := N4 + 1) tB HMB.out, sl_A (cap := N5 + 1) tA HMA.out, sl_L (cap := N6 + 1) tL HML.out⟩
              rw [HKD.out, HNM.out, HNU.out, HN4.out, HN5.out, HN6.out]
theorem kexpr_any : ∀ (d : Nat) (x : Ex d) (v : Value) (W : World), ExIs W d v x → Sm d x → Calls Try.prog 12 #[v] W fun r W' => ∃ v', r = .returned v' ∧ Held W.heap.size W'.heap.size W' (fun W => ExIs W d v' x) ∧ Below W.heap.size W W'
  | 0, x, _, _, _, _ => nomatch (x : Empty)
  | d + 1, x, v, W, h, hs => kexpr_step d (kexpr_any d) v x W h hs
end Go.Proofs.Ytkcgchpflppmnaa
