/- Plays in a row of their own, the last with bytes of its own; a copy of bytes. -/
import Derived.Test.YtbjlnllbcgghlaaDoorPyQ
import Derived.Test.YtbjlnllbcgghlaaDoorShelfQ
import Derived.OneCell
namespace Go.Proofs.YtbjlnllbcgghlaaDoor
open Go.RowKit Go.Shelf
set_option linter.unusedSimpArgs false
set_option linter.unusedVariables false

theorem clone_any (v : Value) (l : List UInt8) (w : World) (h : Bts w v l) (hn : l.length ≤ 10000000) :
    Calls Tryd.prog 24 #[v] w fun e w' => ∃ v', e = .returned v' ∧ UOwn w' w.heap.size v' l ∧ Below w.heap.size w w' := by
  obtain ⟨a, c, rfl, ha⟩ := h
  rcases a with _ | a
  · have h0 : l = [] := by
      rcases l with _ | ⟨x, l⟩
      · rfl
      · obtain ⟨b, o, h, -⟩ := ha (by simp); cases h
    subst h0
    refine (Tryd.bytes_Clone_nil _ c w).mono ?_
    rintro e w' ⟨rfl, rfl⟩
    exact ⟨_, rfl, UOwn.nil _ _, Below.refl _ _⟩
  · refine (Tryd.bytes_Clone_at a l.length c (l.map fun x => (x.toNat : Int)) w (by simp) (by omega) (fun i hi => by
      obtain ⟨b, o, h, -, hat⟩ := ha (by omega)
      obtain rfl : a = ⟨b, o, none⟩ := by simpa using h
      have := hat i _ (List.getElem?_eq_getElem hi)
      rw [Nat.mul_one] at this
      rw [show (⟨b, o, none⟩ : Addr).add i = ⟨b, o + i, none⟩ from by unfold Addr.add; split <;> simp_all]
      rw [this]
      simp [hi])).mono ?_
    rintro e w' ⟨v', rfl, h1, -, h3⟩
    refine ⟨v', rfl, ?_, h3⟩
    unfold UOwn ROwn
    rw [byRow_flat, List.length_map]
    rw [List.map_map] at h1
    exact h1
theorem UOwn.bts {W : World} {B : Nat} {v : Value} {l : List UInt8} (h : UOwn W B v l) : Bts W v l := h.held.now
theorem own_one {v : Value} {g k : Nat} (h : v.ownBlock = some g) (h2 : v.ownBlock = some k) : k = g := by rw [h] at h2; simpa using h2.symm
/-- Only its own block counts. -/
theorem UOwn.held1 {W : World} {B : Nat} {v : Value} {l : List UInt8} (h : UOwn W B v l) : ∃ n m, B ≤ n ∧ n ≤ m ∧ (B ≤ W.heap.size → m ≤ W.heap.size) ∧ (B ≤ W.heap.size → Held n m W (fun W => Bts W v l)) ∧ ∀ k, n ≤ k → k < m → v.ownBlock = some k := by
  have h0 : W.ownsRow B 5 1 v (l.map byRow).length (l.map byRow).flatten := h
  rcases h0.2 with ⟨hv, h2⟩ | ⟨g, cap, cc, hv2, hg, hh, r⟩
  · rw [List.length_map] at h2
    have hl : l = [] := List.length_eq_zero_iff.1 h2
    subst hl; subst hv
    exact ⟨B, B, Nat.le_refl _, Nat.le_refl _, fun h => h, fun h => ⟨h, fun W' _ _ => ⟨none, 0, rfl, fun h => by simp at h⟩⟩, fun k h1 h2 => by omega⟩
  · have hgl : g < W.heap.size := (Array.getElem?_eq_some_iff.1 hh).1
    refine ⟨g, g + 1, hg, by omega, fun _ => by omega, fun hB => ⟨by omega, fun W' hs hb => ?_⟩, fun k h1 h2 => ?_⟩
    · have hW : UOwn W' B v l := by
        refine ⟨h0.1, .inr ⟨g, cap, cc, hv2, hg, ?_, r⟩⟩
        rw [hb g (Nat.le_refl _) (by omega)]; exact hh
      exact hW.bts
    · obtain rfl : k = g := by omega
      rw [hv2]; rfl
/-- Bytes put behind, wherever they lie. -/
theorem UOwn.app {W : World} {B : Nat} {v v2 : Value} {l new : List UInt8} (h : UOwn W B v l) (h2 : Bts W v2 new) (hl : l.length + new.length ≤ 100000000) (hB : B ≤ W.heap.size) :
    ∃ v' W', (Builtin.append_ #[32, 32] 32 #[v, v2]).run Tryd.prog W = .ok v' W' ∧ UOwn W' B v' (l ++ new) ∧ W.grownBy W' v.ownBlock ∧ Below B W W' ∧ (v'.ownBlock = v.ownBlock ∨ v'.ownBlock = some W.heap.size) := by
  obtain ⟨a, c, rfl, ha⟩ := h2
  rcases hnew : new with _ | ⟨x, r⟩
  · obtain ⟨i0, hi, hz0, hz1, hz2⟩ := info_parts infoU8
    exact ⟨v, W, append_empty Tryd.underlying32 hi h a c, by rw [List.append_nil]; exact h, grown_refl _ _, Below.refl _ _, .inl rfl⟩
  · rw [← hnew]
    obtain ⟨b, o, rfl, -, hat⟩ := ha (by rw [hnew]; simp)
    exact h.push 32 b o c new (fun j x hx => by have := hat j x hx; rwa [Nat.mul_one] at this) hl hB

/-! The row. -/
def Apart (W : World) (B c : Nat) (v : Value) (u : PlD × Value) : Prop := ∃ n m, B ≤ n ∧ m ≤ c ∧ Held n m W (fun W => Bts W u.2 u.1.bytes) ∧ ∀ g, v.ownBlock = some g → g < n ∨ m ≤ g
def LastOwn (W : World) (c : Nat) (v : Value) (u : PlD × Value) : Prop := UOwn W c u.2 u.1.bytes ∧ ∀ g, v.ownBlock = some g → u.2.ownBlock ≠ some g
/-- Plays in a row of their own: the last one's bytes may be put behind; all the others' stand below c. -/
structure QCut (W : World) (B c : Nat) (v : Value) (us : List (PlD × Value)) : Prop where
  row : ROwn W B 34 3 v (us.map prow)
  cw : c ≤ W.heap.size
  els : us = [] ∨ ∃ us0 u, us = us0 ++ [u] ∧ B ≤ c ∧ (∀ x ∈ us0, Apart W B c v x) ∧ LastOwn W c v u
def QOwn (W : World) (B : Nat) (v : Value) (us : List (PlD × Value)) : Prop := ∃ c, QCut W B c v us
theorem QOwn.nil (W : World) (B : Nat) : QOwn W B (.slice none 0 0) [] := ⟨0, ROwn.nil _ _ _ _, Nat.zero_le _, .inl rfl⟩
theorem QCut.snoc {W : World} {B c : Nat} {v : Value} {us0 : List (PlD × Value)} {u : PlD × Value} (h : QCut W B c v (us0 ++ [u])) : B ≤ c ∧ (∀ x ∈ us0, Apart W B c v x) ∧ LastOwn W c v u := by
  rcases h.els with h1 | ⟨us1, u1, h1, h2, h4, h5⟩
  · simp at h1
  · obtain ⟨rfl, h1⟩ := List.append_inj' h1 rfl
    simp at h1; subst h1
    exact ⟨h2, h4, h5⟩
theorem Apart.below {W W' : World} {B c : Nat} {v : Value} {u : PlD × Value} (h : Apart W B c v u) (hb : Below W.heap.size W W') : Apart W' B c v u := by
  obtain ⟨n, m, h0, h1, h2, h3⟩ := h
  exact ⟨n, m, h0, h1, h2.below hb, h3⟩
theorem LastOwn.below {W W' : World} {c : Nat} {v : Value} {u : PlD × Value} (h : LastOwn W c v u) (hb : Below W.heap.size W W') : LastOwn W' c v u := ⟨h.1.below hb, h.2⟩
theorem QCut.below {W W' : World} {B c : Nat} {v : Value} {us : List (PlD × Value)} (h : QCut W B c v us) (hb : Below W.heap.size W W') : QCut W' B c v us := by
  refine ⟨h.row.below hb, Nat.le_trans h.cw hb.size, ?_⟩
  rcases h.els with h1 | ⟨us0, u, h1, h2, h4, h5⟩
  · exact .inl h1
  · exact .inr ⟨us0, u, h1, h2, fun x hx => (h4 x hx).below hb, h5.below hb⟩
theorem QOwn.below {W W' : World} {B : Nat} {v : Value} {us : List (PlD × Value)} (h : QOwn W B v us) (hb : Below W.heap.size W W') : QOwn W' B v us := by
  obtain ⟨c, h⟩ := h; exact ⟨c, h.below hb⟩
theorem LastOwn.apart {W : World} {B c : Nat} {v : Value} {u : PlD × Value} (h : LastOwn W c v u) (hB : B ≤ c) (hc : c ≤ W.heap.size) : Apart W B W.heap.size v u := by
  obtain ⟨n, m, h1, h2, h3, h4, h5⟩ := h.1.held1
  refine ⟨n, m, Nat.le_trans hB h1, h3 hc, h4 hc, fun g hg => ?_⟩
  rcases Nat.lt_or_ge g n with q | q
  · exact .inl q
  · rcases Nat.lt_or_ge g m with q2 | q2
    · exact absurd (h5 g q q2) (h.2 g hg)
    · exact .inr q2
theorem Apart.wide {W : World} {B c c' : Nat} {v : Value} {u : PlD × Value} (h : Apart W B c v u) (hc : c ≤ c') : Apart W B c' v u := by
  obtain ⟨n, m, h0, h1, h2, h3⟩ := h
  exact ⟨n, m, h0, Nat.le_trans h1 hc, h2, h3⟩
theorem QCut.apart {W : World} {B c : Nat} {v : Value} {us : List (PlD × Value)} (h : QCut W B c v us) : ∀ x ∈ us, Apart W B W.heap.size v x := by
  intro x hx
  rcases h.els with h1 | ⟨us0, u, h1, h2, h4, h5⟩
  · rw [h1] at hx; cases hx
  · rw [h1] at hx
    rcases List.mem_append.1 hx with hx | hx
    · exact (h4 x hx).wide h.cw
    · simp at hx; subst hx; exact h5.apart h2 h.cw
theorem QOwn.pown {W : World} {B : Nat} {v : Value} {us : List (PlD × Value)} (h : QOwn W B v us) : POwn W B v us := by
  obtain ⟨c, h⟩ := h
  exact ⟨h.row, fun u hu => by obtain ⟨n, m, h0, -, h2, h3⟩ := h.apart u hu; exact ⟨n, m, h0, h2, h3⟩⟩
theorem QOwn.pls {W : World} {B : Nat} {v : Value} {us : List (PlD × Value)} (h : QOwn W B v us) : Pls W v (us.map (·.1)) := h.pown.pls
theorem QOwn.shape {W : World} {B : Nat} {v : Value} {us : List (PlD × Value)} (h : QOwn W B v us) : ∃ a c, v = .slice a us.length c := h.pown.shape
theorem Apart.grown {W W' : World} {B c : Nat} {v v' : Value} {u : PlD × Value} (h : Apart W B c v u) (hc : c ≤ W.heap.size) (g : W.grownBy W' v.ownBlock) (hv : v'.ownBlock = v.ownBlock ∨ v'.ownBlock = some W.heap.size) : Apart W' B c v' u := by
  obtain ⟨n, m, h0, h1, h2, h3⟩ := h
  refine ⟨n, m, h0, h1, h2.to (Nat.le_trans h2.le g.size) fun k k1 k2 => g.block k (by omega) (fun e => by rcases h3 k e.symm with q | q <;> omega), fun g2 e => ?_⟩
  rcases hv with hv | hv
  · exact h3 g2 (hv ▸ e)
  · rw [hv] at e; simp at e; subst e; exact .inr (by omega)
/-- A row of plays all of whose bytes stand below c (or apart from all that is behind c). -/
structure RA (W : World) (B c : Nat) (v : Value) (us : List (PlD × Value)) : Prop where
  row : ROwn W B 34 3 v (us.map prow)
  ap : ∀ x ∈ us, Apart W B c v x
  vl : ∀ g, v.ownBlock = some g → g < c
  bc : B ≤ c
  cw : c ≤ W.heap.size
theorem QCut.ra {W : World} {B c : Nat} {v : Value} {us : List (PlD × Value)} (h : QCut W B c v us) (hB : B ≤ W.heap.size) : RA W B W.heap.size v us := ⟨h.row, h.apart, own_lt h.row, hB, Nat.le_refl _⟩
theorem RA.below {W W' : World} {B c : Nat} {v : Value} {us : List (PlD × Value)} (h : RA W B c v us) (hb : Below W.heap.size W W') : RA W' B c v us :=
  ⟨h.row.below hb, fun x hx => (h.ap x hx).below hb, h.vl, h.bc, Nat.le_trans h.cw hb.size⟩
/-- A play put behind, with bytes of its own that were made behind c. -/
theorem RA.push {W : World} {B c : Nat} {v : Value} {us : List (PlD × Value)} (h : RA W B c v us) (x : PlD) (vs : Value) (hv : UOwn W c vs x.bytes) (a : Nat) (hc : CellsAt W a 0 [.int .i64 x.kind, .int .i64 x.n, vs]) (hl : us.length ≤ 10000000) :
    ∃ v' W', (Builtin.append_ #[24, 24] 24 #[v, .slice (some ⟨a, 0, none⟩) 1 1]).run Tryd.prog W = .ok v' W' ∧ QOwn W' B v' (us ++ [(x, vs)]) ∧ Below B W W' := by
  obtain ⟨i0, hi, hz0, hz1, hz2⟩ := info_parts infoPl
  obtain ⟨av, cv, hvs⟩ := hv.shape
  have hBW : B ≤ W.heap.size := Nat.le_trans h.bc h.cw
  obtain ⟨v', W', k1, k2, k3, k4, k5⟩ := ROwn.push h.row 24 (i := i0) Tryd.underlying24 hi hz0 hz1 hz2 rfl (by decide) a 0 1 1 [prow (x, vs)] rfl (fun r hr => by simp at hr; subst hr; rfl) (fun j u hj => by
    refine hc j u ?_
    simpa [prow] using hj) (fun r hr u hu => by
      simp at hr; subst hr
      simp [prow] at hu
      rcases hu with rfl | rfl | rfl
      · rfl
      · rfl
      · rw [hvs]; rfl) (by rw [List.length_map]; omega) (by rw [List.length_map]; unfold maxLen; omega) hBW
  refine ⟨v', W', k1, ⟨c, ?_, by have := k3.size; have := h.cw; omega, .inr ⟨us, (x, vs), rfl, h.bc, fun y hy => (h.ap y hy).grown h.cw k3 k5, ?_, ?_⟩⟩, k4 hBW⟩
  · rw [List.map_append]; exact k2
  · have hno : ∀ g, vs.ownBlock = some g → v.ownBlock ≠ some g := fun g hg e => by
      have q1 := h.vl g e
      have q2 := own_from (xs := (x.bytes.map byRow).flatten) (n := (x.bytes.map byRow).length) hv g hg
      omega
    have h0 : W.ownsRow c 5 1 vs (x.bytes.map byRow).length (x.bytes.map byRow).flatten := hv
    refine ⟨h0.1, ?_⟩
    rcases h0.2 with h2 | ⟨g, cap, cur, e1, e2, e3, e4⟩
    · exact .inl h2
    · exact .inr ⟨g, cap, cur, e1, e2, (k3.block g (Array.getElem?_eq_some_iff.1 e3).1 (fun e => hno g (by rw [e1]; rfl) e.symm)).trans e3, e4⟩
  · intro g hg e
    rcases k5 with k5 | k5
    · have q1 := h.vl g (k5 ▸ hg)
      have q2 := own_from (xs := (x.bytes.map byRow).flatten) (n := (x.bytes.map byRow).length) hv g e
      omega
    · rw [k5] at hg; simp at hg; subst hg
      have q3 := own_lt (xs := (x.bytes.map byRow).flatten) (n := (x.bytes.map byRow).length) hv _ e
      omega
theorem prow_len (us : List (PlD × Value)) : (us.map prow).flatten.length = us.length * 3 := by
  induction us with
  | nil => rfl
  | cons u us ih => rw [List.map_cons, List.flatten_cons, List.length_append, ih, List.length_cons]; simp [prow]; omega
theorem QCut.at_ {W : World} {B c : Nat} {v : Value} {us0 : List (PlD × Value)} {u : PlD × Value} (h : QCut W B c v (us0 ++ [u])) : ∃ g cap, v = .slice (some ⟨g, 0, none⟩) (us0.length + 1) cap ∧ B ≤ g ∧ g < W.heap.size ∧ CellsAt W g (us0.length * 3) (prow u) ∧ ∀ j, W.frozen? ⟨g, j, none⟩ = false := by
  have h0 : W.ownsRow B 34 3 v ((us0 ++ [u]).map prow).length ((us0 ++ [u]).map prow).flatten := h.row
  rcases h0.2 with ⟨_, h2⟩ | ⟨g, cap, cc, hv2, hg, hh, r⟩
  · simp at h2
  · have hv := hv2
    rw [List.length_map, List.length_append] at hv
    refine ⟨g, cap, hv, hg, (Array.getElem?_eq_some_iff.1 hh).1, fun j c hj => ?_, fun j => frozen_of_row W g j cc _ hh⟩
    have hfl : ((us0 ++ [u]).map prow).flatten[us0.length * 3 + j]? = some c := by
      rw [List.map_append, List.flatten_append, List.getElem?_append_right (by rw [prow_len]; omega), prow_len, Nat.add_sub_cancel_left]
      simpa using hj
    have := World.ownsRow.cells h0 (g := g) (by rw [hv2]; rfl) _ _ hfl
    rwa [show (⟨g, 0, none⟩ : Addr).add (us0.length * 3 + j) = ⟨g, us0.length * 3 + j, none⟩ from by unfold Addr.add; split <;> simp_all] at this
theorem QCut.last_lt {W : World} {B c : Nat} {v : Value} {us0 : List (PlD × Value)} {u : PlD × Value} (h : QCut W B c v (us0 ++ [u])) : ∀ k, u.2.ownBlock = some k → k < W.heap.size :=
  fun k hk => own_lt (xs := (u.1.bytes.map byRow).flatten) (n := (u.1.bytes.map byRow).length) h.snoc.2.2.1 k hk
theorem row_set {W : World} {B : Nat} {g cap : Nat} {us0 : List (PlD × Value)} {u u' : PlD × Value} (h : ROwn W B 34 3 (.slice (some ⟨g, 0, none⟩) (us0.length + 1) cap) ((us0 ++ [u]).map prow)) (j : Nat) (hj : j < 3) (z : Value) (hz : (prow u).set j z = prow u') :
    ROwn (W.setCell ⟨g, us0.length * 3 + j, none⟩ z) B 34 3 (.slice (some ⟨g, 0, none⟩) (us0.length + 1) cap) ((us0 ++ [u']).map prow) := by
  have h0 : W.ownsRow B 34 3 (.slice (some ⟨g, 0, none⟩) (us0.length + 1) cap) ((us0 ++ [u]).map prow).length ((us0 ++ [u]).map prow).flatten := h
  rw [List.length_map, List.length_append] at h0
  have k := (World.ownsRow.stored h0 (us0.length * 3 + j) z).1
  unfold ROwn
  rw [List.length_map, List.length_append]
  have e : ((us0 ++ [u']).map prow).flatten = ((us0 ++ [u]).map prow).flatten.set (us0.length * 3 + j) z := by
    rw [List.map_append, List.map_append, List.flatten_append, List.flatten_append, List.set_append_right _ _ (by rw [prow_len]; omega), prow_len, Nat.add_sub_cancel_left]
    simp only [List.map_cons, List.map_nil, List.flatten_cons, List.flatten_nil, List.append_nil, hz]
  rw [e]
  exact k
theorem UOwn.setOther {W : World} {B : Nat} {v : Value} {l : List UInt8} (h : UOwn W B v l) {g : Nat} (hg : v.ownBlock ≠ some g) (o : Nat) (z : Value) : UOwn (W.setCell ⟨g, o, none⟩ z) B v l := by
  have h0 : W.ownsRow B 5 1 v (l.map byRow).length (l.map byRow).flatten := h
  exact ownsRow_setCell_other h0 (a := ⟨g, o, none⟩) hg z
/-- The last one's number is set. -/
theorem QCut.num {W : World} {B c g cap : Nat} {us0 : List (PlD × Value)} {u : PlD × Value} (h : QCut W B c (.slice (some ⟨g, 0, none⟩) (us0.length + 1) cap) (us0 ++ [u])) (n : Int) :
    QCut (W.setCell ⟨g, us0.length * 3 + 1, none⟩ (.int .i64 n)) B c (.slice (some ⟨g, 0, none⟩) (us0.length + 1) cap) (us0 ++ [(⟨u.1.kind, n, u.1.bytes⟩, u.2)]) := by
  obtain ⟨h2, h4, h5⟩ := h.snoc
  exact ⟨row_set h.row 1 (by decide) _ rfl, by simpa [World.setCell] using h.cw, .inr ⟨us0, _, rfl, h2, fun x hx => (h4 x hx).grown h.cw (grown_set W g _ _) (.inl rfl), h5.1.setOther (h5.2 g rfl) _ _, fun g2 e => h5.2 g2 e⟩⟩
theorem QCut.again {W : World} {B c g cap : Nat} {us0 : List (PlD × Value)} {u : PlD × Value} (h : QCut W B c (.slice (some ⟨g, 0, none⟩) (us0.length + 1) cap) (us0 ++ [u])) :
    QCut (W.setCell ⟨g, us0.length * 3 + 2, none⟩ u.2) B c (.slice (some ⟨g, 0, none⟩) (us0.length + 1) cap) (us0 ++ [u]) := by
  obtain ⟨h2, h4, h5⟩ := h.snoc
  exact ⟨row_set h.row 2 (by decide) _ rfl, by simpa [World.setCell] using h.cw, .inr ⟨us0, _, rfl, h2, fun x hx => (h4 x hx).grown h.cw (grown_set W g _ _) (.inl rfl), h5.1.setOther (h5.2 g rfl) _ _, h5.2⟩⟩
/-- A store in a block apart from all of them. -/
theorem QCut.out {W : World} {B c : Nat} {v : Value} {us0 : List (PlD × Value)} {u : PlD × Value} (h : QCut W B c v (us0 ++ [u])) {r : Nat} (hc : c ≤ r) (hr : v.ownBlock ≠ some r) (hu : u.2.ownBlock ≠ some r) (o : Nat) (z : Value) :
    QCut (W.setCell ⟨r, o, none⟩ z) B c v (us0 ++ [u]) := by
  obtain ⟨h2, h4, h5⟩ := h.snoc
  refine ⟨ownsRow_setCell_other h.row (a := ⟨r, o, none⟩) hr z, by simpa [World.setCell] using h.cw, .inr ⟨us0, _, rfl, h2, fun x hx => ?_, h5.1.setOther hu _ _, h5.2⟩⟩
  obtain ⟨n, m, y0, y1, y2, y3⟩ := h4 x hx
  exact ⟨n, m, y0, y1, y2.to (by simpa [World.setCell] using y2.le) fun k k1 k2 => (grown_set W r o z).block k (by have := y2.le; omega) (fun e => by simp at e; omega), y3⟩
/-- Bytes are put behind the last one's. -/
theorem QCut.grow {W : World} {B c g cap : Nat} {us0 : List (PlD × Value)} {u : PlD × Value} (h : QCut W B c (.slice (some ⟨g, 0, none⟩) (us0.length + 1) cap) (us0 ++ [u])) {v2 : Value} {new : List UInt8} (hv2 : Bts W v2 new) (hl : u.1.bytes.length + new.length ≤ 100000000) :
    ∃ v' W', (Builtin.append_ #[32, 32] 32 #[u.2, v2]).run Tryd.prog W = .ok v' W' ∧ W.grownBy W' u.2.ownBlock ∧ Below B W W' ∧ (∃ a n c, v' = .slice a n c) ∧ (v'.ownBlock = u.2.ownBlock ∨ v'.ownBlock = some W.heap.size) ∧ CellsAt W' g (us0.length * 3) (prow u) ∧ (∀ j, W'.frozen? ⟨g, j, none⟩ = false) ∧
      QCut (W'.setCell ⟨g, us0.length * 3 + 2, none⟩ v') B c (.slice (some ⟨g, 0, none⟩) (us0.length + 1) cap) (us0 ++ [(⟨u.1.kind, u.1.n, u.1.bytes ++ new⟩, v')]) := by
  obtain ⟨g', cap', hv, hBg, hgl, hcs, hfz⟩ := h.at_
  obtain ⟨rfl, rfl⟩ : g' = g ∧ cap' = cap := by simp at hv; exact ⟨hv.1.symm, hv.2.symm⟩
  have h3 := h.cw
  obtain ⟨h2, h4, h5⟩ := h.snoc
  obtain ⟨v', W', k1, k2, k3, k4, k5⟩ := h5.1.app hv2 hl h3
  have hne : u.2.ownBlock ≠ some g' := h5.2 g' rfl
  have hg' : W'.heap[g']? = W.heap[g']? := k3.block g' hgl (fun e => hne e.symm)
  have hne' : v'.ownBlock ≠ some g' := by
    rcases k5 with k5 | k5
    · rw [k5]; exact hne
    · rw [k5]; intro e; simp at e; omega
  obtain ⟨a, cc, hsh⟩ := k2.shape
  refine ⟨v', W', k1, k3, k4.mono h2, ⟨a, _, cc, hsh⟩, k5, fun j q hj => (World.cell?_of_block (w := W) (a := ⟨g', us0.length * 3 + j, none⟩) hg').trans (hcs j q hj), fun j => (World.frozen?_of_block (w := W) (a := ⟨g', j, none⟩) hg').trans (hfz j), ?_, by have := k4.size; simp only [World.setCell]; simp; omega, .inr ⟨us0, _, rfl, h2, fun x hx => ?_, ?_, ?_⟩⟩
  · have hrow : ROwn W' B 34 3 (.slice (some ⟨g', 0, none⟩) (us0.length + 1) cap') ((us0 ++ [u]).map prow) := by
      have h0 : W.ownsRow B 34 3 (.slice (some ⟨g', 0, none⟩) (us0.length + 1) cap') ((us0 ++ [u]).map prow).length ((us0 ++ [u]).map prow).flatten := h.row
      refine ⟨h0.1, ?_⟩
      rcases h0.2 with ⟨e, _⟩ | ⟨g2, cp, cur, e1, e2, e3, e4⟩
      · cases e
      · obtain rfl : g' = g2 := by simp at e1; exact e1.1
        exact .inr ⟨g', cp, cur, e1, e2, hg'.trans e3, e4⟩
    exact row_set hrow 2 (by decide) _ rfl
  · have q : Apart W' B c (.slice (some ⟨g', 0, none⟩) (us0.length + 1) cap') x := by
      obtain ⟨n, m, y0, y1, y2, y3⟩ := h4 x hx
      refine ⟨n, m, y0, y1, y2.to (Nat.le_trans y2.le k3.size) fun k k1 k2 => k3.block k (by omega) (fun e => ?_), y3⟩
      have := own_from (xs := (u.1.bytes.map byRow).flatten) (n := (u.1.bytes.map byRow).length) h5.1 k e.symm
      omega
    exact q.grown (by have := k4.size; omega) (grown_set W' g' _ _) (.inl rfl)
  · exact k2.setOther hne' _ _
  · intro g2 e
    simp [Value.ownBlock] at e
    subst e
    exact hne'
/-- The last one's number is set; its bytes are what they were. -/
theorem RA.num {W : World} {B c g cap : Nat} {us0 : List (PlD × Value)} {u : PlD × Value} (h : RA W B c (.slice (some ⟨g, 0, none⟩) (us0.length + 1) cap) (us0 ++ [u])) (n : Int) :
    RA (W.setCell ⟨g, us0.length * 3 + 1, none⟩ (.int .i64 n)) B c (.slice (some ⟨g, 0, none⟩) (us0.length + 1) cap) (us0 ++ [(⟨u.1.kind, n, u.1.bytes⟩, u.2)]) := by
  refine ⟨row_set h.row 1 (by decide) _ rfl, fun x hx => ?_, h.vl, h.bc, by simpa [World.setCell] using h.cw⟩
  rcases List.mem_append.1 hx with hx | hx
  · exact (h.ap x (by simp [hx])).grown h.cw (grown_set W g _ _) (.inl rfl)
  · simp at hx; subst hx
    exact (h.ap u (by simp)).grown h.cw (grown_set W g _ _) (.inl rfl)
theorem RA.again {W : World} {B c g cap : Nat} {us0 : List (PlD × Value)} {u : PlD × Value} (h : RA W B c (.slice (some ⟨g, 0, none⟩) (us0.length + 1) cap) (us0 ++ [u])) :
    RA (W.setCell ⟨g, us0.length * 3 + 2, none⟩ u.2) B c (.slice (some ⟨g, 0, none⟩) (us0.length + 1) cap) (us0 ++ [u]) := by
  refine ⟨row_set h.row 2 (by decide) _ rfl, fun x hx => (h.ap x hx).grown h.cw (grown_set W g _ _) (.inl rfl), h.vl, h.bc, by simpa [World.setCell] using h.cw⟩
/-- A store in a block behind c. -/
theorem RA.out {W : World} {B c : Nat} {v : Value} {us : List (PlD × Value)} (h : RA W B c v us) {r : Nat} (hc : c ≤ r) (o : Nat) (z : Value) : RA (W.setCell ⟨r, o, none⟩ z) B c v us := by
  refine ⟨ownsRow_setCell_other h.row (a := ⟨r, o, none⟩) (fun e => by have := h.vl r e; omega) z, fun x hx => ?_, h.vl, h.bc, by simpa [World.setCell] using h.cw⟩
  obtain ⟨n, m, y0, y1, y2, y3⟩ := h.ap x hx
  exact ⟨n, m, y0, y1, y2.to (by simpa [World.setCell] using y2.le) fun k k1 k2 => (grown_set W r o z).block k (by have := y2.le; omega) (fun e => by simp at e; omega), y3⟩
theorem QCut.last_run {W : World} {B c1 : Nat} {v : Value} {us0 : List (PlD × Value)} {u : PlD × Value} (h : QCut W B c1 v (us0 ++ [u])) {v2 : Value} (hv2 : Bts W v2 []) : (Builtin.append_ #[32, 32] 32 #[u.2, v2]).run Tryd.prog W = .ok u.2 W := by
  obtain ⟨i0, hi, hz0, hz1, hz2⟩ := info_parts infoU8
  obtain ⟨a, c, rfl, -⟩ := hv2
  exact append_empty Tryd.underlying32 hi h.snoc.2.2.1 a c
theorem QCut.last_shape {W : World} {B c1 : Nat} {v : Value} {us0 : List (PlD × Value)} {u : PlD × Value} (h : QCut W B c1 v (us0 ++ [u])) : ∃ a c, u.2 = .slice a u.1.bytes.length c := h.snoc.2.2.1.shape

/-! A play at work: its block r, its copied bytes, and the row. -/
structure PkS (w W : World) (r : Nat) (v : Value) (us : List (PlD × Value)) (x : PlD) (vc : Value) : Prop where
  bel : Below w.heap.size w W
  own : ∃ c, c ≤ r ∧ QCut W w.heap.size c v us
  ra : RA W w.heap.size r v us
  uo : UOwn W (r + 1) vc x.bytes
  blk : Blk W r #[.int .i64 x.kind, .int .i64 x.n, vc]
  lt : ∀ us0 u, us = us0 ++ [u] → ∀ k, u.2.ownBlock = some k → k < r
theorem PkS.mk' {w wr W2 W3 : World} {r : Nat} {v : Value} {us : List (PlD × Value)} {x : PlD} {vc : Value} (hB : Below w.heap.size w wr) (hQ : QOwn wr w.heap.size v us) (hr : wr.heap.size = r) (h2 : Below wr.heap.size wr W2) (hz : W2.heap.size = r + 1) {y : Value} (hR : Blk W2 r #[.int .i64 x.kind, .int .i64 x.n, y]) (hu : UOwn W3 W2.heap.size vc x.bytes) (h3 : Below W2.heap.size W2 W3) : PkS w (W3.setCell ⟨r, 2, none⟩ vc) r v us x vc := by
  have b : Below wr.heap.size wr (W3.setCell ⟨r, 2, none⟩ vc) := below_grown_new (chain h2 h3) (grown_set _ _ _ _) (by omega)
  obtain ⟨c, hq⟩ := hQ
  refine ⟨chain hB b, ⟨c, by have := hq.cw; omega, hq.below b⟩, ?_, ?_, (hR.below h3 hR.lt).set 2 vc (by simp), ?_⟩
  · have := (hq.ra hB.size).below b
    rw [hr] at this; exact this
  · have := hu.set (b := r) (by omega) 2 vc
    rw [hz] at this; exact this
  · rintro us0 u rfl k hk
    have := hq.last_lt k hk; omega
theorem PkS.below {w W W' : World} {r : Nat} {v : Value} {us : List (PlD × Value)} {x : PlD} {vc : Value} (h : PkS w W r v us x vc) (hb : Below W.heap.size W W') : PkS w W' r v us x vc := by
  obtain ⟨c, hc, hq⟩ := h.own
  exact ⟨chain h.bel hb, ⟨c, hc, hq.below hb⟩, h.ra.below hb, h.uo.below hb, h.blk.below hb h.blk.lt, h.lt⟩
/-- It is put behind the others. -/
theorem PkS.push {w W : World} {r : Nat} {v : Value} {us : List (PlD × Value)} {x : PlD} {vc : Value} (h : PkS w W r v us x vc) (hl : us.length ≤ 10000000) :
    ∃ v' W', (Builtin.append_ #[24, 24] 24 #[v, .slice (some ⟨W.heap.size, 0, none⟩) 1 1]).run Tryd.prog (W.alloc (.cells #[.int .i64 x.kind, .int .i64 x.n, vc] 34)) = .ok v' W' ∧ QOwn W' w.heap.size v' (us ++ [(x, vc)]) ∧ Below w.heap.size w W' := by
  have hb : Below W.heap.size W (W.alloc (.cells #[.int .i64 x.kind, .int .i64 x.n, vc] 34)) := (Below.refl _ W).alloc (Nat.le_refl _) _
  have R := Blk.new W #[.int .i64 x.kind, .int .i64 x.n, vc] 34
  obtain ⟨v', W', k1, k2, k3⟩ := (h.ra.below hb).push x vc (own_low (e := 5) (size := 1) (n := (x.bytes.map byRow).length) (xs := (x.bytes.map byRow).flatten) (h.uo.below hb) (by omega)) W.heap.size (fun j q hj => by
    rw [Nat.zero_add]
    refine (R.cell j).trans ?_
    simpa using hj) hl
  exact ⟨v', W', k1, k2, (chain h.bel hb).trans k3⟩
/-- The last one, at work, with the play's own block r. -/
structure JS (w W : World) (r g cap : Nat) (us0 : List (PlD × Value)) (u : PlD × Value) (k n : Int) (vc : Value) (c : Nat) : Prop where
  bel : Below w.heap.size w W
  cut : QCut W w.heap.size c (.slice (some ⟨g, 0, none⟩) (us0.length + 1) cap) (us0 ++ [u])
  cr : c ≤ r
  ne : u.2.ownBlock ≠ some r
  gr : g ≠ r
  gB : w.heap.size ≤ g
  rB : w.heap.size ≤ r
  blk : Blk W r #[.int .i64 k, .int .i64 n, vc]
theorem JS.rn {w W : World} {r g cap : Nat} {us0 : List (PlD × Value)} {u : PlD × Value} {k n : Int} {vc : Value} {c : Nat} (h : JS w W r g cap us0 u k n vc c) (n' : Int) : JS w (W.setCell ⟨r, 1, none⟩ (.int .i64 n')) r g cap us0 u k n' vc c :=
  ⟨below_grown_new h.bel (grown_set _ _ _ _) h.rB, h.cut.out h.cr (fun e => h.gr (by simpa [Value.ownBlock] using e)) h.ne _ _, h.cr, h.ne, h.gr, h.gB, h.rB, h.blk.set 1 _ (by simp)⟩
theorem JS.gn {w W : World} {r g cap : Nat} {us0 : List (PlD × Value)} {u : PlD × Value} {k n : Int} {vc : Value} {c : Nat} (h : JS w W r g cap us0 u k n vc c) (n' : Int) : JS w (W.setCell ⟨g, us0.length * 3 + 1, none⟩ (.int .i64 n')) r g cap us0 (⟨u.1.kind, n', u.1.bytes⟩, u.2) k n vc c :=
  ⟨below_grown_new h.bel (grown_set _ _ _ _) h.gB, h.cut.num n', h.cr, h.ne, h.gr, h.gB, h.rB, h.blk.other _ _ (by simp; exact fun e => h.gr e.symm)⟩
theorem JS.drew {w W : World} {r g cap : Nat} {us0 : List (PlD × Value)} {u : PlD × Value} {k n : Int} {vc : Value} {c : Nat} (h : JS w W r g cap us0 u k n vc c) : JS w W.drew r g cap us0 u k n vc c :=
  ⟨h.bel.drew, h.cut.below (Below.refl _ W).drew, h.cr, h.ne, h.gr, h.gB, h.rB, h.blk.drew⟩
structure JR (w W : World) (r g cap : Nat) (us0 : List (PlD × Value)) (u : PlD × Value) (vc : Value) (bs : List UInt8) : Prop where
  ra : RA W w.heap.size r (.slice (some ⟨g, 0, none⟩) (us0.length + 1) cap) (us0 ++ [u])
  uo : UOwn W (r + 1) vc bs
theorem JR.rn {w W : World} {r g cap : Nat} {us0 : List (PlD × Value)} {u : PlD × Value} {vc : Value} {bs : List UInt8} (h : JR w W r g cap us0 u vc bs) (n' : Int) : JR w (W.setCell ⟨r, 1, none⟩ (.int .i64 n')) r g cap us0 u vc bs := ⟨h.ra.out (Nat.le_refl _) _ _, h.uo.set (by omega) _ _⟩
theorem JR.gn {w W : World} {r g cap : Nat} {us0 : List (PlD × Value)} {u : PlD × Value} {vc : Value} {bs : List UInt8} (h : JR w W r g cap us0 u vc bs) (n' : Int) : JR w (W.setCell ⟨g, us0.length * 3 + 1, none⟩ (.int .i64 n')) r g cap us0 (⟨u.1.kind, n', u.1.bytes⟩, u.2) vc bs :=
  ⟨h.ra.num n', h.uo.set (by have := h.ra.vl g rfl; omega) _ _⟩
theorem JR.drew {w W : World} {r g cap : Nat} {us0 : List (PlD × Value)} {u : PlD × Value} {vc : Value} {bs : List UInt8} (h : JR w W r g cap us0 u vc bs) : JR w W.drew r g cap us0 u vc bs := ⟨h.ra.below (Below.refl _ W).drew, h.uo.below (Below.refl _ W).drew⟩
theorem JS.cells {w W : World} {r g cap : Nat} {us0 : List (PlD × Value)} {u : PlD × Value} {k n : Int} {vc : Value} {c : Nat} (h : JS w W r g cap us0 u k n vc c) :
    W.cell? ⟨g, us0.length * 3, none⟩ = some (.int .i64 u.1.kind) ∧ W.cell? ⟨g, us0.length * 3 + 1, none⟩ = some (.int .i64 u.1.n) ∧ W.cell? ⟨g, us0.length * 3 + 2, none⟩ = some u.2 ∧ W.frozen? ⟨g, us0.length * 3 + 1, none⟩ = false ∧ W.frozen? ⟨g, us0.length * 3 + 2, none⟩ = false ∧
    W.cell? ⟨r, 0, none⟩ = some (.int .i64 k) ∧ W.cell? ⟨r, 1, none⟩ = some (.int .i64 n) ∧ W.cell? ⟨r, 2, none⟩ = some vc ∧ W.frozen? ⟨r, 1, none⟩ = false := by
  obtain ⟨g', cap', hv, -, -, hc, hf⟩ := h.cut.at_
  obtain ⟨rfl, rfl⟩ : g' = g ∧ cap' = cap := by simp at hv; exact ⟨hv.1.symm, hv.2.symm⟩
  exact ⟨hc 0 _ rfl, hc 1 _ rfl, hc 2 _ rfl, hf _, hf _, h.blk.cell 0, h.blk.cell 1, h.blk.cell 2, h.blk.free 1⟩
/-- Its bytes are put behind the last one's. -/
theorem PkS.join {w W : World} {r g cap : Nat} {us0 : List (PlD × Value)} {u : PlD × Value} {x : PlD} {vc : Value} (h : PkS w W r (.slice (some ⟨g, 0, none⟩) (us0.length + 1) cap) (us0 ++ [u]) x vc) (hl : u.1.bytes.length + x.bytes.length ≤ 100000000) :
    ∃ v' W' c, (Builtin.append_ #[32, 32] 32 #[u.2, vc]).run Tryd.prog W = .ok v' W' ∧ (∃ a n c, v' = .slice a n c) ∧ CellsAt W' g (us0.length * 3) (prow u) ∧ (∀ j, W'.frozen? ⟨g, j, none⟩ = false) ∧
      JS w (W'.setCell ⟨g, us0.length * 3 + 2, none⟩ v') r g cap us0 (⟨u.1.kind, u.1.n, u.1.bytes ++ x.bytes⟩, v') x.kind x.n vc c := by
  obtain ⟨c, hc, hq⟩ := h.own
  have hgr : g ≠ r := fun e => by have := h.ra.vl g rfl; omega
  have hBg : w.heap.size ≤ g := by obtain ⟨g', cap', hv, hBg, -⟩ := hq.at_; simp at hv; omega
  obtain ⟨v', W', k1, k2, k3, k4, k5, k6, k7, k8⟩ := hq.grow h.uo.bts hl
  have hlt := h.lt us0 u rfl
  have hrl := h.blk.lt
  refine ⟨v', W', c, k1, k4, k6, k7, below_grown_new (h.bel.trans k3) (grown_set _ _ _ _) hBg, k8, hc, fun e => ?_, hgr, hBg, h.ra.bc, ?_⟩
  · rcases k5 with k5 | k5
    · have := hlt r (k5 ▸ e); omega
    · rw [k5] at e; simp at e; omega
  · exact (h.blk.of_same (k2.block r hrl (fun e => by have := hlt r e.symm; omega)) k2.size).other _ _ (by simp; omega)
/-- No bytes are put behind the last one's. -/
theorem PkS.join0 {w W : World} {r g cap : Nat} {us0 : List (PlD × Value)} {u : PlD × Value} {x : PlD} {vc : Value} (h : PkS w W r (.slice (some ⟨g, 0, none⟩) (us0.length + 1) cap) (us0 ++ [u]) x vc) (hx : x.bytes = []) :
    (Builtin.append_ #[32, 32] 32 #[u.2, vc]).run Tryd.prog W = .ok u.2 W ∧ ∃ c,
      JS w (W.setCell ⟨g, us0.length * 3 + 2, none⟩ u.2) r g cap us0 u x.kind x.n vc c ∧ JR w (W.setCell ⟨g, us0.length * 3 + 2, none⟩ u.2) r g cap us0 u vc [] := by
  obtain ⟨c, hc, hq⟩ := h.own
  have hgr : g < r := h.ra.vl g rfl
  have hBg : w.heap.size ≤ g := by obtain ⟨g', cap', hv, hBg, -⟩ := hq.at_; simp at hv; omega
  have hlt := h.lt us0 u rfl
  have hu := h.uo
  rw [hx] at hu
  refine ⟨hq.last_run hu.bts, c, ⟨below_grown_new h.bel (grown_set _ _ _ _) hBg, hq.again, hc, fun e => ?_, by omega, hBg, h.ra.bc, h.blk.other _ _ (by simp; omega)⟩, h.ra.again, hu.set (by omega) _ _⟩
  have := hlt r e; omega
/-- A play of the block r behind all of them. -/
theorem JR.push {w W : World} {r g cap : Nat} {us0 : List (PlD × Value)} {u : PlD × Value} {vc : Value} {bs : List UInt8} (h : JR w W r g cap us0 u vc bs) (hb0 : Below w.heap.size w W) (k n : Int) (hl : us0.length + 1 ≤ 10000000) :
    ∃ v' W', (Builtin.append_ #[24, 24] 24 #[.slice (some ⟨g, 0, none⟩) (us0.length + 1) cap, .slice (some ⟨W.heap.size, 0, none⟩) 1 1]).run Tryd.prog (W.alloc (.cells #[.int .i64 k, .int .i64 n, vc] 34)) = .ok v' W' ∧ QOwn W' w.heap.size v' (us0 ++ [u] ++ [(⟨k, n, bs⟩, vc)]) ∧ Below w.heap.size w W' := by
  have hb : Below W.heap.size W (W.alloc (.cells #[.int .i64 k, .int .i64 n, vc] 34)) := (Below.refl _ W).alloc (Nat.le_refl _) _
  have R := Blk.new W #[.int .i64 k, .int .i64 n, vc] 34
  obtain ⟨v', W', k1, k2, k3⟩ := (h.ra.below hb).push ⟨k, n, bs⟩ vc (own_low (e := 5) (size := 1) (n := (bs.map byRow).length) (xs := (bs.map byRow).flatten) (h.uo.below hb) (by omega)) W.heap.size (fun j q hj => by
    rw [Nat.zero_add]
    refine (R.cell j).trans ?_
    simpa using hj) (by simp; omega)
  exact ⟨v', W', k1, k2, (chain hb0 hb).trans k3⟩
end Go.Proofs.YtbjlnllbcgghlaaDoor
