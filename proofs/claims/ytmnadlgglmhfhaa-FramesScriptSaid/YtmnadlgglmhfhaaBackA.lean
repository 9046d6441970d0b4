/- The law FramesBack: what its walk keeps. -/
import Derived.Test.YtmnadlgglmhfhaaActs
import Derived.Test.YtmnadlgglmhfhaaEvS
namespace Go.Proofs.Ytmnadlgglmhfhaa
open Go.RowKit

/-- What the law knows: the stack, and its own list of frames. -/
structure Kept (w wr : World) (b lim : Nat) (rows us : List Row) (vl vin : Value) : Prop where
  inv : SInv wr b (b + 1) lim us vl
  own : wr.ownsRow (b + 1) 32 6 vin rows.length (flatF rows)
  apart : ∀ g, vin.ownBlock = some g → ¬ Foot b vl us g
  same : us.map Row.f = rows.map Row.f
  at_ : ∀ r ∈ rows, WAt w r.vw r.f.ws ∧ WAt w r.vd r.f.ds
  bel : Below w.heap.size w wr
  low : w.heap.size ≤ b

theorem taken_map (us : List Row) : takenOf us = ((us.map Row.f).map FrD.takes).sum := by
  unfold takenOf
  rw [List.map_map]
  rfl
theorem Kept.taken {w wr : World} {b lim : Nat} {rows us : List Row} {vl vin : Value} (h : Kept w wr b lim rows us vl vin) : takenOf us = takenOf rows := by
  rw [taken_map, taken_map, h.same]
theorem Kept.len {w wr : World} {b lim : Nat} {rows us : List Row} {vl vin : Value} (h : Kept w wr b lim rows us vl vin) : us.length = rows.length := by
  have := congrArg List.length h.same
  simpa using this
theorem Kept.on {w wr wx : World} {b lim : Nat} {rows us : List Row} {vl vin : Value} (h : Kept w wr b lim rows us vl vin) (hb : Below wr.heap.size wr wx) : Kept w wx b lim rows us vl vin :=
  ⟨h.inv.below hb, own_on h.own hb (own_lt h.own), h.apart, h.same, h.at_, h.bel.trans (hb.mono h.bel.size), h.low⟩
theorem Kept.start {w wr : World} {b lim : Nat} (h : SInv wr b (b + 1) lim [] (.slice none 0 0)) (hb : Below w.heap.size w wr) (hl : w.heap.size ≤ b) : Kept w wr b lim [] [] (.slice none 0 0) (.slice none 0 0) :=
  ⟨h, World.ownsRow_nil _ _ _ _, fun g hg => by simp [Value.ownBlock] at hg, rfl, fun r hr => by simp at hr, hb, hl⟩

/-- A block of the call's own: it has so many cells, none of them frozen. -/
structure Raw (W : World) (g n : Nat) : Prop where
  lt : g < W.heap.size
  cell : ∀ j, j < n → ∃ u, W.cell? ⟨g, j, none⟩ = some u
  free : ∀ j, W.frozen? ⟨g, j, none⟩ = false
theorem Raw.of_same {W W' : World} {g n : Nat} (h : Raw W g n) (he : W'.heap[g]? = W.heap[g]?) (hs : W.heap.size ≤ W'.heap.size) : Raw W' g n :=
  ⟨Nat.lt_of_lt_of_le h.lt hs, fun j hj => by obtain ⟨u, hu⟩ := h.cell j hj; exact ⟨u, (World.cell?_of_block (w := W) (a := ⟨g, j, none⟩) he).trans hu⟩, fun j => (World.frozen?_of_block (w := W) (a := ⟨g, j, none⟩) he).trans (h.free j)⟩
theorem Raw.below {B : Nat} {W W' : World} {g n : Nat} (h : Raw W g n) (hb : Below B W W') (hB : g < B) : Raw W' g n := h.of_same (hb.block g hB) hb.size
theorem Raw.set {W : World} {g n : Nat} (h : Raw W g n) (i : Nat) (v : Value) : Raw (W.setCell ⟨g, i, none⟩ v) g n := by
  refine ⟨by simpa [World.setCell] using h.lt, fun j hj => ?_, fun j => by rw [World.frozen?_setCell]; exact h.free j⟩
  obtain ⟨u, hu⟩ := h.cell j hj
  by_cases e : i = j
  · subst e
    exact ⟨v, World.cell?_setCell_same' _ _ _ (by rw [hu]; rfl)⟩
  · exact ⟨u, by rw [World.cell?_setCell_other _ _ _ _ (by simp <;> omega), hu]⟩

theorem Kept.off {S : Nat → Prop} {w wr wx : World} {b lim : Nat} {rows us : List Row} {vl vin : Value} (h : Kept w wr b lim rows us vl vin) (hb : Off S wr wx) (h1 : ∀ k, Foot b vl us k → ¬ S k) (h2 : ∀ g, vin.ownBlock = some g → ¬ S g) (h3 : ∀ k, S k → w.heap.size ≤ k) : Kept w wx b lim rows us vl vin :=
  ⟨h.inv.off hb h1, hb.own h.own h2, h.apart, h.same, h.at_, h.bel.trans (hb.below h.bel.size h3), h.low⟩

theorem foot_from {W : World} {b B lim : Nat} {us : List Row} {vl : Value} (h : SInv W b B lim us vl) (n : Nat) (hn : n ≤ b) : ∀ i, Foot b vl us i → n ≤ i := by
  intro i hi
  have := (h.foot_lt i hi).2
  have := h.lt
  omega

/-- What the law knows behind a push that was OK: n0, the frame of its own; p, that frame's words. -/
structure After (w wx : World) (b lim : Nat) (rows us : List Row) (vl vin : Value) (n0 lw : Nat) (cells : Array Value) (p : Option Addr) : Prop where
  kept : Kept w wx b lim rows us vl vin
  blk : Blk wx n0 cells
  raw : 0 < lw → ∃ g, p = some ⟨g, 0, none⟩ ∧ Raw wx g (lw * 2) ∧ n0 < g ∧ ¬ Foot b vl us g ∧ vin.ownBlock ≠ some g
  low : w.heap.size ≤ n0
theorem After.on {w wx wy : World} {b lim : Nat} {rows us : List Row} {vl vin : Value} {n0 lw : Nat} {cells : Array Value} {p : Option Addr} (h : After w wx b lim rows us vl vin n0 lw cells p) (hb : Below wx.heap.size wx wy) : After w wy b lim rows us vl vin n0 lw cells p :=
  ⟨h.kept.on hb, h.blk.below hb h.blk.lt, fun hl => by obtain ⟨g, h1, h2, h3⟩ := h.raw hl; exact ⟨g, h1, h2.below hb h2.lt, h3⟩, h.low⟩
theorem After.set {w wx : World} {b lim : Nat} {rows us : List Row} {vl vin : Value} {n0 lw : Nat} {cells : Array Value} {g : Nat} (h : After w wx b lim rows us vl vin n0 lw cells (some ⟨g, 0, none⟩)) (hl : 0 < lw) (i : Nat) (v : Value) : After w (wx.setCell ⟨g, i, none⟩ v) b lim rows us vl vin n0 lw cells (some ⟨g, 0, none⟩) := by
  obtain ⟨g', h1, h2, h3, h4, h5⟩ := h.raw hl
  cases h1
  have hlow := h.low
  have E := off_set (W := wx) (b := g) (i := i) (v := v)
  exact ⟨h.kept.off E (fun k hk e => h4 (e ▸ hk)) (fun k hk e => h5 (e ▸ hk)) (fun k e => by omega), h.blk.other _ _ (by show n0 ≠ g; omega), fun _ => ⟨g, rfl, h2.set i v, h3, h4, h5⟩, hlow⟩

theorem Raw.of_own {W : World} {base : Nat} {e : TypeId} {size : Nat} {p : Option Addr} {n c : Nat} {xs : List Value} (h : W.ownsRow base e size (.slice p n c) n xs) (hn : 0 < n) : ∃ g, p = some ⟨g, 0, none⟩ ∧ Raw W g (n * size) ∧ base ≤ g := by
  rcases h.2 with ⟨_, h0⟩ | ⟨g, cap, cur, e1, hg, hb, hc, _, hz, _⟩
  · omega
  · simp only [Value.slice.injEq] at e1
    obtain ⟨rfl, _, rfl⟩ := e1
    refine ⟨g, rfl, ⟨(Array.getElem?_eq_some_iff.1 hb).1, fun j hj => ?_, fun j => ?_⟩, hg⟩
    · have : n * size ≤ c * size := Nat.mul_le_mul_right _ hc
      refine ⟨cur[j]'(by omega), ?_⟩
      unfold World.cell?
      rw [hb]
      simp
    · unfold World.frozen?
      rw [hb]
      simp

/-- What the law knows while it pops: m frames are left. -/
structure Popping (w wr : World) (b lim : Nat) (rows us : List Row) (m : Nat) (vl vin : Value) : Prop where
  inv : SInv wr b (b + 1) lim us vl
  own : wr.ownsRow (b + 1) 32 6 vin rows.length (flatF rows)
  same : us.map Row.f = (rows.take m).map Row.f
  at_ : ∀ r ∈ rows, WAt w r.vw r.f.ws ∧ WAt w r.vd r.f.ds
  bel : Below w.heap.size w wr
  low : w.heap.size ≤ b
theorem Popping.of_kept {w wr : World} {b lim : Nat} {rows us : List Row} {vl vin : Value} (h : Kept w wr b lim rows us vl vin) : Popping w wr b lim rows us rows.length vl vin :=
  ⟨h.inv, h.own, by rw [List.take_length]; exact h.same, h.at_, h.bel, h.low⟩
theorem Popping.on {w wr wx : World} {b lim m : Nat} {rows us : List Row} {vl vin : Value} (h : Popping w wr b lim rows us m vl vin) (hb : Below wr.heap.size wr wx) : Popping w wx b lim rows us m vl vin :=
  ⟨h.inv.below hb, own_on h.own hb (own_lt h.own), h.same, h.at_, h.bel.trans (hb.mono h.bel.size), h.low⟩
theorem Popping.split {w wr : World} {b lim m : Nat} {rows us : List Row} {vl vin : Value} (h : Popping w wr b lim rows us (m + 1) vl vin) (hm : m < rows.length) : ∃ us' u, us = us' ++ [u] ∧ u.f = (rows[m]).f ∧ us'.map Row.f = (rows.take m).map Row.f := by
  have hs := h.same
  rw [List.take_succ_eq_append_getElem hm, List.map_append] at hs
  rcases List.eq_nil_or_concat us with h0 | ⟨us', u, rfl⟩
  · rw [h0] at hs
    simp at hs
  · simp only [List.concat_eq_append, List.map_append, List.map_cons, List.map_nil] at hs ⊢
    obtain ⟨h1, h2⟩ := List.append_inj' hs rfl
    exact ⟨us', u, rfl, by simpa using h2, h1⟩
theorem Popping.nil {w wr : World} {b lim : Nat} {rows us : List Row} {vl vin : Value} (h : Popping w wr b lim rows us 0 vl vin) : us = [] := by
  have := congrArg List.length h.same
  simpa using this
theorem own_row_cells {W : World} {base : Nat} {us : List Row} {p : Option Addr} {cap : Nat} (h : W.ownsRow base 32 6 (.slice p us.length cap) us.length (flatF us)) (j : Nat) (hj : j < us.length) :
    ∃ g, p = some ⟨g, 0, none⟩ ∧ g < W.heap.size ∧ ∀ i c, (us[j]).cells[i]? = some c → W.cell? ⟨g, j * 6 + i, none⟩ = some c := by
  obtain ⟨g, c', e1, h1, h2⟩ := h.form (by omega)
  simp only [Value.slice.injEq] at e1
  obtain ⟨rfl, _, rfl⟩ := e1
  refine ⟨g, rfl, h2, fun i c hc => ?_⟩
  have hi : i < 6 := by
    have := (List.getElem?_eq_some_iff.1 hc).1
    simpa [Row.cells] using this
  have hx := flatF_get us j hj i hi
  rw [hc] at hx
  have := h.cells (g := g) rfl _ _ hx
  rcases hj : j * 6 + i with _ | j
  · rw [hj] at this; simpa [Addr.add] using this
  · rw [hj] at this; simpa [Addr.add] using this

set_option maxRecDepth 1000000 in
theorem lives_runs : Ev.isTrue (Ev.calls Try.prog Ev.noFacts 100000 60 8 [] Ev.Mem.start) = true := by kernel_rfl
theorem lives_true (w : World) : Calls Try.prog 8 #[] w fun e w' => e = .returned (.bool true) ∧ Below w.heap.size w w' := Ev.closed (by kernel_rfl) lives_runs w

set_option maxHeartbeats 1000000 in
theorem back_big (v : Value) (xs : List ActD) (lim : Int) (w : World) (h : ActsAt w v xs) (hl : xs.length ≤ 1000000000000000) (hs : smallL xs = false) :
    Calls Try.prog 3 #[.int .i64 lim, v] w fun e w' => e = .returned (.bool true) ∧ Below w.heap.size w w' := by
  have k1 := fun W (hW : Below w.heap.size w W) => small_any v xs W (h.below hW) hl
  rw [hs] at k1
  have K1 := Lib.hid k1
  obtain ⟨a, c, rfl, _⟩ := h
  clear k1
  go_enter Try.func3, Try.ntmps3
  go_wp2_with (first | (go_at_call 8; refine (lives_true _).mono ?_; rintro e w0 ⟨rfl, hb0⟩) | (go_at_call 9; refine (K1.out _ hb0).mono ?_; rintro e w1 ⟨rfl, hb1⟩))
  go_ret
  exact ⟨rfl, hb0.trans (hb1.mono hb0.size)⟩

set_option maxHeartbeats 1000000 in
theorem back_bad (v : Value) (xs : List ActD) (lim : Int) (w : World) (h : ActsAt w v xs) (hl : xs.length ≤ 1000000000000000) (hs : smallL xs = true) (hb : ¬ (0 ≤ lim ∧ lim ≤ 4194304)) :
    Calls Try.prog 3 #[.int .i64 lim, v] w fun e w' => e = .returned (.bool true) ∧ Below w.heap.size w w' := by
  have k1 := fun W (hW : Below w.heap.size w W) => small_any v xs W (h.below hW) hl
  rw [hs] at k1
  have K1 := Lib.hid k1
  obtain ⟨a, c, rfl, _⟩ := h
  clear k1
  have k2 := fun W => new_bad lim W hb
  clear hb
  go_enter Try.func3, Try.ntmps3
  go_wp2_with (first | (go_at_call 8; refine (lives_true _).mono ?_; rintro e w0 ⟨rfl, hb0⟩) | (go_at_call 9; refine (K1.out _ hb0).mono ?_; rintro e w1 ⟨rfl, hb1⟩) | (go_at_call 10; refine (k2 _).mono ?_; rintro e w2 ⟨rfl, hb2⟩))
  go_ret
  exact ⟨rfl, (hb0.trans (hb1.mono hb0.size)).trans (hb2.mono (Nat.le_trans hb0.size hb1.size))⟩

end Go.Proofs.Ytmnadlgglmhfhaa
