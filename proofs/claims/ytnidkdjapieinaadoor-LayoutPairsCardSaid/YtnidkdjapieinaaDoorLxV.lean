/- Memory: blocks and rows of the call's own; bytes. -/
import Derived.Test.YtnidkdjapieinaaDoorLxH
import Derived.Laws.AppendOwnNone
import Derived.Maps.AppendAt
import Derived.Lib.AppendStr
import Derived.Laws.IdiomStrings
import Derived.StillTailTactics
namespace Go.Proofs.YtnidkdjapieinaaDoor
open Go.RowKit Go.Shelf

/-- A block of the call's own: its cells, none of them frozen. -/
structure Blk (W : World) (b : Nat) (c : Array Value) : Prop where
  lt : b < W.heap.size
  cell : ∀ j, W.cell? ⟨b, j, none⟩ = c[j]?
  free : ∀ j, W.frozen? ⟨b, j, none⟩ = false

theorem Blk.new (W : World) (c : Array Value) (t : TypeId) : Blk (W.alloc (.cells c t)) W.heap.size c := by
  have h := heap_alloc_new W (.cells c t)
  exact ⟨by simp, fun j => by unfold World.cell?; rw [h]; rfl, fun j => by unfold World.frozen?; rw [h]; simp⟩
theorem Blk.of_same {W W' : World} {b : Nat} {c : Array Value} (h : Blk W b c) (he : W'.heap[b]? = W.heap[b]?) (hs : W.heap.size ≤ W'.heap.size) : Blk W' b c :=
  ⟨Nat.lt_of_lt_of_le h.lt hs, fun j => (World.cell?_of_block (w := W) (a := ⟨b, j, none⟩) he).trans (h.cell j), fun j => (World.frozen?_of_block (w := W) (a := ⟨b, j, none⟩) he).trans (h.free j)⟩
theorem Blk.alloc {W : World} {b : Nat} {c : Array Value} (h : Blk W b c) (o : Obj) : Blk (W.alloc o) b c := h.of_same (Below.heap_alloc _ _ _ h.lt) (by simp)
theorem Blk.drew {W : World} {b : Nat} {c : Array Value} (h : Blk W b c) : Blk W.drew b c := h.of_same rfl (Nat.le_refl _)
theorem Blk.drewN {W : World} {b : Nat} {c : Array Value} (h : Blk W b c) (n : Nat) : Blk (W.drewN n) b c := h.of_same rfl (Nat.le_refl _)
theorem Blk.below {B : Nat} {W W' : World} {b : Nat} {c : Array Value} (h : Blk W b c) (hb : Below B W W') (hB : b < B) : Blk W' b c := h.of_same (hb.block b hB) hb.size
theorem Blk.other {W : World} {b : Nat} {c : Array Value} (h : Blk W b c) (a : Addr) (v : Value) (hne : b ≠ a.block) : Blk (W.setCell a v) b c :=
  h.of_same (Below.heap_setCell _ _ _ _ hne) (by simp [World.setCell])
theorem Blk.set {W : World} {b : Nat} {c : Array Value} (h : Blk W b c) (i : Nat) (v : Value) (hi : i < c.size) : Blk (W.setCell ⟨b, i, none⟩ v) b (c.setIfInBounds i v) := by
  refine ⟨by simpa [World.setCell] using h.lt, fun j => ?_, fun j => by rw [World.frozen?_setCell]; exact h.free j⟩
  by_cases e : i = j
  · subst e
    rw [World.cell?_setCell_same' _ _ _ (by rw [h.cell i]; simp [hi]), Array.getElem?_setIfInBounds_self_of_lt hi]
  · rw [World.cell?_setCell_other _ _ _ _ (by simp <;> omega), h.cell j]
    simp [Array.getElem?_setIfInBounds_ne e]

theorem size_drew (W : World) : W.drew.heap.size = W.heap.size := by simp
theorem below_of_drew {W w1 : World} (h : Below W.drew.heap.size W.drew w1) : Below W.heap.size W w1 := by
  rw [size_drew] at h
  exact ((Below.refl _ W).drew).trans h

theorem own_shape {W : World} {base : Nat} {e : TypeId} {size : Nat} {v : Value} {n : Nat} {xs : List Value} (h : W.ownsRow base e size v n xs) : ∃ a c, v = .slice a n c := by
  rcases h.2 with ⟨rfl, h0⟩ | ⟨g, cap, _, rfl, _⟩
  · exact ⟨none, 0, by rw [h0]⟩
  · exact ⟨_, _, rfl⟩

theorem own_lt {W : World} {base : Nat} {e : TypeId} {size : Nat} {v : Value} {n : Nat} {xs : List Value} (h : W.ownsRow base e size v n xs) : ∀ g, v.ownBlock = some g → g < W.heap.size := by
  intro g hg
  rcases h.2 with ⟨rfl, _⟩ | ⟨g', cap, cur, rfl, _, hb, _⟩
  · simp [Value.ownBlock] at hg
  · simp [Value.ownBlock] at hg; subst hg; exact (Array.getElem?_eq_some_iff.1 hb).1
theorem own_on {B : Nat} {W W' : World} {base : Nat} {e : TypeId} {size : Nat} {v : Value} {n : Nat} {xs : List Value} (h : W.ownsRow base e size v n xs) (hb : Below B W W') (hB : ∀ g, v.ownBlock = some g → g < B) : W'.ownsRow base e size v n xs := by
  refine ⟨h.1, ?_⟩
  rcases h.2 with h2 | ⟨g, cap, cur, rfl, hg, hh, r⟩
  · exact .inl h2
  · exact .inr ⟨g, cap, cur, rfl, hg, (hb.block g (hB g rfl)).trans hh, r⟩
theorem own_low {W : World} {b b' : Nat} {e : TypeId} {size : Nat} {v : Value} {n : Nat} {xs : List Value} (h : W.ownsRow b e size v n xs) (hb : b' ≤ b) : W.ownsRow b' e size v n xs := by
  obtain ⟨h1, h2⟩ := h
  refine ⟨h1, ?_⟩
  rcases h2 with h2 | ⟨g, cap, cur, hv, hg, r⟩
  · exact .inl h2
  · exact .inr ⟨g, cap, cur, hv, by omega, r⟩
theorem own_from {W : World} {b : Nat} {e : TypeId} {size : Nat} {v : Value} {n : Nat} {xs : List Value} (h : W.ownsRow b e size v n xs) : ∀ k, v.ownBlock = some k → b ≤ k := by
  intro k hk
  rcases h.2 with ⟨rfl, _⟩ | ⟨g, cap, cur, rfl, hg, _⟩
  · simp [Value.ownBlock] at hk
  · simp [Value.ownBlock] at hk; omega

/-- The world has turned in block b alone. -/
structure Only (b : Nat) (W W' : World) : Prop where
  os : W'.os = W.os
  tape : W'.tape = W.tape
  output : W'.output = W.output
  size : W'.heap.size = W.heap.size
  block : ∀ k, k ≠ b → W'.heap[k]? = W.heap[k]?
theorem Only.refl (b : Nat) (W : World) : Only b W W := ⟨rfl, rfl, rfl, rfl, fun _ _ => rfl⟩
theorem Only.trans {b : Nat} {A B C : World} (h : Only b A B) (k : Only b B C) : Only b A C :=
  ⟨k.os.trans h.os, k.tape.trans h.tape, k.output.trans h.output, k.size.trans h.size, fun i hi => (k.block i hi).trans (h.block i hi)⟩
theorem Only.set {b : Nat} {A B : World} (h : Only b A B) (i : Nat) (v : Value) : Only b A (B.setCell ⟨b, i, none⟩ v) :=
  h.trans ⟨rfl, rfl, rfl, by simp [World.setCell], fun k hk => Below.heap_setCell _ _ _ _ hk⟩
theorem Only.drew {b : Nat} {A B : World} (h : Only b A B) : Only b A B.drew := ⟨h.os, h.tape, h.output, h.size, h.block⟩
theorem Only.below {b B : Nat} {W W' : World} (h : Only b W W') (hB : B ≤ b) : Below B W W' :=
  ⟨h.os, h.tape, h.output, Nat.le_of_eq h.size.symm, fun k hk => h.block k (by omega)⟩
theorem Only.blk {b : Nat} {W W' : World} (h : Only b W W') {k : Nat} {c : Array Value} (hk : Blk W k c) (hne : k ≠ b) : Blk W' k c := hk.of_same (h.block k hne) (Nat.le_of_eq h.size.symm)
theorem Only.own {b : Nat} {W W' : World} (ho : Only b W W') {base : Nat} {e : TypeId} {size : Nat} {v : Value} {n : Nat} {xs : List Value} (h : W.ownsRow base e size v n xs) (hne : v.ownBlock ≠ some b) : W'.ownsRow base e size v n xs := by
  refine ⟨h.1, ?_⟩
  rcases h.2 with h2 | ⟨g, cap, cur, rfl, hg, hh, r⟩
  · exact .inl h2
  · exact .inr ⟨g, cap, cur, rfl, hg, (ho.block g (fun e => hne (by rw [e]; rfl))).trans hh, r⟩


theorem grown_below {B : Nat} {w a a1 : World} {v : Value} {e : TypeId} {size n base : Nat} {xs : List Value} (hb : Below B w a) (hg : a.grownBy a1 v.ownBlock) (ho : a.ownsRow base e size v n xs) (h1 : B ≤ a.heap.size) (h2 : B ≤ base) : Below B w a1 :=
  hb.grown hg h1 fun k hk => Nat.le_trans h2 (own_from ho k hk)
theorem info5 : (Tryd.prog.info? 5).map (fun i => (i.zero, i.size, i.bytes)) = some (some (.int .u8 0), 1, 1) := by kernel_rfl
def bV (l : List UInt8) : List Value := l.map fun b => Value.int .u8 (b.toNat : Int)
theorem bV_len (l : List UInt8) : (bV l).length = l.length := by simp [bV]
theorem bV_app (a b : List UInt8) : bV (a ++ b) = bV a ++ bV b := by simp [bV]
abbrev BOwn (W : World) (base : Nat) (v : Value) (l : List UInt8) : Prop := W.ownsRow base 5 1 v l.length (bV l)
theorem run_back (w : World) (base : Nat) (v : Value) (l : List UInt8) (h : BOwn w base v l) :
    (convert 86 9 v).run Tryd.prog w = .ok (.string ⟨l.toArray⟩) w := by
  rcases h.2 with ⟨rfl, h0⟩ | ⟨g, cap, cur, rfl, _⟩
  · have : l = [] := List.length_eq_zero_iff.1 h0
    subst this
    rw [run_convert_bytes_string w _ _ 5 none 0 0 Tryd.underlying86 Tryd.underlying5 Tryd.underlying9]; rfl
  · have hc := h.cells (g := g) rfl
    rw [run_convert_bytes_back w _ _ 5 ⟨g, 0, none⟩ cap l Tryd.underlying86 Tryd.underlying5 Tryd.underlying9 (fun j hj => hc j _ (by unfold bV; rw [List.getElem?_map, List.getElem?_eq_getElem hj]; rfl))]
end Go.Proofs.YtnidkdjapieinaaDoor
