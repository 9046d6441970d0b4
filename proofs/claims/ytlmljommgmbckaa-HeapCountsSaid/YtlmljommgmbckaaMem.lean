/- What lies in memory: words read and words owned, frames. The contracts of slices.Clone at words, and of frames.own and thunkmillref24.own. Conditions: a slice of words has at most 2^40 words. -/
import Derived.Test.YtlmljommgmbckaaProg
import Derived.WalkKit
import Derived.WalkSpells
import Derived.WalkSmall
import Derived.Deep.RegionHeld3
import Derived.Deep.RegionWith
import Derived.Deep.QuietTactic
import Derived.BigQuiet
import Derived.Laws.AppendOwnNone
import Derived.Maps.AppendAt
import Derived.Outline
import Derived.Lib.Hide
namespace Go.Proofs.Ytlmljommgmbckaa
open Go.RowKit

abbrev Wd := Int × Int
def flat (ws : List Wd) : List Value := ws.flatMap fun x => [.int .i64 x.1, .int .i64 x.2]

theorem flat_len (ws : List Wd) : (flat ws).length = ws.length * 2 := by
  induction ws with
  | nil => rfl
  | cons x xs ih => simp only [flat, List.flatMap_cons, List.length_append, List.length_cons, List.length_nil] at ih ⊢; omega

theorem flat_get (ws : List Wd) (j : Nat) (h : j < ws.length) : (flat ws)[2 * j]? = some (.int .i64 ws[j].1) ∧ (flat ws)[2 * j + 1]? = some (.int .i64 ws[j].2) := by
  induction ws generalizing j with
  | nil => simp at h
  | cons x xs ih =>
    cases j with
    | zero => simp [flat]
    | succ j =>
      have h' : j < xs.length := by simpa using h
      have := ih j h'
      rw [show 2 * (j + 1) = 2 * j + 2 from by omega, show 2 * j + 2 + 1 = (2 * j + 1) + 2 from by omega]
      simpa [flat] using this

theorem flat_one (ws : List Wd) : ∀ u ∈ flat ws, u.oneCell' = true := by
  intro u hu
  unfold flat at hu
  rw [List.mem_flatMap] at hu
  obtain ⟨x, _, hx⟩ := hu
  rcases List.mem_cons.1 hx with rfl | hx
  · rfl
  · rcases List.mem_cons.1 hx with rfl | hx
    · rfl
    · simp at hx

theorem flat_append (a b : List Wd) : flat (a ++ b) = flat a ++ flat b := by simp [flat]

/-- A slice that reads as these words. -/
def WAt (W : World) (v : Value) (ws : List Wd) : Prop :=
  ∃ (a : Option Addr) (cap : Nat), v = .slice a ws.length cap ∧ (0 < ws.length → ∃ b o, a = some ⟨b, o, none⟩ ∧ b < W.heap.size ∧ ∀ j c, (flat ws)[j]? = some c → W.cell? ⟨b, o + j, none⟩ = some c)

/-- A slice of the call's own that holds these words. -/
abbrev WOwn (W : World) (base : Nat) (v : Value) (ws : List Wd) : Prop := W.ownsRow base 32 2 v ws.length (flat ws)

theorem WOwn.at {W : World} {base : Nat} {v : Value} {ws : List Wd} (h : WOwn W base v ws) : WAt W v ws := by
  have h0 := h
  rcases h.2 with ⟨rfl, h1⟩ | ⟨g, cap, cur, rfl, hg, hb, _⟩
  · exact ⟨none, 0, by rw [h1], fun h => by omega⟩
  · refine ⟨_, cap, rfl, fun _ => ⟨g, 0, rfl, (Array.getElem?_eq_some_iff.1 hb).1, fun j c hj => ?_⟩⟩
    have := h0.cells (g := g) rfl j c hj
    cases j with
    | zero => simpa [Addr.add] using this
    | succ j => simpa [Addr.add] using this

theorem WAt.below {B : Nat} {W W' : World} {v : Value} {ws : List Wd} (h : WAt W v ws) (hb : Below B W W') (hB : W.heap.size ≤ B) : WAt W' v ws := by
  obtain ⟨a, cap, hv, hc⟩ := h
  refine ⟨a, cap, hv, fun hl => ?_⟩
  obtain ⟨b, o, h1, h2, h3⟩ := hc hl
  exact ⟨b, o, h1, Nat.lt_of_lt_of_le h2 hb.size, fun j c hj => (hb.cell (p := ⟨b, o + j, none⟩) (by show b < B; omega)).trans (h3 j c hj)⟩

/-- A block of the call's own: its cells, none of them frozen. -/
structure Blk (W : World) (b : Nat) (c : Array Value) : Prop where
  lt : b < W.heap.size
  cell : ∀ j, W.cell? ⟨b, j, none⟩ = c[j]?
  free : ∀ j, W.frozen? ⟨b, j, none⟩ = false

theorem Blk.new (W : World) (c : Array Value) (t : TypeId) : Blk (W.alloc (.cells c t)) W.heap.size c := by
  have h := heap_alloc_new W (.cells c t)
  exact ⟨by simp, fun j => by unfold World.cell?; rw [h]; rfl, fun j => by unfold World.frozen?; rw [h]; simp⟩
theorem Blk.of_same {W W' : World} {b : Nat} {c : Array Value} (h : Blk W b c) (he : W'.heap[b]? = W.heap[b]?) (hs : W.heap.size ≤ W'.heap.size) : Blk W' b c :=
  ⟨Nat.lt_of_lt_of_le h.lt hs, fun j => (World.cell?_of_block (w := W) (a := ⟨b, j, none⟩) he).trans (h.cell j), fun j => (World.frozen?_of_block (w := W) (a := ⟨b, j, none⟩) he).trans (h.free j)⟩
theorem Blk.alloc {W : World} {b : Nat} {c : Array Value} (h : Blk W b c) (o : Obj) : Blk (W.alloc o) b c := h.of_same (Below.heap_alloc _ _ _ h.lt) (by simp)
theorem Blk.drew {W : World} {b : Nat} {c : Array Value} (h : Blk W b c) : Blk W.drew b c := h.of_same rfl (Nat.le_refl _)
theorem Blk.drewN {W : World} {b : Nat} {c : Array Value} (h : Blk W b c) (n : Nat) : Blk (W.drewN n) b c := h.of_same rfl (Nat.le_refl _)
theorem Blk.below {B : Nat} {W W' : World} {b : Nat} {c : Array Value} (h : Blk W b c) (hb : Below B W W') (hB : b < B) : Blk W' b c := h.of_same (hb.block b hB) hb.size
theorem Blk.other {W : World} {b : Nat} {c : Array Value} (h : Blk W b c) (a : Addr) (v : Value) (hne : b ≠ a.block) : Blk (W.setCell a v) b c :=
  h.of_same (Below.heap_setCell _ _ _ _ hne) (by simp [World.setCell])
theorem Blk.set {W : World} {b : Nat} {c : Array Value} (h : Blk W b c) (i : Nat) (v : Value) (hi : i < c.size) : Blk (W.setCell ⟨b, i, none⟩ v) b (c.setIfInBounds i v) := by
  refine ⟨by simpa [World.setCell] using h.lt, fun j => ?_, fun j => by rw [World.frozen?_setCell]; exact h.free j⟩
  by_cases e : i = j
  · subst e
    rw [World.cell?_setCell_same' _ _ _ (by rw [h.cell i]; simp [hi]), Array.getElem?_setIfInBounds_self_of_lt hi]
  · rw [World.cell?_setCell_other _ _ _ _ (by simp <;> omega), h.cell j]
    simp [Array.getElem?_setIfInBounds_ne e]

theorem size_drew (W : World) : W.drew.heap.size = W.heap.size := by simp
theorem below_of_drew {W w1 : World} (h : Below W.drew.heap.size W.drew w1) : Below W.heap.size W w1 := by
  rw [size_drew] at h
  exact ((Below.refl _ W).drew).trans h

theorem own_shape {W : World} {base : Nat} {e : TypeId} {size : Nat} {v : Value} {n : Nat} {xs : List Value} (h : W.ownsRow base e size v n xs) : ∃ a c, v = .slice a n c := by
  rcases h.2 with ⟨rfl, h0⟩ | ⟨g, cap, _, rfl, _⟩
  · exact ⟨none, 0, by rw [h0]⟩
  · exact ⟨_, _, rfl⟩

theorem own_lt {W : World} {base : Nat} {e : TypeId} {size : Nat} {v : Value} {n : Nat} {xs : List Value} (h : W.ownsRow base e size v n xs) : ∀ g, v.ownBlock = some g → g < W.heap.size := by
  intro g hg
  rcases h.2 with ⟨rfl, _⟩ | ⟨g', cap, cur, rfl, _, hb, _⟩
  · simp [Value.ownBlock] at hg
  · simp [Value.ownBlock] at hg; subst hg; exact (Array.getElem?_eq_some_iff.1 hb).1
theorem own_on {B : Nat} {W W' : World} {base : Nat} {e : TypeId} {size : Nat} {v : Value} {n : Nat} {xs : List Value} (h : W.ownsRow base e size v n xs) (hb : Below B W W') (hB : ∀ g, v.ownBlock = some g → g < B) : W'.ownsRow base e size v n xs := by
  refine ⟨h.1, ?_⟩
  rcases h.2 with h2 | ⟨g, cap, cur, rfl, hg, hh, r⟩
  · exact .inl h2
  · exact .inr ⟨g, cap, cur, rfl, hg, (hb.block g (hB g rfl)).trans hh, r⟩
theorem own_low {W : World} {b b' : Nat} {e : TypeId} {size : Nat} {v : Value} {n : Nat} {xs : List Value} (h : W.ownsRow b e size v n xs) (hb : b' ≤ b) : W.ownsRow b' e size v n xs := by
  obtain ⟨h1, h2⟩ := h
  refine ⟨h1, ?_⟩
  rcases h2 with h2 | ⟨g, cap, cur, hv, hg, r⟩
  · exact .inl h2
  · exact .inr ⟨g, cap, cur, hv, by omega, r⟩
theorem own_from {W : World} {b : Nat} {e : TypeId} {size : Nat} {v : Value} {n : Nat} {xs : List Value} (h : W.ownsRow b e size v n xs) : ∀ k, v.ownBlock = some k → b ≤ k := by
  intro k hk
  rcases h.2 with ⟨rfl, _⟩ | ⟨g, cap, cur, rfl, hg, _⟩
  · simp [Value.ownBlock] at hk
  · simp [Value.ownBlock] at hk; omega

/-- The world has turned in block b alone. -/
structure Only (b : Nat) (W W' : World) : Prop where
  os : W'.os = W.os
  tape : W'.tape = W.tape
  output : W'.output = W.output
  size : W'.heap.size = W.heap.size
  block : ∀ k, k ≠ b → W'.heap[k]? = W.heap[k]?
theorem Only.refl (b : Nat) (W : World) : Only b W W := ⟨rfl, rfl, rfl, rfl, fun _ _ => rfl⟩
theorem Only.trans {b : Nat} {A B C : World} (h : Only b A B) (k : Only b B C) : Only b A C :=
  ⟨k.os.trans h.os, k.tape.trans h.tape, k.output.trans h.output, k.size.trans h.size, fun i hi => (k.block i hi).trans (h.block i hi)⟩
theorem Only.set {b : Nat} {A B : World} (h : Only b A B) (i : Nat) (v : Value) : Only b A (B.setCell ⟨b, i, none⟩ v) :=
  h.trans ⟨rfl, rfl, rfl, by simp [World.setCell], fun k hk => Below.heap_setCell _ _ _ _ hk⟩
theorem Only.drew {b : Nat} {A B : World} (h : Only b A B) : Only b A B.drew := ⟨h.os, h.tape, h.output, h.size, h.block⟩
theorem Only.below {b B : Nat} {W W' : World} (h : Only b W W') (hB : B ≤ b) : Below B W W' :=
  ⟨h.os, h.tape, h.output, Nat.le_of_eq h.size.symm, fun k hk => h.block k (by omega)⟩
theorem Only.blk {b : Nat} {W W' : World} (h : Only b W W') {k : Nat} {c : Array Value} (hk : Blk W k c) (hne : k ≠ b) : Blk W' k c := hk.of_same (h.block k hne) (Nat.le_of_eq h.size.symm)
theorem Only.own {b : Nat} {W W' : World} (ho : Only b W W') {base : Nat} {e : TypeId} {size : Nat} {v : Value} {n : Nat} {xs : List Value} (h : W.ownsRow base e size v n xs) (hne : v.ownBlock ≠ some b) : W'.ownsRow base e size v n xs := by
  refine ⟨h.1, ?_⟩
  rcases h.2 with h2 | ⟨g, cap, cur, rfl, hg, hh, r⟩
  · exact .inl h2
  · exact .inr ⟨g, cap, cur, rfl, hg, (ho.block g (fun e => hne (by rw [e]; rfl))).trans hh, r⟩

theorem infoW : (Try.prog.info? 32).map (fun i => (i.zero, i.size, i.bytes)) = some (some (.agg #[.int .i64 0, .int .i64 0]), 2, 16) := by kernel_rfl

set_option maxHeartbeats 1000000 in
theorem clone_any (v : Value) (ws : List Wd) (w : World) (h : WAt w v ws) (hl : ws.length ≤ 1000000000000) :
    Calls Try.prog 40 #[v] w fun e w' => ∃ v', e = .returned v' ∧ WOwn w' w.heap.size v' ws ∧ Below w.heap.size w w' := by
  obtain ⟨i0, hi, hz0, hz1, hz2⟩ := info_parts infoW
  obtain ⟨a, cap, rfl, hc⟩ := h
  have hfl := flat_len ws
  have hq := fun w a n c n' c' => Lib.run_eql_slice_nil (P := Try.prog) w 33 32 a n c n' c' Try.underlying33
  cases a with
  | none =>
    have hw : ws = [] := by
      rcases ws with _ | ⟨x, xs⟩
      · rfl
      · obtain ⟨b, o, hh, _⟩ := hc (by simp); cases hh
    subst hw
    clear hc
    go_enter Try.func40, Try.ntmps40
    go_wp2
    go_ret
    exact ⟨_, rfl, World.ownsRow_nil _ _ _ _, Below.refl _ _⟩
  | some ad =>
    have hcad : ∀ j u, (flat ws)[j]? = some u → w.cell? (ad.add j) = some u ∧ ad.block < w.heap.size := by
      intro j u hj
      have hlt : 0 < ws.length := by
        rcases ws with _ | ⟨x, xs⟩
        · simp [flat] at hj
        · simp
      obtain ⟨b, o, hh, h2, h3⟩ := hc hlt
      cases hh
      refine ⟨?_, h2⟩
      have := h3 j u hj
      cases j with
      | zero => simpa [Addr.add] using this
      | succ j => simpa [Addr.add] using this
    have Hcad := Lib.hid hcad
    clear hc hcad
    go_enter Try.func40, Try.ntmps40
    go_wp2_with (at_builtin; refine wpList_append_own _ rfl _ _ 33 rfl w.heap.size 32 i0 (.agg #[.int .i64 0, .int .i64 0]) 2 16 Try.underlying33 hi hz0 hz1 hz2 rfl (by decide) _ _ _ rfl (World.ownsRow_made w #[] 0 (Nat.le_refl _) (Nat.zero_le _) (by simp)) ad ws.length cap (flat ws) rfl hfl ?qc2 (flat_one ws) ?qc4 ?qc5 ?qc6 ?_)
    case qc2 =>
      intro j u hj
      obtain ⟨h1, h2⟩ := Hcad.out j u hj
      rw [World.cell?_of_block (w := w) (Below.heap_alloc _ _ _ (by cases j <;> simpa [Addr.add] using h2))]
      exact h1
    case qc4 => unfold maxLen; omega
    case qc5 => omega
    case qc6 => simp
    intro v' w1 hrow hgrow _
    go_wp2
    go_ret
    refine ⟨v', rfl, by simpa using hrow, ?_⟩
    exact ((Below.refl _ w).alloc (Nat.le_refl _) _).grown hgrow (by simp) (fun k e => by simp [Value.ownBlock] at e; omega)

end Go.Proofs.Ytlmljommgmbckaa
