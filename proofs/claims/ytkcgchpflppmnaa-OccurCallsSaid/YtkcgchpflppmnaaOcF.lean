/- Own slices of texts; the names of bindings. -/
import Derived.Test.YtkcgchpflppmnaaOcE
import Derived.OwnWalk
import Derived.Laws.AppendOwn
import Derived.Laws.OwnMore
import Derived.Deep.Slices
import Derived.Deep.Fields
namespace Go.Proofs.Ytkcgchpflppmnaa
open Go.RowKit
set_option linter.unusedSimpArgs false
set_option linter.unusedVariables false

structure Blk (W : World) (b : Nat) (c : Array Value) : Prop where
  lt : b < W.heap.size
  cell : ∀ j, W.cell? ⟨b, j, none⟩ = c[j]?
  free : ∀ j, W.frozen? ⟨b, j, none⟩ = false

theorem Blk.new (W : World) (c : Array Value) (t : TypeId) : Blk (W.alloc (.cells c t)) W.heap.size c := by
  have h := heap_alloc_new W (.cells c t)
  exact ⟨by simp, fun j => by unfold World.cell?; rw [h]; rfl, fun j => by unfold World.frozen?; rw [h]; simp⟩
theorem Blk.of_same {W W' : World} {b : Nat} {c : Array Value} (h : Blk W b c) (he : W'.heap[b]? = W.heap[b]?) (hs : W.heap.size ≤ W'.heap.size) : Blk W' b c :=
  ⟨Nat.lt_of_lt_of_le h.lt hs, fun j => (World.cell?_of_block (w := W) (a := ⟨b, j, none⟩) he).trans (h.cell j), fun j => (World.frozen?_of_block (w := W) (a := ⟨b, j, none⟩) he).trans (h.free j)⟩
theorem Blk.alloc {W : World} {b : Nat} {c : Array Value} (h : Blk W b c) (o : Obj) : Blk (W.alloc o) b c := h.of_same (Below.heap_alloc _ _ _ h.lt) (by simp)
theorem Blk.drew {W : World} {b : Nat} {c : Array Value} (h : Blk W b c) : Blk W.drew b c := h.of_same rfl (Nat.le_refl _)
theorem Blk.drewN {W : World} {b : Nat} {c : Array Value} (h : Blk W b c) (n : Nat) : Blk (W.drewN n) b c := h.of_same rfl (Nat.le_refl _)
theorem Blk.below {B : Nat} {W W' : World} {b : Nat} {c : Array Value} (h : Blk W b c) (hb : Below B W W') (hB : b < B) : Blk W' b c := h.of_same (hb.block b hB) hb.size
theorem Blk.other {W : World} {b : Nat} {c : Array Value} (h : Blk W b c) (a : Addr) (v : Value) (hne : b ≠ a.block) : Blk (W.setCell a v) b c :=
  h.of_same (Below.heap_setCell _ _ _ _ hne) (by simp [World.setCell])
theorem Blk.set {W : World} {b : Nat} {c : Array Value} (h : Blk W b c) (i : Nat) (v : Value) (hi : i < c.size) : Blk (W.setCell ⟨b, i, none⟩ v) b (c.setIfInBounds i v) := by
  refine ⟨by simpa [World.setCell] using h.lt, fun j => ?_, fun j => by rw [World.frozen?_setCell]; exact h.free j⟩
  by_cases e : i = j
  · subst e
    rw [World.cell?_setCell_same' _ _ _ (by rw [h.cell i]; simp [hi]), Array.getElem?_setIfInBounds_self_of_lt hi]
  · rw [World.cell?_setCell_other _ _ _ _ (by simp <;> omega), h.cell j]
    simp [Array.getElem?_setIfInBounds_ne e]

theorem own_shape {W : World} {base : Nat} {e : TypeId} {size : Nat} {v : Value} {n : Nat} {xs : List Value} (h : W.ownsRow base e size v n xs) : ∃ a c, v = .slice a n c := by
  rcases h.2 with ⟨rfl, h0⟩ | ⟨g, cap, _, rfl, _⟩
  · exact ⟨none, 0, by rw [h0]⟩
  · exact ⟨_, _, rfl⟩

theorem own_lt {W : World} {base : Nat} {e : TypeId} {size : Nat} {v : Value} {n : Nat} {xs : List Value} (h : W.ownsRow base e size v n xs) : ∀ g, v.ownBlock = some g → g < W.heap.size := by
  intro g hg
  rcases h.2 with ⟨rfl, _⟩ | ⟨g', cap, cur, rfl, _, hb, _⟩
  · simp [Value.ownBlock] at hg
  · simp [Value.ownBlock] at hg; subst hg; exact (Array.getElem?_eq_some_iff.1 hb).1
theorem own_on {B : Nat} {W W' : World} {base : Nat} {e : TypeId} {size : Nat} {v : Value} {n : Nat} {xs : List Value} (h : W.ownsRow base e size v n xs) (hb : Below B W W') (hB : ∀ g, v.ownBlock = some g → g < B) : W'.ownsRow base e size v n xs := by
  refine ⟨h.1, ?_⟩
  rcases h.2 with h2 | ⟨g, cap, cur, rfl, hg, hh, r⟩
  · exact .inl h2
  · exact .inr ⟨g, cap, cur, rfl, hg, (hb.block g (hB g rfl)).trans hh, r⟩
theorem own_low {W : World} {b b' : Nat} {e : TypeId} {size : Nat} {v : Value} {n : Nat} {xs : List Value} (h : W.ownsRow b e size v n xs) (hb : b' ≤ b) : W.ownsRow b' e size v n xs := by
  obtain ⟨h1, h2⟩ := h
  refine ⟨h1, ?_⟩
  rcases h2 with h2 | ⟨g, cap, cur, hv, hg, r⟩
  · exact .inl h2
  · exact .inr ⟨g, cap, cur, hv, by omega, r⟩
theorem own_from {W : World} {b : Nat} {e : TypeId} {size : Nat} {v : Value} {n : Nat} {xs : List Value} (h : W.ownsRow b e size v n xs) : ∀ k, v.ownBlock = some k → b ≤ k := by
  intro k hk
  rcases h.2 with ⟨rfl, _⟩ | ⟨g, cap, cur, rfl, hg, _⟩
  · simp [Value.ownBlock] at hk
  · simp [Value.ownBlock] at hk; omega
theorem infoS : (Try.prog.info? 9).map (fun i => (i.zero, i.size, i.bytes)) = some (some (.string ⟨#[]⟩), 1, 16) := by kernel_rfl
def strV (l : List ByteArray) : List Value := l.map .string
/-- Texts in a block of its own. -/
def SOwn (W : World) (B : Nat) (v : Value) (l : List ByteArray) : Prop := W.ownsRow B 9 1 v l.length (strV l)
theorem SOwn.txs {W : World} {B : Nat} {v : Value} {l : List ByteArray} (h : SOwn W B v l) : Txs W v l := by
  rcases h.2 with ⟨rfl, h0⟩ | ⟨g, cap, cur, rfl, _, hh, hc, _, hsz, ht⟩
  · exact ⟨none, 0, by rw [h0], fun h => by omega⟩
  · refine ⟨_, cap, rfl, fun _ => ⟨g, 0, rfl, (Array.getElem?_eq_some_iff.1 hh).1, fun k x hx => ?_⟩⟩
    have hk : k < l.length := (List.getElem?_eq_some_iff.1 hx).1
    have h1 : (strV l)[k]? = some (.string x) := by unfold strV; rw [List.getElem?_map, hx]; rfl
    rw [← ht, List.getElem?_take_of_lt (by omega)] at h1
    unfold World.cell?
    simp only [Nat.mul_one, Nat.zero_add, hh]
    simpa using h1
/-- The names of bindings. -/
def BNs (W : World) (v : Value) (l : List ByteArray) : Prop :=
  SlAt W 8 (fun b o x => ∃ (k m : Int) (nm : ByteArray) (p q r s : Option Addr) (p1 p2 q1 q2 r1 r2 s1 s2 : Nat), CellsAt W b o [.string x, .int .i64 k, .string nm, .int .i64 m, .slice p p1 p2, .slice q q1 q2, .slice r r1 r2, .slice s s1 s2]) v l
theorem names_of {d : Nat} {W : World} {bs : Value} {l : List (ByteArray × Ex d)} (h : SlAt W 8 (fun b o x => W.cell? ⟨b, o, none⟩ = some (.string x.1) ∧ ExAt W d b (o + 1) x.2) bs l) : BNs W bs (l.map (·.1)) := by
  obtain ⟨a, cap, rfl, hc⟩ := h
  refine ⟨a, cap, by rw [List.length_map], fun hl => ?_⟩
  obtain ⟨b, o, rfl, hb, hat⟩ := hc (by simpa using hl)
  refine ⟨b, o, rfl, hb, fun k x hx => ?_⟩
  rw [List.getElem?_map] at hx
  rcases hk : l[k]? with _ | y
  · rw [hk] at hx; simp at hx
  · rw [hk] at hx
    obtain rfl : y.1 = x := by simpa using hx
    obtain ⟨h1, h2⟩ := hat k y hk
    cases d with
    | zero => exact nomatch (y.2 : Empty)
    | succ d =>
      obtain ⟨cs, h3, _, _, _, _, rfl, ⟨p, p2, rfl, _⟩, ⟨q, q2, rfl, _⟩, ⟨r, r2, rfl, _⟩, ⟨s, s2, rfl, _⟩⟩ := h2
      obtain ⟨z, hz⟩ : ∃ z : ExN (Ex d), z = y.2 := ⟨_, rfl⟩
      rw [← hz] at h3
      refine ⟨z.kind, z.num, z.name, p, q, r, s, z.params.length, p2, z.binds.length, q2, z.args.length, r2, z.alts.length, s2, fun j c hj => ?_⟩
      cases j with
      | zero => obtain rfl : .string y.1 = c := by simpa using hj
                exact h1
      | succ j =>
        have := h3 j c (by simpa using hj)
        rw [show o + k * 8 + (j + 1) = o + k * 8 + 1 + j by omega]
        exact this

set_option maxRecDepth 100000 in
set_option maxHeartbeats 8000000 in
theorem bindNames_any (v : Value) (l : List ByteArray) (w : World) (h : BNs w v l) (hn : l.length ≤ 10000000) :
    Calls Try.prog 45 #[v] w fun e w' => ∃ v', e = .returned v' ∧ SOwn w' w.heap.size v' l ∧ Below w.heap.size w w' := by
  obtain ⟨a, ca, rfl, ha⟩ := h
  obtain ⟨N, hN⟩ : ∃ N, l.length = N := ⟨_, rfl⟩
  have HN := Lib.hid hN
  rw [hN] at hn ⊢
  have Ha := Lib.hid ha
  obtain ⟨i0, hi, hz0, hz1, hz2⟩ := info_parts infoS
  clear ha hN
  go_enter Try.func45, Try.ntmps45
  go_wp2
  go_loopw [3, 4] (fun v i wr => ∃ k : Nat, i = .int .i64 k ∧ k ≤ N ∧ Hid (SOwn wr w.heap.size v (l.take k)) ∧ Below w.heap.size w wr) (fun _ i _ => N - (intOf i).toNat)
  case atStart => exact ⟨0, rfl, Nat.zero_le _, Lib.hid (World.ownsRow_nil _ _ _ _), Below.refl _ _⟩
  case round =>
    obtain ⟨k, rfl, hk, HO, hB⟩ := hrel
    by_cases hlt : k < N
    · have hlt2 : decide ((k : Int) < (N : Int)) = true := by simp; omega
      have hlt3 : decide (k < N) = true := by simp; omega
      have hkt : k < l.length := by rw [HN.out]; exact hlt
      obtain ⟨p, o, rfl, hp, hat⟩ := Ha.out (by omega)
      obtain ⟨x, hx⟩ : ∃ x, l[k]? = some x := ⟨_, List.getElem?_eq_getElem hkt⟩
      obtain ⟨_, _, _, _, _, _, _, _, _, _, _, _, _, _, _, hcs⟩ := hat k x hx
      have c0 := (hB.cell (p := ⟨p, o + k * 8 + 0, none⟩) hp).trans (hcs 0 _ rfl)
      rw [Nat.add_zero] at c0
      have hi0 : (0 : Int) ≤ (k : Int) := by omega
      have HX := Lib.hid hx
      have hlen : (l.take k).length = k := by rw [List.length_take, HN.out]; omega
      have HLen := Lib.hid hlen
      have hs := hB.size
      have HB := Lib.hid hB
      clear hat hx hcs hlen
      go_wp2_with (at_builtin; refine wpList_append_own _ rfl _ _ 24 rfl w.heap.size 9 i0 (.string ⟨#[]⟩) 1 16 Try.underlying24 hi hz0 hz1 hz2 rfl (by decide) _ (l.take k).length (strV (l.take k)) rfl (HO.out.alloc _) ⟨wr.heap.size, 0, none⟩ 1 1 [.string x] rfl rfl ?news (by intro u hu; simp at hu; subst hu; rfl) (by rw [HLen.out]; unfold maxLen; omega) (by rw [HLen.out]; omega) (by simp; omega) ?_)
      case news =>
        intro j u hj
        have := (Blk.new wr #[.string x] 9).cell j
        rw [show (⟨wr.heap.size, 0, none⟩ : Addr).add j = ⟨wr.heap.size, j, none⟩ from by unfold Addr.add; split <;> simp_all]
        rw [this]
        simpa using hj
      intro v' w6 o6 g6 n6
      have e6 : l.take (k + 1) = l.take k ++ [x] := by rw [List.take_add_one, HX.out]; rfl
      have B6 : Below w.heap.size w w6 := (HB.out.alloc hs _).grown g6 (by simp; omega) (fun i e => own_from HO.out i e)
      have HO6 := Lib.hid (show SOwn w6 w.heap.size v' (l.take (k + 1)) by
        unfold SOwn strV
        rw [e6, List.length_append, List.map_append, List.length_take]
        exact o6)
      clear o6 g6 n6 e6
      go_wp2
      go_roundw
      case rel => exact ⟨k + 1, by go_num, by omega, HO6, B6⟩
      case measure => simp [intOf]; omega
    · have hlt2 : decide ((k : Int) < (N : Int)) = false := by simp; omega
      have hlt3 : decide (k < N) = false := by simp; omega
      obtain rfl : k = N := by omega
      have HO := Lib.hid (show SOwn wr w.heap.size _ l by have := HO.out; rwa [take_all HN.out] at this)
      go_wp2
      go_ret
      exact ⟨_, rfl, HO.out, hB⟩
end Go.Proofs.Ytkcgchpflppmnaa
