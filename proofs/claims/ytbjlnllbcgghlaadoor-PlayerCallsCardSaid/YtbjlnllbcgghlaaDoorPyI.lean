/- Bytes in a block of its own; the words and the play. -/
import Derived.Test.YtbjlnllbcgghlaaDoorPyH
namespace Go.Proofs.YtbjlnllbcgghlaaDoor
open Go.RowKit Go.Shelf
set_option linter.unusedSimpArgs false
set_option linter.unusedVariables false

def byRow (c : UInt8) : List Value := [.int .u8 (c.toNat : Int)]
def UOwn (W : World) (B : Nat) (v : Value) (l : List UInt8) : Prop := ROwn W B 5 1 v (l.map byRow)
theorem UOwn.nil (W : World) (B : Nat) : UOwn W B (.slice none 0 0) [] := ROwn.nil _ _ _ _
theorem UOwn.below {W W' : World} {B : Nat} {v : Value} {l : List UInt8} (h : UOwn W B v l) (hb : Below W.heap.size W W') : UOwn W' B v l := ROwn.below h hb
theorem UOwn.shape {W : World} {B : Nat} {v : Value} {l : List UInt8} (h : UOwn W B v l) : ∃ a c, v = .slice a l.length c := by
  obtain ⟨a, c, hv⟩ := own_shape h
  exact ⟨a, c, by rw [hv, List.length_map]⟩
theorem UOwn.set {W : World} {B : Nat} {v : Value} {l : List UInt8} (h : UOwn W B v l) {b : Nat} (hb : b < B) (o : Nat) (x : Value) : UOwn (W.setCell ⟨b, o, none⟩ x) B v l := by
  refine ⟨h.1, ?_⟩
  rcases h.2 with h2 | ⟨g, cap, cur, hv, hg, hh, r⟩
  · exact .inl h2
  · exact .inr ⟨g, cap, cur, hv, hg, (Below.heap_setCell _ _ _ _ (by simp; omega)).trans hh, r⟩
theorem infoU8 : (Tryd.prog.info? 5).map (fun i => (i.zero, i.size, i.bytes)) = some (some (.int .u8 0), 1, 1) := by kernel_rfl
theorem byRow_flat (l : List UInt8) : (l.map byRow).flatten = l.map fun c => Value.int .u8 (c.toNat : Int) := by
  induction l with
  | nil => rfl
  | cons c l ih => rw [List.map_cons, List.flatten_cons, ih]; rfl
theorem UOwn.push {W : World} {B : Nat} {v : Value} {l : List UInt8} (h : UOwn W B v l) (ty : TypeId) (a o c : Nat) (new : List UInt8) (hn : ∀ j x, new[j]? = some x → W.cell? ⟨a, o + j, none⟩ = some (.int .u8 (x.toNat : Int))) (hl : l.length + new.length ≤ 100000000) (hB : B ≤ W.heap.size) :
    ∃ v' W', (Builtin.append_ #[32, 32] ty #[v, .slice (some ⟨a, o, none⟩) new.length c]).run Tryd.prog W = .ok v' W' ∧ UOwn W' B v' (l ++ new) ∧ W.grownBy W' v.ownBlock ∧ Below B W W' ∧ (v'.ownBlock = v.ownBlock ∨ v'.ownBlock = some W.heap.size) := by
  obtain ⟨i0, hi, hz0, hz1, hz2⟩ := info_parts infoU8
  obtain ⟨v', W', k1, k2, k3, k4, k5⟩ := ROwn.push h ty (i := i0) (z := .int .u8 0) Tryd.underlying32 hi hz0 hz1 hz2 rfl (by decide) a o new.length c (new.map byRow) (by simp) (fun r hr => by obtain ⟨x, _, rfl⟩ := List.mem_map.1 hr; rfl) (fun j u hj => by
    rw [byRow_flat, List.getElem?_map] at hj
    rcases hx : new[j]? with _ | x
    · rw [hx] at hj; cases hj
    · rw [hx] at hj
      obtain rfl : Value.int .u8 (x.toNat : Int) = u := by simpa using hj
      exact hn j x hx) (fun r hr u hu => by obtain ⟨x, _, rfl⟩ := List.mem_map.1 hr; simp [byRow] at hu; subst hu; rfl) (by rw [List.length_map]; omega) (by rw [List.length_map]; unfold maxLen; omega) hB
  refine ⟨v', W', k1, ?_, k3, k4 hB, k5⟩
  unfold UOwn
  rw [List.map_append]
  exact k2
/-- One byte put behind, made just now. -/
theorem UOwn.one {w : World} {B : Nat} {v : Value} {l : List UInt8} (h : UOwn w B v l) (n : Int) (h0 : 0 ≤ n) (h1 : n ≤ 255) (hl : l.length ≤ 10000000) (hB : B ≤ w.heap.size) :
    ∃ v' W', (Builtin.append_ #[32, 32] 32 #[v, .slice (some ⟨w.heap.size, 0, none⟩) 1 1]).run Tryd.prog (w.alloc (.cells #[.int .u8 n] 5)) = .ok v' W' ∧ UOwn W' B v' (l ++ [UInt8.ofNat n.toNat]) ∧ Below B w W' := by
  have ha : Below w.heap.size w (w.alloc (.cells #[.int .u8 n] 5)) := (Below.refl _ w).alloc (Nat.le_refl _) _
  have R := Blk.new w #[.int .u8 n] 5
  obtain ⟨v', W', k1, k2, k3, k4, k5⟩ := UOwn.push (h.below ha) 32 w.heap.size 0 1 [UInt8.ofNat n.toNat] (fun j x hx => by
    match j with
    | 0 =>
      simp at hx
      subst hx
      rw [Nat.add_zero, R.cell 0]
      have e : ((UInt8.ofNat n.toNat).toNat : Int) = n := by simp; omega
      rw [e]; rfl
    | j + 1 => simp at hx) (by simp; omega) (by simp; omega)
  exact ⟨v', W', k1, k2, (ha.mono hB).trans k4⟩
theorem UOwn.held {W : World} {B : Nat} {v : Value} {l : List UInt8} (h : UOwn W B v l) : Held B W.heap.size W (fun W => Bts W v l) := by
  refine ⟨Nat.le_refl _, fun W' hm hb => ?_⟩
  have h0 : W.ownsRow B 5 1 v (l.map byRow).length (l.map byRow).flatten := h
  obtain ⟨a, c, hv⟩ := UOwn.shape h
  refine ⟨a, c, hv, fun hl => ?_⟩
  rcases h0.2 with ⟨_, h2⟩ | ⟨g, cap, cc, hv2, hg, hh, _⟩
  · simp at h2; subst h2; simp at hl
  · rw [hv] at hv2
    simp only [Value.slice.injEq] at hv2
    obtain ⟨rfl, -, rfl⟩ := hv2
    subst hv
    have hgl : g < W.heap.size := (Array.getElem?_eq_some_iff.1 hh).1
    refine ⟨g, 0, rfl, by omega, fun k x hx => ?_⟩
    have := World.ownsRow.cells h0 (g := g) rfl k (.int .u8 (x.toNat : Int)) (by rw [byRow_flat, List.getElem?_map, hx]; rfl)
    rw [show (⟨g, 0, none⟩ : Addr).add k = ⟨g, k, none⟩ from by unfold Addr.add; split <;> simp_all] at this
    rw [show 0 + k * 1 = k by omega]
    exact (World.cell?_of_block (w := W) (a := ⟨g, k, none⟩) (hb g hg hgl)).trans this

/-! The play of the words. -/
def mkW (l : List UInt8) : ByteArray := ⟨l.toArray⟩
theorem mkW_inj {a b : List UInt8} (h : mkW a = mkW b) : a = b := by
  have := congrArg (fun x : ByteArray => x.data.toList) h
  simpa [mkW] using this
theorem fine_zero {x : PlD} (h : fineK x = true) : (x.kind ≠ 3 → x.n = 0) ∧ (x.kind ≠ 1 → x.bytes = []) := by
  unfold fineK at h
  simp only [Bool.and_eq_true, decide_eq_true_eq, Bool.or_eq_true, List.isEmpty_iff] at h
  obtain ⟨⟨-, h1⟩, h2⟩ := h
  refine ⟨fun h => ?_, fun h => ?_⟩
  · rw [if_neg h] at h2; simpa using h2
  · rcases h1 with h1 | h1
    · exact absurd h1 h
    · exact h1
theorem play_feed {x : PlD} (h : fineK x = true) (hw : (wordsK x).1 = [102, 101, 101, 100]) : x = ⟨1, 0, x.bytes⟩ ∧ (wordsK x).2 = x.bytes.map hexK := by
  obtain ⟨h1, h2⟩ := fine_zero h
  obtain ⟨k, n, bs⟩ := x
  rcases fine_kind h with e | e | ⟨e, -, -⟩ | e | e <;> (simp only at e; subst e) <;> simp [wordsK] at hw
  · have := h1 (fun e => by cases e)
    simp only at this
    subst this
    exact ⟨rfl, rfl⟩
theorem play_run {x : PlD} (h : fineK x = true) (hw : (wordsK x).1 = [114, 117, 110]) : x = ⟨3, x.n, []⟩ ∧ (wordsK x).2 = [Lib.itoa x.n] ∧ 0 ≤ x.n ∧ x.n ≤ 1048576 := by
  obtain ⟨h1, h2⟩ := fine_zero h
  obtain ⟨k, n, bs⟩ := x
  rcases fine_kind h with e | e | ⟨e, r1, r2⟩ | e | e <;> (simp only at e; subst e) <;> simp [wordsK] at hw
  · have := h2 (fun e => by cases e)
    simp only at this
    subst this
    exact ⟨rfl, rfl, r1, r2⟩
theorem play_end {x : PlD} (h : fineK x = true) (hw : (wordsK x).1 = [101, 110, 100]) : x = ⟨2, 0, []⟩ := by
  obtain ⟨h1, h2⟩ := fine_zero h
  obtain ⟨k, n, bs⟩ := x
  rcases fine_kind h with e | e | ⟨e, -, -⟩ | e | e <;> (simp only at e; subst e) <;> simp [wordsK] at hw
  · have k1 := h1 (fun e => by cases e)
    have k2 := h2 (fun e => by cases e)
    simp only at k1 k2
    subst k1; subst k2; rfl
theorem play_minor {x : PlD} (h : fineK x = true) (hw : (wordsK x).1 = [109, 105, 110, 111, 114]) : x = ⟨4, 0, []⟩ := by
  obtain ⟨h1, h2⟩ := fine_zero h
  obtain ⟨k, n, bs⟩ := x
  rcases fine_kind h with e | e | ⟨e, -, -⟩ | e | e <;> (simp only at e; subst e) <;> simp [wordsK] at hw
  · have k1 := h1 (fun e => by cases e)
    have k2 := h2 (fun e => by cases e)
    simp only at k1 k2
    subst k1; subst k2; rfl
theorem play_major {x : PlD} (h : fineK x = true) (hw : (wordsK x).1 = [109, 97, 106, 111, 114]) : x = ⟨5, 0, []⟩ := by
  obtain ⟨h1, h2⟩ := fine_zero h
  obtain ⟨k, n, bs⟩ := x
  rcases fine_kind h with e | e | ⟨e, -, -⟩ | e | e <;> (simp only at e; subst e) <;> simp [wordsK] at hw
  · have k1 := h1 (fun e => by cases e)
    have k2 := h2 (fun e => by cases e)
    simp only at k1 k2
    subst k1; subst k2; rfl
theorem play_none {x : PlD} (h : fineK x = true) : (wordsK x).1 = [102, 101, 101, 100] ∨ (wordsK x).1 = [114, 117, 110] ∨ (wordsK x).1 = [101, 110, 100] ∨ (wordsK x).1 = [109, 105, 110, 111, 114] ∨ (wordsK x).1 = [109, 97, 106, 111, 114] := by
  obtain ⟨k, n, bs⟩ := x
  rcases fine_kind h with e | e | ⟨e, -, -⟩ | e | e <;> (simp only at e; subst e) <;> simp [wordsK]
/-- What the split says of a fine play's line. -/
theorem ws_of {s : ByteArray} {ws : List ByteArray} (h : ∀ w0 rest, noSp w0 rest → s = joined w0 rest → ws = (w0 :: rest).map (fun l => (⟨l.toArray⟩ : ByteArray))) {x : PlD} (hf : fineK x = true) (hs : s = mkW (lineK x)) : ws = mkW (wordsK x).1 :: (wordsK x).2.map mkW :=
  h _ _ (words_ok hf).1 (hs.trans (words_ok hf).2)
end Go.Proofs.YtbjlnllbcgghlaaDoor
