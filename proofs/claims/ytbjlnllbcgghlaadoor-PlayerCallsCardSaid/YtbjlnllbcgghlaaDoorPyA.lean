/- Slices of things in memory, blocks, own rows: what all of layer 27 stands on. (Turned from the like texts of layer 16.) -/
import Derived.ProofKit
import Derived.OpenShut
import Derived.Carry
import Derived.Lib.Hide
import Derived.Test.YtbjlnllbcgghlaaDoorProg
import Derived.OwnWalk
import Derived.Laws.AppendOwn
import Derived.Laws.OwnMore
import Derived.Laws.MakeOwn
import Derived.Maps.AppendAt
import Derived.Deep.Slices
import Derived.Deep.Fields
import Derived.ChangeArms
import Derived.SizedLaws
import Derived.Deep.Strs
import Derived.ChangeShapes
import Derived.WalkSpells
import Derived.WalkSmall
import Derived.Deep.RegionHeld3
import Derived.Deep.RegionWith
import Derived.Deep.QuietTactic
import Derived.BigQuiet
import Derived.BigRegion
import Derived.Outline
import Derived.Deep.Cut
import Derived.StillTailTactics
import Derived.Deep.DeepCutAuto
import Derived.Deep.CutBlock
namespace Go.Proofs.YtbjlnllbcgghlaaDoor
open Go.RowKit
set_option linter.unusedSimpArgs false
set_option linter.unusedVariables false

instance lawfulBytes : LawfulBEq ByteArray where
  eq_of_beq {a b} h := by
    cases a with | mk a => cases b with | mk b => exact congrArg ByteArray.mk (eq_of_beq (α := Array UInt8) h)
  rfl {a} := by cases a with | mk a => exact beq_self_eq_true (a : Array UInt8)

/-- A slice of what R says, each of so many cells. -/
def SlAt {β : Type} (W : World) (sz : Nat) (R : Nat → Nat → β → Prop) (v : Value) (l : List β) : Prop :=
  ∃ (a : Option Addr) (cap : Nat), v = .slice a l.length cap ∧ (0 < l.length → ∃ b o, a = some ⟨b, o, none⟩ ∧ b < W.heap.size ∧ ∀ k x, l[k]? = some x → R b (o + k * sz) x)
theorem SlAt.mono {β : Type} {W W' : World} {sz : Nat} {R R' : Nat → Nat → β → Prop} {v : Value} {l : List β} (h : SlAt W sz R v l) (hs : W.heap.size ≤ W'.heap.size) (hR : ∀ b o x, b < W.heap.size → x ∈ l → R b o x → R' b o x) : SlAt W' sz R' v l := by
  obtain ⟨a, cap, hv, hc⟩ := h
  refine ⟨a, cap, hv, fun hl => ?_⟩
  obtain ⟨b, o, h1, h2, h3⟩ := hc hl
  exact ⟨b, o, h1, Nat.lt_of_lt_of_le h2 hs, fun k x hx => hR b _ x h2 (List.mem_of_getElem? hx) (h3 k x hx)⟩
/-- Cells that stand behind one another. -/
def CellsAt (W : World) (b o : Nat) (l : List Value) : Prop := ∀ j c, l[j]? = some c → W.cell? ⟨b, o + j, none⟩ = some c
theorem CellsAt.below {W W' : World} {b o : Nat} {l : List Value} (h : CellsAt W b o l) (hb : Below W.heap.size W W') (hl : b < W.heap.size) : CellsAt W' b o l :=
  fun j c hj => (hb.cell (p := ⟨b, o + j, none⟩) hl).trans (h j c hj)
theorem chain {w a b : World} (h : Below w.heap.size w a) (k : Below a.heap.size a b) : Below w.heap.size w b := h.trans (k.mono h.size)
theorem toList_ne {x s : ByteArray} (e : x ≠ s) : (x.toList == s.toList) = false := by
  rw [beq_eq_false_iff_ne, ByteArray.toList_eq, ByteArray.toList_eq]
  intro h
  refine e ?_
  cases x with | mk x => cases s with | mk s => exact congrArg ByteArray.mk (Array.toList_inj.1 h)
structure Blk (W : World) (b : Nat) (c : Array Value) : Prop where
  lt : b < W.heap.size
  cell : ∀ j, W.cell? ⟨b, j, none⟩ = c[j]?
  free : ∀ j, W.frozen? ⟨b, j, none⟩ = false

theorem Blk.new (W : World) (c : Array Value) (t : TypeId) : Blk (W.alloc (.cells c t)) W.heap.size c := by
  have h := heap_alloc_new W (.cells c t)
  exact ⟨by simp, fun j => by unfold World.cell?; rw [h]; rfl, fun j => by unfold World.frozen?; rw [h]; simp⟩
theorem Blk.of_same {W W' : World} {b : Nat} {c : Array Value} (h : Blk W b c) (he : W'.heap[b]? = W.heap[b]?) (hs : W.heap.size ≤ W'.heap.size) : Blk W' b c :=
  ⟨Nat.lt_of_lt_of_le h.lt hs, fun j => (World.cell?_of_block (w := W) (a := ⟨b, j, none⟩) he).trans (h.cell j), fun j => (World.frozen?_of_block (w := W) (a := ⟨b, j, none⟩) he).trans (h.free j)⟩
theorem Blk.alloc {W : World} {b : Nat} {c : Array Value} (h : Blk W b c) (o : Obj) : Blk (W.alloc o) b c := h.of_same (Below.heap_alloc _ _ _ h.lt) (by simp)
theorem Blk.drew {W : World} {b : Nat} {c : Array Value} (h : Blk W b c) : Blk W.drew b c := h.of_same rfl (Nat.le_refl _)
theorem Blk.drewN {W : World} {b : Nat} {c : Array Value} (h : Blk W b c) (n : Nat) : Blk (W.drewN n) b c := h.of_same rfl (Nat.le_refl _)
theorem Blk.below {B : Nat} {W W' : World} {b : Nat} {c : Array Value} (h : Blk W b c) (hb : Below B W W') (hB : b < B) : Blk W' b c := h.of_same (hb.block b hB) hb.size
theorem Blk.other {W : World} {b : Nat} {c : Array Value} (h : Blk W b c) (a : Addr) (v : Value) (hne : b ≠ a.block) : Blk (W.setCell a v) b c :=
  h.of_same (Below.heap_setCell _ _ _ _ hne) (by simp [World.setCell])
theorem Blk.set {W : World} {b : Nat} {c : Array Value} (h : Blk W b c) (i : Nat) (v : Value) (hi : i < c.size) : Blk (W.setCell ⟨b, i, none⟩ v) b (c.setIfInBounds i v) := by
  refine ⟨by simpa [World.setCell] using h.lt, fun j => ?_, fun j => by rw [World.frozen?_setCell]; exact h.free j⟩
  by_cases e : i = j
  · subst e
    rw [World.cell?_setCell_same' _ _ _ (by rw [h.cell i]; simp [hi]), Array.getElem?_setIfInBounds_self_of_lt hi]
  · rw [World.cell?_setCell_other _ _ _ _ (by simp <;> omega), h.cell j]
    simp [Array.getElem?_setIfInBounds_ne e]

theorem own_shape {W : World} {base : Nat} {e : TypeId} {size : Nat} {v : Value} {n : Nat} {xs : List Value} (h : W.ownsRow base e size v n xs) : ∃ a c, v = .slice a n c := by
  rcases h.2 with ⟨rfl, h0⟩ | ⟨g, cap, _, rfl, _⟩
  · exact ⟨none, 0, by rw [h0]⟩
  · exact ⟨_, _, rfl⟩

theorem own_lt {W : World} {base : Nat} {e : TypeId} {size : Nat} {v : Value} {n : Nat} {xs : List Value} (h : W.ownsRow base e size v n xs) : ∀ g, v.ownBlock = some g → g < W.heap.size := by
  intro g hg
  rcases h.2 with ⟨rfl, _⟩ | ⟨g', cap, cur, rfl, _, hb, _⟩
  · simp [Value.ownBlock] at hg
  · simp [Value.ownBlock] at hg; subst hg; exact (Array.getElem?_eq_some_iff.1 hb).1
theorem own_on {B : Nat} {W W' : World} {base : Nat} {e : TypeId} {size : Nat} {v : Value} {n : Nat} {xs : List Value} (h : W.ownsRow base e size v n xs) (hb : Below B W W') (hB : ∀ g, v.ownBlock = some g → g < B) : W'.ownsRow base e size v n xs := by
  refine ⟨h.1, ?_⟩
  rcases h.2 with h2 | ⟨g, cap, cur, rfl, hg, hh, r⟩
  · exact .inl h2
  · exact .inr ⟨g, cap, cur, rfl, hg, (hb.block g (hB g rfl)).trans hh, r⟩
theorem own_low {W : World} {b b' : Nat} {e : TypeId} {size : Nat} {v : Value} {n : Nat} {xs : List Value} (h : W.ownsRow b e size v n xs) (hb : b' ≤ b) : W.ownsRow b' e size v n xs := by
  obtain ⟨h1, h2⟩ := h
  refine ⟨h1, ?_⟩
  rcases h2 with h2 | ⟨g, cap, cur, hv, hg, r⟩
  · exact .inl h2
  · exact .inr ⟨g, cap, cur, hv, by omega, r⟩
theorem own_from {W : World} {b : Nat} {e : TypeId} {size : Nat} {v : Value} {n : Nat} {xs : List Value} (h : W.ownsRow b e size v n xs) : ∀ k, v.ownBlock = some k → b ≤ k := by
  intro k hk
  rcases h.2 with ⟨rfl, _⟩ | ⟨g, cap, cur, rfl, hg, _⟩
  · simp [Value.ownBlock] at hk
  · simp [Value.ownBlock] at hk; omega
/-- Rows of cells, one behind the other, in a block of its own. -/
def ROwn (W : World) (B : Nat) (t : TypeId) (sz : Nat) (v : Value) (rows : List (List Value)) : Prop := W.ownsRow B t sz v rows.length rows.flatten
theorem ROwn.nil (W : World) (B : Nat) (t : TypeId) (sz : Nat) : ROwn W B t sz (.slice none 0 0) [] := World.ownsRow_nil _ _ _ _
theorem ROwn.below {W W' : World} {B : Nat} {t : TypeId} {sz : Nat} {v : Value} {rows : List (List Value)} (h : ROwn W B t sz v rows) (hb : Below W.heap.size W W') : ROwn W' B t sz v rows :=
  own_on h hb (own_lt h)
theorem ROwn.push {W : World} {B : Nat} {t : TypeId} {sz bytes : Nat} {v : Value} {rows : List (List Value)} (h : ROwn W B t sz v rows) {st : TypeId} (ty : TypeId) {i : TypeInfo} {z : Value}
    (ht : Tryd.prog.underlying st = some (.slice t)) (hi : Tryd.prog.info? t = some i) (hz : i.zero = some z) (hsize : i.size = sz) (hby : i.bytes = bytes) (hzs : z.cells.size = sz) (hsz : 0 < sz)
    (a : Nat) (o : Nat) (m c : Nat) (news : List (List Value)) (hm : news.length = m) (hrow : ∀ r ∈ news, r.length = sz) (hnews : ∀ j u, news.flatten[j]? = some u → W.cell? ⟨a, o + j, none⟩ = some u) (h1 : ∀ r ∈ news, ∀ u ∈ r, u.oneCell' = true)
    (hl : (rows.length + m) * bytes ≤ 140737488355328) (hl2 : rows.length + m ≤ maxLen) (hB : B ≤ W.heap.size) :
    ∃ v' W', (Builtin.append_ #[st, st] ty #[v, .slice (some ⟨a, o, none⟩) m c]).run Tryd.prog W = .ok v' W' ∧ ROwn W' B t sz v' (rows ++ news) ∧ W.grownBy W' v.ownBlock ∧ (B ≤ W.heap.size → Below B W W') ∧ (v'.ownBlock = v.ownBlock ∨ v'.ownBlock = some W.heap.size) := by
  have hfl : ∀ (l : List (List Value)), (∀ r ∈ l, r.length = sz) → l.flatten.length = l.length * sz := by
    intro l
    induction l with
    | nil => intro _; simp
    | cons r l ih => intro hh; rw [List.flatten_cons, List.length_append, ih (fun r hr => hh r (List.mem_cons_of_mem _ hr)), hh r (List.mem_cons_self ..), List.length_cons, Nat.add_mul]; omega
  obtain ⟨v', w', hr, h2, h3, _, h5⟩ := run_append_own_at (P := Tryd.prog) W B st ty t i z sz bytes ht hi hz hsize hby hzs hsz v rows.length rows.flatten h ⟨a, o, none⟩ m c news.flatten (by rw [hfl news hrow, hm])
    (fun j u hj => by have := hnews j u hj; unfold Addr.add; split
                      · next e => subst e; exact this
                      · exact this)
    (fun u hu => by obtain ⟨r, hr, hu⟩ := List.mem_flatten.1 hu; exact h1 r hr u hu) hl2 hl hB
  refine ⟨v', w', hr, ?_, h3, fun hBB => Below.refl B W |>.grown h3 hBB (fun g e => own_from h g e), h5⟩
  unfold ROwn
  rw [List.length_append, List.flatten_append, hm]
  exact h2

/-- What is still to come of a loop. -/
theorem drop_next {β γ : Type} (f : β → List γ) {l : List β} {k : Nat} {x : β} (hx : l[k]? = some x) : (l.drop k).flatMap f = f x ++ (l.drop (k + 1)).flatMap f := by
  obtain ⟨hk, rfl⟩ := List.getElem?_eq_some_iff.1 hx
  rw [List.drop_eq_getElem_cons hk, List.flatMap_cons]
theorem drop_end {β γ : Type} (f : β → List γ) {l : List β} {n : Nat} (h : l.length = n) : (l.drop n).flatMap f = [] := by
  subst h; rw [List.drop_length]; rfl
theorem step_next {β γ : Type} (f : β → List γ) {l : List β} {k : Nat} {x : β} (hx : l[k]? = some x) {cur R T : List γ} (h : cur ++ ((l.drop k).flatMap f ++ R) = T) : (cur ++ f x) ++ ((l.drop (k + 1)).flatMap f ++ R) = T := by
  rw [← h, drop_next f hx]; simp only [List.append_assoc]
theorem step_in {β γ : Type} (f : β → List γ) {l : List β} {k : Nat} {x : β} (hx : l[k]? = some x) {cur R T : List γ} (h : cur ++ ((l.drop k).flatMap f ++ R) = T) : cur ++ (f x ++ ((l.drop (k + 1)).flatMap f ++ R)) = T := by
  rw [← h, drop_next f hx]; simp only [List.append_assoc]
theorem step_end {β γ : Type} (f : β → List γ) {l : List β} {n : Nat} (hn : l.length = n) {cur R T : List γ} (h : cur ++ ((l.drop n).flatMap f ++ R) = T) : cur ++ R = T := by
  rw [← h, drop_end f hn]; rfl
theorem step_len {β γ : Type} (f : β → List γ) {l : List β} {k : Nat} {x : β} (hx : l[k]? = some x) {cur R T : List γ} (h : cur ++ ((l.drop k).flatMap f ++ R) = T) : cur.length + (f x).length ≤ T.length := by
  rw [← step_next f hx h]; simp only [List.length_append]; omega
/-- append, whatever its run is known to be. -/
theorem wpList_append_run {w : World} {ops : Array Oper} {rest : List Oper} {o : Oper} {a : Act} {Q : Exit → Act → World → Prop} (hgd : o.guard = none) (s x : Operand) (t1 t2 : TypeId) (ho : o.op = .call { callee := .builtin .append, args := #[s, x], argTypes := #[t1, t2] })
    (v1 v2 v : Value) (w' : World) (hs : a.eval s = v1) (hx : a.eval x = v2) (hrun : (Builtin.append_ #[t1, t2] o.type #[v1, v2]).run Tryd.prog w = .ok v w') (h : wpList Tryd.prog ops Q rest (a.put o.dst v) w') : wpList Tryd.prog ops Q (o :: rest) a w := by
  refine wpList_plain hgd fun K hK => ?_
  unfold Oper.wp
  simp only [execOp, ho, resolve, invoke, builtin, Sem.run_bind, Sem.run_pure, Result.andThen_ok, List.map_toArray, List.map_cons, List.map_nil, hs, hx, hrun]
  exact hK _ _ h
theorem step_append_run {w : World} {ops : Array Oper} {o : Oper} {a : Act} {K : Act → World → Prop} {Q : Exit → Act → World → Prop} {E : Prop} (hgd : o.guard = none) (s x : Operand) (t1 t2 : TypeId) (ho : o.op = .call { callee := .builtin .append, args := #[s, x], argTypes := #[t1, t2] })
    (v1 v2 v : Value) (w' : World) (hs : a.eval s = v1) (hx : a.eval x = v2) (hrun : (Builtin.append_ #[t1, t2] o.type #[v1, v2]).run Tryd.prog w = .ok v w') (h : K (a.put o.dst v) w') :
    if Region.wanted o (yielded ops a.tmps) = true then Oper.wp Tryd.prog o a w K Q else E := by
  have hw : Region.wanted o (yielded ops a.tmps) = true := by simp [Region.wanted, hgd]
  rw [if_pos hw]
  unfold Oper.wp
  simp only [execOp, ho, resolve, invoke, builtin, Sem.run_bind, Sem.run_pure, Result.andThen_ok, List.map_toArray, List.map_cons, List.map_nil, hs, hx, hrun]
  exact h
theorem grown_trans {a b c : World} {row : Option Nat} (h : a.grownBy b row) (k : b.grownBy c row) : a.grownBy c row :=
  ⟨k.os.trans h.os, k.tape.trans h.tape, k.output.trans h.output, Nat.le_trans h.size k.size, fun i hi hne => (k.block i (Nat.lt_of_lt_of_le hi h.size) hne).trans (h.block i hi hne)⟩
theorem grown_below {a b : World} (row : Option Nat) (h : Below a.heap.size a b) : a.grownBy b row := ⟨h.os, h.tape, h.output, h.size, fun i hi _ => h.block i hi⟩
theorem grown_refl (a : World) (row : Option Nat) : a.grownBy a row := grown_below row (Below.refl _ _)
theorem grown_set (a : World) (bn o : Nat) (v : Value) : a.grownBy (a.setCell ⟨bn, o, none⟩ v) (some bn) :=
  ⟨rfl, rfl, rfl, by simp [World.setCell], fun i hi hne => Below.heap_setCell _ _ _ _ (fun e => hne (by rw [e]))⟩
theorem below_grown {n : Nat} {w a b : World} {bn : Nat} (h : Below n w a) (g : a.grownBy b (some bn)) (hn : n ≤ bn) (hs : n ≤ a.heap.size) : Below n w b := h.grown g hs (fun i e => by simp at e; omega)
/-- It holds, and in every world with the same blocks from n to below m. -/
structure Held (n m : Nat) (W : World) (P : World → Prop) : Prop where
  le : m ≤ W.heap.size
  on : ∀ W', m ≤ W'.heap.size → (∀ k, n ≤ k → k < m → W'.heap[k]? = W.heap[k]?) → P W'
theorem Held.now {n m : Nat} {W : World} {P : World → Prop} (h : Held n m W P) : P W := h.on W h.le (fun _ _ _ => rfl)
theorem Held.to {n m : Nat} {W W' : World} {P : World → Prop} (h : Held n m W P) (hm : m ≤ W'.heap.size) (hb : ∀ k, n ≤ k → k < m → W'.heap[k]? = W.heap[k]?) : Held n m W' P :=
  ⟨hm, fun W2 h2 hb2 => h.on W2 h2 fun k h3 h4 => (hb2 k h3 h4).trans (hb k h3 h4)⟩
theorem Held.wide {n m n' m' : Nat} {W : World} {P : World → Prop} (h : Held n m W P) (h1 : n' ≤ n) (h2 : m ≤ m') (h3 : m' ≤ W.heap.size) : Held n' m' W P :=
  ⟨h3, fun W2 k2 hb2 => h.on W2 (Nat.le_trans h2 k2) fun k h4 h5 => hb2 k (Nat.le_trans h1 h4) (Nat.lt_of_lt_of_le h5 h2)⟩
theorem Held.below {n m : Nat} {W W' : World} {P : World → Prop} (h : Held n m W P) (hb : Below W.heap.size W W') : Held n m W' P :=
  h.to (Nat.le_trans h.le hb.size) fun k _ hk => hb.block k (Nat.lt_of_lt_of_le hk h.le)
theorem Held.grown {n m g : Nat} {W W' : World} {P : World → Prop} (h : Held n m W P) (hb : W.grownBy W' (some g)) (hg : g < n) : Held n m W' P :=
  h.to (Nat.le_trans h.le hb.size) fun k h1 hk => hb.block k (Nat.lt_of_lt_of_le hk h.le) (fun e => by simp at e; omega)
theorem Held.mp {n m : Nat} {W : World} {P Q : World → Prop} (h : Held n m W P) (hq : ∀ W, P W → Q W) : Held n m W Q := ⟨h.le, fun W' a b => hq _ (h.on W' a b)⟩
theorem below_grown_new {w a b : World} {g : Nat} (h : Below w.heap.size w a) (k : a.grownBy b (some g)) (hg : w.heap.size ≤ g) : Below w.heap.size w b := h.grown k h.size (fun i e => by simp at e; omega)
theorem flatten_get {α : Type} {n : Nat} (hn : 0 < n) : ∀ {l : List (List α)} (_ : ∀ r ∈ l, r.length = n) (j : Nat), l.flatten[j]? = (l[j / n]?).bind (·[j % n]?)
  | [], _, j => by simp
  | r :: l, h, j => by
    have hr := h r (List.mem_cons_self ..)
    rw [List.flatten_cons]
    rcases Nat.lt_or_ge j n with hj | hj
    · rw [List.getElem?_append_left (by omega), Nat.div_eq_of_lt hj, Nat.mod_eq_of_lt hj]; rfl
    · rw [List.getElem?_append_right (by omega), hr, flatten_get hn (fun r hr => h r (List.mem_cons_of_mem _ hr)) (j - n)]
      obtain ⟨q, rfl⟩ : ∃ q, j = q + n := ⟨j - n, by omega⟩
      rw [Nat.add_sub_cancel, Nat.add_div_right _ hn, Nat.add_mod_right]
      rfl
theorem append_empty {W : World} {B : Nat} {t st ty : TypeId} {i : TypeInfo} {sz n : Nat} (ht : Tryd.prog.underlying st = some (.slice t)) (hi : Tryd.prog.info? t = some i) {v : Value} {xs : List Value} (hown : W.ownsRow B t sz v n xs) (a : Option Addr) (c : Nat) :
    (Builtin.append_ #[st, st] ty #[v, .slice a 0 c]).run Tryd.prog W = .ok v W := by
  rcases hown.2 with ⟨rfl, rfl⟩ | ⟨g, cap, cur, rfl, _, _, hnc, _⟩
  · simp [Builtin.append_, run_underlying ht, sizeOf, typeInfo, hi, Builtin.lenOf, Builtin.firstCells, loadCells, loadCellsFrom]
    try (cases a <;> simp [Builtin.firstCells, loadCells, loadCellsFrom])
  · cases a <;> simp [Builtin.append_, run_underlying ht, sizeOf, typeInfo, hi, Builtin.lenOf, Builtin.firstCells, hnc, storeCells, loadCells, loadCellsFrom]
theorem below_of_drew {W w1 : World} (h : Below W.drew.heap.size W.drew w1) : Below W.heap.size W w1 := ((Below.refl _ W).drew).trans h
theorem sum_next {β : Type} (f : β → Nat) {l : List β} {k : Nat} {x : β} (hx : l[k]? = some x) {m R T : Nat} (h : m + (((l.drop k).map f).sum + R) = T) : (m + f x) + (((l.drop (k + 1)).map f).sum + R) = T := by
  obtain ⟨hk, rfl⟩ := List.getElem?_eq_some_iff.1 hx
  rw [List.drop_eq_getElem_cons hk, List.map_cons, List.sum_cons] at h
  omega
theorem sum_end {β : Type} (f : β → Nat) {l : List β} {n : Nat} (hn : l.length = n) {m R T : Nat} (h : m + (((l.drop n).map f).sum + R) = T) : m + R = T := by
  subst hn; rw [List.drop_length] at h; simpa using h

theorem fold_next {β : Type} (f : Int → β → Int) (st : Int) {l : List β} {k : Nat} {x : β} (hx : l[k]? = some x) : (l.take (k + 1)).foldl f st = f ((l.take k).foldl f st) x := by
  rw [List.take_add_one, hx, List.foldl_append]; rfl
theorem fold_all {β : Type} (f : Int → β → Int) (st : Int) {l : List β} {n : Nat} (h : l.length = n) : (l.take n).foldl f st = l.foldl f st := by subst h; rw [List.take_length]


/-! Plays. -/
structure PlD where
  kind : Int
  n : Int
  bytes : List UInt8
/-- Bytes in memory. -/
def Bts (W : World) (v : Value) (l : List UInt8) : Prop := SlAt W 1 (fun b o c => W.cell? ⟨b, o, none⟩ = some (.int .u8 (c.toNat : Int))) v l
theorem Bts.below {W W' : World} {v : Value} {l : List UInt8} (h : Bts W v l) (hb : Below W.heap.size W W') : Bts W' v l :=
  SlAt.mono h hb.size fun b o x hl _ hx => (hb.cell (p := ⟨b, o, none⟩) hl).trans hx
/-- A play lies there. -/
def PlAt (W : World) (b o : Nat) (x : PlD) : Prop := ∃ vs, CellsAt W b o [.int .i64 x.kind, .int .i64 x.n, vs] ∧ Bts W vs x.bytes
def PlIs (W : World) (v : Value) (x : PlD) : Prop := ∃ vs, v = .agg #[.int .i64 x.kind, .int .i64 x.n, vs] ∧ Bts W vs x.bytes
def Pls (W : World) (v : Value) (l : List PlD) : Prop := SlAt W 3 (PlAt W) v l
theorem PlAt.below {W W' : World} {b o : Nat} {x : PlD} (hb : Below W.heap.size W W') (hl : b < W.heap.size) (h : PlAt W b o x) : PlAt W' b o x := by
  obtain ⟨vs, h1, h2⟩ := h
  exact ⟨vs, h1.below hb hl, h2.below hb⟩
theorem PlIs.below {W W' : World} {v : Value} {x : PlD} (h : PlIs W v x) (hb : Below W.heap.size W W') : PlIs W' v x := by
  obtain ⟨vs, h1, h2⟩ := h
  exact ⟨vs, h1, h2.below hb⟩
theorem Pls.below {W W' : World} {v : Value} {l : List PlD} (h : Pls W v l) (hb : Below W.heap.size W W') : Pls W' v l :=
  SlAt.mono h hb.size fun b o x hl _ hx => hx.below hb hl

/-! The plain law: Check. -/
def fineK (x : PlD) : Bool := decide (1 ≤ x.kind) && decide (x.kind ≤ 5) && (decide (x.kind = 1) || x.bytes.isEmpty) && (if x.kind = 3 then decide (0 ≤ x.n) && decide (x.n ≤ 1048576) else decide (x.n = 0))
def chkK (l : List PlD) : Int := if 4096 < l.length then 3 else if l.all fineK then 0 else 2
end Go.Proofs.YtbjlnllbcgghlaaDoor
