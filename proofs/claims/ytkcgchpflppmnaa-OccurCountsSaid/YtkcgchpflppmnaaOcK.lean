/- Expressions, indexed by how deep they are; where they lie in memory; the plain law of occurrences. What a law gets as an expression is one: opened by induction on the fuel. The argument Expr, opened. Is a name among some? The reference's has, and slices.Contains. The tables of occurrences, by the machine: both, either, in a lambda. Own slices of texts; the names of bindings. The names of bindings, the program's. Does an expression hide a name? The occurrence of a name inside an expression: one level. The occurrence of a name: by induction on the depth. An expression that lies in memory, read as a value; a value put into a block of its own. -/
import Derived.ProofKit
import Derived.OpenShut
import Derived.Carry
import Derived.Lib.Hide
import Derived.Test.YtkcgchpflppmnaaProg
import Derived.Deep.Slices
import Derived.Deep.Fields
import Derived.ChangeArms
import Derived.SizedLaws
import Derived.Deep.Strs
import Derived.ChangeShapes
import Derived.WalkSpells
import Derived.WalkSmall
import Derived.Deep.RegionHeld3
import Derived.Deep.RegionWith
import Derived.Deep.QuietTactic
import Derived.BigQuiet
import Derived.BigRegion
import Derived.Outline
import Derived.Deep.Cut
import Derived.StillTailTactics
import Derived.Test.YtkcgchpflppmnaaEvX
import Derived.OwnWalk
import Derived.Laws.AppendOwn
import Derived.Laws.OwnMore
namespace Go.Proofs.Ytkcgchpflppmnaa
open Go.RowKit
set_option linter.unusedSimpArgs false
set_option linter.unusedVariables false

instance lawfulBytes : LawfulBEq ByteArray where
  eq_of_beq {a b} h := by
    cases a with | mk a => cases b with | mk b => exact congrArg ByteArray.mk (eq_of_beq (α := Array UInt8) h)
  rfl {a} := by cases a with | mk a => exact beq_self_eq_true (a : Array UInt8)

structure AltN (α : Type) where
  kind : Int
  name : ByteArray
  num : Int
  vars : List ByteArray
  e : α
structure ExN (α : Type) where
  kind : Int
  name : ByteArray
  num : Int
  params : List ByteArray
  binds : List (ByteArray × α)
  args : List α
  alts : List (AltN α)
/-- An expression no deeper than that. -/
def Ex : Nat → Type
  | 0 => Empty
  | d + 1 => ExN (Ex d)

/-- A slice of what R says, each of so many cells. -/
def SlAt {β : Type} (W : World) (sz : Nat) (R : Nat → Nat → β → Prop) (v : Value) (l : List β) : Prop :=
  ∃ (a : Option Addr) (cap : Nat), v = .slice a l.length cap ∧ (0 < l.length → ∃ b o, a = some ⟨b, o, none⟩ ∧ b < W.heap.size ∧ ∀ k x, l[k]? = some x → R b (o + k * sz) x)
theorem SlAt.mono {β : Type} {W W' : World} {sz : Nat} {R R' : Nat → Nat → β → Prop} {v : Value} {l : List β} (h : SlAt W sz R v l) (hs : W.heap.size ≤ W'.heap.size) (hR : ∀ b o x, b < W.heap.size → x ∈ l → R b o x → R' b o x) : SlAt W' sz R' v l := by
  obtain ⟨a, cap, hv, hc⟩ := h
  refine ⟨a, cap, hv, fun hl => ?_⟩
  obtain ⟨b, o, h1, h2, h3⟩ := hc hl
  exact ⟨b, o, h1, Nat.lt_of_lt_of_le h2 hs, fun k x hx => hR b _ x h2 (List.mem_of_getElem? hx) (h3 k x hx)⟩
/-- Cells that stand behind one another. -/
def CellsAt (W : World) (b o : Nat) (l : List Value) : Prop := ∀ j c, l[j]? = some c → W.cell? ⟨b, o + j, none⟩ = some c
theorem CellsAt.below {W W' : World} {b o : Nat} {l : List Value} (h : CellsAt W b o l) (hb : Below W.heap.size W W') (hl : b < W.heap.size) : CellsAt W' b o l :=
  fun j c hj => (hb.cell (p := ⟨b, o + j, none⟩) hl).trans (h j c hj)
/-- Texts in memory. -/
def Txs (W : World) (v : Value) (l : List ByteArray) : Prop := SlAt W 1 (fun b o s => W.cell? ⟨b, o, none⟩ = some (.string s)) v l
theorem Txs.below {W W' : World} {v : Value} {l : List ByteArray} (h : Txs W v l) (hb : Below W.heap.size W W') : Txs W' v l :=
  SlAt.mono h hb.size fun b o x hl _ hx => (hb.cell (p := ⟨b, o, none⟩) hl).trans hx
/-- The parts of an expression, one by one. -/
def PartsN {α : Type} (W : World) (A : Nat → Nat → α → Prop) (l : List Value) (e : ExN α) : Prop :=
  ∃ ps bs zs ls, l = [.int .i64 e.kind, .string e.name, .int .i64 e.num, ps, bs, zs, ls] ∧ Txs W ps e.params ∧
    SlAt W 8 (fun b o x => W.cell? ⟨b, o, none⟩ = some (.string x.1) ∧ A b (o + 1) x.2) bs e.binds ∧
    SlAt W 7 A zs e.args ∧
    SlAt W 11 (fun b o x => ∃ vs, CellsAt W b o [.int .i64 x.kind, .string x.name, .int .i64 x.num, vs] ∧ Txs W vs x.vars ∧ A b (o + 4) x.e) ls e.alts
theorem PartsN.below {α : Type} {W W' : World} {A A' : Nat → Nat → α → Prop} {l : List Value} {e : ExN α} (h : PartsN W A l e) (hb : Below W.heap.size W W') (hA : ∀ b o x, b < W.heap.size → A b o x → A' b o x) : PartsN W' A' l e := by
  obtain ⟨ps, bs, zs, ls, h0, h1, h2, h3, h4⟩ := h
  refine ⟨ps, bs, zs, ls, h0, h1.below hb, h2.mono hb.size fun b o x hl _ hx => ⟨(hb.cell (p := ⟨b, o, none⟩) hl).trans hx.1, hA _ _ _ hl hx.2⟩, h3.mono hb.size fun b o x hl _ hx => hA _ _ _ hl hx, h4.mono hb.size fun b o x hl _ hx => ?_⟩
  obtain ⟨vs, k1, k2, k3⟩ := hx
  exact ⟨vs, k1.below hb hl, k2.below hb, hA _ _ _ hl k3⟩
/-- An expression lies there. -/
def ExAt (W : World) : (d : Nat) → Nat → Nat → Ex d → Prop
  | 0 => fun _ _ e => nomatch (e : Empty)
  | d + 1 => fun b o e => ∃ l, CellsAt W b o l ∧ PartsN W (ExAt W d) l (e : ExN (Ex d))
/-- A value is an expression. -/
def ExIs (W : World) : (d : Nat) → Value → Ex d → Prop
  | 0 => fun _ e => nomatch (e : Empty)
  | d + 1 => fun v e => ∃ l, v = .agg l.toArray ∧ PartsN W (ExAt W d) l (e : ExN (Ex d))
theorem ExAt.below {W W' : World} (hb : Below W.heap.size W W') : ∀ (d b o : Nat) (e : Ex d), b < W.heap.size → ExAt W d b o e → ExAt W' d b o e
  | 0, _, _, e, _, _ => nomatch (e : Empty)
  | d + 1, b, o, e, hl, ⟨l, h1, h2⟩ => ⟨l, h1.below hb hl, h2.below hb fun b o x hl => ExAt.below hb d b o x hl⟩
theorem ExIs.below {W W' : World} (hb : Below W.heap.size W W') : ∀ (d : Nat) (v : Value) (e : Ex d), ExIs W d v e → ExIs W' d v e
  | 0, _, e, _ => nomatch (e : Empty)
  | d + 1, v, e, ⟨l, h1, h2⟩ => ⟨l, h1, h2.below hb fun b o x hl => ExAt.below hb d b o x hl⟩

/-! The plain law: 1 dead, 2 once, 3 branch, 4 lambda, 5 many. -/
def bothK (a b : Int) : Int := if a = 1 then b else if b = 1 then a else 5
def eitherK (a b : Int) : Int := if a = 1 ∨ b = 1 then bothK a b else if (a = 2 ∨ a = 3) ∧ (b = 2 ∨ b = 3) then 3 else 5
def withinK (a : Int) : Int := if a = 2 ∨ a = 4 then 4 else if a = 1 then a else 5
def hidesK {α : Type} (e : ExN α) (s : ByteArray) : Bool := decide (s ∈ e.params) || decide (s ∈ e.binds.map (·.1))
def inLetK {α : Type} (r : α → Int) (kv : Int) (e : ExN α) (s : ByteArray) : Int :=
  bothK (e.args.foldl (fun o x => bothK o (r x)) (e.binds.foldl (fun o x => bothK o (r x.2)) (if e.kind = kv ∧ e.name = s then 2 else 1)))
    (e.alts.foldl (fun o x => if s ∈ x.vars then o else eitherK o (r x.e)) 1)
def insideK {α : Type} (r : α → Int) (kv kl : Int) (e : ExN α) (s : ByteArray) : Int := if e.kind = kl then withinK (inLetK r kv e s) else inLetK r kv e s
def ofK (kv kl : Int) (s : ByteArray) : (d : Nat) → Ex d → Int
  | 0, e => nomatch (e : Empty)
  | d + 1, e => if hidesK (e : ExN (Ex d)) s then 1 else insideK (ofK kv kl s d) kv kl e s
def countK (kv : Int) (s : ByteArray) : (d : Nat) → Ex d → Int
  | 0, e => nomatch (e : Empty)
  | d + 1, (e : ExN (Ex d)) => if hidesK e s then 0 else
      (if e.kind = kv ∧ e.name = s then 1 else 0) + (e.binds.map fun x => countK kv s d x.2).sum + (e.args.map (countK kv s d)).sum + (e.alts.map fun x => if s ∈ x.vars then 0 else countK kv s d x.e).sum
def allK (kv kl : Int) : (d : Nat) → Ex d → List (ByteArray × Int)
  | 0, e => nomatch (e : Empty)
  | d + 1, (e : ExN (Ex d)) =>
      e.params.map (fun s => (s, inLetK (ofK kv kl s d) kv e s)) ++ e.binds.map (fun x => (x.1, inLetK (ofK kv kl x.1 d) kv e x.1)) ++
        e.binds.flatMap (fun x => allK kv kl d x.2) ++ e.args.flatMap (allK kv kl d) ++ e.alts.flatMap (fun x => x.vars.map (fun s => (s, ofK kv kl s d x.e)) ++ allK kv kl d x.e)
/-- How many expressions there are. -/
def sizeK : (d : Nat) → Ex d → Nat
  | 0, e => nomatch (e : Empty)
  | d + 1, (e : ExN (Ex d)) => 1 + (e.binds.map fun x => sizeK d x.2).sum + (e.args.map (sizeK d)).sum + (e.alts.map fun x => sizeK d x.e).sum
theorem both_in {a b : Int} (ha : 1 ≤ a ∧ a ≤ 5) (hb : 1 ≤ b ∧ b ≤ 5) : 1 ≤ bothK a b ∧ bothK a b ≤ 5 := by unfold bothK; split <;> (try split) <;> omega
theorem either_in {a b : Int} (ha : 1 ≤ a ∧ a ≤ 5) (hb : 1 ≤ b ∧ b ≤ 5) : 1 ≤ eitherK a b ∧ eitherK a b ≤ 5 := by
  unfold eitherK
  split
  · exact both_in ha hb
  · split <;> omega
theorem within_in {a : Int} (ha : 1 ≤ a ∧ a ≤ 5) : 1 ≤ withinK a ∧ withinK a ≤ 5 := by unfold withinK; split <;> (try split) <;> omega
theorem foldl_in {β : Type} (f : Int → β → Int) (hf : ∀ o x, 1 ≤ o ∧ o ≤ 5 → 1 ≤ f o x ∧ f o x ≤ 5) : ∀ (l : List β) (o : Int), 1 ≤ o ∧ o ≤ 5 → 1 ≤ l.foldl f o ∧ l.foldl f o ≤ 5
  | [], _, h => h
  | x :: l, o, h => foldl_in f hf l _ (hf o x h)
theorem inLet_in {α : Type} (r : α → Int) (hr : ∀ x, 1 ≤ r x ∧ r x ≤ 5) (kv : Int) (e : ExN α) (s : ByteArray) : 1 ≤ inLetK r kv e s ∧ inLetK r kv e s ≤ 5 := by
  unfold inLetK
  refine both_in (foldl_in _ (fun o x h => both_in h (hr x)) _ _ (foldl_in _ (fun o x h => both_in h (hr x.2)) _ _ ?_)) (foldl_in _ (fun o x h => ?_) _ _ (by omega))
  · split <;> omega
  · split
    · exact h
    · exact either_in h (hr x.e)
theorem of_in (kv kl : Int) (s : ByteArray) : ∀ (d : Nat) (e : Ex d), 1 ≤ ofK kv kl s d e ∧ ofK kv kl s d e ≤ 5
  | 0, e => nomatch (e : Empty)
  | d + 1, e => by
    unfold ofK
    split
    · omega
    · unfold insideK
      split
      · exact within_in (inLet_in _ (of_in kv kl s d) _ _ _)
      · exact inLet_in _ (of_in kv kl s d) _ _ _
end Go.Proofs.Ytkcgchpflppmnaa

namespace Go.Proofs.Ytkcgchpflppmnaa
open Go.RowKit Go.Deep Go.ChangeShapes
set_option linter.unusedSimpArgs false
set_option linter.unusedVariables false

theorem list_of {β : Type} : ∀ (n : Nat) {p : Nat → β → Prop}, (∀ i, i < n → ∃ x, p i x) → ∃ l : List β, l.length = n ∧ ∀ i x, l[i]? = some x → p i x
  | 0, _, _ => ⟨[], rfl, fun i x h => by simp at h⟩
  | n + 1, p, h => by
    obtain ⟨l, hl, hp⟩ := list_of n (fun i hi => h i (by omega))
    obtain ⟨x, hx⟩ := h n (by omega)
    refine ⟨l ++ [x], by simp [hl], fun i y hy => ?_⟩
    rcases Nat.lt_or_ge i n with hi | hi
    · rw [List.getElem?_append_left (by omega)] at hy
      exact hp i y hy
    · rw [List.getElem?_append_right (by omega)] at hy
      have : i - l.length < 1 := by
        have := (List.getElem?_eq_some_iff.1 hy).1
        simpa using this
      obtain rfl : i = n := by omega
      rw [hl, Nat.sub_self] at hy
      cases hy
      exact hx

section
variable {H : Type} {enc : TypeId × Value → H} {W : World} {sp : Nat → Bool} {hd : Bool}

theorem add_eq (b o j : Nat) : (⟨b, o, none⟩ : Addr).add j = ⟨b, o + j, none⟩ := by
  unfold Addr.add
  split
  · next h => subst h; rfl
  · rfl
theorem addr_at {a : Addr} {v : Value} (h : W.cell? (a.add 0) = some v) : ∃ b o, a = ⟨b, o, none⟩ ∧ b < W.heap.size := by
  have h0 : W.cell? a = some v := by simpa [Addr.add] using h
  have h1 := World.cell?_spot h0
  obtain ⟨b, o, s⟩ := a
  simp only at h1
  subst h1
  exact ⟨b, o, rfl, World.block_lt_of_cell? W ⟨b, o, none⟩ h0⟩
theorem weights_mem_all {P : Program} {e : TypeId} : ∀ {l : List (DataW H)} {d : DataW H} {n : Nat}, d ∈ l → n ∈ d.weights P e → n ∈ DataW.weightsAll P e l
  | d0 :: l, d, n, hd, hn => by
    simp only [DataW.weightsAll, List.mem_append]
    rcases List.mem_cons.1 hd with rfl | hd
    · exact .inl hn
    · exact .inr (weights_mem_all hd hn)
abbrev Fits (P : Program) (t : TypeId) (d : DataW H) : Prop := ∀ k ∈ d.weights P t, k ≤ reachBytes
/-- A slice's elements, one by one. -/
theorem sl_of_trod {β : Type} {P : Program} {t e : TypeId} {sz fuel : Nat} {cs : List Value} {x : DataW H × List MemPlace} {R : Nat → Nat → β → Prop} {Q : β → Prop} (ht : P.underlying t = some (.slice e)) (hz : P.cellsOf e = sz) (hp : 0 < sz)
    (h : DataW.trod enc P W 0 sp hd fuel t cs = some x) (hw : Fits P t x.1)
    (hel : ∀ n cs y, n + 1 = fuel → cs.length = sz → DataW.trod enc P W 0 sp hd n e cs = some y → Fits P e y.1 → ∃ z, Q z ∧ ∀ b o, CellsAt W b o cs → R b o z) :
    ∃ v l, cs = [v] ∧ SlAt W sz R v l ∧ l.length * P.bytesOf e ≤ reachBytes ∧ ∀ z ∈ l, Q z := by
  rcases DataW.trod_slice ht h with ⟨h0, _⟩ | ⟨a, len, cap, elems, rest, n, hn, h0, hxx, _, hlc, hcm, hlen, hx, _, _⟩
  · exact ⟨_, [], h0, ⟨none, 0, rfl, fun h => by simp at h⟩, by simp, fun z hz => by cases hz⟩
  · have hwx : ∀ k ∈ (elems.length + rest.length) * P.bytesOf e :: (DataW.weightsAll P e (elems.map (·.1)) ++ DataW.weightsAll P e (rest.map (·.1))), k ≤ reachBytes := by
      intro k hk
      refine hw k ?_
      rw [hxx]
      simp only [DataW.weights, ht, List.length_map]
      exact hk
    have hone : ∀ i, i < len → ∃ z : β, ∃ cs', W.cells? 0 (a.add (i * sz)) sz = some cs' ∧ Q z ∧ ∀ b o, CellsAt W b o cs' → R b o z := by
      intro i hi
      have hi' := hx i hi
      rw [hz, List.getElem?_eq_getElem (by omega), Option.bind_eq_some_iff] at hi'
      obtain ⟨cs', h1, h2⟩ := hi'
      obtain ⟨z, hq, hr⟩ := hel n cs' _ hn.symm (World.cells?_some h1).2.1 h2 (fun k hk => hwx k (List.mem_cons_of_mem _ (List.mem_append_left _ (weights_mem_all (List.mem_map_of_mem (List.getElem_mem (by omega))) hk))))
      exact ⟨z, cs', h1, hq, hr⟩
    obtain ⟨l, hl, hp'⟩ := list_of len hone
    refine ⟨_, l, h0, ⟨some a, cap, by rw [hl], fun h0 => ?_⟩, ?_, fun z hz => ?_⟩
    · have hl0 : 0 < l.length := h0
      obtain ⟨cs', h1, _, _⟩ := hp' 0 l[0] (List.getElem?_eq_getElem hl0)
      have h00 := (World.cells?_some h1).2.2 0 hp
      have hcl := (World.cells?_some h1).2.1
      rw [Nat.zero_mul, List.getElem?_eq_getElem (by omega)] at h00
      have h01 : W.cell? (a.add 0) = some cs'[0] := by simpa [Addr.add] using h00
      obtain ⟨b, o, rfl, hb⟩ := addr_at h01
      refine ⟨b, o, rfl, hb, fun i x hx => ?_⟩
      obtain ⟨cs2, k1, _, k3⟩ := hp' i x hx
      refine k3 b _ fun j c hj => ?_
      have hjl : j < sz := by
        have := (List.getElem?_eq_some_iff.1 hj).1
        have := (World.cells?_some k1).2.1
        omega
      have := (World.cells?_some k1).2.2 j hjl
      rw [add_eq, add_eq, hj] at this
      exact this
    · have := hwx _ (List.mem_cons_self ..)
      exact Nat.le_trans (Nat.mul_le_mul_right _ (by omega)) this
    · obtain ⟨i, hi⟩ := List.mem_iff_getElem?.1 hz
      obtain ⟨_, _, hq, _⟩ := hp' i z hi
      exact hq
theorem fldP {P : Program} {fs : Array Field} {cs : List Value} {xs : List (DataW H × List MemPlace)} {m : Nat} (hf : ∀ (i : Nat) (f : Field), fs[i]? = some f → DataW.trod enc P W 0 sp hd m f.type ((cs.drop f.offset).take (P.cellsOf f.type)) = xs[i]?)
    (i : Nat) (t : TypeId) (o : Nat) (h : (fs[i]?).map (fun f => (f.type, f.offset)) = some (t, o)) : DataW.trod enc P W 0 sp hd m t ((cs.drop o).take (P.cellsOf t)) = xs[i]? := by
  rcases hi : fs[i]? with _ | f
  · rw [hi] at h; simp at h
  · rw [hi] at h
    simp only [Option.map_some, Option.some.injEq, Prod.mk.injEq] at h
    obtain ⟨rfl, rfl⟩ := h
    exact hf i f hi
theorem fldW {P : Program} {t : TypeId} {fs : Array Field} {xs : List (DataW H × List MemPlace)} {x : DataW H × List MemPlace} (ht : P.underlying t = some (.struct fs)) (hx : x = (.agg (xs.map (·.1)), xs.flatMap (·.2))) (hw : Fits P t x.1)
    (i : Nat) (u : TypeId) (h : (fs.toList.map (·.type))[i]? = some u) (y : DataW H × List MemPlace) (hy : xs[i]? = some y) : Fits P u y.1 := by
  intro k hk
  refine hw k ?_
  rw [hx]
  simp only [DataW.weights, ht]
  exact DataW.weights_mem_each (j := i) h (by rw [List.getElem?_map, hy]; rfl) k hk

/-- What is bounded by what memory can hold. -/
def TxB (l : List ByteArray) : Prop := l.length ≤ 10000000000000 ∧ ∀ s ∈ l, s.size ≤ reachBytes
def Bd : (d : Nat) → Ex d → Prop
  | 0, e => nomatch (e : Empty)
  | d + 1, (e : ExN (Ex d)) => e.name.size ≤ reachBytes ∧ TxB e.params ∧ (e.binds.length ≤ 10000000000000 ∧ ∀ x ∈ e.binds, x.1.size ≤ reachBytes ∧ Bd d x.2) ∧ (e.args.length ≤ 10000000000000 ∧ ∀ x ∈ e.args, Bd d x) ∧
      (e.alts.length ≤ 10000000000000 ∧ ∀ x ∈ e.alts, x.name.size ≤ reachBytes ∧ TxB x.vars ∧ Bd d x.e)
theorem cellsEx : Try.prog.cellsOf 29 = 7 := by kernel_rfl
theorem cellsBind : Try.prog.cellsOf 56 = 8 := by kernel_rfl
theorem cellsAlt : Try.prog.cellsOf 52 = 11 := by kernel_rfl
theorem cellsInt : Try.prog.cellsOf 3 = 1 := by kernel_rfl
theorem cellsI64 : Try.prog.cellsOf 2 = 1 := by kernel_rfl
theorem cellsStr : Try.prog.cellsOf 9 = 1 := by kernel_rfl
theorem cellsTxs : Try.prog.cellsOf 24 = 1 := by kernel_rfl
theorem cellsBs : Try.prog.cellsOf 25 = 1 := by kernel_rfl
theorem cellsEs : Try.prog.cellsOf 26 = 1 := by kernel_rfl
theorem cellsAs : Try.prog.cellsOf 27 = 1 := by kernel_rfl
theorem bytesStr : Try.prog.bytesOf 9 = 16 := by kernel_rfl
theorem bytesEx : 16 ≤ Try.prog.bytesOf 29 := of_decide_eq_true (by kernel_rfl)
theorem bytesBind : 16 ≤ Try.prog.bytesOf 56 := of_decide_eq_true (by kernel_rfl)
theorem bytesAlt : 16 ≤ Try.prog.bytesOf 52 := of_decide_eq_true (by kernel_rfl)
theorem len_of {n k : Nat} (hk : 16 ≤ k) (h : n * k ≤ reachBytes) : n ≤ 10000000000000 := by
  have h1 : n * 16 ≤ reachBytes := Nat.le_trans (Nat.mul_le_mul_left _ hk) h
  have h2 : reachBytes = 140737488351232 := by decide
  rw [h2] at h1
  omega
theorem str_of_trod {fuel : Nat} {cs : List Value} {x : DataW H × List MemPlace} (h : DataW.trod enc Try.prog W 0 sp hd fuel 9 cs = some x) (hw : Fits Try.prog 9 x.1) : ∃ s : ByteArray, cs = [.string s] ∧ s.size ≤ reachBytes := by
  obtain ⟨s, q, hx, _⟩ := DataW.trod_string Try.underlying9 h
  refine ⟨s, q, ?_⟩
  have := hw s.data.toList.length (by rw [hx]; simp [DataW.weights])
  simpa using this
theorem txs_of_trod {fuel : Nat} {cs : List Value} {x : DataW H × List MemPlace} (h : DataW.trod enc Try.prog W 0 sp hd fuel 24 cs = some x) (hw : Fits Try.prog 24 x.1) : ∃ v l, cs = [v] ∧ Txs W v l ∧ TxB l := by
  obtain ⟨v, l, h1, h2, h3, h4⟩ := sl_of_trod (β := ByteArray) (R := fun b o s => W.cell? ⟨b, o, none⟩ = some (.string s)) (Q := fun s => s.size ≤ reachBytes) Try.underlying24 cellsStr (by omega) h hw (fun n cs y _ _ hy hwy => by
    obtain ⟨s, rfl, hs⟩ := str_of_trod hy hwy
    exact ⟨s, hs, fun b o hc => by simpa using hc 0 _ rfl⟩)
  exact ⟨v, l, h1, h2, len_of (Nat.le_of_eq bytesStr.symm) h3, h4⟩
end
end Go.Proofs.Ytkcgchpflppmnaa

namespace Go.Proofs.Ytkcgchpflppmnaa
open Go.RowKit Go.Deep Go.ChangeShapes
set_option linter.unusedSimpArgs false
set_option linter.unusedVariables false

section
variable {H : Type} {enc : TypeId × Value → H} {W : World} {sp : Nat → Bool} {hd : Bool}

set_option maxRecDepth 100000 in
theorem ex_of_trod : ∀ (fuel d : Nat), fuel ≤ d + 1 → ∀ (cs : List Value) (x : DataW H × List MemPlace), DataW.trod enc Try.prog W 0 sp hd fuel 29 cs = some x → Fits Try.prog 29 x.1 →
    ∃ e : ExN (Ex d), Bd (d + 1) e ∧ PartsN W (ExAt W d) cs e := by
  intro fuel
  induction fuel using Nat.strongRecOn with
  | _ fuel ih =>
  intro d hle cs x h hw
  obtain ⟨zs, m, hm, hz, hl, hzl, hf⟩ := DataW.trod_struct Try.underlying29 h
  have hl7 : cs.length = 7 := hl.trans cellsEx
  -- a part that is an expression, n ≤ d deep
  have part : ∀ (n : Nat) (cs' : List Value) (y : DataW H × List MemPlace), n < fuel → n ≤ d → DataW.trod enc Try.prog W 0 sp hd n 29 cs' = some y → Fits Try.prog 29 y.1 →
      ∃ e : Ex d, Bd d e ∧ ∀ b o, CellsAt W b o cs' → ExAt W d b o e := by
    intro n cs' y hn hnd hy hwy
    cases d with
    | zero =>
      obtain rfl : n = 0 := by omega
      simp [DataW.trod] at hy
    | succ d' =>
      obtain ⟨e, h1, h2⟩ := ih n hn d' hnd cs' y hy hwy
      exact ⟨e, h1, fun b o hc => ⟨cs', hc, h2⟩⟩
  match cs, hl7 with
  | [c0, c1, c2, c3, c4, c5, c6], _ =>
    match zs, hzl with
    | [z0, z1, z2, z3, z4, z5, z6], _ =>
      have f0 := fldP hf 0 3 0 rfl
      have f1 := fldP hf 1 9 1 rfl
      have f2 := fldP hf 2 2 2 rfl
      have f3 := fldP hf 3 24 3 rfl
      have f4 := fldP hf 4 25 4 rfl
      have f5 := fldP hf 5 26 5 rfl
      have f6 := fldP hf 6 27 6 rfl
      simp only [cellsInt] at f0
      simp only [cellsStr] at f1
      simp only [cellsI64] at f2
      simp only [cellsTxs] at f3
      simp only [cellsBs] at f4
      simp only [cellsEs] at f5
      simp only [cellsAs] at f6
      have w1 := fldW Try.underlying29 hz hw 1 9 rfl z1 rfl
      have w3 := fldW Try.underlying29 hz hw 3 24 rfl z3 rfl
      have w4 := fldW Try.underlying29 hz hw 4 25 rfl z4 rfl
      have w5 := fldW Try.underlying29 hz hw 5 26 rfl z5 rfl
      have w6 := fldW Try.underlying29 hz hw 6 27 rfl z6 rfl
      obtain ⟨n0, q0, _⟩ := DataW.trod_int Try.underlying3 f0
      obtain ⟨s1, q1, b1⟩ := str_of_trod f1 w1
      obtain ⟨n2, q2, _⟩ := DataW.trod_int Try.underlying2 f2
      obtain ⟨v3, l3, q3, t3, b3⟩ := txs_of_trod f3 w3
      obtain ⟨v4, l4, q4, t4, e4, b4⟩ := sl_of_trod (β := ByteArray × Ex d) (R := fun b o x => W.cell? ⟨b, o, none⟩ = some (.string x.1) ∧ ExAt W d b (o + 1) x.2) (Q := fun x => x.1.size ≤ reachBytes ∧ Bd d x.2) Try.underlying25 cellsBind (by omega) f4 w4 (fun n cs' y hn hc8 hy hwy => by
        obtain ⟨ys, m', hm', hy', _, hyl, hg⟩ := DataW.trod_struct Try.underlying56 hy
        match cs', hc8 with
        | [k0, k1, k2, k3, k4, k5, k6, k7], _ =>
          match ys, hyl with
          | [y0, y1], _ =>
            have g0 := fldP hg 0 9 0 rfl
            have g1 := fldP hg 1 29 1 rfl
            simp only [cellsStr] at g0
            simp only [cellsEx] at g1
            obtain ⟨s, hs, hsz⟩ := str_of_trod g0 (fldW Try.underlying56 hy' hwy 0 9 rfl y0 rfl)
            obtain rfl : k0 = .string s := by simpa using hs
            obtain ⟨e, he, hat⟩ := part m' _ _ (by omega) (by omega) g1 (fldW Try.underlying56 hy' hwy 1 29 rfl y1 rfl)
            refine ⟨(s, e), ⟨hsz, he⟩, fun b o hc => ⟨by simpa using hc 0 _ rfl, hat b (o + 1) fun j c hj => ?_⟩⟩
            have hj7 : j < 7 := by
              have := (List.getElem?_eq_some_iff.1 hj).1
              simpa using this
            have := hc (j + 1) c (by simpa using hj)
            rw [show o + 1 + j = o + (j + 1) by omega]
            exact this)
      obtain ⟨v5, l5, q5, t5, e5, b5⟩ := sl_of_trod (β := Ex d) (R := ExAt W d) (Q := Bd d) Try.underlying26 cellsEx (by omega) f5 w5 (fun n cs' y hn _ hy hwy => part n cs' y (by omega) (by omega) hy hwy)
      obtain ⟨v6, l6, q6, t6, e6, b6⟩ := sl_of_trod (β := AltN (Ex d)) (R := fun b o x => ∃ vs, CellsAt W b o [.int .i64 x.kind, .string x.name, .int .i64 x.num, vs] ∧ Txs W vs x.vars ∧ ExAt W d b (o + 4) x.e) (Q := fun x => x.name.size ≤ reachBytes ∧ TxB x.vars ∧ Bd d x.e) Try.underlying27 cellsAlt (by omega) f6 w6 (fun n cs' y hn hc11 hy hwy => by
        obtain ⟨ys, m', hm', hy', _, hyl, hg⟩ := DataW.trod_struct Try.underlying52 hy
        match cs', hc11 with
        | [k0, k1, k2, k3, k4, k5, k6, k7, k8, k9, k10], _ =>
          match ys, hyl with
          | [y0, y1, y2, y3, y4], _ =>
            have g0 := fldP hg 0 3 0 rfl
            have g1 := fldP hg 1 9 1 rfl
            have g2 := fldP hg 2 2 2 rfl
            have g3 := fldP hg 3 24 3 rfl
            have g4 := fldP hg 4 29 4 rfl
            simp only [cellsInt] at g0
            simp only [cellsStr] at g1
            simp only [cellsI64] at g2
            simp only [cellsTxs] at g3
            simp only [cellsEx] at g4
            obtain ⟨a0, p0, _⟩ := DataW.trod_int Try.underlying3 g0
            obtain ⟨a1, p1, r1⟩ := str_of_trod g1 (fldW Try.underlying52 hy' hwy 1 9 rfl y1 rfl)
            obtain ⟨a2, p2, _⟩ := DataW.trod_int Try.underlying2 g2
            obtain ⟨a3, vs, p3, r3, s3⟩ := txs_of_trod g3 (fldW Try.underlying52 hy' hwy 3 24 rfl y3 rfl)
            obtain ⟨e, he, hat⟩ := part m' _ _ (by omega) (by omega) g4 (fldW Try.underlying52 hy' hwy 4 29 rfl y4 rfl)
            obtain rfl : k0 = .int .i64 a0 := by simpa using p0
            obtain rfl : k1 = .string a1 := by simpa using p1
            obtain rfl : k2 = .int .i64 a2 := by simpa using p2
            obtain rfl : k3 = a3 := by simpa using p3
            refine ⟨⟨a0, a1, a2, vs, e⟩, ⟨r1, s3, he⟩, fun b o hc => ⟨k3, fun j c hj => ?_, r3, hat b (o + 4) fun j c hj => ?_⟩⟩
            · have hj4 : j < 4 := by
                have := (List.getElem?_eq_some_iff.1 hj).1
                simpa using this
              refine hc j c ?_
              match j, hj4 with
              | 0, _ => exact hj
              | 1, _ => exact hj
              | 2, _ => exact hj
              | 3, _ => exact hj
            · have := hc (j + 4) c (by simpa using hj)
              rw [show o + 4 + j = o + (j + 4) by omega]
              exact this)
      obtain rfl : c0 = .int .i64 n0 := by simpa using q0
      obtain rfl : c1 = .string s1 := by simpa using q1
      obtain rfl : c2 = .int .i64 n2 := by simpa using q2
      obtain rfl : c3 = v3 := by simpa using q3
      obtain rfl : c4 = v4 := by simpa using q4
      obtain rfl : c5 = v5 := by simpa using q5
      obtain rfl : c6 = v6 := by simpa using q6
      exact ⟨⟨n0, s1, n2, l3, l4, l5, l6⟩, ⟨b1, b3, ⟨len_of bytesBind e4, b4⟩, ⟨len_of bytesEx e5, b5⟩, ⟨len_of bytesAlt e6, b6⟩⟩, _, _, _, _, rfl, t3, t4, t5, t6⟩
end
end Go.Proofs.Ytkcgchpflppmnaa

namespace Go.Proofs.Ytkcgchpflppmnaa
open Go.RowKit
set_option linter.unusedSimpArgs false
set_option linter.unusedVariables false

theorem chain {w a b : World} (h : Below w.heap.size w a) (k : Below a.heap.size a b) : Below w.heap.size w b := h.trans (k.mono h.size)
theorem toList_ne {x s : ByteArray} (e : x ≠ s) : (x.toList == s.toList) = false := by
  rw [beq_eq_false_iff_ne, ByteArray.toList_eq, ByteArray.toList_eq]
  intro h
  refine e ?_
  cases x with | mk x => cases s with | mk s => exact congrArg ByteArray.mk (Array.toList_inj.1 h)
theorem take_has {l : List ByteArray} {k : Nat} {x s : ByteArray} (hx : l[k]? = some x) (h : s ∉ l.take k) (e : x ≠ s) : s ∉ l.take (k + 1) := by
  rw [List.take_add_one, hx]
  simp only [Option.toList_some, List.mem_append, List.mem_singleton]
  rintro (h' | h')
  · exact h h'
  · exact e h'.symm
theorem take_all {l : List ByteArray} {n : Nat} (h : l.length = n) : l.take n = l := by subst h; exact List.take_length
theorem has_of {l : List ByteArray} {k : Nat} {s : ByteArray} (h : l[k]? = some s) : decide (s ∈ l) = true := decide_eq_true (List.mem_of_getElem? h)

set_option maxRecDepth 100000 in
set_option maxHeartbeats 8000000 in
theorem has_any (v : Value) (l : List ByteArray) (s : ByteArray) (w : World) (h : Txs w v l) (hn : l.length ≤ 10000000000000) :
    Calls Try.prog 44 #[v, .string s] w fun e w' => e = .returned (.bool (decide (s ∈ l))) ∧ Below w.heap.size w w' := by
  obtain ⟨a, ca, rfl, ha⟩ := h
  obtain ⟨N, hN⟩ : ∃ N, l.length = N := ⟨_, rfl⟩
  have HN := Lib.hid hN
  rw [hN] at hn ⊢
  have Ha := Lib.hid ha
  clear ha hN
  go_enter Try.func44, Try.ntmps44
  go_wp2
  go_loopw [5] (fun i wr => ∃ k : Nat, i = .int .i64 k ∧ k ≤ N ∧ Hid (s ∉ l.take k) ∧ Below w.heap.size w wr) (fun i _ => N - (intOf i).toNat)
  case atStart => exact ⟨0, rfl, Nat.zero_le _, Lib.hid (by simp), Below.refl _ _⟩
  case round =>
    obtain ⟨k, rfl, hk, hT, hB⟩ := hrel
    by_cases hlt : k < N
    · have hlt2 : decide ((k : Int) < (N : Int)) = true := by simp; omega
      have hlt3 : decide (k < N) = true := by simp; omega
      have hkt : k < l.length := by rw [HN.out]; exact hlt
      obtain ⟨p, o, rfl, hp, hat⟩ := Ha.out (by omega)
      obtain ⟨x, hx⟩ : ∃ x, l[k]? = some x := ⟨_, List.getElem?_eq_getElem hkt⟩
      have c0 := (hB.cell (p := ⟨p, o + k * 1, none⟩) hp).trans (hat k x hx)
      rw [Nat.mul_one] at c0
      have hi0 : (0 : Int) ≤ (k : Int) := by omega
      have HX := Lib.hid hx
      clear hat hx
      by_cases e : x = s
      · subst e
        have HR := Lib.hid (has_of HX.out)
        go_wp2
        go_ret
        exact ⟨by rw [HR.out]; rfl, hB⟩
      · have HT := Lib.hid (take_has HX.out hT.out e)
        have hne : decide (x = s) = false := decide_eq_false e
        have hnb := toList_ne e
        go_wp2
        go_roundw
        case rel => exact ⟨k + 1, by go_num, by omega, HT, hB⟩
        case measure => simp [intOf]; omega
    · have hlt2 : decide ((k : Int) < (N : Int)) = false := by simp; omega
      have hlt3 : decide (k < N) = false := by simp; omega
      obtain rfl : k = N := by omega
      have HR := Lib.hid (show decide (s ∈ l) = false from decide_eq_false (by rw [← take_all HN.out]; exact hT.out))
      go_wp2
      go_ret
      exact ⟨by rw [HR.out]; rfl, hB⟩

set_option maxRecDepth 100000 in
set_option maxHeartbeats 8000000 in
theorem index_any (v : Value) (l : List ByteArray) (s : ByteArray) (w : World) (h : Txs w v l) (hn : l.length ≤ 10000000000000) :
    Calls Try.prog 68 #[v, .string s] w fun e w' => ∃ n : Int, e = .returned (.int .i64 n) ∧ decide (0 ≤ n) = decide (s ∈ l) ∧ Below w.heap.size w w' := by
  obtain ⟨a, ca, rfl, ha⟩ := h
  obtain ⟨N, hN⟩ : ∃ N, l.length = N := ⟨_, rfl⟩
  have HN := Lib.hid hN
  rw [hN] at hn ⊢
  have Ha := Lib.hid ha
  clear ha hN
  go_enter Try.func68, Try.ntmps68
  go_wp2
  go_loopw [8, 5] (fun i j wr => ∃ k : Nat, i = .int .i64 k ∧ k ≤ N ∧ Hid (s ∉ l.take k) ∧ Below w.heap.size w wr) (fun i _ _ => N - (intOf i).toNat)
  case atStart => exact ⟨0, rfl, Nat.zero_le _, Lib.hid (by simp), Below.refl _ _⟩
  case round =>
    obtain ⟨k, rfl, hk, hT, hB⟩ := hrel
    by_cases hlt : k < N
    · have hlt2 : decide ((k : Int) < (N : Int)) = true := by simp; omega
      have hlt3 : decide (k < N) = true := by simp; omega
      have hkt : k < l.length := by rw [HN.out]; exact hlt
      obtain ⟨p, o, rfl, hp, hat⟩ := Ha.out (by omega)
      obtain ⟨x, hx⟩ : ∃ x, l[k]? = some x := ⟨_, List.getElem?_eq_getElem hkt⟩
      have c0 := (hB.cell (p := ⟨p, o + k * 1, none⟩) hp).trans (hat k x hx)
      rw [Nat.mul_one] at c0
      have hi0 : (0 : Int) ≤ (k : Int) := by omega
      have HX := Lib.hid hx
      clear hat hx
      by_cases e : s = x
      · subst e
        have HR := Lib.hid (has_of HX.out)
        go_wp2
        go_ret
        exact ⟨_, rfl, by rw [HR.out]; simp, hB⟩
      · have HT := Lib.hid (take_has HX.out hT.out (Ne.symm e))
        have hne : decide (s = x) = false := decide_eq_false e
        have hnb := toList_ne e
        go_wp2
        go_roundw
        case rel => exact ⟨k + 1, by go_num, by omega, HT, hB⟩
        case measure => simp [intOf]; omega
    · have hlt2 : decide ((k : Int) < (N : Int)) = false := by simp; omega
      have hlt3 : decide (k < N) = false := by simp; omega
      obtain rfl : k = N := by omega
      have HR := Lib.hid (show decide (s ∈ l) = false from decide_eq_false (by rw [← take_all HN.out]; exact hT.out))
      go_wp2
      go_ret
      exact ⟨_, rfl, by rw [HR.out]; rfl, hB⟩
set_option maxRecDepth 100000 in
set_option maxHeartbeats 8000000 in
theorem contains_any (v : Value) (l : List ByteArray) (s : ByteArray) (w : World) (h : Txs w v l) (hn : l.length ≤ 10000000000000) :
    Calls Try.prog 48 #[v, .string s] w fun e w' => e = .returned (.bool (decide (s ∈ l))) ∧ Below w.heap.size w w' := by
  have K := index_any v l s w h hn
  have K := Lib.hid K
  clear h hn
  go_enter Try.func48, Try.ntmps48
  go_wp2_with (go_at_call 68; refine (K.out).mono ?_; rintro e w1 ⟨n, rfl, hn, hb⟩)
  go_ret
  exact ⟨by rw [← hn]; rfl, hb⟩
end Go.Proofs.Ytkcgchpflppmnaa

namespace Go.Proofs.Ytkcgchpflppmnaa
open Go.RowKit
open Ev (AV Mem V VL MR)
set_option linter.unusedSimpArgs false
set_option linter.unusedVariables false
set_option maxRecDepth 1000000

theorem mix : Try.prog.follows .mixedOrders = true := by kernel_rfl
noncomputable def allV (r : AV) : List (AV × Mem) → Bool
  | [] => true
  | q :: l => AV.beq q.1 r && allV r l
noncomputable def ansV (r : AV) : Option (List (AV × Mem)) → Bool
  | some l => allV r l
  | none => false
theorem allV_mem {r : AV} : ∀ {l : List (AV × Mem)}, allV r l = true → ∀ q ∈ l, q.1 = r
  | [], _, q, hq => by cases hq
  | p :: l, h, q, hq => by
    rw [allV, Bool.and_eq_true] at h
    rcases List.mem_cons.1 hq with rfl | hq
    · exact AV.eq_of_beq _ _ h.1
    · exact allV_mem h.2 q hq
theorem valued {ν : Nat → Value} {Φ : Ev.Facts} [Ev.FactsOk Try.prog ν Φ] {F : FuncId} {args : List AV} {xs : Array Value} {r : AV} {z : Value} (h : ansV r (Ev.calls Try.prog Φ 100000 60 F args Mem.start) = true) (hx : VL ν (fun _ => none) args xs.toList)
    (hz : ∀ E x, V ν E r x → x = z) (w : World) : Calls Try.prog F xs w fun e w' => e = .returned z ∧ Below w.heap.size w w' := by
  cases e : Ev.calls Try.prog Φ 100000 60 F args Mem.start with
  | none => rw [e] at h; cases h
  | some l =>
    rw [e] at h
    have hall := allV_mem (show allV r l = true from h)
    refine Calls.mono (Ev.calls_ok (ν := ν) mix 100000 60 _ _ F args Mem.start l e rfl (fun _ => none) xs w hx (MR.start w)) fun e w' he => ?_
    obtain ⟨q, hq, E', x, _, rfl, hx, hM, _⟩ := he
    rw [hall q hq] at hx
    exact ⟨by rw [hz _ _ hx], hM.low⟩
noncomputable def fam (Φ : Ev.Facts) (F : FuncId) (args : Nat → List AV) (r : Nat → AV) : Nat → Bool
  | 0 => true
  | n + 1 => ansV (r n) (Ev.calls Try.prog Φ 100000 60 F (args n) Mem.start) && fam Φ F args r n
theorem fam_at {Φ : Ev.Facts} {F : FuncId} {args : Nat → List AV} {r : Nat → AV} : ∀ {n : Nat}, fam Φ F args r n = true → ∀ k, k < n → ansV (r k) (Ev.calls Try.prog Φ 100000 60 F (args k) Mem.start) = true
  | 0, _, k, hk => by omega
  | n + 1, h, k, hk => by
    rw [fam, Bool.and_eq_true] at h
    by_cases e : k = n
    · rw [e]; exact h.1
    · exact fam_at h.2 k (by omega)
abbrev ν0 : Nat → Value := fun _ => undef
theorem vl_nil (ν : Nat → Value) : VL ν (fun _ => none) [] [] := by simp only [VL]
theorem vl_int (ν : Nat → Value) (n : Int) {l : List AV} {xs : List Value} (h : VL ν (fun _ => none) l xs) : VL ν (fun _ => none) (.int .i64 n :: l) (.int .i64 n :: xs) := by
  simp only [VL, V]
  exact ⟨_, _, rfl, rfl, h⟩
theorem is_int (n : Int) (E : Ev.Env) (x : Value) (h : V ν0 E (.int .i64 n) x) : x = .int .i64 n := by simpa only [V] using h
def fst5 (n : Nat) : Int := (n / 5 : Nat) + 1
def snd5 (n : Nat) : Int := (n % 5 : Nat) + 1
abbrev two5 (n : Nat) : List AV := [.int .i64 (fst5 n), .int .i64 (snd5 n)]
theorem pair5 {a b : Int} (ha : 1 ≤ a ∧ a ≤ 5) (hb : 1 ≤ b ∧ b ≤ 5) : ∃ n, n < 25 ∧ fst5 n = a ∧ snd5 n = b := by
  exact ⟨((a - 1) * 5 + (b - 1)).toNat, by omega, by unfold fst5; omega, by unfold snd5; omega⟩
theorem two_of {F : FuncId} {g : Int → Int → Int} (h : fam Ev.noFacts F two5 (fun n => .int .i64 (g (fst5 n) (snd5 n))) 25 = true) {a b : Int} (ha : 1 ≤ a ∧ a ≤ 5) (hb : 1 ≤ b ∧ b ≤ 5) (w : World) :
    Calls Try.prog F #[.int .i64 a, .int .i64 b] w fun e w' => e = .returned (.int .i64 (g a b)) ∧ Below w.heap.size w w' := by
  obtain ⟨n, hn, rfl, rfl⟩ := pair5 ha hb
  exact valued (ν := ν0) (fam_at h n hn) (vl_int _ _ (vl_int _ _ (vl_nil _))) (is_int _) w
theorem one_of {F : FuncId} {g : Int → Int} (h : fam Ev.noFacts F (fun n => [.int .i64 (snd5 n)]) (fun n => .int .i64 (g (snd5 n))) 5 = true) {a : Int} (ha : 1 ≤ a ∧ a ≤ 5) (w : World) :
    Calls Try.prog F #[.int .i64 a] w fun e w' => e = .returned (.int .i64 (g a)) ∧ Below w.heap.size w w' := by
  obtain ⟨n, hn, e⟩ : ∃ n, n < 5 ∧ snd5 n = a := ⟨(a - 1).toNat, by omega, by unfold snd5; omega⟩
  subst e
  exact valued (ν := ν0) (fam_at h n hn) (vl_int _ _ (vl_nil _)) (is_int _) w
theorem both_any {a b : Int} (ha : 1 ≤ a ∧ a ≤ 5) (hb : 1 ≤ b ∧ b ≤ 5) (w : World) : Calls Try.prog 62 #[.int .i64 a, .int .i64 b] w fun e w' => e = .returned (.int .i64 (bothK a b)) ∧ Below w.heap.size w w' :=
  two_of (g := bothK) (by kernel_rfl) ha hb w
theorem either_any {a b : Int} (ha : 1 ≤ a ∧ a ≤ 5) (hb : 1 ≤ b ∧ b ≤ 5) (w : World) : Calls Try.prog 63 #[.int .i64 a, .int .i64 b] w fun e w' => e = .returned (.int .i64 (eitherK a b)) ∧ Below w.heap.size w w' :=
  two_of (g := eitherK) (by kernel_rfl) ha hb w
theorem rboth_any {a b : Int} (ha : 1 ≤ a ∧ a ≤ 5) (hb : 1 ≤ b ∧ b ≤ 5) (w : World) : Calls Try.prog 66 #[.int .i64 a, .int .i64 b] w fun e w' => e = .returned (.int .i64 (bothK a b)) ∧ Below w.heap.size w w' :=
  two_of (g := bothK) (by kernel_rfl) ha hb w
theorem reither_any {a b : Int} (ha : 1 ≤ a ∧ a ≤ 5) (hb : 1 ≤ b ∧ b ≤ 5) (w : World) : Calls Try.prog 67 #[.int .i64 a, .int .i64 b] w fun e w' => e = .returned (.int .i64 (eitherK a b)) ∧ Below w.heap.size w w' :=
  two_of (g := eitherK) (by kernel_rfl) ha hb w
theorem inLambda_any {a : Int} (ha : 1 ≤ a ∧ a ≤ 5) (w : World) : Calls Try.prog 64 #[.int .i64 a] w fun e w' => e = .returned (.int .i64 (withinK a)) ∧ Below w.heap.size w w' :=
  one_of (g := withinK) (by kernel_rfl) ha w
theorem rwithin_any {a : Int} (ha : 1 ≤ a ∧ a ≤ 5) (w : World) : Calls Try.prog 47 #[.int .i64 a] w fun e w' => e = .returned (.int .i64 (withinK a)) ∧ Below w.heap.size w w' :=
  one_of (g := withinK) (by kernel_rfl) ha w
end Go.Proofs.Ytkcgchpflppmnaa

namespace Go.Proofs.Ytkcgchpflppmnaa
open Go.RowKit
set_option linter.unusedSimpArgs false
set_option linter.unusedVariables false

structure Blk (W : World) (b : Nat) (c : Array Value) : Prop where
  lt : b < W.heap.size
  cell : ∀ j, W.cell? ⟨b, j, none⟩ = c[j]?
  free : ∀ j, W.frozen? ⟨b, j, none⟩ = false

theorem Blk.new (W : World) (c : Array Value) (t : TypeId) : Blk (W.alloc (.cells c t)) W.heap.size c := by
  have h := heap_alloc_new W (.cells c t)
  exact ⟨by simp, fun j => by unfold World.cell?; rw [h]; rfl, fun j => by unfold World.frozen?; rw [h]; simp⟩
theorem Blk.of_same {W W' : World} {b : Nat} {c : Array Value} (h : Blk W b c) (he : W'.heap[b]? = W.heap[b]?) (hs : W.heap.size ≤ W'.heap.size) : Blk W' b c :=
  ⟨Nat.lt_of_lt_of_le h.lt hs, fun j => (World.cell?_of_block (w := W) (a := ⟨b, j, none⟩) he).trans (h.cell j), fun j => (World.frozen?_of_block (w := W) (a := ⟨b, j, none⟩) he).trans (h.free j)⟩
theorem Blk.alloc {W : World} {b : Nat} {c : Array Value} (h : Blk W b c) (o : Obj) : Blk (W.alloc o) b c := h.of_same (Below.heap_alloc _ _ _ h.lt) (by simp)
theorem Blk.drew {W : World} {b : Nat} {c : Array Value} (h : Blk W b c) : Blk W.drew b c := h.of_same rfl (Nat.le_refl _)
theorem Blk.drewN {W : World} {b : Nat} {c : Array Value} (h : Blk W b c) (n : Nat) : Blk (W.drewN n) b c := h.of_same rfl (Nat.le_refl _)
theorem Blk.below {B : Nat} {W W' : World} {b : Nat} {c : Array Value} (h : Blk W b c) (hb : Below B W W') (hB : b < B) : Blk W' b c := h.of_same (hb.block b hB) hb.size
theorem Blk.other {W : World} {b : Nat} {c : Array Value} (h : Blk W b c) (a : Addr) (v : Value) (hne : b ≠ a.block) : Blk (W.setCell a v) b c :=
  h.of_same (Below.heap_setCell _ _ _ _ hne) (by simp [World.setCell])
theorem Blk.set {W : World} {b : Nat} {c : Array Value} (h : Blk W b c) (i : Nat) (v : Value) (hi : i < c.size) : Blk (W.setCell ⟨b, i, none⟩ v) b (c.setIfInBounds i v) := by
  refine ⟨by simpa [World.setCell] using h.lt, fun j => ?_, fun j => by rw [World.frozen?_setCell]; exact h.free j⟩
  by_cases e : i = j
  · subst e
    rw [World.cell?_setCell_same' _ _ _ (by rw [h.cell i]; simp [hi]), Array.getElem?_setIfInBounds_self_of_lt hi]
  · rw [World.cell?_setCell_other _ _ _ _ (by simp <;> omega), h.cell j]
    simp [Array.getElem?_setIfInBounds_ne e]

theorem own_shape {W : World} {base : Nat} {e : TypeId} {size : Nat} {v : Value} {n : Nat} {xs : List Value} (h : W.ownsRow base e size v n xs) : ∃ a c, v = .slice a n c := by
  rcases h.2 with ⟨rfl, h0⟩ | ⟨g, cap, _, rfl, _⟩
  · exact ⟨none, 0, by rw [h0]⟩
  · exact ⟨_, _, rfl⟩

theorem own_lt {W : World} {base : Nat} {e : TypeId} {size : Nat} {v : Value} {n : Nat} {xs : List Value} (h : W.ownsRow base e size v n xs) : ∀ g, v.ownBlock = some g → g < W.heap.size := by
  intro g hg
  rcases h.2 with ⟨rfl, _⟩ | ⟨g', cap, cur, rfl, _, hb, _⟩
  · simp [Value.ownBlock] at hg
  · simp [Value.ownBlock] at hg; subst hg; exact (Array.getElem?_eq_some_iff.1 hb).1
theorem own_on {B : Nat} {W W' : World} {base : Nat} {e : TypeId} {size : Nat} {v : Value} {n : Nat} {xs : List Value} (h : W.ownsRow base e size v n xs) (hb : Below B W W') (hB : ∀ g, v.ownBlock = some g → g < B) : W'.ownsRow base e size v n xs := by
  refine ⟨h.1, ?_⟩
  rcases h.2 with h2 | ⟨g, cap, cur, rfl, hg, hh, r⟩
  · exact .inl h2
  · exact .inr ⟨g, cap, cur, rfl, hg, (hb.block g (hB g rfl)).trans hh, r⟩
theorem own_low {W : World} {b b' : Nat} {e : TypeId} {size : Nat} {v : Value} {n : Nat} {xs : List Value} (h : W.ownsRow b e size v n xs) (hb : b' ≤ b) : W.ownsRow b' e size v n xs := by
  obtain ⟨h1, h2⟩ := h
  refine ⟨h1, ?_⟩
  rcases h2 with h2 | ⟨g, cap, cur, hv, hg, r⟩
  · exact .inl h2
  · exact .inr ⟨g, cap, cur, hv, by omega, r⟩
theorem own_from {W : World} {b : Nat} {e : TypeId} {size : Nat} {v : Value} {n : Nat} {xs : List Value} (h : W.ownsRow b e size v n xs) : ∀ k, v.ownBlock = some k → b ≤ k := by
  intro k hk
  rcases h.2 with ⟨rfl, _⟩ | ⟨g, cap, cur, rfl, hg, _⟩
  · simp [Value.ownBlock] at hk
  · simp [Value.ownBlock] at hk; omega
theorem infoS : (Try.prog.info? 9).map (fun i => (i.zero, i.size, i.bytes)) = some (some (.string ⟨#[]⟩), 1, 16) := by kernel_rfl
def strV (l : List ByteArray) : List Value := l.map .string
/-- Texts in a block of its own. -/
def SOwn (W : World) (B : Nat) (v : Value) (l : List ByteArray) : Prop := W.ownsRow B 9 1 v l.length (strV l)
theorem SOwn.txs {W : World} {B : Nat} {v : Value} {l : List ByteArray} (h : SOwn W B v l) : Txs W v l := by
  rcases h.2 with ⟨rfl, h0⟩ | ⟨g, cap, cur, rfl, _, hh, hc, _, hsz, ht⟩
  · exact ⟨none, 0, by rw [h0], fun h => by omega⟩
  · refine ⟨_, cap, rfl, fun _ => ⟨g, 0, rfl, (Array.getElem?_eq_some_iff.1 hh).1, fun k x hx => ?_⟩⟩
    have hk : k < l.length := (List.getElem?_eq_some_iff.1 hx).1
    have h1 : (strV l)[k]? = some (.string x) := by unfold strV; rw [List.getElem?_map, hx]; rfl
    rw [← ht, List.getElem?_take_of_lt (by omega)] at h1
    unfold World.cell?
    simp only [Nat.mul_one, Nat.zero_add, hh]
    simpa using h1
/-- The names of bindings. -/
def BNs (W : World) (v : Value) (l : List ByteArray) : Prop :=
  SlAt W 8 (fun b o x => ∃ (k m : Int) (nm : ByteArray) (p q r s : Option Addr) (p1 p2 q1 q2 r1 r2 s1 s2 : Nat), CellsAt W b o [.string x, .int .i64 k, .string nm, .int .i64 m, .slice p p1 p2, .slice q q1 q2, .slice r r1 r2, .slice s s1 s2]) v l
theorem names_of {d : Nat} {W : World} {bs : Value} {l : List (ByteArray × Ex d)} (h : SlAt W 8 (fun b o x => W.cell? ⟨b, o, none⟩ = some (.string x.1) ∧ ExAt W d b (o + 1) x.2) bs l) : BNs W bs (l.map (·.1)) := by
  obtain ⟨a, cap, rfl, hc⟩ := h
  refine ⟨a, cap, by rw [List.length_map], fun hl => ?_⟩
  obtain ⟨b, o, rfl, hb, hat⟩ := hc (by simpa using hl)
  refine ⟨b, o, rfl, hb, fun k x hx => ?_⟩
  rw [List.getElem?_map] at hx
  rcases hk : l[k]? with _ | y
  · rw [hk] at hx; simp at hx
  · rw [hk] at hx
    obtain rfl : y.1 = x := by simpa using hx
    obtain ⟨h1, h2⟩ := hat k y hk
    cases d with
    | zero => exact nomatch (y.2 : Empty)
    | succ d =>
      obtain ⟨cs, h3, _, _, _, _, rfl, ⟨p, p2, rfl, _⟩, ⟨q, q2, rfl, _⟩, ⟨r, r2, rfl, _⟩, ⟨s, s2, rfl, _⟩⟩ := h2
      obtain ⟨z, hz⟩ : ∃ z : ExN (Ex d), z = y.2 := ⟨_, rfl⟩
      rw [← hz] at h3
      refine ⟨z.kind, z.num, z.name, p, q, r, s, z.params.length, p2, z.binds.length, q2, z.args.length, r2, z.alts.length, s2, fun j c hj => ?_⟩
      cases j with
      | zero => obtain rfl : .string y.1 = c := by simpa using hj
                exact h1
      | succ j =>
        have := h3 j c (by simpa using hj)
        rw [show o + k * 8 + (j + 1) = o + k * 8 + 1 + j by omega]
        exact this

set_option maxRecDepth 100000 in
set_option maxHeartbeats 8000000 in
theorem bindNames_any (v : Value) (l : List ByteArray) (w : World) (h : BNs w v l) (hn : l.length ≤ 10000000) :
    Calls Try.prog 45 #[v] w fun e w' => ∃ v', e = .returned v' ∧ SOwn w' w.heap.size v' l ∧ Below w.heap.size w w' := by
  obtain ⟨a, ca, rfl, ha⟩ := h
  obtain ⟨N, hN⟩ : ∃ N, l.length = N := ⟨_, rfl⟩
  have HN := Lib.hid hN
  rw [hN] at hn ⊢
  have Ha := Lib.hid ha
  obtain ⟨i0, hi, hz0, hz1, hz2⟩ := info_parts infoS
  clear ha hN
  go_enter Try.func45, Try.ntmps45
  go_wp2
  go_loopw [3, 4] (fun v i wr => ∃ k : Nat, i = .int .i64 k ∧ k ≤ N ∧ Hid (SOwn wr w.heap.size v (l.take k)) ∧ Below w.heap.size w wr) (fun _ i _ => N - (intOf i).toNat)
  case atStart => exact ⟨0, rfl, Nat.zero_le _, Lib.hid (World.ownsRow_nil _ _ _ _), Below.refl _ _⟩
  case round =>
    obtain ⟨k, rfl, hk, HO, hB⟩ := hrel
    by_cases hlt : k < N
    · have hlt2 : decide ((k : Int) < (N : Int)) = true := by simp; omega
      have hlt3 : decide (k < N) = true := by simp; omega
      have hkt : k < l.length := by rw [HN.out]; exact hlt
      obtain ⟨p, o, rfl, hp, hat⟩ := Ha.out (by omega)
      obtain ⟨x, hx⟩ : ∃ x, l[k]? = some x := ⟨_, List.getElem?_eq_getElem hkt⟩
      obtain ⟨_, _, _, _, _, _, _, _, _, _, _, _, _, _, _, hcs⟩ := hat k x hx
      have c0 := (hB.cell (p := ⟨p, o + k * 8 + 0, none⟩) hp).trans (hcs 0 _ rfl)
      rw [Nat.add_zero] at c0
      have hi0 : (0 : Int) ≤ (k : Int) := by omega
      have HX := Lib.hid hx
      have hlen : (l.take k).length = k := by rw [List.length_take, HN.out]; omega
      have HLen := Lib.hid hlen
      have hs := hB.size
      have HB := Lib.hid hB
      clear hat hx hcs hlen
      go_wp2_with (at_builtin; refine wpList_append_own _ rfl _ _ 24 rfl w.heap.size 9 i0 (.string ⟨#[]⟩) 1 16 Try.underlying24 hi hz0 hz1 hz2 rfl (by decide) _ (l.take k).length (strV (l.take k)) rfl (HO.out.alloc _) ⟨wr.heap.size, 0, none⟩ 1 1 [.string x] rfl rfl ?news (by intro u hu; simp at hu; subst hu; rfl) (by rw [HLen.out]; unfold maxLen; omega) (by rw [HLen.out]; omega) (by simp; omega) ?_)
      case news =>
        intro j u hj
        have := (Blk.new wr #[.string x] 9).cell j
        rw [show (⟨wr.heap.size, 0, none⟩ : Addr).add j = ⟨wr.heap.size, j, none⟩ from by unfold Addr.add; split <;> simp_all]
        rw [this]
        simpa using hj
      intro v' w6 o6 g6 n6
      have e6 : l.take (k + 1) = l.take k ++ [x] := by rw [List.take_add_one, HX.out]; rfl
      have B6 : Below w.heap.size w w6 := (HB.out.alloc hs _).grown g6 (by simp; omega) (fun i e => own_from HO.out i e)
      have HO6 := Lib.hid (show SOwn w6 w.heap.size v' (l.take (k + 1)) by
        unfold SOwn strV
        rw [e6, List.length_append, List.map_append, List.length_take]
        exact o6)
      clear o6 g6 n6 e6
      go_wp2
      go_roundw
      case rel => exact ⟨k + 1, by go_num, by omega, HO6, B6⟩
      case measure => simp [intOf]; omega
    · have hlt2 : decide ((k : Int) < (N : Int)) = false := by simp; omega
      have hlt3 : decide (k < N) = false := by simp; omega
      obtain rfl : k = N := by omega
      have HO := Lib.hid (show SOwn wr w.heap.size _ l by have := HO.out; rwa [take_all HN.out] at this)
      go_wp2
      go_ret
      exact ⟨_, rfl, HO.out, hB⟩
end Go.Proofs.Ytkcgchpflppmnaa

namespace Go.Proofs.Ytkcgchpflppmnaa
open Go.RowKit
set_option linter.unusedSimpArgs false
set_option linter.unusedVariables false

set_option maxRecDepth 100000 in
set_option maxHeartbeats 8000000 in
theorem names_any (v : Value) (l : List ByteArray) (w : World) (h : BNs w v l) (hn : l.length ≤ 10000000) :
    Calls Try.prog 50 #[v] w fun e w' => ∃ v', e = .returned v' ∧ SOwn w' w.heap.size v' l ∧ Below w.heap.size w w' := by
  obtain ⟨a, ca, rfl, ha⟩ := h
  obtain ⟨N, hN⟩ : ∃ N, l.length = N := ⟨_, rfl⟩
  have HN := Lib.hid hN
  rw [hN] at hn ⊢
  have Ha := Lib.hid ha
  obtain ⟨i0, hi, hz0, hz1, hz2⟩ := info_parts infoS
  clear ha hN
  go_enter Try.func50, Try.ntmps50
  go_wp2
  go_loopw [3, 5, 8] (fun v _ i wr => ∃ k : Nat, i = .int .i64 k ∧ k ≤ N ∧ Hid (SOwn wr w.heap.size v (l.take k)) ∧ Below w.heap.size w wr) (fun _ _ i _ => N - (intOf i).toNat)
  case atStart => exact ⟨0, rfl, Nat.zero_le _, Lib.hid (World.ownsRow_nil _ _ _ _), Below.refl _ _⟩
  case round =>
    obtain ⟨k, rfl, hk, HO, hB⟩ := hrel
    by_cases hlt : k < N
    · have hlt2 : decide ((k : Int) < (N : Int)) = true := by simp; omega
      have hlt3 : decide (k < N) = true := by simp; omega
      have hkt : k < l.length := by rw [HN.out]; exact hlt
      obtain ⟨p, o, rfl, hp, hat⟩ := Ha.out (by omega)
      obtain ⟨x, hx⟩ : ∃ x, l[k]? = some x := ⟨_, List.getElem?_eq_getElem hkt⟩
      obtain ⟨y1, y3, y2, q4, q5, q6, q7, a4, b4, a5, b5, a6, b6, a7, b7, hcs⟩ := hat k x hx
      have c0 := (hB.cell (p := ⟨p, o + k * 8 + 0, none⟩) hp).trans (hcs 0 _ rfl)
      have c1 := (hB.cell (p := ⟨p, o + k * 8 + 1, none⟩) hp).trans (hcs 1 _ rfl)
      have c2 := (hB.cell (p := ⟨p, o + k * 8 + 2, none⟩) hp).trans (hcs 2 _ rfl)
      have c3 := (hB.cell (p := ⟨p, o + k * 8 + 3, none⟩) hp).trans (hcs 3 _ rfl)
      have c4 := (hB.cell (p := ⟨p, o + k * 8 + 4, none⟩) hp).trans (hcs 4 _ rfl)
      have c5 := (hB.cell (p := ⟨p, o + k * 8 + 5, none⟩) hp).trans (hcs 5 _ rfl)
      have c6 := (hB.cell (p := ⟨p, o + k * 8 + 6, none⟩) hp).trans (hcs 6 _ rfl)
      have c7 := (hB.cell (p := ⟨p, o + k * 8 + 7, none⟩) hp).trans (hcs 7 _ rfl)
      rw [Nat.add_zero] at c0
      have hi0 : (0 : Int) ≤ (k : Int) := by omega
      have HX := Lib.hid hx
      have hlen : (l.take k).length = k := by rw [List.length_take, HN.out]; omega
      have HLen := Lib.hid hlen
      have hs := hB.size
      have HB := Lib.hid hB
      clear hat hx hcs hlen
      go_upto_region 5 with fail
      have R2 := Blk.new wr #[.string x, .int .i64 y1, .string y2, .int .i64 y3, .slice q4 a4 b4, .slice q5 a5 b5, .slice q6 a6 b6, .slice q7 a7 b7] 56
      have B2 := hB.alloc hs (.cells #[.string x, .int .i64 y1, .string y2, .int .i64 y3, .slice q4 a4 b4, .slice q5 a5 b5, .slice q6 a6 b6, .slice q7 a7 b7] 56)
      have O2 := Lib.hid (show SOwn (wr.alloc (.cells #[.string x, .int .i64 y1, .string y2, .int .i64 y3, .slice q4 a4 b4, .slice q5 a5 b5, .slice q6 a6 b6, .slice q7 a7 b7] 56)) w.heap.size _ (l.take k) from HO.out.alloc _)
      generalize wr.alloc (.cells #[.string x, .int .i64 y1, .string y2, .int .i64 y3, .slice q4 a4 b4, .slice q5 a5 b5, .slice q6 a6 b6, .slice q7 a7 b7] 56) = W2 at R2 B2 O2 ⊢
      generalize wr.heap.size = r2 at R2 ⊢
      have d0 := R2.cell 0
      simp only [List.getElem?_toArray, List.getElem?_cons_zero, List.getElem?_cons_succ] at d0
      have hs2 := B2.size
      have HB2 := Lib.hid B2
      clear R2 B2 c0 c1 c2 c3 c4 c5 c6 c7
      go_wp2_with (at_builtin; refine wpList_append_own _ rfl _ _ 24 rfl w.heap.size 9 i0 (.string ⟨#[]⟩) 1 16 Try.underlying24 hi hz0 hz1 hz2 rfl (by decide) _ (l.take k).length (strV (l.take k)) rfl (O2.out.alloc _) ⟨W2.heap.size, 0, none⟩ 1 1 [.string x] rfl rfl ?news (by intro u hu; simp at hu; subst hu; rfl) (by rw [HLen.out]; unfold maxLen; omega) (by rw [HLen.out]; omega) (by simp; omega) ?_)
      case news =>
        intro j u hj
        have := (Blk.new W2 #[.string x] 9).cell j
        rw [show (⟨W2.heap.size, 0, none⟩ : Addr).add j = ⟨W2.heap.size, j, none⟩ from by unfold Addr.add; split <;> simp_all]
        rw [this]
        simpa using hj
      intro v' w6 o6 g6 n6
      have e6 : l.take (k + 1) = l.take k ++ [x] := by rw [List.take_add_one, HX.out]; rfl
      have B6 : Below w.heap.size w w6 := (HB2.out.alloc hs2 _).grown g6 (by simp; omega) (fun i e => own_from O2.out i e)
      have HO6 := Lib.hid (show SOwn w6 w.heap.size v' (l.take (k + 1)) by
        unfold SOwn strV
        rw [e6, List.length_append, List.map_append, List.length_take]
        exact o6)
      clear o6 g6 n6 e6
      go_wp2
      go_roundw
      case rel => exact ⟨k + 1, by go_num, by omega, HO6, B6⟩
      case measure => simp [intOf]; omega
    · have hlt2 : decide ((k : Int) < (N : Int)) = false := by simp; omega
      have hlt3 : decide (k < N) = false := by simp; omega
      obtain rfl : k = N := by omega
      have HO := Lib.hid (show SOwn wr w.heap.size _ l by have := HO.out; rwa [take_all HN.out] at this)
      go_wp2
      go_ret
      exact ⟨_, rfl, HO.out, hB⟩
end Go.Proofs.Ytkcgchpflppmnaa

namespace Go.Proofs.Ytkcgchpflppmnaa
open Go.RowKit
set_option linter.unusedSimpArgs false
set_option linter.unusedVariables false

/-- No list is longer than a bound, at no depth. -/
def Sm : (d : Nat) → Ex d → Prop
  | 0, e => nomatch (e : Empty)
  | d + 1, (e : ExN (Ex d)) => e.params.length ≤ 10000000 ∧ (e.binds.length ≤ 10000000 ∧ ∀ x ∈ e.binds, Sm d x.2) ∧ (e.args.length ≤ 10000000 ∧ ∀ x ∈ e.args, Sm d x) ∧ (e.alts.length ≤ 10000000 ∧ ∀ x ∈ e.alts, x.vars.length ≤ 10000000 ∧ Sm d x.e)

theorem BNs.below {W W' : World} {v : Value} {l : List ByteArray} (h : BNs W v l) (hW : Below W.heap.size W W') : BNs W' v l := by
  unfold BNs at h ⊢
  refine h.mono hW.size fun b o x hl _ hx => ?_
  obtain ⟨k, m, nm, p, q, r, s, p1, p2, q1, q2, r1, r2, s1, s2, hc⟩ := hx
  exact ⟨k, m, nm, p, q, r, s, p1, p2, q1, q2, r1, r2, s1, s2, hc.below hW hl⟩

set_option maxRecDepth 100000 in
set_option maxHeartbeats 8000000 in
theorem hides_any (d b o : Nat) (e : ExN (Ex d)) (s : ByteArray) (w : World) (hb : b < w.heap.size) (h : ExAt w (d + 1) b o e) (hs : Sm (d + 1) e) :
    Calls Try.prog 41 #[.pointer (some ⟨b, o, none⟩), .string s] w fun r w' => r = .returned (.bool (hidesK e s)) ∧ Below w.heap.size w w' := by
  obtain ⟨cs, hcs, ps, bs, es, ls, rfl, h1, h2, h3, h4⟩ := h
  have c3 := hcs 3 ps rfl
  have c4 := hcs 4 bs rfl
  have hn1 : e.params.length ≤ 10000000 := hs.1
  have hn2 : (e.binds.map (·.1)).length ≤ 10000000 := by rw [List.length_map]; exact hs.2.1.1
  have KP := Lib.hid (fun W (hW : Below w.heap.size w W) => contains_any ps e.params s W (h1.below hW) (by omega))
  have KN := Lib.hid (fun W (hW : Below w.heap.size w W) => names_any bs (e.binds.map (·.1)) W ((names_of h2).below hW) hn2)
  have KC := Lib.hid (fun W v (hv : Txs W v (e.binds.map (·.1))) => contains_any v (e.binds.map (·.1)) s W hv (by omega))
  have G4 := Lib.hid (show ∀ W, Below w.heap.size w W → W.cell? ⟨b, o + 4, none⟩ = some bs from fun W hW => (hW.cell (p := ⟨b, o + 4, none⟩) hb).trans c4)
  clear hcs h1 h2 h3 h4 hs hn1 hn2 c4
  by_cases e1 : s ∈ e.params
  · have HK := Lib.hid (show hidesK e s = true by unfold hidesK; rw [decide_eq_true e1]; rfl)
    have d1 := decide_eq_true e1
    go_enter Try.func41, Try.ntmps41
    go_wp2_with (go_at_call 48; refine (KP.out _ (Below.refl _ _)).mono ?_; rintro r1 w1 ⟨rfl, b1⟩; rw [d1])
    go_ret
    exact ⟨by rw [HK.out]; rfl, b1⟩
  · have HK := Lib.hid (show hidesK e s = decide (s ∈ e.binds.map (·.1)) by unfold hidesK; rw [decide_eq_false e1]; rfl)
    have d1 := decide_eq_false e1
    go_enter Try.func41, Try.ntmps41
    go_wp2_with (first | (go_at_call 48; with_reducible (refine (KP.out _ (Below.refl _ _)).mono ?_); rintro r1 w1 ⟨rfl, b1⟩; rw [d1]; have g4 := G4.out _ b1; have b1' := Lib.hid b1) | (go_at_call 50; refine (KN.out _ b1'.out).mono ?_; rintro r2 w2 ⟨v2, rfl, o2, b2⟩; have t2 := Lib.hid o2.txs; have B2 := Lib.hid (chain b1'.out b2)) | (go_at_call 48; with_reducible (refine (KC.out _ _ t2.out).mono ?_); rintro r3 w3 ⟨rfl, b3⟩))
    go_ret
    exact ⟨by rw [HK.out]; rfl, chain B2.out b3⟩
end Go.Proofs.Ytkcgchpflppmnaa

namespace Go.Proofs.Ytkcgchpflppmnaa
open Go.RowKit
set_option linter.unusedSimpArgs false
set_option linter.unusedVariables false

theorem fold_next {β : Type} (f : Int → β → Int) (st : Int) {l : List β} {k : Nat} {x : β} (hx : l[k]? = some x) : (l.take (k + 1)).foldl f st = f ((l.take k).foldl f st) x := by
  rw [List.take_add_one, hx, List.foldl_append]; rfl
theorem fold_all {β : Type} (f : Int → β → Int) (st : Int) {l : List β} {n : Nat} (h : l.length = n) : (l.take n).foldl f st = l.foldl f st := by subst h; rw [List.take_length]

set_option maxRecDepth 100000 in
set_option maxHeartbeats 8000000 in
theorem inside_any (d b o : Nat) (e : ExN (Ex d)) (s : ByteArray) (w : World) (hb : b < w.heap.size) (h : ExAt w (d + 1) b o e) (hs : Sm (d + 1) e)
    (hof : ∀ (x : Ex d) (b o : Nat) (W : World), b < W.heap.size → ExAt W d b o x → Sm d x → Calls Try.prog 26 #[.pointer (some ⟨b, o, none⟩), .string s] W fun r W' => r = .returned (.int .i64 (ofK 1 5 s d x)) ∧ Below W.heap.size W W') :
    Calls Try.prog 42 #[.pointer (some ⟨b, o, none⟩), .string s] w fun r w' => r = .returned (.int .i64 (insideK (ofK 1 5 s d) 1 5 e s)) ∧ Below w.heap.size w w' := by
  obtain ⟨cs, hcs, ps, bs, es, ls, rfl, h1, ⟨q4, r4, rfl, h2⟩, ⟨q5, r5, rfl, h3⟩, ⟨q6, r6, rfl, h4⟩⟩ := h
  have hcl := fun j c hj W (hW : Below w.heap.size w W) => (hW.cell (p := ⟨b, o + j, none⟩) hb).trans (hcs j c hj)
  have C0 := Lib.hid (hcl 0 _ rfl)
  have C1 := Lib.hid (hcl 1 _ rfl)
  have C4 := Lib.hid (hcl 4 _ rfl)
  have C5 := Lib.hid (hcl 5 _ rfl)
  have C6 := Lib.hid (hcl 6 _ rfl)
  have c0 := C0.out w (Below.refl _ _)
  have c1 := C1.out w (Below.refl _ _)
  have c4 := C4.out w (Below.refl _ _)
  rw [Nat.add_zero] at c0
  obtain ⟨N4, hN4⟩ : ∃ N, e.binds.length = N := ⟨_, rfl⟩
  obtain ⟨N5, hN5⟩ : ∃ N, e.args.length = N := ⟨_, rfl⟩
  obtain ⟨N6, hN6⟩ : ∃ N, e.alts.length = N := ⟨_, rfl⟩
  have m4 : N4 ≤ 10000000 := hN4 ▸ hs.2.1.1
  have m5 : N5 ≤ 10000000 := hN5 ▸ hs.2.2.1.1
  have m6 : N6 ≤ 10000000 := hN6 ▸ hs.2.2.2.1
  rw [hN4] at C4 c4
  rw [hN5] at C5
  rw [hN6] at C6
  have HN4 := Lib.hid hN4
  have HN5 := Lib.hid hN5
  have HN6 := Lib.hid hN6
  have H2 := Lib.hid (show True ∧ _ from ⟨trivial, h2⟩)
  have H3 := Lib.hid h3
  have H4 := Lib.hid h4
  have HS := Lib.hid hs
  have HOF := Lib.hid hof
  have HIN := Lib.hid (of_in 1 5 s d)
  obtain ⟨kd, hkd⟩ : ∃ kd, e.kind = kd := ⟨_, rfl⟩
  obtain ⟨nm, hnm⟩ : ∃ nm, e.name = nm := ⟨_, rfl⟩
  rw [hkd] at C0 c0
  rw [hnm] at C1 c1
  have HKD := Lib.hid hkd
  have HNM := Lib.hid hnm
  clear hcs hcl h1 h2 h3 h4 hs hof hN4 hN5 hN6 hkd hnm
  obtain ⟨st, hst⟩ : ∃ st : Int, (if e.kind = 1 ∧ e.name = s then (2 : Int) else 1) = st := ⟨_, rfl⟩
  have HST := Lib.hid hst
  have hcase : ((kd == 1) = false ∧ decide (kd = 1) = false ∧ Hid (st = 1)) ∨ ((kd == 1) = true ∧ decide (kd = 1) = true ∧ (nm.toList == s.toList) = false ∧ Hid (st = 1)) ∨ ((kd == 1) = true ∧ decide (kd = 1) = true ∧ (nm.toList == s.toList) = true ∧ Hid (st = 2)) := by
    by_cases e1 : kd = 1
    · by_cases e2 : nm = s
      · exact .inr (.inr ⟨by simp [e1], by simp [e1], by rw [e2]; simp, Lib.hid (by rw [← hst, if_pos ⟨HKD.out.trans e1, HNM.out.trans e2⟩])⟩)
      · exact .inr (.inl ⟨by simp [e1], by simp [e1], toList_ne e2, Lib.hid (by rw [← hst, if_neg (fun h => e2 (HNM.out.symm.trans h.2))])⟩)
    · exact .inl ⟨by simp [e1], by simp [e1], Lib.hid (by rw [← hst, if_neg (fun h => e1 (HKD.out.symm.trans h.1))])⟩
  clear hst
  rcases hcase with ⟨k1, k2, S0⟩ | ⟨k1, k2, k3, S0⟩ | ⟨k1, k2, k3, S0⟩
  all_goals
    go_enter Try.func42, Try.ntmps42
    go_upto_region 5 with fail
    go_loopw [5, 6, 28] (fun v _ i wr => ∃ (k : Nat) (m : Int), i = .int .i64 k ∧ v = .int .i64 m ∧ k ≤ N4 ∧ Hid (1 ≤ m ∧ m ≤ 5) ∧ Hid (m = (e.binds.take k).foldl (fun o x => bothK o (ofK 1 5 s d x.2)) st) ∧ Below w.heap.size w wr) (fun _ _ i _ => N4 - (intOf i).toNat)
    case atStart => exact ⟨0, _, rfl, rfl, Nat.zero_le _, Lib.hid (by omega), Lib.hid S0.out.symm, Below.refl _ _⟩
    case round =>
      obtain ⟨k, m, rfl, rfl, hk, HM, HF, hB⟩ := hrel
      by_cases hlt : k < N4
      · have hlt2 : decide ((k : Int) < (N4 : Int)) = true := by simp; omega
        have hlt3 : decide (k < N4) = true := by simp; omega
        have hkt : k < e.binds.length := by rw [HN4.out]; exact hlt
        obtain ⟨p, o', hq, hp, hat⟩ := H2.out.2 (by omega)
        subst hq
        obtain ⟨x, hx⟩ : ∃ x, e.binds[k]? = some x := ⟨_, List.getElem?_eq_getElem hkt⟩
        have g4 := C4.out wr hB
        have hi0 : (0 : Int) ≤ (k : Int) := by omega
        have hsz := hB.size
        have KO := Lib.hid (HOF.out x.2 p (o' + k * 8 + 1) wr (by omega) (ExAt.below hB d p _ x.2 hp (hat k x hx).2) (HS.out.2.1.2 x (List.mem_of_getElem? hx)))
        have HX := Lib.hid hx
        have HB := Lib.hid hB
        clear hat hx c0 c1 c4
        go_wp2_with (first | (go_at_call 26; refine KO.out.mono ?_; rintro r1 w1 ⟨rfl, b1⟩; have B1 := Lib.hid (chain HB.out b1)) | (go_at_call 62; refine (both_any HM.out (HIN.out x.2) _).mono ?_; rintro r2 w2 ⟨rfl, b2⟩; have B2 := Lib.hid (chain B1.out b2)))
        go_roundw
        case rel => exact ⟨k + 1, _, by go_num, rfl, by omega, Lib.hid (both_in HM.out (HIN.out x.2)), Lib.hid (by rw [fold_next _ _ HX.out, ← HF.out]), B2.out⟩
        case measure => simp [intOf]; omega
      · have hlt2 : decide ((k : Int) < (N4 : Int)) = false := by simp; omega
        have hlt3 : decide (k < N4) = false := by simp; omega
        obtain rfl : k = N4 := by omega
        have HF1 := Lib.hid (HF.out.trans (fold_all _ _ HN4.out))
        have g5 := C5.out wr hB
        clear HF c0 c1 c4
        go_upto_region 10 with fail
        go_loopw [5, 7, 48] (fun v _ i wr => ∃ (k : Nat) (m : Int), i = .int .i64 k ∧ v = .int .i64 m ∧ k ≤ N5 ∧ Hid (1 ≤ m ∧ m ≤ 5) ∧ Hid (m = (e.args.take k).foldl (fun o x => bothK o (ofK 1 5 s d x)) (e.binds.foldl (fun o x => bothK o (ofK 1 5 s d x.2)) st)) ∧ Below w.heap.size w wr) (fun _ _ i _ => N5 - (intOf i).toNat)
        case atStart => exact ⟨0, _, rfl, rfl, Nat.zero_le _, HM, HF1, hB⟩
        case round =>
          clear g5 hB HM HF1 hlt hlt2 hlt3
          obtain ⟨k, m2, rfl, rfl, hk, HM, HF, hB⟩ := hrel
          by_cases hlt : k < N5
          · have hlt2 : decide ((k : Int) < (N5 : Int)) = true := by simp; omega
            have hlt3 : decide (k < N5) = true := by simp; omega
            have hkt : k < e.args.length := by rw [HN5.out]; exact hlt
            obtain ⟨p, o', hq, hp, hat⟩ := H3.out (by omega)
            subst hq
            obtain ⟨x, hx⟩ : ∃ x, e.args[k]? = some x := ⟨_, List.getElem?_eq_getElem hkt⟩
            have g5 := C5.out _ hB
            have hi0 : (0 : Int) ≤ (k : Int) := by omega
            have hsz := hB.size
            have KO := Lib.hid (HOF.out x p (o' + k * 7) _ (by omega) (ExAt.below hB d p _ x hp (hat k x hx)) (HS.out.2.2.1.2 x (List.mem_of_getElem? hx)))
            have HX := Lib.hid hx
            have HB := Lib.hid hB
            clear hat hx
            go_wp2_with (first | (go_at_call 26; refine KO.out.mono ?_; rintro r1 w1 ⟨rfl, b1⟩; have B1 := Lib.hid (chain HB.out b1)) | (go_at_call 62; refine (both_any HM.out (HIN.out x) _).mono ?_; rintro r2 w2 ⟨rfl, b2⟩; have B2 := Lib.hid (chain B1.out b2)))
            go_roundw
            case rel => exact ⟨k + 1, _, by go_num, rfl, by omega, Lib.hid (both_in HM.out (HIN.out x)), Lib.hid (by rw [fold_next _ _ HX.out, ← HF.out]), B2.out⟩
            case measure => simp [intOf]; omega
          · have hlt2 : decide ((k : Int) < (N5 : Int)) = false := by simp; omega
            have hlt3 : decide (k < N5) = false := by simp; omega
            obtain rfl : k = N5 := by omega
            have HF2 := Lib.hid (HF.out.trans (fold_all _ _ HN5.out))
            have HM2 := HM
            have g6 := C6.out _ hB
            clear HF HM
            go_upto_region 16 with fail
            go_loopw [8, 9, 67] (fun v _ i wr => ∃ (k : Nat) (m : Int), i = .int .i64 k ∧ v = .int .i64 m ∧ k ≤ N6 ∧ Hid (1 ≤ m ∧ m ≤ 5) ∧ Hid (m = (e.alts.take k).foldl (fun o x => if s ∈ x.vars then o else eitherK o (ofK 1 5 s d x.e)) 1) ∧ Below w.heap.size w wr) (fun _ _ i _ => N6 - (intOf i).toNat)
            case atStart => exact ⟨0, _, rfl, rfl, Nat.zero_le _, Lib.hid (by omega), Lib.hid rfl, hB⟩
            case round =>
              clear g6 hB hlt hlt2 hlt3 hk
              obtain ⟨k, m, rfl, rfl, hk, HM, HF, hB⟩ := hrel
              have g6 := C6.out _ hB
              have hi0 : (0 : Int) ≤ (k : Int) := by omega
              have hsz := hB.size
              have HB := Lib.hid hB
              by_cases hlt : k < N6
              · have hlt2 : decide ((k : Int) < (N6 : Int)) = true := by simp; omega
                have hlt3 : decide (k < N6) = true := by simp; omega
                have hkt : k < e.alts.length := by rw [HN6.out]; exact hlt
                obtain ⟨p, o', hq, hp, hat⟩ := H4.out (by omega)
                subst hq
                obtain ⟨x, hx⟩ : ∃ x, e.alts[k]? = some x := ⟨_, List.getElem?_eq_getElem hkt⟩
                obtain ⟨vs, hcs, htx, hex⟩ := hat k x hx
                have hsm := HS.out.2.2.2.2 x (List.mem_of_getElem? hx)
                have a3 := (hB.cell (p := ⟨p, o' + k * 11 + 3, none⟩) hp).trans (hcs 3 _ rfl)
                have KV := Lib.hid (fun W (hW : Below w.heap.size w W) => contains_any vs x.vars s W (htx.below hW) (by omega))
                have KO := Lib.hid (fun W (hW : Below w.heap.size w W) => HOF.out x.e p (o' + k * 11 + 4) W (by have := hW.size; omega) (ExAt.below hW d p _ x.e hp hex) hsm.2)
                have HX := Lib.hid hx
                have G6 := Lib.hid (fun W (hW : Below w.heap.size w W) => C6.out W hW)
                clear hat hx hcs htx hex hsm
                by_cases e1 : s ∈ x.vars
                · have d1 := decide_eq_true e1
                  go_wp2_with (go_at_call 48; refine (KV.out _ HB.out).mono ?_; rintro r1 w1 ⟨rfl, b1⟩; rw [d1]; have B1 := Lib.hid (chain HB.out b1))
                  go_roundw
                  case rel => exact ⟨k + 1, _, by go_num, rfl, by omega, HM, Lib.hid (by rw [fold_next _ _ HX.out, ← HF.out, if_pos e1]), B1.out⟩
                  case measure => simp [intOf]; omega
                · have d1 := decide_eq_false e1
                  go_wp2_with (first | (go_at_call 48; refine (KV.out _ HB.out).mono ?_; rintro r1 w1 ⟨rfl, b1⟩; rw [d1]; have B1 := Lib.hid (chain HB.out b1); have f6 := C6.out _ B1.out) | (go_at_call 26; refine (KO.out _ B1.out).mono ?_; rintro r2 w2 ⟨rfl, b2⟩; have B2 := Lib.hid (chain B1.out b2)) | (go_at_call 63; refine (either_any HM.out (HIN.out x.e) _).mono ?_; rintro r3 w3 ⟨rfl, b3⟩; have B3 := Lib.hid (chain B2.out b3)))
                  go_roundw
                  case rel => exact ⟨k + 1, _, by go_num, rfl, by omega, Lib.hid (either_in HM.out (HIN.out x.e)), Lib.hid (by rw [fold_next _ _ HX.out, ← HF.out, if_neg e1]), B3.out⟩
                  case measure => simp [intOf]; omega
              · have hlt2 : decide ((k : Int) < (N6 : Int)) = false := by simp; omega
                have hlt3 : decide (k < N6) = false := by simp; omega
                obtain rfl : k = N6 := by omega
                have HF3 := Lib.hid (HF.out.trans (fold_all _ _ HN6.out))
                have HL : inLetK (ofK 1 5 s d) 1 e s = bothK m2 m := by
                  unfold inLetK
                  rw [HST.out, ← HF2.out, ← HF3.out]
                have HLin := Lib.hid (both_in HM2.out HM.out)
                have HLh := Lib.hid HL
                clear g6 hB hi0 hsz HL HF HF3
                by_cases e5 : kd = 5
                · have t1 : (kd == 5) = true := by simp [e5]
                  have t2 : decide (kd = 5) = true := by simp [e5]
                  have HR := Lib.hid (show insideK (ofK 1 5 s d) 1 5 e s = withinK (bothK m2 m) by unfold insideK; rw [if_pos (HKD.out.trans e5), HLh.out])
                  clear e5
                  go_wp2_with (first | (go_at_call 62; refine (both_any HM2.out HM.out _).mono ?_; rintro r1 w1 ⟨rfl, b1⟩; have B1 := Lib.hid (chain HB.out b1); have f0 := C0.out _ B1.out; rw [Nat.add_zero] at f0) | (go_at_call 64; refine (inLambda_any HLin.out _).mono ?_; rintro r2 w2 ⟨rfl, b2⟩; have B2 := Lib.hid (chain B1.out b2)))
                  go_ret
                  exact ⟨by rw [HR.out]; rfl, B2.out⟩
                · have t1 : (kd == 5) = false := by simp [e5]
                  have t2 : decide (kd = 5) = false := by simp [e5]
                  have HR := Lib.hid (show insideK (ofK 1 5 s d) 1 5 e s = bothK m2 m by unfold insideK; rw [if_neg (fun h => e5 (HKD.out.symm.trans h)), HLh.out])
                  clear e5
                  go_wp2_with (go_at_call 62; refine (both_any HM2.out HM.out _).mono ?_; rintro r1 w1 ⟨rfl, b1⟩; have B1 := Lib.hid (chain HB.out b1); have f0 := C0.out _ B1.out; rw [Nat.add_zero] at f0)
                  go_ret
                  exact ⟨by rw [HR.out]; rfl, B1.out⟩
end Go.Proofs.Ytkcgchpflppmnaa

namespace Go.Proofs.Ytkcgchpflppmnaa
open Go.RowKit
set_option linter.unusedSimpArgs false
set_option linter.unusedVariables false

set_option maxRecDepth 100000 in
set_option maxHeartbeats 8000000 in
theorem of_step (d : Nat) (s : ByteArray)
    (hof : ∀ (x : Ex d) (b o : Nat) (W : World), b < W.heap.size → ExAt W d b o x → Sm d x → Calls Try.prog 26 #[.pointer (some ⟨b, o, none⟩), .string s] W fun r W' => r = .returned (.int .i64 (ofK 1 5 s d x)) ∧ Below W.heap.size W W')
    (e : ExN (Ex d)) (b o : Nat) (w : World) (hb : b < w.heap.size) (h : ExAt w (d + 1) b o e) (hs : Sm (d + 1) e) :
    Calls Try.prog 26 #[.pointer (some ⟨b, o, none⟩), .string s] w fun r w' => r = .returned (.int .i64 (ofK 1 5 s (d + 1) e)) ∧ Below w.heap.size w w' := by
  have KH := Lib.hid (hides_any d b o e s w hb h hs)
  have KI := Lib.hid (fun W (hW : Below w.heap.size w W) => inside_any d b o e s W (Nat.lt_of_lt_of_le hb hW.size) (ExAt.below hW (d + 1) b o e hb h) hs hof)
  clear h hs hof
  cases hh : hidesK e s with
  | true =>
    have HR := Lib.hid (show ofK 1 5 s (d + 1) e = 1 from (if_pos hh : (if hidesK e s = true then (1 : Int) else insideK (ofK 1 5 s d) 1 5 e s) = 1))
    rw [hh] at KH
    go_enter Try.func26, Try.ntmps26
    go_wp2_with (go_at_call 41; refine KH.out.mono ?_; rintro r1 w1 ⟨rfl, b1⟩)
    go_ret
    exact ⟨by rw [HR.out]; rfl, b1⟩
  | false =>
    have HR := Lib.hid (show ofK 1 5 s (d + 1) e = insideK (ofK 1 5 s d) 1 5 e s from (if_neg (by rw [hh]; decide) : (if hidesK e s = true then (1 : Int) else insideK (ofK 1 5 s d) 1 5 e s) = _))
    rw [hh] at KH
    go_enter Try.func26, Try.ntmps26
    go_wp2_with (first | (go_at_call 41; refine KH.out.mono ?_; rintro r1 w1 ⟨rfl, b1⟩; have B1 := Lib.hid b1) | (go_at_call 42; refine (KI.out _ B1.out).mono ?_; rintro r2 w2 ⟨rfl, b2⟩))
    go_ret
    exact ⟨by rw [HR.out]; rfl, chain B1.out b2⟩
/-- occur.of tells the plain law's occurrence. -/
theorem of_any (s : ByteArray) : ∀ (d : Nat) (x : Ex d) (b o : Nat) (W : World), b < W.heap.size → ExAt W d b o x → Sm d x →
    Calls Try.prog 26 #[.pointer (some ⟨b, o, none⟩), .string s] W fun r W' => r = .returned (.int .i64 (ofK 1 5 s d x)) ∧ Below W.heap.size W W'
  | 0, x, _, _, _, _, _, _ => nomatch (x : Empty)
  | d + 1, x, b, o, W, hb, h, hs => of_step d s (of_any s d) x b o W hb h hs
end Go.Proofs.Ytkcgchpflppmnaa

namespace Go.Proofs.Ytkcgchpflppmnaa
open Go.RowKit
set_option linter.unusedSimpArgs false
set_option linter.unusedVariables false

/-- The seven cells, each in its form. -/
def exV (k : Int) (nm : ByteArray) (m : Int) (p q r s : Option Addr) (p1 p2 q1 q2 r1 r2 s1 s2 : Nat) : List Value :=
  [.int .i64 k, .string nm, .int .i64 m, .slice p p1 p2, .slice q q1 q2, .slice r r1 r2, .slice s s1 s2]
theorem parts_form {α : Type} {W : World} {A : Nat → Nat → α → Prop} {l : List Value} {e : ExN α} (h : PartsN W A l e) :
    ∃ (p q r s : Option Addr) (p2 q2 r2 s2 : Nat), l = exV e.kind e.name e.num p q r s e.params.length p2 e.binds.length q2 e.args.length r2 e.alts.length s2 := by
  obtain ⟨_, _, _, _, rfl, ⟨p, p2, rfl, _⟩, ⟨q, q2, rfl, _⟩, ⟨r, r2, rfl, _⟩, ⟨s, s2, rfl, _⟩⟩ := h
  exact ⟨p, q, r, s, p2, q2, r2, s2, rfl⟩
theorem ex_val {d b o : Nat} {W : World} {x : Ex d} (h : ExAt W d b o x) :
    ∃ (k : Int) (nm : ByteArray) (m : Int) (p q r s : Option Addr) (p1 p2 q1 q2 r1 r2 s1 s2 : Nat), CellsAt W b o (exV k nm m p q r s p1 p2 q1 q2 r1 r2 s1 s2) ∧ ExIs W d (.agg (exV k nm m p q r s p1 p2 q1 q2 r1 r2 s1 s2).toArray) x := by
  cases d with
  | zero => exact nomatch (x : Empty)
  | succ d =>
    obtain ⟨l, h1, h2⟩ := h
    obtain ⟨p, q, r, s, p2, q2, r2, s2, rfl⟩ := parts_form h2
    exact ⟨_, _, _, p, q, r, s, _, p2, _, q2, _, r2, _, s2, h1, _, rfl, h2⟩
theorem ExIs.boxed {d : Nat} {W : World} {l : List Value} {x : Ex d} {t : TypeId} (h : ExIs W d (.agg l.toArray) x) : ExAt (W.alloc (.cells l.toArray t)) d W.heap.size 0 x := by
  cases d with
  | zero => exact nomatch (x : Empty)
  | succ d =>
    obtain ⟨l', hl, h2⟩ := h
    obtain rfl : l = l' := by simpa using hl
    have hb : Below W.heap.size W (W.alloc (.cells l.toArray t)) := (Below.refl _ W).alloc (Nat.le_refl _) _
    refine ⟨l, fun j c hj => ?_, h2.below hb fun b o x hl hx => ExAt.below hb d b o x hl hx⟩
    have := (Blk.new W l.toArray t).cell j
    rw [Nat.zero_add, this]
    simpa using hj
end Go.Proofs.Ytkcgchpflppmnaa
