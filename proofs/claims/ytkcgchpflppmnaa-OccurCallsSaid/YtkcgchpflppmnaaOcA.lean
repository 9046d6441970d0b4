/- Expressions, indexed by how deep they are; where they lie in memory; the plain law of occurrences. -/
import Derived.ProofKit
import Derived.OpenShut
import Derived.Carry
import Derived.Lib.Hide
namespace Go.Proofs.Ytkcgchpflppmnaa
open Go.RowKit
set_option linter.unusedSimpArgs false
set_option linter.unusedVariables false

instance lawfulBytes : LawfulBEq ByteArray where
  eq_of_beq {a b} h := by
    cases a with | mk a => cases b with | mk b => exact congrArg ByteArray.mk (eq_of_beq (α := Array UInt8) h)
  rfl {a} := by cases a with | mk a => exact beq_self_eq_true (a : Array UInt8)

structure AltN (α : Type) where
  kind : Int
  name : ByteArray
  num : Int
  vars : List ByteArray
  e : α
structure ExN (α : Type) where
  kind : Int
  name : ByteArray
  num : Int
  params : List ByteArray
  binds : List (ByteArray × α)
  args : List α
  alts : List (AltN α)
/-- An expression no deeper than that. -/
def Ex : Nat → Type
  | 0 => Empty
  | d + 1 => ExN (Ex d)

/-- A slice of what R says, each of so many cells. -/
def SlAt {β : Type} (W : World) (sz : Nat) (R : Nat → Nat → β → Prop) (v : Value) (l : List β) : Prop :=
  ∃ (a : Option Addr) (cap : Nat), v = .slice a l.length cap ∧ (0 < l.length → ∃ b o, a = some ⟨b, o, none⟩ ∧ b < W.heap.size ∧ ∀ k x, l[k]? = some x → R b (o + k * sz) x)
theorem SlAt.mono {β : Type} {W W' : World} {sz : Nat} {R R' : Nat → Nat → β → Prop} {v : Value} {l : List β} (h : SlAt W sz R v l) (hs : W.heap.size ≤ W'.heap.size) (hR : ∀ b o x, b < W.heap.size → x ∈ l → R b o x → R' b o x) : SlAt W' sz R' v l := by
  obtain ⟨a, cap, hv, hc⟩ := h
  refine ⟨a, cap, hv, fun hl => ?_⟩
  obtain ⟨b, o, h1, h2, h3⟩ := hc hl
  exact ⟨b, o, h1, Nat.lt_of_lt_of_le h2 hs, fun k x hx => hR b _ x h2 (List.mem_of_getElem? hx) (h3 k x hx)⟩
/-- Cells that stand behind one another. -/
def CellsAt (W : World) (b o : Nat) (l : List Value) : Prop := ∀ j c, l[j]? = some c → W.cell? ⟨b, o + j, none⟩ = some c
theorem CellsAt.below {W W' : World} {b o : Nat} {l : List Value} (h : CellsAt W b o l) (hb : Below W.heap.size W W') (hl : b < W.heap.size) : CellsAt W' b o l :=
  fun j c hj => (hb.cell (p := ⟨b, o + j, none⟩) hl).trans (h j c hj)
/-- Texts in memory. -/
def Txs (W : World) (v : Value) (l : List ByteArray) : Prop := SlAt W 1 (fun b o s => W.cell? ⟨b, o, none⟩ = some (.string s)) v l
theorem Txs.below {W W' : World} {v : Value} {l : List ByteArray} (h : Txs W v l) (hb : Below W.heap.size W W') : Txs W' v l :=
  SlAt.mono h hb.size fun b o x hl _ hx => (hb.cell (p := ⟨b, o, none⟩) hl).trans hx
/-- The parts of an expression, one by one. -/
def PartsN {α : Type} (W : World) (A : Nat → Nat → α → Prop) (l : List Value) (e : ExN α) : Prop :=
  ∃ ps bs as ls, l = [.int .i64 e.kind, .string e.name, .int .i64 e.num, ps, bs, as, ls] ∧ Txs W ps e.params ∧
    SlAt W 8 (fun b o x => W.cell? ⟨b, o, none⟩ = some (.string x.1) ∧ A b (o + 1) x.2) bs e.binds ∧
    SlAt W 7 A as e.args ∧
    SlAt W 11 (fun b o x => ∃ vs, CellsAt W b o [.int .i64 x.kind, .string x.name, .int .i64 x.num, vs] ∧ Txs W vs x.vars ∧ A b (o + 4) x.e) ls e.alts
theorem PartsN.below {α : Type} {W W' : World} {A A' : Nat → Nat → α → Prop} {l : List Value} {e : ExN α} (h : PartsN W A l e) (hb : Below W.heap.size W W') (hA : ∀ b o x, b < W.heap.size → A b o x → A' b o x) : PartsN W' A' l e := by
  obtain ⟨ps, bs, as, ls, h0, h1, h2, h3, h4⟩ := h
  refine ⟨ps, bs, as, ls, h0, h1.below hb, h2.mono hb.size fun b o x hl _ hx => ⟨(hb.cell (p := ⟨b, o, none⟩) hl).trans hx.1, hA _ _ _ hl hx.2⟩, h3.mono hb.size fun b o x hl _ hx => hA _ _ _ hl hx, h4.mono hb.size fun b o x hl _ hx => ?_⟩
  obtain ⟨vs, k1, k2, k3⟩ := hx
  exact ⟨vs, k1.below hb hl, k2.below hb, hA _ _ _ hl k3⟩
/-- An expression lies there. -/
def ExAt (W : World) : (d : Nat) → Nat → Nat → Ex d → Prop
  | 0 => fun _ _ e => nomatch (e : Empty)
  | d + 1 => fun b o e => ∃ l, CellsAt W b o l ∧ PartsN W (ExAt W d) l (e : ExN (Ex d))
/-- A value is an expression. -/
def ExIs (W : World) : (d : Nat) → Value → Ex d → Prop
  | 0 => fun _ e => nomatch (e : Empty)
  | d + 1 => fun v e => ∃ l, v = .agg l.toArray ∧ PartsN W (ExAt W d) l (e : ExN (Ex d))
theorem ExAt.below {W W' : World} (hb : Below W.heap.size W W') : ∀ (d b o : Nat) (e : Ex d), b < W.heap.size → ExAt W d b o e → ExAt W' d b o e
  | 0, _, _, e, _, _ => nomatch (e : Empty)
  | d + 1, b, o, e, hl, ⟨l, h1, h2⟩ => ⟨l, h1.below hb hl, h2.below hb fun b o x hl => ExAt.below hb d b o x hl⟩
theorem ExIs.below {W W' : World} (hb : Below W.heap.size W W') : ∀ (d : Nat) (v : Value) (e : Ex d), ExIs W d v e → ExIs W' d v e
  | 0, _, e, _ => nomatch (e : Empty)
  | d + 1, v, e, ⟨l, h1, h2⟩ => ⟨l, h1, h2.below hb fun b o x hl => ExAt.below hb d b o x hl⟩

/-! The plain law: 1 dead, 2 once, 3 branch, 4 lambda, 5 many. -/
def bothK (a b : Int) : Int := if a = 1 then b else if b = 1 then a else 5
def eitherK (a b : Int) : Int := if a = 1 ∨ b = 1 then bothK a b else if (a = 2 ∨ a = 3) ∧ (b = 2 ∨ b = 3) then 3 else 5
def withinK (a : Int) : Int := if a = 2 ∨ a = 4 then 4 else if a = 1 then a else 5
def hidesK {α : Type} (e : ExN α) (s : ByteArray) : Bool := decide (s ∈ e.params) || decide (s ∈ e.binds.map (·.1))
def inLetK {α : Type} (r : α → Int) (kv : Int) (e : ExN α) (s : ByteArray) : Int :=
  bothK (e.args.foldl (fun o x => bothK o (r x)) (e.binds.foldl (fun o x => bothK o (r x.2)) (if e.kind = kv ∧ e.name = s then 2 else 1)))
    (e.alts.foldl (fun o x => if s ∈ x.vars then o else eitherK o (r x.e)) 1)
def insideK {α : Type} (r : α → Int) (kv kl : Int) (e : ExN α) (s : ByteArray) : Int := if e.kind = kl then withinK (inLetK r kv e s) else inLetK r kv e s
def ofK (kv kl : Int) (s : ByteArray) : (d : Nat) → Ex d → Int
  | 0, e => nomatch (e : Empty)
  | d + 1, e => if hidesK (e : ExN (Ex d)) s then 1 else insideK (ofK kv kl s d) kv kl e s
def countK (kv : Int) (s : ByteArray) : (d : Nat) → Ex d → Int
  | 0, e => nomatch (e : Empty)
  | d + 1, (e : ExN (Ex d)) => if hidesK e s then 0 else
      (if e.kind = kv ∧ e.name = s then 1 else 0) + (e.binds.map fun x => countK kv s d x.2).sum + (e.args.map (countK kv s d)).sum + (e.alts.map fun x => if s ∈ x.vars then 0 else countK kv s d x.e).sum
def allK (kv kl : Int) : (d : Nat) → Ex d → List (ByteArray × Int)
  | 0, e => nomatch (e : Empty)
  | d + 1, (e : ExN (Ex d)) =>
      e.params.map (fun s => (s, inLetK (ofK kv kl s d) kv e s)) ++ e.binds.map (fun x => (x.1, inLetK (ofK kv kl x.1 d) kv e x.1)) ++
        e.binds.flatMap (fun x => allK kv kl d x.2) ++ e.args.flatMap (allK kv kl d) ++ e.alts.flatMap (fun x => x.vars.map (fun s => (s, ofK kv kl s d x.e)) ++ allK kv kl d x.e)
/-- How many expressions there are. -/
def sizeK : (d : Nat) → Ex d → Nat
  | 0, e => nomatch (e : Empty)
  | d + 1, (e : ExN (Ex d)) => 1 + (e.binds.map fun x => sizeK d x.2).sum + (e.args.map (sizeK d)).sum + (e.alts.map fun x => sizeK d x.e).sum
theorem both_in {a b : Int} (ha : 1 ≤ a ∧ a ≤ 5) (hb : 1 ≤ b ∧ b ≤ 5) : 1 ≤ bothK a b ∧ bothK a b ≤ 5 := by unfold bothK; split <;> (try split) <;> omega
theorem either_in {a b : Int} (ha : 1 ≤ a ∧ a ≤ 5) (hb : 1 ≤ b ∧ b ≤ 5) : 1 ≤ eitherK a b ∧ eitherK a b ≤ 5 := by
  unfold eitherK
  split
  · exact both_in ha hb
  · split <;> omega
theorem within_in {a : Int} (ha : 1 ≤ a ∧ a ≤ 5) : 1 ≤ withinK a ∧ withinK a ≤ 5 := by unfold withinK; split <;> (try split) <;> omega
theorem foldl_in {β : Type} (f : Int → β → Int) (hf : ∀ o x, 1 ≤ o ∧ o ≤ 5 → 1 ≤ f o x ∧ f o x ≤ 5) : ∀ (l : List β) (o : Int), 1 ≤ o ∧ o ≤ 5 → 1 ≤ l.foldl f o ∧ l.foldl f o ≤ 5
  | [], _, h => h
  | x :: l, o, h => foldl_in f hf l _ (hf o x h)
theorem inLet_in {α : Type} (r : α → Int) (hr : ∀ x, 1 ≤ r x ∧ r x ≤ 5) (kv : Int) (e : ExN α) (s : ByteArray) : 1 ≤ inLetK r kv e s ∧ inLetK r kv e s ≤ 5 := by
  unfold inLetK
  refine both_in (foldl_in _ (fun o x h => both_in h (hr x)) _ _ (foldl_in _ (fun o x h => both_in h (hr x.2)) _ _ ?_)) (foldl_in _ (fun o x h => ?_) _ _ (by omega))
  · split <;> omega
  · split
    · exact h
    · exact either_in h (hr x.e)
theorem of_in (kv kl : Int) (s : ByteArray) : ∀ (d : Nat) (e : Ex d), 1 ≤ ofK kv kl s d e ∧ ofK kv kl s d e ≤ 5
  | 0, e => nomatch (e : Empty)
  | d + 1, e => by
    unfold ofK
    split
    · omega
    · unfold insideK
      split
      · exact within_in (inLet_in _ (of_in kv kl s d) _ _ _)
      · exact inLet_in _ (of_in kv kl s d) _ _ _
end Go.Proofs.Ytkcgchpflppmnaa
