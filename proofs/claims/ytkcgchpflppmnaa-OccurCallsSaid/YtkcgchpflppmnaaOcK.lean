/- An expression that lies in memory, read as a value; a value put into a block of its own. -/
import Derived.Test.YtkcgchpflppmnaaOcJ
namespace Go.Proofs.Ytkcgchpflppmnaa
open Go.RowKit
set_option linter.unusedSimpArgs false
set_option linter.unusedVariables false

/-- The seven cells, each in its form. -/
def exV (k : Int) (nm : ByteArray) (m : Int) (p q r s : Option Addr) (p1 p2 q1 q2 r1 r2 s1 s2 : Nat) : List Value :=
  [.int .i64 k, .string nm, .int .i64 m, .slice p p1 p2, .slice q q1 q2, .slice r r1 r2, .slice s s1 s2]
theorem parts_form {α : Type} {W : World} {A : Nat → Nat → α → Prop} {l : List Value} {e : ExN α} (h : PartsN W A l e) :
    ∃ (p q r s : Option Addr) (p2 q2 r2 s2 : Nat), l = exV e.kind e.name e.num p q r s e.params.length p2 e.binds.length q2 e.args.length r2 e.alts.length s2 := by
  obtain ⟨_, _, _, _, rfl, ⟨p, p2, rfl, _⟩, ⟨q, q2, rfl, _⟩, ⟨r, r2, rfl, _⟩, ⟨s, s2, rfl, _⟩⟩ := h
  exact ⟨p, q, r, s, p2, q2, r2, s2, rfl⟩
theorem ex_val {d b o : Nat} {W : World} {x : Ex d} (h : ExAt W d b o x) :
    ∃ (k : Int) (nm : ByteArray) (m : Int) (p q r s : Option Addr) (p1 p2 q1 q2 r1 r2 s1 s2 : Nat), CellsAt W b o (exV k nm m p q r s p1 p2 q1 q2 r1 r2 s1 s2) ∧ ExIs W d (.agg (exV k nm m p q r s p1 p2 q1 q2 r1 r2 s1 s2).toArray) x := by
  cases d with
  | zero => exact nomatch (x : Empty)
  | succ d =>
    obtain ⟨l, h1, h2⟩ := h
    obtain ⟨p, q, r, s, p2, q2, r2, s2, rfl⟩ := parts_form h2
    exact ⟨_, _, _, p, q, r, s, _, p2, _, q2, _, r2, _, s2, h1, _, rfl, h2⟩
theorem ExIs.boxed {d : Nat} {W : World} {l : List Value} {x : Ex d} {t : TypeId} (h : ExIs W d (.agg l.toArray) x) : ExAt (W.alloc (.cells l.toArray t)) d W.heap.size 0 x := by
  cases d with
  | zero => exact nomatch (x : Empty)
  | succ d =>
    obtain ⟨l', hl, h2⟩ := h
    obtain rfl : l = l' := by simpa using hl
    have hb : Below W.heap.size W (W.alloc (.cells l.toArray t)) := (Below.refl _ W).alloc (Nat.le_refl _) _
    refine ⟨l, fun j c hj => ?_, h2.below hb fun b o x hl hx => ExAt.below hb d b o x hl hx⟩
    have := (Blk.new W l.toArray t).cell j
    rw [Nat.zero_add, this]
    simpa using hj
end Go.Proofs.Ytkcgchpflppmnaa
