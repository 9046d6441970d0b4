/- core: the state of a look at an expression. -/
import Derived.Test.YtkcgchpflppmnaaOeP
import Derived.Test.YtkcgchpflppmnaaOeQ
import Derived.Test.YtkcgchpflppmnaaOeH
import Derived.Test.YtkcgchpflppmnaaOeJ
import Derived.Test.YtkcgchpflppmnaaOeK
namespace Go.Proofs.Ytkcgchpflppmnaa
open Go.RowKit
set_option linter.unusedSimpArgs false
set_option linter.unusedVariables false

structure XSt (w0 wi W : World) (cb bm : Nat) : Prop where
  c : ∃ k, Blk W cb #[.map (some bm), .int .i64 k]
  g : wi.grownBy W (some cb)
  b : Below w0.heap.size w0 W
  m : WMap W bm ConV
  n6 : bm ≠ cb
  n0 : w0.heap.size ≤ cb
variable {w0 wi W W' : World} {cb bm : Nat}
theorem XSt.below (h : XSt w0 wi W cb bm) (b : Below W.heap.size W W') : XSt w0 wi W' cb bm :=
  ⟨h.c.imp fun k hk => hk.below b hk.lt, grown_transE h.g (grown_belowE _ b), chain h.b b, h.m.below b, h.n6, h.n0⟩
theorem XSt.note (h : XSt w0 wi W cb bm) {k : Int} (hc : Blk W' cb #[.map (some bm), .int .i64 k]) (g : W.grownBy W' (some cb)) : XSt w0 wi W' cb bm :=
  ⟨⟨k, hc⟩, grown_transE h.g g, below_gnew h.b g h.n0, h.m.grown g h.n6, h.n6, h.n0⟩
theorem XSt.bad (h : XSt w0 wi W cb bm) : Bad W cb := by obtain ⟨k, hk⟩ := h.c; exact Bad.blk hk ⟨_, rfl⟩
theorem XSt.c0 (h : XSt w0 wi W cb bm) : W.cell? ⟨cb, 0, none⟩ = some (.map (some bm)) := by obtain ⟨k, hk⟩ := h.c; exact hk.cell 0
theorem XSt.noteC (h : XSt w0 wi W cb bm) (c : Bool) (e : Int) : Calls Try.prog 55 #[.pointer (some ⟨cb, 0, none⟩), .bool c, .int .i64 e] W fun r W' => r = .returned (.tuple #[]) ∧ XSt w0 wi W' cb bm := by
  obtain ⟨k, hk⟩ := h.c
  refine (note_any cb _ k c e W hk).mono ?_
  rintro r W' ⟨k', rfl, hk', hg⟩
  exact ⟨rfl, h.note hk' hg⟩
theorem XSt.post (h : XSt w0 wi W cb bm) {r : Ending} (hr : r = .returned (.tuple #[])) : NotePost wi cb (.map (some bm)) r W := by
  obtain ⟨k, hk⟩ := h.c
  exact NotePost.mk hr hk h.g
theorem hasS (v : Value) (fs : List (List ByteArray)) (s : ByteArray) (w : World) (h : FrAt w v fs) (hn : FrSm fs) :
    Calls Try.prog 56 #[v, .string s] w fun e w' => SomeBool w e w' := by
  refine (frHas_any v fs s w h hn).mono ?_
  rintro e w' ⟨rfl, hb⟩
  exact SomeBool.mk rfl hb
theorem wp_region_class {P : Program} {id : Nat} {Q : Exit → Act → World → Prop} {a : Act} {w : World} {l : List Oper} (C : World → Prop) (hm : P.follows .mixedOrders = true) (hB : Region.lexB .any l.toArray = true) (hC : C w.drew)
    (h : wpQuiet P l.toArray C (fun a' => ∀ w', C w' → Q .normal a' w') l a) : (Code.region id l.toArray true).wp P Q a w :=
  wp_region_quiet (C := C) hm hB hC (by simpa using h)
set_option maxRecDepth 1000000 in
theorem XSt.noteG {w0 wi W : World} {cb bm : Nat} (h : XSt w0 wi W cb bm) (c : Bool) (e : Int) : Calls Try.prog 55 #[.pointer (some ⟨cb, 0, none⟩), .bool c, .int .i64 e] W fun r W' => r = .returned (.tuple #[]) ∧ XSt w0 wi W' cb bm ∧ W.grownBy W' (some cb) := by
  obtain ⟨k, hk⟩ := h.c
  refine (note_any cb _ k c e W hk).mono ?_
  rintro r W' ⟨k', rfl, hk', hg⟩
  exact ⟨rfl, h.note hk' hg, hg⟩
theorem AlS.below {d : Nat} {W W' : World} {v : Value} {L : List (AltN (Ex d))} (h : AlS W v L) (hb : Below W.heap.size W W') : AlS W' v L := by
  unfold AlS at h ⊢
  refine h.mono hb.size fun b o x hl _ hx => ?_
  obtain ⟨a, c, k, m, nm, p, q, r, s, p1, p2, q1, q2, r1, r2, s1, s2, hc, ht⟩ := hx
  exact ⟨a, c, k, m, nm, p, q, r, s, p1, p2, q1, q2, r1, r2, s1, s2, hc.below hb hl, ht.below hb⟩
theorem reach_le : reachBytes ≤ 1000000000000000 := by decide
end Go.Proofs.Ytkcgchpflppmnaa
