/- Does an expression hide a name? -/
import Derived.Test.YtkcgchpflppmnaaOcG
namespace Go.Proofs.Ytkcgchpflppmnaa
open Go.RowKit
set_option linter.unusedSimpArgs false
set_option linter.unusedVariables false

/-- No list is longer than a bound, at no depth. -/
def Sm : (d : Nat) → Ex d → Prop
  | 0, e => nomatch (e : Empty)
  | d + 1, (e : ExN (Ex d)) => e.params.length ≤ 10000000 ∧ (e.binds.length ≤ 10000000 ∧ ∀ x ∈ e.binds, Sm d x.2) ∧ (e.args.length ≤ 10000000 ∧ ∀ x ∈ e.args, Sm d x) ∧ (e.alts.length ≤ 10000000 ∧ ∀ x ∈ e.alts, x.vars.length ≤ 10000000 ∧ Sm d x.e)

theorem BNs.below {W W' : World} {v : Value} {l : List ByteArray} (h : BNs W v l) (hW : Below W.heap.size W W') : BNs W' v l := by
  unfold BNs at h ⊢
  refine h.mono hW.size fun b o x hl _ hx => ?_
  obtain ⟨k, m, nm, p, q, r, s, p1, p2, q1, q2, r1, r2, s1, s2, hc⟩ := hx
  exact ⟨k, m, nm, p, q, r, s, p1, p2, q1, q2, r1, r2, s1, s2, hc.below hW hl⟩

set_option maxRecDepth 100000 in
set_option maxHeartbeats 8000000 in
theorem hides_any (d b o : Nat) (e : ExN (Ex d)) (s : ByteArray) (w : World) (hb : b < w.heap.size) (h : ExAt w (d + 1) b o e) (hs : Sm (d + 1) e) :
    Calls Try.prog 41 #[.pointer (some ⟨b, o, none⟩), .string s] w fun r w' => r = .returned (.bool (hidesK e s)) ∧ Below w.heap.size w w' := by
  obtain ⟨cs, hcs, ps, bs, es, ls, rfl, h1, h2, h3, h4⟩ := h
  have c3 := hcs 3 ps rfl
  have c4 := hcs 4 bs rfl
  have hn1 : e.params.length ≤ 10000000 := hs.1
  have hn2 : (e.binds.map (·.1)).length ≤ 10000000 := by rw [List.length_map]; exact hs.2.1.1
  have KP := Lib.hid (fun W (hW : Below w.heap.size w W) => contains_any ps e.params s W (h1.below hW) (by omega))
  have KN := Lib.hid (fun W (hW : Below w.heap.size w W) => names_any bs (e.binds.map (·.1)) W ((names_of h2).below hW) hn2)
  have KC := Lib.hid (fun W v (hv : Txs W v (e.binds.map (·.1))) => contains_any v (e.binds.map (·.1)) s W hv (by omega))
  have G4 := Lib.hid (show ∀ W, Below w.heap.size w W → W.cell? ⟨b, o + 4, none⟩ = some bs from fun W hW => (hW.cell (p := ⟨b, o + 4, none⟩) hb).trans c4)
  clear hcs h1 h2 h3 h4 hs hn1 hn2 c4
  by_cases e1 : s ∈ e.params
  · have HK := Lib.hid (show hidesK e s = true by unfold hidesK; rw [decide_eq_true e1]; rfl)
    have d1 := decide_eq_true e1
    go_enter Try.func41, Try.ntmps41
    go_wp2_with (go_at_call 48; refine (KP.out _ (Below.refl _ _)).mono ?_; rintro r1 w1 ⟨rfl, b1⟩; rw [d1])
    go_ret
    exact ⟨by rw [HK.out]; rfl, b1⟩
  · have HK := Lib.hid (show hidesK e s = decide (s ∈ e.binds.map (·.1)) by unfold hidesK; rw [decide_eq_false e1]; rfl)
    have d1 := decide_eq_false e1
    go_enter Try.func41, Try.ntmps41
    go_wp2_with (first | (go_at_call 48; with_reducible (refine (KP.out _ (Below.refl _ _)).mono ?_); rintro r1 w1 ⟨rfl, b1⟩; rw [d1]; have g4 := G4.out _ b1; have b1' := Lib.hid b1) | (go_at_call 50; refine (KN.out _ b1'.out).mono ?_; rintro r2 w2 ⟨v2, rfl, o2, b2⟩; have t2 := Lib.hid o2.txs; have B2 := Lib.hid (chain b1'.out b2)) | (go_at_call 48; with_reducible (refine (KC.out _ _ t2.out).mono ?_); rintro r3 w3 ⟨rfl, b3⟩))
    go_ret
    exact ⟨by rw [HK.out]; rfl, chain B2.out b3⟩
end Go.Proofs.Ytkcgchpflppmnaa
