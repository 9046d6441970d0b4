/- The occurrence of a name: by induction on the depth. -/
import Derived.Test.YtkcgchpflppmnaaOcI
namespace Go.Proofs.Ytkcgchpflppmnaa
open Go.RowKit
set_option linter.unusedSimpArgs false
set_option linter.unusedVariables false

set_option maxRecDepth 100000 in
set_option maxHeartbeats 8000000 in
theorem of_step (d : Nat) (s : ByteArray)
    (hof : ∀ (x : Ex d) (b o : Nat) (W : World), b < W.heap.size → ExAt W d b o x → Sm d x → Calls Try.prog 26 #[.pointer (some ⟨b, o, none⟩), .string s] W fun r W' => r = .returned (.int .i64 (ofK 1 5 s d x)) ∧ Below W.heap.size W W')
    (e : ExN (Ex d)) (b o : Nat) (w : World) (hb : b < w.heap.size) (h : ExAt w (d + 1) b o e) (hs : Sm (d + 1) e) :
    Calls Try.prog 26 #[.pointer (some ⟨b, o, none⟩), .string s] w fun r w' => r = .returned (.int .i64 (ofK 1 5 s (d + 1) e)) ∧ Below w.heap.size w w' := by
  have KH := Lib.hid (hides_any d b o e s w hb h hs)
  have KI := Lib.hid (fun W (hW : Below w.heap.size w W) => inside_any d b o e s W (Nat.lt_of_lt_of_le hb hW.size) (ExAt.below hW (d + 1) b o e hb h) hs hof)
  clear h hs hof
  cases hh : hidesK e s with
  | true =>
    have HR := Lib.hid (show ofK 1 5 s (d + 1) e = 1 from (if_pos hh : (if hidesK e s = true then (1 : Int) else insideK (ofK 1 5 s d) 1 5 e s) = 1))
    rw [hh] at KH
    go_enter Try.func26, Try.ntmps26
    go_wp2_with (go_at_call 41; refine KH.out.mono ?_; rintro r1 w1 ⟨rfl, b1⟩)
    go_ret
    exact ⟨by rw [HR.out]; rfl, b1⟩
  | false =>
    have HR := Lib.hid (show ofK 1 5 s (d + 1) e = insideK (ofK 1 5 s d) 1 5 e s from (if_neg (by rw [hh]; decide) : (if hidesK e s = true then (1 : Int) else insideK (ofK 1 5 s d) 1 5 e s) = _))
    rw [hh] at KH
    go_enter Try.func26, Try.ntmps26
    go_wp2_with (first | (go_at_call 41; refine KH.out.mono ?_; rintro r1 w1 ⟨rfl, b1⟩; have B1 := Lib.hid b1) | (go_at_call 42; refine (KI.out _ B1.out).mono ?_; rintro r2 w2 ⟨rfl, b2⟩))
    go_ret
    exact ⟨by rw [HR.out]; rfl, chain B1.out b2⟩
/-- occur.of tells the plain law's occurrence. -/
theorem of_any (s : ByteArray) : ∀ (d : Nat) (x : Ex d) (b o : Nat) (W : World), b < W.heap.size → ExAt W d b o x → Sm d x →
    Calls Try.prog 26 #[.pointer (some ⟨b, o, none⟩), .string s] W fun r W' => r = .returned (.int .i64 (ofK 1 5 s d x)) ∧ Below W.heap.size W W'
  | 0, x, _, _, _, _, _, _ => nomatch (x : Empty)
  | d + 1, x, b, o, W, hb, h, hs => of_step d s (of_any s d) x b o W hb h hs
end Go.Proofs.Ytkcgchpflppmnaa
