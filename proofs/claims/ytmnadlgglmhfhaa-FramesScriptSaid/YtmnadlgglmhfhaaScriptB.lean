/- The law FramesScript: its walk. -/
import Derived.Test.YtmnadlgglmhfhaaScriptA
import Derived.Test.YtmnadlgglmhfhaaRef4
namespace Go.Proofs.Ytmnadlgglmhfhaa
open Go.RowKit

set_option maxRecDepth 100000 in
set_option maxHeartbeats 4000000 in
theorem script_big (v : Value) (xs : List ActD) (lim : Int) (w : World) (h : ActsAt w v xs) (hl : xs.length ≤ 1000000000000000) (hs : smallL xs = false) :
    Calls Try.prog 6 #[.int .i64 lim, v] w fun e w' => e = .returned (.bool true) ∧ Below w.heap.size w w' := by
  have k1 := fun W (hW : Below w.heap.size w W) => small_any v xs W (h.below hW) hl
  rw [hs] at k1
  have K1 := Lib.hid k1
  obtain ⟨a, c, rfl, _⟩ := h
  clear k1
  go_enter Try.func6, Try.ntmps6
  go_wp2_with (first | (go_at_call 8; refine (lives_true _).mono ?_; rintro e w0 ⟨rfl, hb0⟩) | (go_at_call 9; refine (K1.out _ hb0).mono ?_; rintro e w1 ⟨rfl, hb1⟩))
  go_ret
  exact ⟨rfl, hb0.trans (hb1.mono hb0.size)⟩

set_option maxRecDepth 100000 in
set_option maxHeartbeats 4000000 in
theorem script_bad (v : Value) (xs : List ActD) (lim : Int) (w : World) (h : ActsAt w v xs) (hl : xs.length ≤ 1000000000000000) (hs : smallL xs = true) (hb : ¬ (0 ≤ lim ∧ lim ≤ 4194304)) :
    Calls Try.prog 6 #[.int .i64 lim, v] w fun e w' => e = .returned (.bool true) ∧ Below w.heap.size w w' := by
  have k1 := fun W (hW : Below w.heap.size w W) => small_any v xs W (h.below hW) hl
  rw [hs] at k1
  have K1 := Lib.hid k1
  obtain ⟨a, c, rfl, _⟩ := h
  clear k1
  have k2 := fun W => new_bad lim W hb
  have k3 := fun W => rnew_bad lim W hb
  clear hb
  go_enter Try.func6, Try.ntmps6
  go_wp2_with (first | (go_at_call 8; refine (lives_true _).mono ?_; rintro e w0 ⟨rfl, hb0⟩) | (go_at_call 9; refine (K1.out _ hb0).mono ?_; rintro e w1 ⟨rfl, hb1⟩) | (go_at_call 10; refine (k2 _).mono ?_; rintro e w2 ⟨rfl, hb2⟩) | (go_at_call 24; refine (k3 _).mono ?_; rintro e w3 ⟨rfl, hb3⟩))
  go_ret
  have l2 := (hb0.trans (hb1.mono hb0.size)).trans (hb2.mono (Nat.le_trans hb0.size hb1.size))
  exact ⟨rfl, l2.trans (hb3.mono l2.size)⟩

end Go.Proofs.Ytmnadlgglmhfhaa
