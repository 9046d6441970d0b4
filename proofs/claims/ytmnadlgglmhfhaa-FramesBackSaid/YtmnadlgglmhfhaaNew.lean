/- Contracts of frames.New. -/
import Derived.Test.YtmnadlgglmhfhaaTab
namespace Go.Proofs.Ytmnadlgglmhfhaa
open Go.RowKit
set_option linter.unusedSimpArgs false

set_option maxHeartbeats 1000000 in
theorem new_any (lim : Int) (w : World) (h : 0 ≤ lim ∧ lim ≤ 4194304) :
    Calls Try.prog 10 #[.int .i64 lim] w fun e w' => ∃ b, e = .returned (.tuple #[.pointer (some ⟨b, 0, none⟩), .int .i64 0]) ∧ Blk w' b #[.int .i64 lim, .int .i64 0, .slice none 0 0, .bool true] ∧ w.heap.size ≤ b ∧ Below w.heap.size w w' := by
  obtain ⟨h1, h2⟩ := h
  have d1 : decide (lim < 0) = false := by simp; omega
  have d2 : decide (4194304 < lim) = false := by simp; omega
  go_enter Try.func10, Try.ntmps10
  go_wp2
  trace_state
  exact bodyPost_ret (v := .tuple #[.pointer (some ⟨w.heap.size, 0, none⟩), .int .i64 0]) (by simp [results, Try.results10, go_sem]) rfl ⟨_, rfl, Blk.new _ _ _, Nat.le_refl _, by ((repeat (first | exact Below.refl _ _ | (refine Below.alloc ?_ (by first | (simp [World.setCell]; done) | (simp [World.setCell]; omega)) _) | (refine Below.setCell ?_ (by first | (simp [World.setCell]; done) | (simp [World.setCell]; omega)) _) | refine Below.drew ?_)))⟩

set_option maxHeartbeats 1000000 in
theorem new_bad (lim : Int) (w : World) (h : ¬ (0 ≤ lim ∧ lim ≤ 4194304)) :
    Calls Try.prog 10 #[.int .i64 lim] w fun e w' => e = .returned (.tuple #[.pointer none, .int .i64 2]) ∧ Below w.heap.size w w' := by
  by_cases h1 : lim < 0
  · have d1 : decide (lim < 0) = true := by simp; omega
    clear h
    go_enter Try.func10, Try.ntmps10
    go_wp2
    exact bodyPost_ret (v := .tuple #[.pointer none, .int .i64 2]) (by simp [results, Try.results10, go_sem]) rfl ⟨rfl, by ((repeat (first | exact Below.refl _ _ | (refine Below.alloc ?_ (by first | (simp [World.setCell]; done) | (simp [World.setCell]; omega)) _) | (refine Below.setCell ?_ (by first | (simp [World.setCell]; done) | (simp [World.setCell]; omega)) _) | refine Below.drew ?_)))⟩
  · have d1 : decide (lim < 0) = false := by simp; omega
    have d2 : decide (4194304 < lim) = true := by simp; omega
    clear h
    go_enter Try.func10, Try.ntmps10
    go_wp2
    exact bodyPost_ret (v := .tuple #[.pointer none, .int .i64 2]) (by simp [results, Try.results10, go_sem]) rfl ⟨rfl, by ((repeat (first | exact Below.refl _ _ | (refine Below.alloc ?_ (by first | (simp [World.setCell]; done) | (simp [World.setCell]; omega)) _) | (refine Below.setCell ?_ (by first | (simp [World.setCell]; done) | (simp [World.setCell]; omega)) _) | refine Below.drew ?_)))⟩

end Go.Proofs.Ytmnadlgglmhfhaa
