/- Contract of thunkmillkit.SameTexts at two slices that hold the same strings: true. Conditions: each slice begins at the head of a block; at most 2^40 elements. -/
import Derived.Test.YtiachpjejebhjaaProg
import Derived.WalkKit
import Derived.Deep.QuietTactic
import Derived.BigQuiet
import Derived.WalkSmall
import Derived.Outline
import Derived.Lib.Hide
namespace Go.Proofs.Ytiachpjejebhjaa
open Go.RowKit

set_option maxHeartbeats 1000000 in
theorem sameTexts_yes (N g1 c1 g2 c2 : Nat) (T : Nat → ByteArray) (w : World) (hN : N ≤ 1000000000000) (hg1 : g1 < w.heap.size) (hg2 : g2 < w.heap.size)
    (h1 : ∀ j, j < N → w.cell? ⟨g1, j, none⟩ = some (.string (T j))) (h2 : ∀ j, j < N → w.cell? ⟨g2, j, none⟩ = some (.string (T j))) :
    Calls Try.prog 17 #[.slice (some ⟨g1, 0, none⟩) N c1, .slice (some ⟨g2, 0, none⟩) N c2] w fun e w' => e = .returned (.bool true) ∧ Below w.heap.size w w' := by
  have H1 := Lib.hid h1; have H2 := Lib.hid h2
  clear h1 h2
  go_enter Try.func17, Try.ntmps17
  go_wp2
  go_loopw [5] (fun i wr => ∃ k : Nat, i = .int .i64 k ∧ k ≤ N ∧ Below w.heap.size w wr) (fun i _ => N - (intOf i).toNat)
  case atStart => exact ⟨0, rfl, Nat.zero_le _, Below.refl _ _⟩
  case round =>
    obtain ⟨k, rfl, hk, hb⟩ := hrel
    by_cases hlt : k < N
    · have e1 := (hb.cell (p := ⟨g1, k, none⟩) hg1).trans (H1.out k hlt)
      have e2 := (hb.cell (p := ⟨g2, k, none⟩) hg2).trans (H2.out k hlt)
      generalize T k = u at e1 e2
      have hltI : (k : Int) < (N : Int) := by omega
      go_wp2
      go_quiet (fail)
      go_wp2
      go_roundw
      case rel => exact ⟨k + 1, by go_num, by omega, below_drewN hb _⟩
      case measure => simp [intOf]; omega
    · go_wp2
      go_ret
      exact ⟨rfl, hb⟩

end Go.Proofs.Ytiachpjejebhjaa
