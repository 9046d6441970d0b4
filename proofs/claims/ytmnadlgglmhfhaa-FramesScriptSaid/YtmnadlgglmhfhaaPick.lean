/- Contract of thunkmillkit.Pick (with 4): some number. -/
import Derived.Test.YtmnadlgglmhfhaaRef8
namespace Go.Proofs.Ytmnadlgglmhfhaa
open Go.RowKit

set_option maxHeartbeats 2000000 in
theorem pick_any (k : Int) (w : World) : Calls Try.prog 28 #[.int .i64 k, .int .i64 4] w fun e w' => (∃ r : Int, e = .returned (.int .i64 r)) ∧ Below w.heap.size w w' := by
  go_enter Try.func28, Try.ntmps28
  go_wp2
  all_goals
    go_ret
    exact ⟨⟨_, rfl⟩, Below.refl _ _⟩

end Go.Proofs.Ytmnadlgglmhfhaa
