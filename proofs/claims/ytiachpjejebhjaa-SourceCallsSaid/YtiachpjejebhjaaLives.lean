/- Contract of thunkmilllaw01.lives: it returns true. -/
import Derived.Test.YtiachpjejebhjaaWhere
namespace Go.Proofs.Ytiachpjejebhjaa
open Go.RowKit

def exText : ByteArray := ⟨#[97, 98, 10, 9, 99]⟩
theorem exText_pos : posR exText.data.toList 4 = (2, 9) := by decide

theorem where_ex (w : World) : Calls Try.prog 9 #[.string ⟨#[97, 98, 10, 9, 99]⟩, .int .i64 4] w fun e w' => e = .returned (.tuple #[.int .i64 2, .int .i64 9, .int .i64 0]) ∧ Below w.heap.size w w' := by
  refine (where_any exText (by decide) 4 (by decide) w).mono ?_
  rintro e w' ⟨rfl, hb⟩
  refine ⟨?_, hb⟩
  rw [exText_pos]; rfl

set_option maxHeartbeats 400000 in
theorem lives_any (w : World) : Calls Try.prog 7 #[] w fun e w' => e = .returned (.bool true) ∧ Below w.heap.size w w' := by
  go_enter Try.func7, Try.ntmps7
  go_wp2_with (go_at_call 9; refine (where_ex _).mono ?_; rintro e w1 ⟨rfl, hb⟩)
  go_ret
  exact ⟨rfl, hb⟩

end Go.Proofs.Ytiachpjejebhjaa
