/- Contracts of the two functions 'next' (source, thunkmillref01): the column behind a byte. Conditions: the column lies from 1 to 1000000, the byte from 0 to 255. -/
import Derived.Test.YtiachpjejebhjaaProg
import Derived.WalkKit
import Derived.Outline
import Derived.Lib.Hide
import Derived.Test.YtiachpjejebhjaaPlain
namespace Go.Proofs.Ytiachpjejebhjaa
open Go.RowKit

theorem ret_int {k : IntKind} {a b : Int} (h : a = b) : Ending.returned (.int k a) = .returned (.int k b) := by rw [h]

set_option maxHeartbeats 400000 in
theorem next_any (col c : Int) (w : World) (h1 : 1 ≤ col) (h2 : col ≤ 1000000) :
    Calls Try.prog 20 #[.int .i64 col, .int .u8 c] w fun e w' => e = .returned (.int .i64 (nextC col c)) ∧ w = w' := by
  by_cases hc : c = 9
  · have hr := nextC_tab (col := col) hc
    have H := Lib.hid hr; clear hr
    go_enter Try.func20, Try.ntmps20
    go_wp2
    go_ret
    exact ⟨ret_int (by rw [H.out]), rfl⟩
  · have hr := nextC_not (col := col) hc
    have H := Lib.hid hr; clear hr
    go_enter Try.func20, Try.ntmps20
    go_wp2
    go_ret
    exact ⟨ret_int (by rw [H.out]), rfl⟩

end Go.Proofs.Ytiachpjejebhjaa
