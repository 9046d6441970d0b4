/- What the laws on texts share: the comparison of two faults; places of whatever number; lines as known slices. -/
import Derived.Laws.StructEq
import Derived.Test.YtiachpjejebhjaaIndent
import Derived.Test.YtiachpjejebhjaaCheck
import Derived.Test.YtiachpjejebhjaaLives
import Derived.Test.YtiachpjejebhjaaSame
namespace Go.Proofs.Ytiachpjejebhjaa
open Go.RowKit

theorem fault_guard (op : BinOp) (x y : Operand) (xs ys : Array Value) (w : World) : (eqGuard op 34 x y (.agg xs) (.agg ys)).run Try.prog w = .ok () w :=
  run_eqGuard_agg w op 34 x y xs ys (by kernel_rfl)

theorem fault_equal (a b c d : Int) (w : World) : (Op.equalIn 10000 34 (.agg #[.int .i64 a, .int .i64 b]) (.agg #[.int .i64 c, .int .i64 d])).run Try.prog w = .ok (a == c && b == d) w := by
  have u3 := Try.underlying3
  have a3 := Try.isAgg3
  have z3 := Try.sizeOf3
  have u4 := Try.underlying27
  have a4 := Try.isAgg27
  have z4 := Try.sizeOf27
  have hS : Try.prog.underlying 34 = some (.struct (Try.prog.fieldsOf 34)) := by kernel_rfl
  have hp : Try.prog.stoodInHeld 34 = false := by kernel_rfl
  rw [show (10000 : Nat) = 9999 + 1 from rfl, run_equalIn_agg w 9999 34 _ _ hS hp]
  simp only [Program.fieldsOf, Try.underlying34]
  go_simp
  by_cases h1 : a = c <;> by_cases h2 : b = d <;> simp [h1, h2]

theorem fault_eql (a b c d : Int) (w : World) : (binOp .eql 34 (.agg #[.int .i64 a, .int .i64 b]) (.agg #[.int .i64 c, .int .i64 d])).run Try.prog w = .ok (.bool (a == c && b == d)) w := by
  rw [run_eql_struct, fault_equal]; rfl
theorem fault_neq (a b c d : Int) (w : World) : (binOp .neq 34 (.agg #[.int .i64 a, .int .i64 b]) (.agg #[.int .i64 c, .int .i64 d])).run Try.prog w = .ok (.bool (!(a == c && b == d))) w := by
  rw [run_neq_struct, fault_equal]; rfl

/-- Line, column and error of whatever place. -/
def whereF (l : List UInt8) (k : Int) : Int × Int × Int := if k < 0 ∨ (l.length : Int) < k then (0, 0, 2) else ((posR l k.toNat).1, (posR l k.toNat).2, 0)

theorem where_all (s : ByteArray) (hs : s.size ≤ 100000) (k : Int) (w : World) :
    Calls Try.prog 9 #[.string s, .int .i64 k] w fun e w' => e = .returned (.tuple #[.int .i64 (whereF s.data.toList k).1, .int .i64 (whereF s.data.toList k).2.1, .int .i64 (whereF s.data.toList k).2.2]) ∧ Below w.heap.size w w' := by
  have hl0 : s.data.toList.length = s.size := rfl
  by_cases h : k < 0 ∨ (s.size : Int) < k
  · have e : whereF s.data.toList k = (0, 0, 2) := by unfold whereF; rw [if_pos (by omega)]
    rw [e]; exact where_out s k h w
  · obtain ⟨n, rfl⟩ : ∃ n : Nat, k = n := ⟨k.toNat, by omega⟩
    have e : whereF s.data.toList n = (((posR s.data.toList n).1 : Int), (posR s.data.toList n).2, 0) := by unfold whereF; rw [if_neg (by omega)]; rfl
    rw [e]; exact where_any s hs n (by omega) w
theorem whereR_all (s : ByteArray) (hs : s.size ≤ 100000) (k : Int) (w : World) :
    Calls Try.prog 14 #[.string s, .int .i64 k] w fun e w' => e = .returned (.tuple #[.int .i64 (whereF s.data.toList k).1, .int .i64 (whereF s.data.toList k).2.1, .int .i64 (whereF s.data.toList k).2.2]) ∧ w = w' := by
  have hl0 : s.data.toList.length = s.size := rfl
  by_cases h : k < 0 ∨ (s.size : Int) < k
  · have e : whereF s.data.toList k = (0, 0, 2) := by unfold whereF; rw [if_pos (by omega)]
    rw [e]; exact whereR_out s k h w
  · obtain ⟨n, rfl⟩ : ∃ n : Nat, k = n := ⟨k.toNat, by omega⟩
    have e : whereF s.data.toList n = (((posR s.data.toList n).1 : Int), (posR s.data.toList n).2, 0) := by unfold whereF; rw [if_neg (by omega)]; rfl
    rw [e]; exact whereR_any s hs n (by omega) w

def lineT (s : ByteArray) (j : Nat) : ByteArray := s.extract ((segs s.data.toList)[j]?.getD (0, 0)).1 ((segs s.data.toList)[j]?.getD (0, 0)).2

theorem row_shape (s : ByteArray) (b : Nat) (v : Value) (W : World) (h : W.ownsRow b 9 1 v (segs s.data.toList).length ((segs s.data.toList).map (encL s))) :
    ∃ g cap, v = .slice (some ⟨g, 0, none⟩) (segs s.data.toList).length cap ∧ g < W.heap.size ∧ ∀ j, j < (segs s.data.toList).length → W.cell? ⟨g, j, none⟩ = some (.string (lineT s j)) := by
  have hN := segs_pos s.data.toList
  rcases h.2 with ⟨_, h0⟩ | ⟨g, cap, cur, rfl, _, hb, _⟩
  · omega
  · refine ⟨g, cap, rfl, (Array.getElem?_eq_some_iff.1 hb).1, fun j hj => ?_⟩
    have hc := h.cells (g := g) rfl j (.string (lineT s j)) (by rw [List.getElem?_map, List.getElem?_eq_getElem hj]; simp only [Option.map_some]; unfold lineT encL; rw [List.getElem?_eq_getElem hj]; rfl)
    cases j with
    | zero => simpa [Addr.add] using hc
    | succ j => simpa [Addr.add] using hc

theorem Lines_known (s : ByteArray) (hs : s.size ≤ 100000) (w : World) :
    Calls Try.prog 8 #[.string s] w fun e W => ∃ g cap, e = .returned (.slice (some ⟨g, 0, none⟩) (segs s.data.toList).length cap) ∧ g < W.heap.size ∧ (∀ j, j < (segs s.data.toList).length → W.cell? ⟨g, j, none⟩ = some (.string (lineT s j))) ∧ Below w.heap.size w W := by
  refine ((callsIn_wide (n := 3)).1 (Lines_in s hs w)).mono ?_
  rintro e W ⟨v, rfl, hr, hb⟩
  obtain ⟨g, cap, rfl, h1, h2⟩ := row_shape s _ v W hr
  exact ⟨g, cap, rfl, h1, h2, hb⟩
theorem LinesR_known (s : ByteArray) (hs : s.size ≤ 100000) (w : World) :
    Calls Try.prog 18 #[.string s] w fun e W => ∃ g cap, e = .returned (.slice (some ⟨g, 0, none⟩) (segs s.data.toList).length cap) ∧ g < W.heap.size ∧ (∀ j, j < (segs s.data.toList).length → W.cell? ⟨g, j, none⟩ = some (.string (lineT s j))) ∧ Below w.heap.size w W := by
  refine (LinesR_any s hs w).mono ?_
  rintro e W ⟨v, rfl, hr, hb⟩
  obtain ⟨g, cap, rfl, h1, h2⟩ := row_shape s _ v W hr
  exact ⟨g, cap, rfl, h1, h2, hb⟩

end Go.Proofs.Ytiachpjejebhjaa
