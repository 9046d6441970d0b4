/- strconv.ParseUint at two hex digits: the family of 256. -/
import Derived.Test.YtbjlnllbcgghlaaDoorPyD
namespace Go.Proofs.YtbjlnllbcgghlaaDoor
open Go.RowKit Go.Shelf
open Ev (AV Mem V VL MR)
set_option linter.unusedSimpArgs false
set_option linter.unusedVariables false

set_option maxRecDepth 1000000 in
theorem pu_runs : fam Ev.noFacts 34 (fun k => [.str [digN (k / 16), digN (k % 16)], .int .i64 16, .int .i64 8]) (fun k => .tup [.int .u64 (Int.ofNat k), .niface]) 256 = true := by kernel_rfl
theorem pu_hex (c : UInt8) (w : World) : Calls Tryd.prog 34 #[.string ⟨(hexK c).toArray⟩, .int .i64 16, .int .i64 8] w fun e w' => e = .returned (.tuple #[.int .u64 (c.toNat : Int), .nilIface]) ∧ Below w.heap.size w w' := by
  refine valued (ν := ν0) (r := .tup [.int .u64 (Int.ofNat c.toNat), .niface]) (fam_at pu_runs c.toNat c.toNat_lt) ?_ (fun E x h => ?_) w
  · simp only [VL, V]
    exact ⟨_, _, rfl, ⟨rfl, by intro k hk; simp at hk; rcases hk with rfl | rfl <;> (have := digN_lt (c.toNat / 16) (by have := c.toNat_lt; omega); have := digN_lt (c.toNat % 16) (by omega); omega)⟩, _, _, rfl, rfl, _, _, rfl, rfl, rfl⟩
  · simp only [V, VL] at h
    obtain ⟨zs, rfl, a1, l1, hl, rfl, a2, l2, rfl, rfl, rfl⟩ := h
    obtain rfl : zs = #[.int .u64 (Int.ofNat c.toNat), .nilIface] := by
      cases zs; simp_all
    rfl
end Go.Proofs.YtbjlnllbcgghlaaDoor
