/- 'SourceNames' holds: the numbers and worked examples of the chapter on texts come out as they are written. No conditions. -/
import Derived.Test.YtiachpjejebhjaaJoin
import Derived.Test.YtiachpjejebhjaaRows
import Derived.ProofKit
import Derived.OpenShut
import Derived.ShutString
namespace Go.Proofs.Ytiachpjejebhjaa.sourceNames
open Go.ChangeShapes Go.WideShapes Go.ChangeAt Go.RowKit
open Go.ChangeMaps (open_string shut_string)
set_option linter.unusedVariables false

theorem chain {w a b : World} (h : Below w.heap.size w a) (k : Below a.heap.size a b) : Below w.heap.size w b := h.trans (k.mono h.size)

theorem w0_val : whereF exText.data.toList 0 = (1, 1, 0) := by decide
theorem w0 (w : World) : Calls Try.prog 9 #[.string ⟨#[97, 98, 10, 9, 99]⟩, .int .i64 0] w fun e w' => e = .returned (.tuple #[.int .i64 1, .int .i64 1, .int .i64 0]) ∧ Below w.heap.size w w' := by
  have h := where_all exText (by decide) 0 w
  rw [w0_val] at h; exact h
theorem w5_val : whereF exText.data.toList 5 = (2, 10, 0) := by decide
theorem w5 (w : World) : Calls Try.prog 9 #[.string ⟨#[97, 98, 10, 9, 99]⟩, .int .i64 5] w fun e w' => e = .returned (.tuple #[.int .i64 2, .int .i64 10, .int .i64 0]) ∧ Below w.heap.size w w' := by
  have h := where_all exText (by decide) 5 w
  rw [w5_val] at h; exact h
theorem a9_val : atF exText.data.toList 2 9 = (4, 0) := by decide
theorem a9 (w : World) : Calls Try.prog 10 #[.string ⟨#[97, 98, 10, 9, 99]⟩, .int .i64 2, .int .i64 9] w fun e w' => e = .returned (.tuple #[.int .i64 4, .int .i64 0]) ∧ Below w.heap.size w w' := by
  have h := at_any exText (by decide) 2 9 w
  rw [a9_val] at h; exact h
theorem a5_val : atF exText.data.toList 2 5 = (0, 2) := by decide
theorem a5 (w : World) : Calls Try.prog 10 #[.string ⟨#[97, 98, 10, 9, 99]⟩, .int .i64 2, .int .i64 5] w fun e w' => e = .returned (.tuple #[.int .i64 0, .int .i64 2]) ∧ Below w.heap.size w w' := by
  have h := at_any exText (by decide) 2 5 w
  rw [a5_val] at h; exact h
theorem i2_val : indentF exText.data.toList 2 = (9, 0) := by decide
theorem i2 (w : World) : Calls Try.prog 11 #[.string ⟨#[97, 98, 10, 9, 99]⟩, .int .i64 2] w fun e w' => e = .returned (.tuple #[.int .i64 9, .int .i64 0]) ∧ Below w.heap.size w w' := by
  have h := indent_any exText (by decide) 2 w
  rw [i2_val] at h; exact h

def exEmpty : ByteArray := ⟨#[97, 10, 10]⟩
theorem ie_val : indentF exEmpty.data.toList 2 = (0, 0) := by decide
theorem ie (w : World) : Calls Try.prog 11 #[.string ⟨#[97, 10, 10]⟩, .int .i64 2] w fun e w' => e = .returned (.tuple #[.int .i64 0, .int .i64 0]) ∧ Below w.heap.size w w' := by
  have h := indent_any exEmpty (by decide) 2 w
  rw [ie_val] at h; exact h
def exCr : ByteArray := ⟨#[13]⟩
theorem ck_val : checkF exCr.data.toList = (4, 0) := by decide
theorem ck (w : World) : Calls Try.prog 12 #[.string ⟨#[13]⟩] w fun e w' => e = .returned (.agg #[.int .i64 4, .int .i64 0]) ∧ Below w.heap.size w w' := by
  have h := check_any exCr (by decide) w
  rw [ck_val] at h; exact h

set_option maxRecDepth 100000 in
set_option maxHeartbeats 4000000 in
theorem walk (w : World) :
    Calls Try.prog 5 #[] w fun e w' => e = .returned (.bool true) ∧ Below w.heap.size w w' := by
  have hfg := fault_guard
  have hfe := fault_eql
  go_enter Try.func5, Try.ntmps5
  go_wp2_with fail
  refine (w0 _).mono ?_
  rintro e w1 ⟨rfl, b1⟩
  go_wp2_with fail
  refine (w5 _).mono ?_
  rintro e w2 ⟨rfl, b2⟩
  go_wp2_with fail
  refine (a9 _).mono ?_
  rintro e w3 ⟨rfl, b3⟩
  go_wp2_with fail
  refine (a5 _).mono ?_
  rintro e w4 ⟨rfl, b4⟩
  go_wp2_with fail
  refine (i2 _).mono ?_
  rintro e w5 ⟨rfl, b5⟩
  go_wp2_with fail
  refine (ie _).mono ?_
  rintro e w6 ⟨rfl, b6⟩
  go_wp2_with fail
  refine (lives_any _).mono ?_
  rintro e w7 ⟨rfl, b7⟩
  go_wp2_with fail
  refine (ck _).mono ?_
  rintro e w8 ⟨rfl, b8⟩
  go_wp2
  go_ret
  exact ⟨rfl, chain (chain (chain (chain (chain (chain (chain b1 b2) b3) b4) b5) b6) b7) b8⟩

theorem own : ownKnob Try.prog.godebug = none := by kernel_rfl

set_option maxRecDepth 100000 in
theorem lifted (os : Os) (started : os.Started) (H : Type) (enc : TypeId × Value → H) :
    ReturnsInHanded {} Try.checked os 5 .any (Rows.sourceNamesSpec.pre6 enc Try.prog Try.f5 Rows.sourceNamesRow.domain false) (Rows.sourceNamesSpec.post enc Try.prog Try.f5 false true false false) := by
  refine returnsInHanded_of_change (C := Try.checked) own started (by kernel_rfl) Try.func5
    (ChangeSpec.witness6 (enc := enc) (C := Try.checked) false ⟨#[], #[], []⟩ 8 (by kernel_rfl) (by kernel_rfl) (by kernel_rfl) (by kernel_rfl)) ?_
  intro W base args ds gs before hval0 hW hcnd _
  have hW' := hW
  obtain ⟨p, q, hA0, hV, rfl, hfz, hnd⟩ := hW
  have hA : DataW.TrodAll enc Try.prog W 0 (fun _ => true) true Try.f5.params.toList args.toList ds p := hA0
  obtain ⟨rfl, rfl, rfl⟩ := trodAll_none hA
  obtain ⟨rfl, rfl⟩ := trodVars_none hV
  clear hA0
  simp only [List.append_nil] at hW'
  refine (walk  W).mono fun e W' ⟨he, bel⟩ => ?_
  subst he
  exact ⟨_, rfl, _, _, _, [], [], [], hW', trodAll_mk1 (shut_bool Try.underlying4 _), rfl, rfl, bel.frame _, fun h => by cases h⟩

theorem over : Rows.sourceNamesRow.holds Try.pinned (OpenSpec.ofChange Rows.sourceNamesSpec) :=
  OpenClaim.holds_of_wide 5 Try.f5 rfl rfl rfl rfl rfl rfl rfl ⟨rfl, rfl, rfl, rfl, rfl⟩ rfl rfl rfl rfl rfl (by kernel_rfl) Try.func5 (by kernel_rfl)
    (of_decide_eq_true (by kernel_rfl)) (by unfold Func.isWrapper; rw [if_neg (by decide +kernel)]; exact ⟨rfl, rfl⟩)
    (fun os started H enc _ => lifted os started H enc)

theorem proved : Rows.SourceNamesSaid := over

end Go.Proofs.Ytiachpjejebhjaa.sourceNames
