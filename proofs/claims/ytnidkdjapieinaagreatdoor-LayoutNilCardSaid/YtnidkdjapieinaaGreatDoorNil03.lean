/- 'LayoutNil' holds: a stream that is not there, or that nobody made, refuses every call. No conditions beyond the given card's. The little machine (the texts Ev..) is shown once to answer what the model answers in every world; here it is run on this closed law by the kernel; strings.IndexByte is taken by the shelf's contract. -/
import Derived.Test.YtnidkdjapieinaaGreatDoorEvX
import Derived.Test.YtnidkdjapieinaaGreatDoorShelf
import Derived.Test.YtnidkdjapieinaaGreatDoorRows
import Derived.Test.YtnidkdjapieinaaGreatDoorCards
import Derived.Test.YtnidkdjapieinaaGreatDoorTie
import Derived.ProofKit
import Derived.OpenShut
import Derived.ShutString
import Derived.Lay
import Derived.LaidOnce
import Derived.LaidMore
import Derived.SevenTiedAt
namespace Go.Proofs.YtnidkdjapieinaaGreatDoor.layoutNil
open Go.ChangeShapes Go.WideShapes Go.ChangeAt Go.RowKit
open Go.ChangeMaps (open_string shut_string)
set_option linter.unusedVariables false

theorem lib (ν : Nat → Value) : Ev.CFok Tryz.prog (Ev.indexByteT 41) ν := Ev.indexByteT_ok Tryz.strings_IndexByte
set_option maxRecDepth 1000000 in
theorem livesRuns : Ev.isTrue (Ev.callsT Tryz.prog Ev.noFacts (Ev.indexByteT 41) 100000 60 9 [] Ev.Mem.start) = true := by kernel_rfl
theorem known : Ev.KnownCalls Tryz.prog [9] := by
  intro f hf w
  rw [List.mem_singleton.1 hf]
  exact Ev.closedT (lib fun _ => undef) (by kernel_rfl) livesRuns #[] (by simp only [Ev.VL]) w
set_option maxRecDepth 1000000 in
theorem runs : Ev.isTrue (Ev.callsT Tryz.prog Ev.noFacts (Ev.orT (Ev.knownT [9]) (Ev.indexByteT 41)) 100000 60 3 [] Ev.Mem.start) = true := by kernel_rfl
theorem walk (w : World) : Calls Tryz.prog 3 #[] w fun e w' => e = .returned (.bool true) ∧ Below w.heap.size w w' :=
  Ev.closedT (Ev.orT_ok (Ev.knownT_ok known) (lib fun _ => undef)) (by kernel_rfl) runs #[] (by simp only [Ev.VL]) w

theorem own : ownKnob Tryz.prog.godebug = none := by kernel_rfl

set_option maxRecDepth 100000 in
theorem lifted (os : Os) (started : os.Started) (H : Type) (enc : TypeId × Value → H) :
    ReturnsInHanded {} Tryz.checked os 3 .any (fun w args => (Rows.layoutNilSpec.pre enc Tryz.prog Tryz.f3 [] false w args ∧ laidMetH Tryz.prog Rows.layoutNilRow.laid w) ∧ sizedMet enc Tryz.prog Tryz.f3 (OpenSpec.ofChange Rows.layoutNilSpec) false w args)
      (Rows.layoutNilSpec.post enc Tryz.prog Tryz.f3 false true false false) := by
  refine returnsInHanded_of_change_and (C := Tryz.checked) (X := fun w _ => laidMetH Tryz.prog Rows.layoutNilRow.laid w) (fun _ _ _ hh h => h.of_heap hh) own started (by kernel_rfl) Tryz.func3
    (ChangeSpec.witness_shaped (enc := enc) (C := Tryz.checked) (os := os) (X := fun w _ => laidMetH Tryz.prog Rows.layoutNilRow.laid w) false (World.laidAll Tryz.prog os Rows.layoutNilRow.laid) #[] 8 (World.laidAll_os _ _ _)
      (World.shaped_of_ZipB (by kernel_rfl) (by kernel_rfl)) (by kernel_rfl) (by kernel_rfl) (by kernel_rfl)
      (by rw [MakeChecks.laidMetH_plain _ _ _ (by kernel_rfl)]; exact laidMet_laidAll _ (by kernel_rfl) (by kernel_rfl))) ?_
  intro W base args ds gs before hval0 hW _ _ hL _
  have hW' := hW
  obtain ⟨p, q, hA0, hV, rfl, hfz, hnd⟩ := hW
  have hA : DataW.TrodAll enc Tryz.prog W 0 (fun _ => true) true Tryz.f3.params.toList args.toList ds p := hA0
  obtain ⟨rfl, rfl, rfl⟩ := trodAll_none hA
  obtain ⟨rfl, rfl⟩ := trodVars_none hV
  clear hA0
  simp only [List.append_nil] at hW'
  refine (walk  W).mono fun e W' ⟨he, bel⟩ => ?_
  subst he
  exact ⟨_, rfl, _, _, _, [], [], [], hW', trodAll_mk1 (shut_bool Tryz.underlying4 _), rfl, rfl, bel.frame _, fun h => by cases h⟩

theorem over : Rows.layoutNilRow.holds Tryz.pinned (OpenSpec.ofChange Rows.layoutNilSpec) :=
  OpenClaim.holds_of_wide 3 Tryz.f3 rfl rfl rfl rfl rfl rfl rfl ⟨rfl, rfl, rfl, rfl, rfl⟩ rfl rfl rfl rfl rfl (by kernel_rfl) Tryz.func3 (by kernel_rfl)
    (of_decide_eq_true (by kernel_rfl)) (by unfold Func.isWrapper; rw [if_neg (by decide +kernel)]; exact ⟨rfl, rfl⟩)
    (fun os started H enc _ => lifted os started H enc)

theorem proved : Rows.LayoutNilCardSaid :=
  Claim7.holds_tied_plain_at .later [] [.data, .data, .data, .data, .pinned] true (true, "2f949e2c4894ffc0695e3ecc46192f1194144b2f21a42638c45ca9b28e5164dc") false
    over (fun _ h => by cases h) (by kernel_rfl) (fun _ h => by cases h) layoutNil_row_tie rfl ⟨rfl, rfl⟩ (by kernel_rfl) rfl
    (fun f fn hf hfn => by
      obtain rfl : f = 3 := Option.some.inj ((show Tryz.prog.funcNamed Tryz.f3.name = some 3 by kernel_rfl).symm.trans hf) |>.symm
      obtain rfl : fn = Tryz.f3 := (Option.some.inj (Tryz.func3.symm.trans hfn)).symm
      exact ⟨by kernel_rfl, fun j t ht => by
        rw [Tryz.params3] at ht
        simp at ht⟩)
    (by kernel_rfl)

end Go.Proofs.YtnidkdjapieinaaGreatDoor.layoutNil
