/- 'HeapNil' holds: of a heap that is not there, or that nobody made, nothing is answered. The little machine (the texts Ev..) is run on the law by the kernel; of the argument nothing is asked. -/
import Derived.Test.YtlmljommgmbckaaEvS
import Derived.Test.YtlmljommgmbckaaRows
import Derived.ProofKit
import Derived.OpenShut
import Derived.ShutString
import Derived.Carry
namespace Go.Proofs.Ytlmljommgmbckaa.heapNil
open Go.ChangeShapes Go.WideShapes Go.ChangeAt Go.RowKit
open Go.ChangeMaps (open_string shut_string)
set_option linter.unusedVariables false

set_option maxRecDepth 1000000 in
theorem livesRuns : Ev.isTrue (Ev.calls Try.prog Ev.noFacts 100000 60 9 [] Ev.Mem.start) = true := by kernel_rfl
theorem known : Ev.KnownCalls Try.prog [9] := by
  intro f hf w
  rw [List.mem_singleton.1 hf]
  exact Ev.closed (by kernel_rfl) livesRuns w
set_option maxRecDepth 1000000 in
theorem runs : Ev.isTrue (Ev.callsK Try.prog Ev.noFacts [9] 100000 60 8 [.agg (Ev.opqs 0 8)] Ev.Mem.start) = true := by kernel_rfl
theorem walk (a0 : Array Value) (w0 : a0.size = 8) (c0 : ∀ c ∈ a0.toList, c.oneCell' = true) (w : World) : Calls Try.prog 8 #[.agg a0] w fun e w' => e = .returned (.bool true) ∧ Below w.heap.size w w' :=
  Ev.closedK known (by kernel_rfl) runs (fun i => a0.getD i undef) #[.agg a0] (by have := Ev.opq_struct (E := fun _ => none) a0 c0; rw [w0] at this; exact this) w
theorem laid : laidOutB Try.prog = true := by kernel_rfl

theorem own : ownKnob Try.prog.godebug = none := by kernel_rfl

set_option maxRecDepth 100000 in
theorem lifted (os : Os) (started : os.Started) (H : Type) (enc : TypeId × Value → H) :
    ReturnsInHanded {} Try.checked os 8 .any (Rows.heapNilSpec.pre6 enc Try.prog Try.f8 Rows.heapNilRow.domain false) (Rows.heapNilSpec.post enc Try.prog Try.f8 false true false false) := by
  refine returnsInHanded_of_change (C := Try.checked) own started (by kernel_rfl) Try.func8
    (ChangeSpec.witness6 (enc := enc) (C := Try.checked) false ⟨#[], #[.agg #[.int .i64 0, .int .i64 0, .int .i64 0, .int .i64 0, .int .i64 0, .int .i64 0, .slice none 0 0, .bool false]], []⟩ 8 (by kernel_rfl) (by kernel_rfl) (by kernel_rfl) (by kernel_rfl)) ?_
  intro W base args ds gs before hval0 hW hcnd _
  have hval : ∀ (j : Nat) t v, Try.f8.params[j]? = some t → args[j]? = some v → Value.okWide Try.prog W .any base t v := hval0
  have hW' := hW
  obtain ⟨p, q, hA0, hV, rfl, hfz, hnd⟩ := hW
  have hA : DataW.TrodAll enc Try.prog W 0 (fun _ => true) true Try.f8.params.toList args.toList ds p := hA0
  rw [Try.params8] at hA hval
  obtain ⟨v0, vs0, d0, ds0, p0, q0, hargs, rfl, rfl, h0, r0⟩ := trodAll_cons hA
  obtain ⟨rfl, rfl, rfl⟩ := trodAll_nil r0
  obtain rfl : args = #[v0] := by cases args; simp_all
  obtain ⟨rfl, rfl⟩ := trodVars_none hV
  obtain ⟨a0, rfl, w0, c0⟩ := Ev.cells_of_struct Try.underlying35 (hval 0 35 v0 rfl rfl)
  have k0 := h0
  have lt0 : ∀ x ∈ p0, x.block < W.heap.size := by obtain ⟨m, hm⟩ := k0; exact DataW.trod_lt m _ _ _ hm
  clear hA0 hval0
  simp only [List.append_nil] at hW' ⊢
  refine (walk a0 (w0.trans (by kernel_rfl)) c0 W).mono fun e W' ⟨he, bel⟩ => ?_
  subst he
  exact ⟨_, rfl, _, _, _, [], _, [], hW', trodAll_mk1 (shut_bool Try.underlying4 _), (trodAll_cons_mk (Below.trod laid (by kernel_rfl) (of_decide_eq_true (by kernel_rfl)) k0 bel lt0) trodAll_mk0), rfl, bel.frame _, fun h => by cases h⟩

theorem over : Rows.heapNilRow.holds Try.pinned (OpenSpec.ofChange Rows.heapNilSpec) :=
  OpenClaim.holds_of_wide 8 Try.f8 rfl rfl rfl rfl rfl rfl rfl ⟨rfl, rfl, rfl, rfl, rfl⟩ rfl rfl rfl rfl rfl (by kernel_rfl) Try.func8 (by kernel_rfl)
    (of_decide_eq_true (by kernel_rfl)) (by unfold Func.isWrapper; rw [if_neg (by decide +kernel)]; exact ⟨rfl, rfl⟩)
    (fun os started H enc _ => lifted os started H enc)

theorem proved : Rows.HeapNilSaid := over
end Go.Proofs.Ytlmljommgmbckaa.heapNil
