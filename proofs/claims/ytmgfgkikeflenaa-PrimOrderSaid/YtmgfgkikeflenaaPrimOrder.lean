/- 'PrimOrder' holds: of two numbers just one is less, the same, or greater. No conditions. The little machine (the texts Ev..) is run three times by the kernel: with the first number less, the same, greater. -/
import Derived.Test.YtmgfgkikeflenaaEvT
import Derived.Test.YtmgfgkikeflenaaRows
import Derived.ProofKit
import Derived.OpenShut
import Derived.ShutString
namespace Go.Proofs.Ytmgfgkikeflenaa.primOrder
open Go.ChangeShapes Go.WideShapes Go.ChangeAt Go.RowKit
open Go.ChangeMaps (open_string shut_string)
open Ev (BinF UnF IsInt isInt_opq isInt_int lss_ok leq_ok gtr_ok geq_ok eql_ok neq_ok add_ok mul_ok quo_ok rem_ok neg_ok table table_ok)
set_option linter.unusedVariables false

set_option maxRecDepth 1000000 in
theorem livesRuns : Ev.isTrue (Ev.calls Try.prog Ev.noFacts 100000 60 5 [] Ev.Mem.start) = true := by kernel_rfl
theorem known : Ev.KnownCalls Try.prog [5] := by
  intro f hf w
  rw [List.mem_singleton.1 hf]
  exact Ev.closed (by kernel_rfl) livesRuns w


abbrev x : Ev.AV := .opq 0
abbrev y : Ev.AV := .opq 1
/-- What is known of two numbers: is one less, is it the same? -/
def bins (l e : Bool) : List BinF := [⟨.lss, x, y, .bool l⟩, ⟨.eql, x, y, .bool e⟩, ⟨.neq, x, y, .bool (!e)⟩, ⟨.leq, x, y, .bool (l || e)⟩, ⟨.gtr, x, y, .bool (!(l || e))⟩, ⟨.geq, x, y, .bool (!l)⟩]
def Φ (l e : Bool) : Ev.Facts := table (bins l e) []
def ν (a b : Int) : Nat → Value := fun i => if i = 0 then .int .i64 a else .int .i64 b
theorem facts (a b : Int) (l e : Bool) (hl : decide (a < b) = l) (he : decide (a = b) = e) : Ev.FactsOk Try.prog (ν a b) (Φ l e) := by
  have hx : IsInt (ν a b) x .i64 a := isInt_opq rfl
  have hy : IsInt (ν a b) y .i64 b := isInt_opq rfl
  refine table_ok (fun f hf => ?_) (fun f hf => by cases hf)
  simp only [bins, List.mem_cons, List.not_mem_nil, or_false] at hf
  subst hl he
  rcases hf with rfl | rfl | rfl | rfl | rfl | rfl
  · exact lss_ok hx hy rfl
  · exact eql_ok hx hy rfl
  · exact neq_ok hx hy rfl
  · exact leq_ok hx hy (by rw [Bool.eq_iff_iff]; simp; omega)
  · exact gtr_ok hx hy (by rw [Bool.eq_iff_iff]; simp; omega)
  · exact geq_ok hx hy (by rw [Bool.eq_iff_iff]; simp)
set_option maxRecDepth 1000000 in
theorem runsL : Ev.isTrue (Ev.callsK Try.prog (Φ true false) [5] 100000 60 4 [x, y] Ev.Mem.start) = true := by kernel_rfl
set_option maxRecDepth 1000000 in
theorem runsE : Ev.isTrue (Ev.callsK Try.prog (Φ false true) [5] 100000 60 4 [x, y] Ev.Mem.start) = true := by kernel_rfl
set_option maxRecDepth 1000000 in
theorem runsG : Ev.isTrue (Ev.callsK Try.prog (Φ false false) [5] 100000 60 4 [x, y] Ev.Mem.start) = true := by kernel_rfl
theorem walk (a b : Int) (_ : (Lit.int .i64 a).wf = true) (_ : (Lit.int .i64 b).wf = true) (w : World) : Calls Try.prog 4 #[.int .i64 a, .int .i64 b] w fun e w' => e = .returned (.bool true) ∧ Below w.heap.size w w' := by
  have hv : Ev.VL (ν a b) (fun _ => none) [x, y] (#[Value.int .i64 a, .int .i64 b] : Array Value).toList := by
    simp only [Ev.VL, Ev.V]; exact ⟨_, _, rfl, ⟨rfl, rfl⟩, _, _, rfl, ⟨rfl, rfl⟩, rfl⟩
  by_cases h1 : a < b
  · haveI := facts a b true false (by simp [h1]) (by simp; omega)
    exact Ev.closedK known (by kernel_rfl) runsL (ν a b) _ hv w
  · by_cases h2 : a = b
    · haveI := facts a b false true (by simpa using h1) (by simp [h2])
      exact Ev.closedK known (by kernel_rfl) runsE (ν a b) _ hv w
    · haveI := facts a b false false (by simpa using h1) (by simp [h2])
      exact Ev.closedK known (by kernel_rfl) runsG (ν a b) _ hv w


theorem own : ownKnob Try.prog.godebug = none := by kernel_rfl

set_option maxRecDepth 100000 in
theorem lifted (os : Os) (started : os.Started) (H : Type) (enc : TypeId × Value → H) :
    ReturnsInHanded {} Try.checked os 4 .any (Rows.primOrderSpec.pre6 enc Try.prog Try.f4 Rows.primOrderRow.domain false) (Rows.primOrderSpec.post enc Try.prog Try.f4 false true false false) := by
  refine returnsInHanded_of_change (C := Try.checked) own started (by kernel_rfl) Try.func4
    (ChangeSpec.witness6 (enc := enc) (C := Try.checked) false ⟨#[], #[.int .i64 0, .int .i64 0], []⟩ 8 (by kernel_rfl) (by kernel_rfl) (by kernel_rfl) (by kernel_rfl)) ?_
  intro W base args ds gs before hval0 hW hcnd _
  have hval : ∀ (j : Nat) t v, Try.f4.params[j]? = some t → args[j]? = some v → Value.okWide Try.prog W .any base t v := hval0
  have hW' := hW
  obtain ⟨p, q, hA0, hV, rfl, hfz, hnd⟩ := hW
  have hA : DataW.TrodAll enc Try.prog W 0 (fun _ => true) true Try.f4.params.toList args.toList ds p := hA0
  rw [Try.params4] at hA hval
  obtain ⟨v0, vs0, d0, ds0, p0, q0, hargs, rfl, rfl, h0, r0⟩ := trodAll_cons hA
  obtain ⟨v1, vs1, d1, ds1, p1, q1, rfl, rfl, rfl, h1, r1⟩ := trodAll_cons r0
  obtain ⟨rfl, rfl, rfl⟩ := trodAll_nil r1
  obtain rfl : args = #[v0, v1] := by cases args; simp_all
  obtain ⟨rfl, rfl⟩ := trodVars_none hV
  obtain ⟨a0, rfl, rfl, rfl, w0⟩ := open_int Try.underlying2 (hval 0 2 v0 rfl rfl) h0
  obtain ⟨a1, rfl, rfl, rfl, w1⟩ := open_int Try.underlying2 (hval 1 2 v1 rfl rfl) h1
  clear hA0 hval0
  simp only [List.append_nil] at hW'
  refine (walk a0 a1 w0 w1 W).mono fun e W' ⟨he, bel⟩ => ?_
  subst he
  exact ⟨_, rfl, _, _, _, [], [], [], hW', trodAll_mk1 (shut_bool Try.underlying4 _), (trodAll_cons_mk (shut_int Try.underlying2 w0) (trodAll_cons_mk (shut_int Try.underlying2 w1) trodAll_mk0)), rfl, bel.frame _, fun h => by cases h⟩

theorem over : Rows.primOrderRow.holds Try.pinned (OpenSpec.ofChange Rows.primOrderSpec) :=
  OpenClaim.holds_of_wide 4 Try.f4 rfl rfl rfl rfl rfl rfl rfl ⟨rfl, rfl, rfl, rfl, rfl⟩ rfl rfl rfl rfl rfl (by kernel_rfl) Try.func4 (by kernel_rfl)
    (of_decide_eq_true (by kernel_rfl)) (by unfold Func.isWrapper; rw [if_neg (by decide +kernel)]; exact ⟨rfl, rfl⟩)
    (fun os started H enc _ => lifted os started H enc)

theorem proved : Rows.PrimOrderSaid := over

end Go.Proofs.Ytmgfgkikeflenaa.primOrder
