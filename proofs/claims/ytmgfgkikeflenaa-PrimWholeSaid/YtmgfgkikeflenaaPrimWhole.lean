/- 'PrimWhole' holds: quotient and rest make the dividend again, and the rest has its sign. No conditions. The little machine (the texts Ev..) is run by the kernel once for each way in which the signs can stand. -/
import Derived.Test.YtmgfgkikeflenaaEvT
import Derived.Test.YtmgfgkikeflenaaRows
import Derived.ProofKit
import Derived.OpenShut
import Derived.ShutString
import Derived.Laws.BitsLemmas
namespace Go.Proofs.Ytmgfgkikeflenaa.primWhole
open Go.ChangeShapes Go.WideShapes Go.ChangeAt Go.RowKit
open Go.ChangeMaps (open_string shut_string)
open Ev (BinF UnF IsInt isInt_opq isInt_int lss_ok leq_ok gtr_ok geq_ok eql_ok neq_ok add_ok mul_ok quo_ok rem_ok neg_ok table table_ok)
set_option linter.unusedVariables false

set_option maxRecDepth 1000000 in
theorem livesRuns : Ev.isTrue (Ev.calls Try.prog Ev.noFacts 100000 60 5 [] Ev.Mem.start) = true := by kernel_rfl
theorem known : Ev.KnownCalls Try.prog [5] := by
  intro f hf w
  rw [List.mem_singleton.1 hf]
  exact Ev.closed (by kernel_rfl) livesRuns w


/-! ### whole numbers -/
theorem back (a b : Int) (h0 : -9223372036854775808 ≤ a) (h1 : a ≤ 9223372036854775807) : IntKind.i64.wrap (IntKind.i64.wrap (IntKind.i64.wrap (a.tdiv b) * b) + a.tmod b) = a := by
  have e := Int.mul_tdiv_add_tmod a b
  generalize a.tdiv b = t at e ⊢
  generalize a.tmod b = r at e ⊢
  have hq : ∃ k, IntKind.i64.wrap t = t + 18446744073709551616 * k := by
    rw [Go.IntKind.wrap_i64]; exact ⟨-((t + 9223372036854775808) / 18446744073709551616), by omega⟩
  obtain ⟨k, hk⟩ := hq
  have e2 : IntKind.i64.wrap t * b = b * t + 18446744073709551616 * (k * b) := by
    rw [hk, Int.add_mul, Int.mul_comm t b, Int.mul_assoc]
  rw [e2]
  generalize k * b = K
  generalize b * t = p at e ⊢
  rw [Go.IntKind.wrap_i64, Go.IntKind.wrap_i64]
  omega
theorem tmod_facts (a b : Int) (hb : b ≠ 0) : (0 ≤ a → 0 ≤ a.tmod b) ∧ (a < 0 → a.tmod b ≤ 0) ∧ -(b.natAbs : Int) < a.tmod b ∧ a.tmod b < b.natAbs := by
  have key : ∀ a : Int, 0 ≤ a → 0 ≤ a.tmod b ∧ a.tmod b < b.natAbs := fun a h => by
    rw [Int.tmod_eq_emod_of_nonneg h]
    exact ⟨Int.emod_nonneg a hb, Int.emod_lt a hb⟩
  by_cases h : 0 ≤ a
  · obtain ⟨k1, k2⟩ := key a h
    exact ⟨fun _ => k1, fun _ => by omega, by omega, k2⟩
  · obtain ⟨k1, k2⟩ := key (-a) (by omega)
    rw [Int.neg_tmod] at k1 k2
    exact ⟨fun _ => by omega, fun _ => by omega, by omega, by omega⟩
theorem neg_neg (b : Int) (h0 : -9223372036854775808 ≤ b) (h1 : b ≤ 9223372036854775807) : IntKind.i64.wrap (0 - IntKind.i64.wrap (0 - b)) = b := by
  rw [Go.IntKind.wrap_i64, Go.IntKind.wrap_i64]; omega

/-! ### what is known -/
abbrev x : Ev.AV := .opq 0
abbrev y : Ev.AV := .opq 1
abbrev q : Ev.AV := .opq 2
abbrev r : Ev.AV := .opq 3
abbrev m : Ev.AV := .opq 4
abbrev n : Ev.AV := .opq 5
abbrev zero : Ev.AV := .int .i64 0
def ν (a b : Int) : Nat → Value
  | 0 => .int .i64 a
  | 1 => .int .i64 b
  | 2 => .int .i64 (IntKind.i64.wrap (a.tdiv b))
  | 3 => .int .i64 (a.tmod b)
  | 4 => .int .i64 (IntKind.i64.wrap (IntKind.i64.wrap (a.tdiv b) * b))
  | _ => .int .i64 (IntKind.i64.wrap (0 - b))
def sides (bneg bmin : Bool) : List BinF := match bneg with
  | false => [⟨.gtr, r, n, .bool true⟩, ⟨.lss, r, y, .bool true⟩]
  | true => [⟨.gtr, r, y, .bool true⟩, ⟨.lss, r, n, .bool (!bmin)⟩]
def bins (bneg bmin r0 rneg aneg : Bool) : List BinF := [⟨.eql, y, zero, .bool false⟩, ⟨.quo, x, y, q⟩, ⟨.rem, x, y, r⟩, ⟨.mul, q, y, m⟩, ⟨.add, m, r, x⟩, ⟨.eql, x, x, .bool true⟩, ⟨.eql, y, .int .i64 (-9223372036854775808), .bool bmin⟩, ⟨.lss, y, zero, .bool bneg⟩, ⟨.eql, r, zero, .bool r0⟩, ⟨.lss, r, zero, .bool rneg⟩, ⟨.lss, x, zero, .bool aneg⟩] ++ sides bneg bmin
def uns : List UnF := [⟨.neg, y, n⟩, ⟨.neg, n, y⟩]
def Φ (bneg bmin r0 rneg aneg : Bool) : Ev.Facts := table (bins bneg bmin r0 rneg aneg) uns
theorem facts (a b : Int) (ha : -9223372036854775808 ≤ a ∧ a ≤ 9223372036854775807) (hb : -9223372036854775808 ≤ b ∧ b ≤ 9223372036854775807) (hb0 : b ≠ 0) (bneg bmin r0 rneg aneg : Bool)
    (h1 : decide (b < 0) = bneg) (h2 : decide (b = -9223372036854775808) = bmin) (h3 : decide (a.tmod b = 0) = r0) (h4 : decide (a.tmod b < 0) = rneg) (h5 : decide (a < 0) = aneg) : Ev.FactsOk Try.prog (ν a b) (Φ bneg bmin r0 rneg aneg) := by
  have hx : IsInt (ν a b) x .i64 a := isInt_opq rfl
  have hy : IsInt (ν a b) y .i64 b := isInt_opq rfl
  have hq : IsInt (ν a b) q .i64 (IntKind.i64.wrap (a.tdiv b)) := isInt_opq rfl
  have hr : IsInt (ν a b) r .i64 (a.tmod b) := isInt_opq rfl
  have hm : IsInt (ν a b) m .i64 (IntKind.i64.wrap (IntKind.i64.wrap (a.tdiv b) * b)) := isInt_opq rfl
  have hn : IsInt (ν a b) n .i64 (IntKind.i64.wrap (0 - b)) := isInt_opq rfl
  have hz : IsInt (ν a b) zero .i64 0 := isInt_int
  obtain ⟨_, _, t3, t4⟩ := tmod_facts a b hb0
  refine table_ok (fun f hf => ?_) (fun f hf => ?_)
  · simp only [bins, List.mem_append, List.mem_cons, List.not_mem_nil, or_false] at hf
    rcases hf with (rfl | rfl | rfl | rfl | rfl | rfl | rfl | rfl | rfl | rfl | rfl) | hf
    · exact eql_ok hy hz (by simpa using hb0)
    · exact quo_ok hx hy hb0 rfl
    · exact rem_ok hx hy hb0 rfl
    · exact mul_ok hq hy rfl
    · exact add_ok hm hr (by show Value.int .i64 a = _; rw [back a b ha.1 ha.2])
    · exact eql_ok hx hx (by simp)
    · exact eql_ok hy isInt_int h2
    · exact lss_ok hy hz h1
    · exact eql_ok hr hz h3
    · exact lss_ok hr hz h4
    · exact lss_ok hx hz h5
    · cases bneg with
      | false =>
        have hb1 : ¬ b < 0 := by simpa using h1
        have e1 : IntKind.i64.wrap (0 - b) = -b := by rw [Go.IntKind.wrap_i64]; omega
        simp only [sides, List.mem_cons, List.not_mem_nil, or_false] at hf
        rcases hf with rfl | rfl
        · exact gtr_ok (c := true) hr hn (decide_eq_true (by rw [e1]; omega))
        · exact lss_ok (c := true) hr hy (decide_eq_true (by omega))
      | true =>
        have hb1 : b < 0 := by simpa using h1
        simp only [sides, List.mem_cons, List.not_mem_nil, or_false] at hf
        rcases hf with rfl | rfl
        · exact gtr_ok (c := true) hr hy (decide_eq_true (by omega))
        · refine lss_ok hr hn ?_
          rw [← h2, Go.IntKind.wrap_i64, Bool.eq_iff_iff]
          simp only [decide_eq_true_eq, Bool.not_eq_true', decide_eq_false_iff_not]
          omega
  · simp only [uns, List.mem_cons, List.not_mem_nil, or_false] at hf
    rcases hf with rfl | rfl
    · exact neg_ok hy rfl
    · exact neg_ok hn (by show Value.int .i64 b = _; rw [neg_neg b hb.1 hb.2])

/-! ### the runs -/
set_option maxRecDepth 1000000 in
theorem runs0 : Ev.isTrue (Ev.callsK Try.prog Ev.noFacts [5] 100000 60 3 [x, zero] Ev.Mem.start) = true := by kernel_rfl
set_option maxRecDepth 1000000 in
theorem run00000 : Ev.isTrue (Ev.callsK Try.prog (Φ false false false false false) [5] 100000 60 3 [x, y] Ev.Mem.start) = true := by kernel_rfl
set_option maxRecDepth 1000000 in
theorem run00011 : Ev.isTrue (Ev.callsK Try.prog (Φ false false false true true) [5] 100000 60 3 [x, y] Ev.Mem.start) = true := by kernel_rfl
set_option maxRecDepth 1000000 in
theorem run00100 : Ev.isTrue (Ev.callsK Try.prog (Φ false false true false false) [5] 100000 60 3 [x, y] Ev.Mem.start) = true := by kernel_rfl
set_option maxRecDepth 1000000 in
theorem run00101 : Ev.isTrue (Ev.callsK Try.prog (Φ false false true false true) [5] 100000 60 3 [x, y] Ev.Mem.start) = true := by kernel_rfl
set_option maxRecDepth 1000000 in
theorem run10000 : Ev.isTrue (Ev.callsK Try.prog (Φ true false false false false) [5] 100000 60 3 [x, y] Ev.Mem.start) = true := by kernel_rfl
set_option maxRecDepth 1000000 in
theorem run10011 : Ev.isTrue (Ev.callsK Try.prog (Φ true false false true true) [5] 100000 60 3 [x, y] Ev.Mem.start) = true := by kernel_rfl
set_option maxRecDepth 1000000 in
theorem run10100 : Ev.isTrue (Ev.callsK Try.prog (Φ true false true false false) [5] 100000 60 3 [x, y] Ev.Mem.start) = true := by kernel_rfl
set_option maxRecDepth 1000000 in
theorem run10101 : Ev.isTrue (Ev.callsK Try.prog (Φ true false true false true) [5] 100000 60 3 [x, y] Ev.Mem.start) = true := by kernel_rfl
set_option maxRecDepth 1000000 in
theorem run11000 : Ev.isTrue (Ev.callsK Try.prog (Φ true true false false false) [5] 100000 60 3 [x, y] Ev.Mem.start) = true := by kernel_rfl
set_option maxRecDepth 1000000 in
theorem run11011 : Ev.isTrue (Ev.callsK Try.prog (Φ true true false true true) [5] 100000 60 3 [x, y] Ev.Mem.start) = true := by kernel_rfl
set_option maxRecDepth 1000000 in
theorem run11100 : Ev.isTrue (Ev.callsK Try.prog (Φ true true true false false) [5] 100000 60 3 [x, y] Ev.Mem.start) = true := by kernel_rfl
set_option maxRecDepth 1000000 in
theorem run11101 : Ev.isTrue (Ev.callsK Try.prog (Φ true true true false true) [5] 100000 60 3 [x, y] Ev.Mem.start) = true := by kernel_rfl
def good (bneg bmin r0 rneg aneg : Bool) : Bool := (bneg || !bmin) && (!r0 || !rneg) && (r0 || (rneg == aneg))
theorem runs (bneg bmin r0 rneg aneg : Bool) (h : good bneg bmin r0 rneg aneg = true) : Ev.isTrue (Ev.callsK Try.prog (Φ bneg bmin r0 rneg aneg) [5] 100000 60 3 [x, y] Ev.Mem.start) = true := by
  revert h
  match bneg, bmin, r0, rneg, aneg with
  | false, false, false, false, false => exact fun _ => run00000
  | false, false, false, false, true => exact fun h => absurd h (by decide)
  | false, false, false, true, false => exact fun h => absurd h (by decide)
  | false, false, false, true, true => exact fun _ => run00011
  | false, false, true, false, false => exact fun _ => run00100
  | false, false, true, false, true => exact fun _ => run00101
  | false, false, true, true, false => exact fun h => absurd h (by decide)
  | false, false, true, true, true => exact fun h => absurd h (by decide)
  | false, true, false, false, false => exact fun h => absurd h (by decide)
  | false, true, false, false, true => exact fun h => absurd h (by decide)
  | false, true, false, true, false => exact fun h => absurd h (by decide)
  | false, true, false, true, true => exact fun h => absurd h (by decide)
  | false, true, true, false, false => exact fun h => absurd h (by decide)
  | false, true, true, false, true => exact fun h => absurd h (by decide)
  | false, true, true, true, false => exact fun h => absurd h (by decide)
  | false, true, true, true, true => exact fun h => absurd h (by decide)
  | true, false, false, false, false => exact fun _ => run10000
  | true, false, false, false, true => exact fun h => absurd h (by decide)
  | true, false, false, true, false => exact fun h => absurd h (by decide)
  | true, false, false, true, true => exact fun _ => run10011
  | true, false, true, false, false => exact fun _ => run10100
  | true, false, true, false, true => exact fun _ => run10101
  | true, false, true, true, false => exact fun h => absurd h (by decide)
  | true, false, true, true, true => exact fun h => absurd h (by decide)
  | true, true, false, false, false => exact fun _ => run11000
  | true, true, false, false, true => exact fun h => absurd h (by decide)
  | true, true, false, true, false => exact fun h => absurd h (by decide)
  | true, true, false, true, true => exact fun _ => run11011
  | true, true, true, false, false => exact fun _ => run11100
  | true, true, true, false, true => exact fun _ => run11101
  | true, true, true, true, false => exact fun h => absurd h (by decide)
  | true, true, true, true, true => exact fun h => absurd h (by decide)
theorem walk (a b : Int) (ha : (Lit.int .i64 a).wf = true) (hb : (Lit.int .i64 b).wf = true) (w : World) : Calls Try.prog 3 #[.int .i64 a, .int .i64 b] w fun e w' => e = .returned (.bool true) ∧ Below w.heap.size w w' := by
  have ka : -9223372036854775808 ≤ a ∧ a ≤ 9223372036854775807 := by simpa [Lit.wf, IntKind.min, IntKind.max, IntKind.signed, IntKind.bits] using ha
  have kb : -9223372036854775808 ≤ b ∧ b ≤ 9223372036854775807 := by simpa [Lit.wf, IntKind.min, IntKind.max, IntKind.signed, IntKind.bits] using hb
  by_cases h0 : b = 0
  · subst h0
    exact Ev.closedK known (by kernel_rfl) runs0 (ν a 0) _ (by simp only [Ev.VL, Ev.V]; exact ⟨_, _, rfl, ⟨rfl, rfl⟩, _, _, rfl, rfl, rfl⟩) w
  · haveI := facts a b ka kb h0 _ _ _ _ _ rfl rfl rfl rfl rfl
    refine Ev.closedK (Φ := Φ (decide (b < 0)) (decide (b = -9223372036854775808)) (decide (a.tmod b = 0)) (decide (a.tmod b < 0)) (decide (a < 0))) known (by kernel_rfl) (runs (decide (b < 0)) (decide (b = -9223372036854775808)) (decide (a.tmod b = 0)) (decide (a.tmod b < 0)) (decide (a < 0)) ?_) (ν a b) _ (by simp only [Ev.VL, Ev.V]; exact ⟨_, _, rfl, ⟨rfl, rfl⟩, _, _, rfl, ⟨rfl, rfl⟩, rfl⟩) w
    obtain ⟨t1, t2, _, _⟩ := tmod_facts a b h0
    unfold good
    generalize a.tmod b = R at t1 t2 ⊢
    by_cases c1 : b = -9223372036854775808 <;> by_cases c2 : R = 0 <;> by_cases c3 : a < 0 <;> simp [c1, c2, c3] <;> omega

theorem own : ownKnob Try.prog.godebug = none := by kernel_rfl

set_option maxRecDepth 100000 in
theorem lifted (os : Os) (started : os.Started) (H : Type) (enc : TypeId × Value → H) :
    ReturnsInHanded {} Try.checked os 3 .any (Rows.primWholeSpec.pre6 enc Try.prog Try.f3 Rows.primWholeRow.domain false) (Rows.primWholeSpec.post enc Try.prog Try.f3 false true false false) := by
  refine returnsInHanded_of_change (C := Try.checked) own started (by kernel_rfl) Try.func3
    (ChangeSpec.witness6 (enc := enc) (C := Try.checked) false ⟨#[], #[.int .i64 0, .int .i64 0], []⟩ 8 (by kernel_rfl) (by kernel_rfl) (by kernel_rfl) (by kernel_rfl)) ?_
  intro W base args ds gs before hval0 hW hcnd _
  have hval : ∀ (j : Nat) t v, Try.f3.params[j]? = some t → args[j]? = some v → Value.okWide Try.prog W .any base t v := hval0
  have hW' := hW
  obtain ⟨p, q, hA0, hV, rfl, hfz, hnd⟩ := hW
  have hA : DataW.TrodAll enc Try.prog W 0 (fun _ => true) true Try.f3.params.toList args.toList ds p := hA0
  rw [Try.params3] at hA hval
  obtain ⟨v0, vs0, d0, ds0, p0, q0, hargs, rfl, rfl, h0, r0⟩ := trodAll_cons hA
  obtain ⟨v1, vs1, d1, ds1, p1, q1, rfl, rfl, rfl, h1, r1⟩ := trodAll_cons r0
  obtain ⟨rfl, rfl, rfl⟩ := trodAll_nil r1
  obtain rfl : args = #[v0, v1] := by cases args; simp_all
  obtain ⟨rfl, rfl⟩ := trodVars_none hV
  obtain ⟨a0, rfl, rfl, rfl, w0⟩ := open_int Try.underlying2 (hval 0 2 v0 rfl rfl) h0
  obtain ⟨a1, rfl, rfl, rfl, w1⟩ := open_int Try.underlying2 (hval 1 2 v1 rfl rfl) h1
  clear hA0 hval0
  simp only [List.append_nil] at hW'
  refine (walk a0 a1 w0 w1 W).mono fun e W' ⟨he, bel⟩ => ?_
  subst he
  exact ⟨_, rfl, _, _, _, [], [], [], hW', trodAll_mk1 (shut_bool Try.underlying4 _), (trodAll_cons_mk (shut_int Try.underlying2 w0) (trodAll_cons_mk (shut_int Try.underlying2 w1) trodAll_mk0)), rfl, bel.frame _, fun h => by cases h⟩

theorem over : Rows.primWholeRow.holds Try.pinned (OpenSpec.ofChange Rows.primWholeSpec) :=
  OpenClaim.holds_of_wide 3 Try.f3 rfl rfl rfl rfl rfl rfl rfl ⟨rfl, rfl, rfl, rfl, rfl⟩ rfl rfl rfl rfl rfl (by kernel_rfl) Try.func3 (by kernel_rfl)
    (of_decide_eq_true (by kernel_rfl)) (by unfold Func.isWrapper; rw [if_neg (by decide +kernel)]; exact ⟨rfl, rfl⟩)
    (fun os started H enc _ => lifted os started H enc)

theorem proved : Rows.PrimWholeSaid := over

end Go.Proofs.Ytmgfgkikeflenaa.primWhole
