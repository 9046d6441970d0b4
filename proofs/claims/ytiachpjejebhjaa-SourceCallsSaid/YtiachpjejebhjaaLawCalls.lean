/- 'SourceCalls' holds: of any text, place, line and column the program's answers are the document's. No conditions. -/
import Derived.Test.YtiachpjejebhjaaJoin
import Derived.Test.YtiachpjejebhjaaRows
import Derived.ProofKit
import Derived.OpenShut
import Derived.ShutString
namespace Go.Proofs.Ytiachpjejebhjaa.sourceCalls
open Go.ChangeShapes Go.WideShapes Go.ChangeAt Go.RowKit
open Go.ChangeMaps (open_string shut_string)
set_option linter.unusedVariables false

theorem check_both (s : ByteArray) (hs : s.size ≤ 9223372036854775807) (w : World) (c d : Int) (h : checkF s.data.toList = (c, d)) :
    Calls Try.prog 12 #[.string s] w fun e w' => e = .returned (.agg #[.int .i64 c, .int .i64 d]) ∧ Below w.heap.size w w' := by
  have := check_any s hs w
  rw [h] at this; exact this
theorem checkR_both (s : ByteArray) (hs : s.size ≤ 9223372036854775807) (w : World) (c d : Int) (h : checkF s.data.toList = (c, d)) :
    Calls Try.prog 13 #[.string s] w fun e w' => e = .returned (.agg #[.int .i64 c, .int .i64 d]) ∧ Below w.heap.size w w' := by
  have := checkR_any s hs w
  rw [h] at this; exact this

theorem chain {w a b : World} (h : Below w.heap.size w a) (k : Below a.heap.size a b) : Below w.heap.size w b := h.trans (k.mono h.size)

set_option maxRecDepth 100000 in
set_option maxHeartbeats 4000000 in
theorem walk_small (s : ByteArray) (k line col : Int) (hs : s.size ≤ 4000) (w : World) :
    Calls Try.prog 6 #[.string s, .int .i64 k, .int .i64 line, .int .i64 col] w fun e w' => e = .returned (.bool true) ∧ Below w.heap.size w w' := by
  have hs1 : decide ((65546 : Int) < s.size) = false := by simp; omega
  have hs2 : decide ((4000 : Int) < s.size) = false := by simp; omega
  have hN : (segs s.data.toList).length ≤ 1000000000000 := by have := segs_len s.data.toList; have hl0 : s.data.toList.length = s.size := rfl; omega
  obtain ⟨cc, cd, hck⟩ : ∃ cc cd, checkF s.data.toList = (cc, cd) := ⟨_, _, rfl⟩
  obtain ⟨x1, x2, x3, hx⟩ : ∃ x1 x2 x3, whereF s.data.toList k = (x1, x2, x3) := ⟨_, _, _, rfl⟩
  obtain ⟨y1, y2, hy⟩ : ∃ y1 y2, atF s.data.toList line col = (y1, y2) := ⟨_, _, rfl⟩
  obtain ⟨z1, z2, hz⟩ : ∃ z1 z2, indentF s.data.toList line = (z1, z2) := ⟨_, _, rfl⟩
  have hwh := fun w => where_all s (by omega) k w
  have hwr := fun w => whereR_all s (by omega) k w
  have hat := fun w => at_any s (by omega) line col w
  have har := fun w => atR_any s (by omega) line col w
  have hin := fun w => indent_any s (by omega) line w
  have hir := fun w => indentR_any s (by omega) line w
  rw [hx] at hwh hwr
  rw [hy] at hat har
  rw [hz] at hin hir
  simp only at hwh hwr hat har hin hir
  obtain ⟨N, hNe⟩ : ∃ N, (segs s.data.toList).length = N := ⟨_, rfl⟩
  have hl1 := fun w => Lines_known s (by omega) w
  have hl2 := fun w => LinesR_known s (by omega) w
  rw [hNe] at hl1 hl2 hN
  have Hck := Lib.hid hck
  have Hwh := Lib.hid hwh; have Hwr := Lib.hid hwr; have Hat := Lib.hid hat; have Har := Lib.hid har; have Hin := Lib.hid hin; have Hir := Lib.hid hir; have Hl1 := Lib.hid hl1; have Hl2 := Lib.hid hl2
  clear hck hx hy hz hwh hwr hat har hin hir hl1 hl2 hNe
  have hfg := fault_guard
  have hfn := fault_neq
  go_enter Try.func6, Try.ntmps6
  go_wp2_with (first | (go_at_call 7; refine (lives_any _).mono ?_; rintro e w0 ⟨rfl, b0⟩) | (go_at_call 12; refine (check_both s (by omega) _ cc cd Hck.out).mono ?_; rintro e w1 ⟨rfl, b1⟩) | (go_at_call 13; refine (checkR_both s (by omega) _ cc cd Hck.out).mono ?_; rintro e w2 ⟨rfl, b2⟩) | (go_at_call 9; refine (Hwh.out _).mono ?_; rintro e w3 ⟨rfl, b3⟩) | (go_at_call 14; refine (Hwr.out _).mono ?_; rintro e w4 ⟨rfl, rfl⟩) | (go_at_call 10; refine (Hat.out _).mono ?_; rintro e w5 ⟨rfl, b5⟩) | (go_at_call 15; refine (Har.out _).mono ?_; rintro e w6 ⟨rfl, rfl⟩) | (go_at_call 11; refine (Hin.out _).mono ?_; rintro e w7 ⟨rfl, b7⟩) | (go_at_call 16; refine (Hir.out _).mono ?_; rintro e w8 ⟨rfl, b8⟩) | (go_at_call 8; refine (Hl1.out _).mono ?_; rintro e w9 ⟨g1, cap1, rfl, hg1, hc1, b9⟩; have Hc1 := Lib.hid hc1; clear hc1) | (go_at_call 18; refine (Hl2.out _).mono ?_; rintro e wa ⟨g2, cap2, rfl, hg2, hc2, ba⟩; have Hc2 := Lib.hid hc2; clear hc2))
  have hg1' : g1 < wa.heap.size := Nat.lt_of_lt_of_le hg1 ba.size
  refine (sameTexts_yes N g1 cap1 g2 cap2 (lineT s) wa hN hg1' hg2 (fun j hj => (ba.cell (p := ⟨g1, j, none⟩) hg1).trans (Hc1.out j hj)) Hc2.out).mono ?_
  rintro e wb ⟨rfl, bb⟩
  go_wp2
  go_ret
  exact ⟨rfl, chain (chain (chain (chain (chain (chain (chain (chain (chain b0 b1) b2) b3) b5) b7) b8) b9) ba) bb⟩

set_option maxHeartbeats 1000000 in
theorem walk (a0 : ByteArray) (a1 a2 a3 : Int) (w0 : a0.size ≤ maxLen) (w1 : (Lit.int .i64 a1).wf = true) (w2 : (Lit.int .i64 a2).wf = true) (w3 : (Lit.int .i64 a3).wf = true) (w : World) :
    Calls Try.prog 6 #[.string a0, .int .i64 a1, .int .i64 a2, .int .i64 a3] w fun e w' => e = .returned (.bool true) ∧ Below w.heap.size w w' := by
  by_cases hs : a0.size ≤ 4000
  · exact walk_small a0 a1 a2 a3 hs w
  · unfold maxLen at w0
    obtain ⟨cc, cd, hck⟩ : ∃ cc cd, checkF a0.data.toList = (cc, cd) := ⟨_, _, rfl⟩
    have Hck := Lib.hid hck
    clear hck w1 w2 w3
    have hfg := fault_guard
    have hfn := fault_neq
    by_cases hl : a0.size ≤ 65546
    · have hs1 : decide ((65546 : Int) < a0.size) = false := by simp; omega
      have hs2 : decide ((4000 : Int) < a0.size) = true := by simp; omega
      go_enter Try.func6, Try.ntmps6
      go_wp2_with (first | (go_at_call 7; refine (lives_any _).mono ?_; rintro e wp ⟨rfl, b0⟩) | (go_at_call 12; refine (check_both a0 w0 _ cc cd Hck.out).mono ?_; rintro e w1 ⟨rfl, b1⟩) | (go_at_call 13; refine (checkR_both a0 w0 _ cc cd Hck.out).mono ?_; rintro e w2 ⟨rfl, b2⟩))
      go_ret
      exact ⟨rfl, chain (chain b0 b1) b2⟩
    · have hs1 : decide ((65546 : Int) < a0.size) = true := by simp; omega
      go_enter Try.func6, Try.ntmps6
      go_wp2_with (go_at_call 7; refine (lives_any _).mono ?_; rintro e wp ⟨rfl, b0⟩)
      go_ret
      exact ⟨rfl, b0⟩

theorem own : ownKnob Try.prog.godebug = none := by kernel_rfl

set_option maxRecDepth 100000 in
theorem lifted (os : Os) (started : os.Started) (H : Type) (enc : TypeId × Value → H) :
    ReturnsInHanded {} Try.checked os 6 .any (Rows.sourceCallsSpec.pre6 enc Try.prog Try.f6 Rows.sourceCallsRow.domain false) (Rows.sourceCallsSpec.post enc Try.prog Try.f6 false true false false) := by
  refine returnsInHanded_of_change (C := Try.checked) own started (by kernel_rfl) Try.func6
    (ChangeSpec.witness6 (enc := enc) (C := Try.checked) false ⟨#[], #[.string ByteArray.empty, .int .i64 0, .int .i64 0, .int .i64 0], []⟩ 8 (by kernel_rfl) (by kernel_rfl) (by kernel_rfl) (by kernel_rfl)) ?_
  intro W base args ds gs before hval0 hW hcnd _
  have hval : ∀ (j : Nat) t v, Try.f6.params[j]? = some t → args[j]? = some v → Value.okWide Try.prog W .any base t v := hval0
  have hW' := hW
  obtain ⟨p, q, hA0, hV, rfl, hfz, hnd⟩ := hW
  have hA : DataW.TrodAll enc Try.prog W 0 (fun _ => true) true Try.f6.params.toList args.toList ds p := hA0
  rw [Try.params6] at hA hval
  obtain ⟨v0, vs0, d0, ds0, p0, q0, hargs, rfl, rfl, h0, r0⟩ := trodAll_cons hA
  obtain ⟨v1, vs1, d1, ds1, p1, q1, rfl, rfl, rfl, h1, r1⟩ := trodAll_cons r0
  obtain ⟨v2, vs2, d2, ds2, p2, q2, rfl, rfl, rfl, h2, r2⟩ := trodAll_cons r1
  obtain ⟨v3, vs3, d3, ds3, p3, q3, rfl, rfl, rfl, h3, r3⟩ := trodAll_cons r2
  obtain ⟨rfl, rfl, rfl⟩ := trodAll_nil r3
  obtain rfl : args = #[v0, v1, v2, v3] := by cases args; simp_all
  obtain ⟨rfl, rfl⟩ := trodVars_none hV
  obtain ⟨a0, rfl, rfl, rfl, w0⟩ := open_string Try.underlying9 (hval 0 9 v0 rfl rfl) h0
  obtain ⟨a1, rfl, rfl, rfl, w1⟩ := open_int Try.underlying3 (hval 1 3 v1 rfl rfl) h1
  obtain ⟨a2, rfl, rfl, rfl, w2⟩ := open_int Try.underlying3 (hval 2 3 v2 rfl rfl) h2
  obtain ⟨a3, rfl, rfl, rfl, w3⟩ := open_int Try.underlying3 (hval 3 3 v3 rfl rfl) h3
  clear hA0 hval0
  simp only [List.append_nil] at hW'
  refine (walk a0 a1 a2 a3 w0 w1 w2 w3 W).mono fun e W' ⟨he, bel⟩ => ?_
  subst he
  exact ⟨_, rfl, _, _, _, [], [], [], hW', trodAll_mk1 (shut_bool Try.underlying4 _), (trodAll_cons_mk (shut_string Try.underlying9 w0) (trodAll_cons_mk (shut_int Try.underlying3 w1) (trodAll_cons_mk (shut_int Try.underlying3 w2) (trodAll_cons_mk (shut_int Try.underlying3 w3) trodAll_mk0)))), rfl, bel.frame _, fun h => by cases h⟩

theorem over : Rows.sourceCallsRow.holds Try.pinned (OpenSpec.ofChange Rows.sourceCallsSpec) :=
  OpenClaim.holds_of_wide 6 Try.f6 rfl rfl rfl rfl rfl rfl rfl ⟨rfl, rfl, rfl, rfl, rfl⟩ rfl rfl rfl rfl rfl (by kernel_rfl) Try.func6 (by kernel_rfl)
    (of_decide_eq_true (by kernel_rfl)) (by unfold Func.isWrapper; rw [if_neg (by decide +kernel)]; exact ⟨rfl, rfl⟩)
    (fun os started H enc _ => lifted os started H enc)

theorem proved : Rows.SourceCallsSaid := over

end Go.Proofs.Ytiachpjejebhjaa.sourceCalls
