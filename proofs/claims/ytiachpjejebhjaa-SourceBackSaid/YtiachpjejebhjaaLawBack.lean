/- 'SourceBack' holds: of any text of at most 300 bytes each place's line and column lead back to it, and lines and columns rise; of a longer text the law says true at once. No conditions. -/
import Derived.Test.YtiachpjejebhjaaAt
import Derived.Test.YtiachpjejebhjaaLives
import Derived.Test.YtiachpjejebhjaaRows
import Derived.ProofKit
import Derived.OpenShut
import Derived.ShutString
namespace Go.Proofs.Ytiachpjejebhjaa.sourceBack
open Go.ChangeShapes Go.WideShapes Go.ChangeAt Go.RowKit
open Go.ChangeMaps (open_string shut_string)
set_option linter.unusedVariables false

theorem at_pos (s : ByteArray) (hs : s.size ≤ 300) (n : Nat) (hn : n ≤ s.size) (pl : Nat) (pc : Int) (hp : posR s.data.toList n = (pl, pc)) (w : World) :
    Calls Try.prog 10 #[.string s, .int .i64 pl, .int .i64 pc] w fun e w' => e = .returned (.tuple #[.int .i64 n, .int .i64 0]) ∧ Below w.heap.size w w' := by
  refine (at_any s (by omega) pl pc w).mono ?_
  rintro e w' ⟨rfl, hb⟩
  refine ⟨?_, hb⟩
  rw [atF_some s.data.toList pl pc n hn (by rw [hp]) (by rw [hp])]

theorem where_pos (s : ByteArray) (hs : s.size ≤ 300) (n : Nat) (hn : n ≤ s.size) (pl : Nat) (pc : Int) (hp : posR s.data.toList n = (pl, pc)) (w : World) :
    Calls Try.prog 9 #[.string s, .int .i64 n] w fun e w' => e = .returned (.tuple #[.int .i64 pl, .int .i64 pc, .int .i64 0]) ∧ Below w.heap.size w w' := by
  refine (where_any s (by omega) n hn w).mono ?_
  rintro e w' ⟨rfl, hb⟩
  refine ⟨?_, hb⟩
  rw [hp]

/-- What the law's variables 'line' and 'col' hold ahead of place n. -/
def Ahead (l : List UInt8) (n : Nat) (a b : Int) : Prop := (n = 0 ∧ a = 1 ∧ b = 0) ∨ (∃ m, n = m + 1 ∧ a = (posR l m).1 ∧ b = (posR l m).2)

theorem ahead_lt (l : List UInt8) (n : Nat) (hn : n ≤ l.length) (a b : Int) (h : Ahead l n a b) (pl : Nat) (pc : Int) (hp : posR l n = (pl, pc)) : a < pl ∨ (a = pl ∧ b < pc) := by
  rcases h with ⟨rfl, rfl, rfl⟩ | ⟨m, rfl, rfl, rfl⟩
  · rw [posR_zero] at hp; cases hp; right; exact ⟨rfl, by omega⟩
  · have := posR_lt l m (m + 1) (by omega) hn
    rw [hp] at this; simp only at this; omega

set_option maxRecDepth 100000 in
set_option maxHeartbeats 2000000 in
theorem walk_small (s : ByteArray) (hs : s.size ≤ 300) (w : World) :
    Calls Try.prog 4 #[.string s] w fun e w' => e = .returned (.bool true) ∧ Below w.heap.size w w' := by
  have hs1 : decide ((300 : Int) < s.size) = false := by simp; omega
  have hl0 : s.data.toList.length = s.size := rfl
  go_enter Try.func4, Try.ntmps4
  go_wp2_with (go_at_call 7; refine (lives_any _).mono ?_; rintro e w0 ⟨rfl, hb0⟩)
  go_loopw [3, 4, 5] (fun ln cl i wr => ∃ (n : Nat) (a b : Int), i = .int .i64 n ∧ n ≤ s.size + 1 ∧ ln = .int .i64 a ∧ cl = .int .i64 b ∧ Ahead s.data.toList n a b ∧ Below w.heap.size w wr) (fun _ _ i _ => s.size + 1 - (intOf i).toNat)
  case atStart => exact ⟨0, 1, 0, rfl, Nat.zero_le _, rfl, rfl, .inl ⟨rfl, rfl, rfl⟩, hb0⟩
  case round =>
    obtain ⟨n, a, b, rfl, hn, rfl, rfl, hah, hbw⟩ := hrel
    by_cases hlt : n ≤ s.size
    · obtain ⟨pl, pc, hp⟩ : ∃ pl pc, posR s.data.toList n = (pl, pc) := ⟨_, _, rfl⟩
      have hbd := posR_bd s.data.toList n hlt
      rw [hp] at hbd
      simp only at hbd
      have hor := ahead_lt s.data.toList n hlt a b hah pl pc hp
      have Hp := Lib.hid hp; have Hah := Lib.hid hah
      clear hp hah
      rcases hor with h1 | ⟨h1, h2⟩
      · have t1 : decide ((pl : Int) < a) = false := by simp; omega
        have t2 : ((pl : Int) == a) = false := by rw [beq_eq_false_iff_ne]; omega
        go_wp2_with (first | (go_at_call 9; refine (where_pos s hs n hlt pl pc Hp.out _).mono ?_; rintro e w1 ⟨rfl, hb1⟩) | (go_at_call 10; refine (at_pos s hs n hlt pl pc Hp.out _).mono ?_; rintro e w2 ⟨rfl, hb2⟩))
        go_roundw
        case rel => exact ⟨n + 1, pl, pc, by go_num, by omega, rfl, rfl, .inr ⟨n, rfl, by rw [Hp.out], by rw [Hp.out]⟩, (hbw.trans (hb1.mono hbw.size)).trans (hb2.mono (Nat.le_trans hbw.size hb1.size))⟩
        case measure => simp [intOf]; omega
      · subst h1
        have t1 : decide ((pl : Int) < pl) = false := by simp
        have t2 : ((pl : Int) == pl) = true := by simp
        have t3 : decide (pc ≤ b) = false := by simp; omega
        go_wp2_with (first | (go_at_call 9; refine (where_pos s hs n hlt pl pc Hp.out _).mono ?_; rintro e w1 ⟨rfl, hb1⟩) | (go_at_call 10; refine (at_pos s hs n hlt pl pc Hp.out _).mono ?_; rintro e w2 ⟨rfl, hb2⟩))
        go_roundw
        case rel => exact ⟨n + 1, pl, pc, by go_num, by omega, rfl, rfl, .inr ⟨n, rfl, by rw [Hp.out], by rw [Hp.out]⟩, (hbw.trans (hb1.mono hbw.size)).trans (hb2.mono (Nat.le_trans hbw.size hb1.size))⟩
        case measure => simp [intOf]; omega
    · go_wp2
      go_ret
      exact ⟨rfl, hbw⟩

theorem walk (a0 : ByteArray) (w0 : a0.size ≤ maxLen) (w : World) :
    Calls Try.prog 4 #[.string a0] w fun e w' => e = .returned (.bool true) ∧ Below w.heap.size w w' := by
  by_cases hs : a0.size ≤ 300
  · exact walk_small a0 hs w
  · unfold maxLen at w0
    have hs1 : decide ((300 : Int) < a0.size) = true := by simp; omega
    go_enter Try.func4, Try.ntmps4
    go_wp2_with (go_at_call 7; refine (lives_any _).mono ?_; rintro e w1 ⟨rfl, hb⟩)
    go_ret
    exact ⟨rfl, hb⟩

theorem own : ownKnob Try.prog.godebug = none := by kernel_rfl

set_option maxRecDepth 100000 in
theorem lifted (os : Os) (started : os.Started) (H : Type) (enc : TypeId × Value → H) :
    ReturnsInHanded {} Try.checked os 4 .any (Rows.sourceBackSpec.pre6 enc Try.prog Try.f4 Rows.sourceBackRow.domain false) (Rows.sourceBackSpec.post enc Try.prog Try.f4 false true false false) := by
  refine returnsInHanded_of_change (C := Try.checked) own started (by kernel_rfl) Try.func4
    (ChangeSpec.witness6 (enc := enc) (C := Try.checked) false ⟨#[], #[.string ByteArray.empty], []⟩ 8 (by kernel_rfl) (by kernel_rfl) (by kernel_rfl) (by kernel_rfl)) ?_
  intro W base args ds gs before hval0 hW hcnd _
  have hval : ∀ (j : Nat) t v, Try.f4.params[j]? = some t → args[j]? = some v → Value.okWide Try.prog W .any base t v := hval0
  have hW' := hW
  obtain ⟨p, q, hA0, hV, rfl, hfz, hnd⟩ := hW
  have hA : DataW.TrodAll enc Try.prog W 0 (fun _ => true) true Try.f4.params.toList args.toList ds p := hA0
  rw [Try.params4] at hA hval
  obtain ⟨v0, vs0, d0, ds0, p0, q0, hargs, rfl, rfl, h0, r0⟩ := trodAll_cons hA
  obtain ⟨rfl, rfl, rfl⟩ := trodAll_nil r0
  obtain rfl : args = #[v0] := by cases args; simp_all
  obtain ⟨rfl, rfl⟩ := trodVars_none hV
  obtain ⟨a0, rfl, rfl, rfl, w0⟩ := open_string Try.underlying9 (hval 0 9 v0 rfl rfl) h0
  clear hA0 hval0
  simp only [List.append_nil] at hW'
  refine (walk a0 w0 W).mono fun e W' ⟨he, bel⟩ => ?_
  subst he
  exact ⟨_, rfl, _, _, _, [], [], [], hW', trodAll_mk1 (shut_bool Try.underlying4 _), (trodAll_cons_mk (shut_string Try.underlying9 w0) trodAll_mk0), rfl, bel.frame _, fun h => by cases h⟩

theorem over : Rows.sourceBackRow.holds Try.pinned (OpenSpec.ofChange Rows.sourceBackSpec) :=
  OpenClaim.holds_of_wide 4 Try.f4 rfl rfl rfl rfl rfl rfl rfl ⟨rfl, rfl, rfl, rfl, rfl⟩ rfl rfl rfl rfl rfl (by kernel_rfl) Try.func4 (by kernel_rfl)
    (of_decide_eq_true (by kernel_rfl)) (by unfold Func.isWrapper; rw [if_neg (by decide +kernel)]; exact ⟨rfl, rfl⟩)
    (fun os started H enc _ => lifted os started H enc)

theorem proved : Rows.SourceBackSaid := over

end Go.Proofs.Ytiachpjejebhjaa.sourceBack
