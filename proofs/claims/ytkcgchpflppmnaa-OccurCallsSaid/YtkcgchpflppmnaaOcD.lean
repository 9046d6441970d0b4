/- Is a name among some? The reference's has, and slices.Contains. -/
import Derived.Test.YtkcgchpflppmnaaOcC
import Derived.WalkSpells
import Derived.WalkSmall
import Derived.Deep.RegionHeld3
import Derived.Deep.RegionWith
import Derived.Deep.QuietTactic
import Derived.BigQuiet
import Derived.BigRegion
import Derived.Outline
import Derived.Lib.Hide
import Derived.Deep.Cut
import Derived.StillTailTactics
namespace Go.Proofs.Ytkcgchpflppmnaa
open Go.RowKit
set_option linter.unusedSimpArgs false
set_option linter.unusedVariables false

theorem chain {w a b : World} (h : Below w.heap.size w a) (k : Below a.heap.size a b) : Below w.heap.size w b := h.trans (k.mono h.size)
theorem toList_ne {x s : ByteArray} (e : x ≠ s) : (x.toList == s.toList) = false := by
  rw [beq_eq_false_iff_ne, ByteArray.toList_eq, ByteArray.toList_eq]
  intro h
  refine e ?_
  cases x with | mk x => cases s with | mk s => exact congrArg ByteArray.mk (Array.toList_inj.1 h)
theorem take_has {l : List ByteArray} {k : Nat} {x s : ByteArray} (hx : l[k]? = some x) (h : s ∉ l.take k) (e : x ≠ s) : s ∉ l.take (k + 1) := by
  rw [List.take_add_one, hx]
  simp only [Option.toList_some, List.mem_append, List.mem_singleton]
  rintro (h' | h')
  · exact h h'
  · exact e h'.symm
theorem take_all {l : List ByteArray} {n : Nat} (h : l.length = n) : l.take n = l := by subst h; exact List.take_length
theorem has_of {l : List ByteArray} {k : Nat} {s : ByteArray} (h : l[k]? = some s) : decide (s ∈ l) = true := decide_eq_true (List.mem_of_getElem? h)

set_option maxRecDepth 100000 in
set_option maxHeartbeats 8000000 in
theorem has_any (v : Value) (l : List ByteArray) (s : ByteArray) (w : World) (h : Txs w v l) (hn : l.length ≤ 10000000000000) :
    Calls Try.prog 44 #[v, .string s] w fun e w' => e = .returned (.bool (decide (s ∈ l))) ∧ Below w.heap.size w w' := by
  obtain ⟨a, ca, rfl, ha⟩ := h
  obtain ⟨N, hN⟩ : ∃ N, l.length = N := ⟨_, rfl⟩
  have HN := Lib.hid hN
  rw [hN] at hn ⊢
  have Ha := Lib.hid ha
  clear ha hN
  go_enter Try.func44, Try.ntmps44
  go_wp2
  go_loopw [5] (fun i wr => ∃ k : Nat, i = .int .i64 k ∧ k ≤ N ∧ Hid (s ∉ l.take k) ∧ Below w.heap.size w wr) (fun i _ => N - (intOf i).toNat)
  case atStart => exact ⟨0, rfl, Nat.zero_le _, Lib.hid (by simp), Below.refl _ _⟩
  case round =>
    obtain ⟨k, rfl, hk, hT, hB⟩ := hrel
    by_cases hlt : k < N
    · have hlt2 : decide ((k : Int) < (N : Int)) = true := by simp; omega
      have hlt3 : decide (k < N) = true := by simp; omega
      have hkt : k < l.length := by rw [HN.out]; exact hlt
      obtain ⟨p, o, rfl, hp, hat⟩ := Ha.out (by omega)
      obtain ⟨x, hx⟩ : ∃ x, l[k]? = some x := ⟨_, List.getElem?_eq_getElem hkt⟩
      have c0 := (hB.cell (p := ⟨p, o + k * 1, none⟩) hp).trans (hat k x hx)
      rw [Nat.mul_one] at c0
      have hi0 : (0 : Int) ≤ (k : Int) := by omega
      have HX := Lib.hid hx
      clear hat hx
      by_cases e : x = s
      · subst e
        have HR := Lib.hid (has_of HX.out)
        go_wp2
        go_ret
        exact ⟨by rw [HR.out]; rfl, hB⟩
      · have HT := Lib.hid (take_has HX.out hT.out e)
        have hne : decide (x = s) = false := decide_eq_false e
        have hnb := toList_ne e
        go_wp2
        go_roundw
        case rel => exact ⟨k + 1, by go_num, by omega, HT, hB⟩
        case measure => simp [intOf]; omega
    · have hlt2 : decide ((k : Int) < (N : Int)) = false := by simp; omega
      have hlt3 : decide (k < N) = false := by simp; omega
      obtain rfl : k = N := by omega
      have HR := Lib.hid (show decide (s ∈ l) = false from decide_eq_false (by rw [← take_all HN.out]; exact hT.out))
      go_wp2
      go_ret
      exact ⟨by rw [HR.out]; rfl, hB⟩

set_option maxRecDepth 100000 in
set_option maxHeartbeats 8000000 in
theorem index_any (v : Value) (l : List ByteArray) (s : ByteArray) (w : World) (h : Txs w v l) (hn : l.length ≤ 10000000000000) :
    Calls Try.prog 68 #[v, .string s] w fun e w' => ∃ n : Int, e = .returned (.int .i64 n) ∧ decide (0 ≤ n) = decide (s ∈ l) ∧ Below w.heap.size w w' := by
  obtain ⟨a, ca, rfl, ha⟩ := h
  obtain ⟨N, hN⟩ : ∃ N, l.length = N := ⟨_, rfl⟩
  have HN := Lib.hid hN
  rw [hN] at hn ⊢
  have Ha := Lib.hid ha
  clear ha hN
  go_enter Try.func68, Try.ntmps68
  go_wp2
  go_loopw [8, 5] (fun i j wr => ∃ k : Nat, i = .int .i64 k ∧ k ≤ N ∧ Hid (s ∉ l.take k) ∧ Below w.heap.size w wr) (fun i _ _ => N - (intOf i).toNat)
  case atStart => exact ⟨0, rfl, Nat.zero_le _, Lib.hid (by simp), Below.refl _ _⟩
  case round =>
    obtain ⟨k, rfl, hk, hT, hB⟩ := hrel
    by_cases hlt : k < N
    · have hlt2 : decide ((k : Int) < (N : Int)) = true := by simp; omega
      have hlt3 : decide (k < N) = true := by simp; omega
      have hkt : k < l.length := by rw [HN.out]; exact hlt
      obtain ⟨p, o, rfl, hp, hat⟩ := Ha.out (by omega)
      obtain ⟨x, hx⟩ : ∃ x, l[k]? = some x := ⟨_, List.getElem?_eq_getElem hkt⟩
      have c0 := (hB.cell (p := ⟨p, o + k * 1, none⟩) hp).trans (hat k x hx)
      rw [Nat.mul_one] at c0
      have hi0 : (0 : Int) ≤ (k : Int) := by omega
      have HX := Lib.hid hx
      clear hat hx
      by_cases e : s = x
      · subst e
        have HR := Lib.hid (has_of HX.out)
        go_wp2
        go_ret
        exact ⟨_, rfl, by rw [HR.out]; simp, hB⟩
      · have HT := Lib.hid (take_has HX.out hT.out (Ne.symm e))
        have hne : decide (s = x) = false := decide_eq_false e
        have hnb := toList_ne e
        go_wp2
        go_roundw
        case rel => exact ⟨k + 1, by go_num, by omega, HT, hB⟩
        case measure => simp [intOf]; omega
    · have hlt2 : decide ((k : Int) < (N : Int)) = false := by simp; omega
      have hlt3 : decide (k < N) = false := by simp; omega
      obtain rfl : k = N := by omega
      have HR := Lib.hid (show decide (s ∈ l) = false from decide_eq_false (by rw [← take_all HN.out]; exact hT.out))
      go_wp2
      go_ret
      exact ⟨_, rfl, by rw [HR.out]; rfl, hB⟩
set_option maxRecDepth 100000 in
set_option maxHeartbeats 8000000 in
theorem contains_any (v : Value) (l : List ByteArray) (s : ByteArray) (w : World) (h : Txs w v l) (hn : l.length ≤ 10000000000000) :
    Calls Try.prog 48 #[v, .string s] w fun e w' => e = .returned (.bool (decide (s ∈ l))) ∧ Below w.heap.size w w' := by
  have K := index_any v l s w h hn
  have K := Lib.hid K
  clear h hn
  go_enter Try.func48, Try.ntmps48
  go_wp2_with (go_at_call 68; refine (K.out).mono ?_; rintro e w1 ⟨n, rfl, hn, hb⟩)
  go_ret
  exact ⟨by rw [← hn]; rfl, hb⟩
end Go.Proofs.Ytkcgchpflppmnaa
