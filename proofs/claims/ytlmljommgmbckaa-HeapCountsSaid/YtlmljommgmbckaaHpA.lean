/- Heads: put together and taken apart. The contracts of heap.Head and heap.parts. Conditions: the number is one of 64 bits. -/
import Derived.Test.YtlmljommgmbckaaMem
import Derived.Laws.BitsLemmas
namespace Go.Proofs.Ytlmljommgmbckaa
open Go.RowKit
set_option linter.unusedSimpArgs false


/-- A head's number. -/
def headK (k s i : Int) : Int := if k < 1 ∨ 7 < k ∨ s < 0 ∨ 65536 < s ∨ i < 0 ∨ 1073741824 < i then 0 else k + 8 * s + 1048576 * i
structure Pt where
  k : Int
  s : Int
  i : Int
  ok : Bool
def partsK (n : Int) : Pt := if n < 0 then ⟨0, 0, 0, false⟩ else ⟨n % 8, n / 8 % 131072, n / 1048576, decide (headK (n % 8) (n / 8 % 131072) (n / 1048576) = n ∧ (n % 8 < 5 ∨ 1 ≤ n / 8 % 131072))⟩

theorem parts_ok {n : Int} (h : (partsK n).ok = true) : 0 ≤ (partsK n).k ∧ (partsK n).k ≤ 7 ∧ 0 ≤ (partsK n).s ∧ (partsK n).s ≤ 65536 ∧ 0 ≤ (partsK n).i ∧ (partsK n).i ≤ 1073741824 ∧ n = (partsK n).k + 8 * (partsK n).s + 1048576 * (partsK n).i ∧ ((partsK n).k < 5 ∨ 1 ≤ (partsK n).s) := by
  by_cases hn : n < 0
  · rw [show partsK n = ⟨0, 0, 0, false⟩ from if_pos hn] at h; cases h
  have e : partsK n = ⟨n % 8, n / 8 % 131072, n / 1048576, decide (headK (n % 8) (n / 8 % 131072) (n / 1048576) = n ∧ (n % 8 < 5 ∨ 1 ≤ n / 8 % 131072))⟩ := if_neg hn
  rw [e] at h ⊢
  simp only [decide_eq_true_eq] at h
  show 0 ≤ n % 8 ∧ n % 8 ≤ 7 ∧ 0 ≤ n / 8 % 131072 ∧ n / 8 % 131072 ≤ 65536 ∧ 0 ≤ n / 1048576 ∧ n / 1048576 ≤ 1073741824 ∧ n = n % 8 + 8 * (n / 8 % 131072) + 1048576 * (n / 1048576) ∧ (n % 8 < 5 ∨ 1 ≤ n / 8 % 131072)
  obtain ⟨h1, h2⟩ := h
  unfold headK at h1
  split at h1
  · omega
  · omega
theorem parts_head {k s i : Int} (h1 : 1 ≤ k) (h2 : k ≤ 7) (h3 : 0 ≤ s) (h4 : s ≤ 65536) (h5 : 0 ≤ i) (h6 : i ≤ 1073741824) (h7 : k < 5 ∨ 1 ≤ s) : partsK (headK k s i) = ⟨k, s, i, true⟩ := by
  have e : headK k s i = k + 8 * s + 1048576 * i := by unfold headK; rw [if_neg (by omega)]
  rw [e]
  unfold partsK
  rw [if_neg (by omega)]
  have e1 : (k + 8 * s + 1048576 * i) % 8 = k := by omega
  have e2 : (k + 8 * s + 1048576 * i) / 8 % 131072 = s := by omega
  have e3 : (k + 8 * s + 1048576 * i) / 1048576 = i := by omega
  rw [e1, e2, e3, e]
  simp
  omega

theorem wraps64 (n : Int) (h0 : 0 ≤ n) (h1 : n < 2 ^ 63) : IntKind.i64.wrap n = n := by rw [IntKind.wrap_i64]; omega
theorem or_low (i : Nat) {x y : Int} (h0 : 0 ≤ y) (h1 : y < 2 ^ i) (h2 : 0 ≤ x) (h3 : x < 2 ^ 63) (h4 : x % 2 ^ i = 0) (h5 : y < 2 ^ 63) : bits .or .i64 y x = y + x := by
  have e := bits_join .i64 63 (by decide) wraps64 i x y h2 h4 h3 h0 h1 h5
  obtain ⟨a, rfl⟩ := Int.eq_ofNat_of_zero_le h2
  obtain ⟨b, rfl⟩ := Int.eq_ofNat_of_zero_le h0
  have ha : a < 2 ^ 63 := by exact_mod_cast h3
  have hb : b < 2 ^ 63 := by exact_mod_cast h5
  rw [(bits_nat .i64 63 (by decide) wraps64 b a hb ha).2, Nat.or_comm, ← (bits_nat .i64 63 (by decide) wraps64 a b ha hb).2, e]
  omega
theorem and7 {x : Int} (h0 : 0 ≤ x) (h1 : x < 9223372036854775808) : bits .and .i64 x 7 = x % 8 := bits_mask .i64 63 (by decide) wraps64 3 (by decide) x h0 h1
theorem and17 {x : Int} (h0 : 0 ≤ x) (h1 : x < 9223372036854775808) : bits .and .i64 x 131071 = x % 131072 := bits_mask .i64 63 (by decide) wraps64 17 (by decide) x h0 h1

set_option maxRecDepth 100000 in
set_option maxHeartbeats 4000000 in
theorem head_any (k s i : Int) (w : World) : Calls Try.prog 10 #[.int .i64 k, .int .i64 s, .int .i64 i] w fun e w' => e = .returned (.int .i64 (headK k s i)) ∧ w' = w := by
  by_cases hb : k < 1 ∨ 7 < k ∨ s < 0 ∨ 65536 < s ∨ i < 0 ∨ 1073741824 < i
  · have e : headK k s i = 0 := if_pos hb
    rw [e]
    clear e
    have hc : k < 1 ∨ (¬ k < 1 ∧ 7 < k) ∨ (¬ k < 1 ∧ ¬ 7 < k ∧ s < 0) ∨ (¬ k < 1 ∧ ¬ 7 < k ∧ ¬ s < 0 ∧ 65536 < s) ∨ (¬ k < 1 ∧ ¬ 7 < k ∧ ¬ s < 0 ∧ ¬ 65536 < s ∧ i < 0) ∨ (¬ k < 1 ∧ ¬ 7 < k ∧ ¬ s < 0 ∧ ¬ 65536 < s ∧ ¬ i < 0 ∧ 1073741824 < i) := by omega
    clear hb
    rcases hc with c1 | ⟨c1, c2⟩ | ⟨c1, c2, c3⟩ | ⟨c1, c2, c3, c4⟩ | ⟨c1, c2, c3, c4, c5⟩ | ⟨c1, c2, c3, c4, c5, c6⟩
    all_goals
      go_enter Try.func10, Try.ntmps10
      go_wp2
      go_ret
      exact ⟨rfl, rfl⟩
  · have e : headK k s i = k + s * 8 + i * 1048576 := by unfold headK; rw [if_neg hb]; omega
    rw [e]
    obtain ⟨h1, h2, h3, h4, h5, h6⟩ : 1 ≤ k ∧ k ≤ 7 ∧ 0 ≤ s ∧ s ≤ 65536 ∧ 0 ≤ i ∧ i ≤ 1073741824 := by omega
    clear hb e
    have b1 : bits .or .i64 k (s * 8) = k + s * 8 := or_low 3 (by omega) (by omega) (by omega) (by omega) (by omega) (by omega)
    have b2 : bits .or .i64 (k + s * 8) (i * 1048576) = k + s * 8 + i * 1048576 := or_low 20 (by omega) (by omega) (by omega) (by omega) (by omega) (by omega)
    go_enter Try.func10, Try.ntmps10
    go_wp2
    go_ret
    exact ⟨rfl, rfl⟩

set_option maxRecDepth 100000 in
set_option maxHeartbeats 4000000 in
theorem parts_any (n : Int) (w : World) (h1 : -9223372036854775808 ≤ n) (h2 : n ≤ 9223372036854775807) : Calls Try.prog 57 #[.int .i64 n] w fun e w' => e = .returned (.tuple #[.int .i64 (partsK n).k, .int .i64 (partsK n).s, .int .i64 (partsK n).i, .bool (partsK n).ok]) ∧ w' = w := by
  by_cases hn : n < 0
  · have e : partsK n = ⟨0, 0, 0, false⟩ := if_pos hn
    rw [e]
    clear e
    go_enter Try.func57, Try.ntmps57
    go_wp2
    exact bodyPost_ret (v := .tuple #[.int .i64 0, .int .i64 0, .int .i64 0, .bool false]) (by simp [results, Try.results57, go_sem]) rfl ⟨rfl, rfl⟩
  · have e : partsK n = ⟨n % 8, n / 8 % 131072, n / 1048576, decide (headK (n % 8) (n / 8 % 131072) (n / 1048576) = n ∧ (n % 8 < 5 ∨ 1 ≤ n / 8 % 131072))⟩ := if_neg hn
    have b1 : bits .and .i64 n 7 = n % 8 := and7 (by omega) (by omega)
    have b2 : bits .and .i64 (n / 8) 131071 = n / 8 % 131072 := and17 (by omega) (by omega)
    rw [e]
    obtain ⟨H, hH⟩ : ∃ H, headK (n % 8) (n / 8 % 131072) (n / 1048576) = H := ⟨_, rfl⟩
    rw [hH]
    have kh := fun W => head_any (n % 8) (n / 8 % 131072) (n / 1048576) W
    rw [hH] at kh
    clear e hH
    by_cases c1 : H = n
    · subst c1
      by_cases c2 : H % 8 < 5
      · go_enter Try.func57, Try.ntmps57
        go_wp2_with (go_at_call 10; with_reducible refine (kh _).mono ?_; rintro e w1 ⟨rfl, rfl⟩)
        exact bodyPost_ret (v := .tuple #[.int .i64 (H % 8), .int .i64 (H / 8 % 131072), .int .i64 (H / 1048576), .bool true]) (by simp [results, Try.results57, go_sem]) rfl ⟨by rw [show decide _ = true from by simp [c2]], rfl⟩
      · go_enter Try.func57, Try.ntmps57
        go_wp2_with (go_at_call 10; with_reducible refine (kh _).mono ?_; rintro e w1 ⟨rfl, rfl⟩)
        exact bodyPost_ret (v := .tuple #[.int .i64 (H % 8), .int .i64 (H / 8 % 131072), .int .i64 (H / 1048576), .bool (decide (1 ≤ H / 8 % 131072))]) (by simp [results, Try.results57, go_sem]; omega) rfl ⟨by rw [show decide (True ∧ (H % 8 < 5 ∨ 1 ≤ H / 8 % 131072)) = decide (1 ≤ H / 8 % 131072) from by rw [decide_eq_decide]; exact ⟨fun h => h.2.resolve_left (by omega), fun h => ⟨trivial, .inr h⟩⟩], rfl⟩
    · go_enter Try.func57, Try.ntmps57
      go_wp2_with (go_at_call 10; with_reducible refine (kh _).mono ?_; rintro e w1 ⟨rfl, rfl⟩)
      exact bodyPost_ret (v := .tuple #[.int .i64 (n % 8), .int .i64 (n / 8 % 131072), .int .i64 (n / 1048576), .bool false]) (by simp [results, Try.results57, go_sem]) rfl ⟨by rw [show decide _ = false from by simp [c1]], rfl⟩

end Go.Proofs.Ytlmljommgmbckaa
