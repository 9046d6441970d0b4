/- The law HeapCounts: its walks where nothing is gone through. -/
import Derived.Test.YtlmljommgmbckaaHsS
namespace Go.Proofs.Ytlmljommgmbckaa
open Go.RowKit

set_option maxRecDepth 100000 in
set_option maxHeartbeats 8000000 in
theorem counts_out (p : Option Addr) (mr cr : Nat) (v : Value) (xs : List ActH) (nur old ng : Int) (w : World) (h : ActsH w v xs) (hl : xs.length ≤ 1000000000000000) (ho : smallH xs = false ∨ 2000 < nur ∨ 2000 < old ∨ 2000 < ng ∨ 100 < mr) :
    Calls Try.prog 7 #[.int .i64 nur, .int .i64 old, .int .i64 ng, v, .slice p mr cr] w fun e w' => e = .returned (.bool true) ∧ Below w.heap.size w w' := by
  have k1 := fun W (hW : Below w.heap.size w W) => small_any v xs W (h.below hW) hl
  obtain ⟨a, cap, rfl, _⟩ := h
  have hc : smallH xs = false ∨ (smallH xs = true ∧ 2000 < nur) ∨ (smallH xs = true ∧ ¬ 2000 < nur ∧ 2000 < old) ∨ (smallH xs = true ∧ ¬ 2000 < nur ∧ ¬ 2000 < old ∧ 2000 < ng) ∨ (smallH xs = true ∧ ¬ 2000 < nur ∧ ¬ 2000 < old ∧ ¬ 2000 < ng ∧ 100 < mr) := by
    cases hs : smallH xs with
    | false => exact .inl rfl
    | true =>
      right
      have ho := ho.resolve_left (by rw [hs]; simp)
      simp only [true_and]
      omega
  rcases hc with hs | ⟨hs, c1⟩ | ⟨hs, c1, c2⟩ | ⟨hs, c1, c2, c3⟩ | ⟨hs, c1, c2, c3, c4⟩
  · rw [hs] at k1
    have K1 := Lib.hid k1
    clear k1 hs ho hl
    go_enter Try.func7, Try.ntmps7
    go_wp2_with (first | (go_at_call 9; refine (lives_true _).mono ?_; rintro e w0 ⟨rfl, hb0⟩) | (go_at_call 12; refine (K1.out _ hb0).mono ?_; rintro e w1 ⟨rfl, hb1⟩))
    go_ret
    exact ⟨rfl, hb0.trans (hb1.mono hb0.size)⟩
  · rw [hs] at k1
    have K1 := Lib.hid k1
    have d1 : decide (2000 < nur) = true := by simpa using c1
    clear k1 hs ho hl
    go_enter Try.func7, Try.ntmps7
    go_wp2_with (first | (go_at_call 9; refine (lives_true _).mono ?_; rintro e w0 ⟨rfl, hb0⟩) | (go_at_call 12; refine (K1.out _ hb0).mono ?_; rintro e w1 ⟨rfl, hb1⟩))
    go_ret
    exact ⟨rfl, hb0.trans (hb1.mono hb0.size)⟩
  · rw [hs] at k1
    have K1 := Lib.hid k1
    have d1 : decide (2000 < nur) = false := by simpa using c1
    have d2 : decide (2000 < old) = true := by simpa using c2
    clear k1 hs ho hl
    go_enter Try.func7, Try.ntmps7
    go_wp2_with (first | (go_at_call 9; refine (lives_true _).mono ?_; rintro e w0 ⟨rfl, hb0⟩) | (go_at_call 12; refine (K1.out _ hb0).mono ?_; rintro e w1 ⟨rfl, hb1⟩))
    go_ret
    exact ⟨rfl, hb0.trans (hb1.mono hb0.size)⟩
  · rw [hs] at k1
    have K1 := Lib.hid k1
    have d1 : decide (2000 < nur) = false := by simpa using c1
    have d2 : decide (2000 < old) = false := by simpa using c2
    have d3 : decide (2000 < ng) = true := by simpa using c3
    clear k1 hs ho hl
    go_enter Try.func7, Try.ntmps7
    go_wp2_with (first | (go_at_call 9; refine (lives_true _).mono ?_; rintro e w0 ⟨rfl, hb0⟩) | (go_at_call 12; refine (K1.out _ hb0).mono ?_; rintro e w1 ⟨rfl, hb1⟩))
    go_ret
    exact ⟨rfl, hb0.trans (hb1.mono hb0.size)⟩
  · rw [hs] at k1
    have K1 := Lib.hid k1
    have d1 : decide (2000 < nur) = false := by simpa using c1
    have d2 : decide (2000 < old) = false := by simpa using c2
    have d3 : decide (2000 < ng) = false := by simpa using c3
    have d4 : decide ((100 : Int) < (mr : Int)) = true := by simp; omega
    have d5 : decide (100 < mr) = true := by simpa using c4
    clear k1 hs ho hl
    go_enter Try.func7, Try.ntmps7
    go_wp2_with (first | (go_at_call 9; refine (lives_true _).mono ?_; rintro e w0 ⟨rfl, hb0⟩) | (go_at_call 12; refine (K1.out _ hb0).mono ?_; rintro e w1 ⟨rfl, hb1⟩))
    go_ret
    exact ⟨rfl, hb0.trans (hb1.mono hb0.size)⟩

set_option maxRecDepth 100000 in
set_option maxHeartbeats 8000000 in
theorem counts_bad (p : Option Addr) (mr cr : Nat) (v : Value) (xs : List ActH) (nur old ng : Int) (w : World) (h : ActsH w v xs) (hl : xs.length ≤ 1000000000000000) (hs : smallH xs = true) (n1 : nur ≤ 2000) (n2 : old ≤ 2000) (n3 : ng ≤ 2000) (n4 : mr ≤ 100) (hb : ¬ (64 ≤ nur ∧ 64 ≤ old ∧ 0 ≤ ng)) :
    Calls Try.prog 7 #[.int .i64 nur, .int .i64 old, .int .i64 ng, v, .slice p mr cr] w fun e w' => e = .returned (.bool true) ∧ Below w.heap.size w w' := by
  have k1 := fun W (hW : Below w.heap.size w W) => small_any v xs W (h.below hW) hl
  have k2 := fun W => new_bad nur old ng W hb n1 n2 n3
  obtain ⟨a, cap, rfl, _⟩ := h
  rw [hs] at k1
  have K1 := Lib.hid k1; have K2 := Lib.hid k2
  have d1 : decide (2000 < nur) = false := by simpa using n1
  have d2 : decide (2000 < old) = false := by simpa using n2
  have d3 : decide (2000 < ng) = false := by simpa using n3
  have d4 : decide ((100 : Int) < (mr : Int)) = false := by simp; omega
  have d5 : decide (100 < mr) = false := by simp; omega
  clear k1 k2 hs hl hb
  go_enter Try.func7, Try.ntmps7
  go_wp2_with (first | (go_at_call 9; refine (lives_true _).mono ?_; rintro e w0 ⟨rfl, hb0⟩) | (go_at_call 12; refine (K1.out _ hb0).mono ?_; rintro e w1 ⟨rfl, hb1⟩) | (go_at_call 13; refine (K2.out w1).mono ?_; rintro e w2 ⟨rfl, hb2⟩))
  go_ret
  have l1 := hb0.trans (hb1.mono hb0.size)
  exact ⟨rfl, l1.trans (hb2.mono l1.size)⟩

theorem counts_walk (nur old ng : Int) (v : Value) (p : Option Addr) (mr cr : Nat) (rs : List Wd) (xs : List ActH) (w : World) (hrw : WAt w (.slice p mr cr) rs) (hrr : Ranged rs) (hv : p = none → cr = 0) (h : ActsH w v xs) (hl : xs.length ≤ 1000000000000000) :
    Calls Try.prog 7 #[.int .i64 nur, .int .i64 old, .int .i64 ng, v, .slice p mr cr] w fun e w' => e = .returned (.bool true) ∧ Below w.heap.size w w' := by
  by_cases ho : smallH xs = false ∨ 2000 < nur ∨ 2000 < old ∨ 2000 < ng ∨ 100 < mr
  · exact counts_out p mr cr v xs nur old ng w h hl ho
  · have hs : smallH xs = true := by
      cases q : smallH xs with
      | true => rfl
      | false => exact absurd (.inl q) ho
    by_cases hb : 64 ≤ nur ∧ 64 ≤ old ∧ 0 ≤ ng
    · obtain ⟨n, rfl⟩ := Int.eq_ofNat_of_zero_le (show 0 ≤ nur by omega)
      obtain ⟨o, rfl⟩ := Int.eq_ofNat_of_zero_le (show 0 ≤ old by omega)
      obtain ⟨g, rfl⟩ := Int.eq_ofNat_of_zero_le hb.2.2
      have hrl : rs.length = mr := by
        obtain ⟨a, cap, e, _⟩ := hrw
        simp only [Value.slice.injEq] at e
        exact e.2.1.symm
      exact counts_main p mr cr rs v xs n o g w hrw hrl hrr hv (by omega) h hs hl (by omega) (by omega) (by omega) (by omega) (by omega)
    · exact counts_bad p mr cr v xs nur old ng w h hl hs (by omega) (by omega) (by omega) (by omega) hb

end Go.Proofs.Ytlmljommgmbckaa
