/- Contracts of lex.whole and of the finder of numbers. -/
import Derived.Test.YtnidkdjapieinaaDoorLxF
namespace Go.Proofs.YtnidkdjapieinaaDoor
open Go.RowKit Go.Shelf

theorem hexI_of (n : Nat) (h : hexN n = true) : hexI n = (hexV n : Nat) ∧ hexV n ≤ 15 := by
  unfold hexN at h
  unfold hexI hexV
  by_cases h1 : digN n = true
  · rw [if_pos h1, if_pos h1]
    refine ⟨rfl, ?_⟩
    simp [digN] at h1
    omega
  · rw [if_neg h1, if_neg h1]
    by_cases h2 : (Nat.ble 97 n && Nat.ble n 102) = true
    · rw [if_pos h2, if_pos h2]
      simp at h2
      exact ⟨by simp, by omega⟩
    · rw [if_neg h2, if_neg h2]
      by_cases h3 : (Nat.ble 65 n && Nat.ble n 70) = true
      · rw [if_pos h3, if_pos h3]
        simp at h3
        exact ⟨by simp, by omega⟩
      · simp only [Bool.not_eq_true] at h1 h2 h3
        rw [h1, h2, h3] at h
        cases h
theorem whole_at (b : Nat) (l : List UInt8) (k x : Nat) (h : k < l.length) :
    wholeGo b (l.drop k) x = if (9223372036854775807 - hexV l[k].toNat) / b < x then none else wholeGo b (l.drop (k + 1)) (x * b + hexV l[k].toNat) := by
  rw [List.drop_eq_getElem_cons h, wholeGo]
theorem whole_end (b : Nat) (l : List UInt8) (k x : Nat) (h : l.length ≤ k) : wholeGo b (l.drop k) x = some x := by
  rw [List.drop_eq_nil_of_le h, wholeGo]
def wholeV : Option Nat → Value
  | some x => .tuple #[.int .i64 x, .bool true]
  | none => .tuple #[.int .i64 0, .bool false]

set_option maxRecDepth 100000 in
set_option maxHeartbeats 4000000 in
theorem whole_any (s : ByteArray) (hs : s.size ≤ 100000) (b : Nat) (hb : b = 10 ∨ b = 16) (hx : ∀ c ∈ s.data.toList, hexN c.toNat = true) (w : World) :
    Calls Tryd.prog 64 #[.string s, .int .u64 b] w fun e w' => e = .returned (wholeV (wholeK b s.data.toList)) ∧ Below w.heap.size w w' := by
  have hl0 : s.data.toList.length = s.size := rfl
  have Hx := Lib.hid hx; clear hx
  obtain ⟨hb0, hbn, hb1⟩ : ((b : Int) == 0) = false ∧ ¬ (b : Int) = 0 ∧ 1 ≤ b := ⟨by rw [beq_eq_false_iff_ne]; omega, by omega, by omega⟩
  have Hb := Lib.hid hb; clear hb
  go_enter Tryd.func64, Tryd.ntmps64
  go_wp2
  go_loopw [6, 11] (fun x n wr => ∃ k y : Nat, x = .int .u64 y ∧ n = .int .i64 k ∧ k ≤ s.size ∧ y ≤ 9223372036854775807 ∧ Hid (wholeK b s.data.toList = wholeGo b (s.data.toList.drop k) y) ∧ Below w.heap.size w wr) (fun _ n _ => s.size - (intOf n).toNat)
  case atStart => exact ⟨0, 0, rfl, rfl, Nat.zero_le _, Nat.zero_le _, Lib.hid (by simp [wholeK]), Below.refl _ w⟩
  case round =>
    obtain ⟨k, y, rfl, rfl, hk, hy, Hk, B⟩ := hrel
    have Bw := Lib.hid B; clear B
    by_cases hlt : k < s.size
    · have hlt2 : decide ((k : Int) < s.size) = true := by simp; omega
      obtain ⟨hd1, hd2⟩ := hexI_of s[k].toNat (Hx.out _ (List.getElem_mem (l := s.data.toList) hlt))
      obtain ⟨d, hd⟩ : ∃ d, hexV s[k].toNat = d := ⟨_, rfl⟩
      have Hc := Lib.hid (fun w => hex_any s[k] w)
      rw [hd] at hd1 hd2
      simp only [hd1] at Hc
      have Hat := Lib.hid (whole_at b s.data.toList k y hlt)
      have hwd : IntKind.u64.wrap (d : Int) = d := IntWalk.u64_in _ (by omega)
      obtain ⟨m, hm⟩ : ∃ m, 9223372036854775807 - d = m := ⟨_, rfl⟩
      have hw1 : IntKind.u64.wrap (9223372036854775807 - (d : Int)) = (m : Int) := by rw [IntWalk.u64_in _ (by omega)]; omega
      have hq1 : (m : Int).tdiv (b : Int) = ((m / b : Nat) : Int) := by rw [Int.tdiv_eq_ediv_of_nonneg (by omega)]; rfl
      have hqm : m / b ≤ m := Nat.div_le_self _ _
      obtain ⟨q, hq⟩ : ∃ q, m / b = q := ⟨_, rfl⟩
      rw [hq] at hq1 hqm
      have hq2 : IntKind.u64.wrap (q : Int) = (q : Int) := IntWalk.u64_in _ (by omega)
      by_cases hc : q < y
      · have hc2 : decide ((q : Int) < (y : Int)) = true := by simp; omega
        have Hn : Hid (wholeK b s.data.toList = none) := Lib.hid (by rw [Hk.out, Hat.out, show hexV (s.data.toList[k]).toNat = d from hd, hm, hq, if_pos hc])
        clear hd hm hq Hat
        go_wp2_with (go_at_call 63; refine (Hc.out _).mono ?_; rintro e w1 ⟨rfl, b1⟩)
        go_ret2
        exact ⟨by rw [Hn.out]; rfl, chain Bw.out b1⟩
      · have hc2 : decide ((q : Int) < (y : Int)) = false := by simp; omega
        have hyb : y * b + d ≤ 9223372036854775807 := by
          have : y ≤ m / b := by omega
          have := (Nat.le_div_iff_mul_le hb1).1 this
          omega
        have hyb0 : y * b ≤ 9223372036854775807 := by omega
        have hm1 : IntKind.u64.wrap ((y : Int) * (b : Int)) = ((y * b : Nat) : Int) := by rw [IntWalk.u64_in _ (by rw [← Int.natCast_mul]; omega)]; exact (Int.natCast_mul _ _).symm
        obtain ⟨z, hz⟩ : ∃ z, y * b = z := ⟨_, rfl⟩
        rw [hz] at hm1 hyb hyb0
        have hm2 : IntKind.u64.wrap ((z : Int) + (d : Int)) = ((z + d : Nat) : Int) := by rw [IntWalk.u64_in _ (by omega)]; rfl
        have Hn : Hid (wholeK b s.data.toList = wholeGo b (s.data.toList.drop (k + 1)) (z + d)) := Lib.hid (by rw [Hk.out, Hat.out, show hexV (s.data.toList[k]).toNat = d from hd, hm, hq, if_neg hc, hz])
        clear hd hm hq Hat hz
        go_wp2_with (go_at_call 63; refine (Hc.out _).mono ?_; rintro e w1 ⟨rfl, b1⟩)
        go_roundw
        case rel => exact ⟨k + 1, z + d, rfl, by go_num, by omega, hyb, Hn, chain Bw.out b1⟩
        case measure => simp [intOf]; omega
    · have hlt2 : decide ((k : Int) < s.size) = false := by simp; omega
      have Hn : Hid (wholeK b s.data.toList = some y) := Lib.hid (by rw [Hk.out, whole_end b _ k y (by omega)])
      have hwy : IntKind.i64.wrap (y : Int) = y := IntWalk.i64_in _ (by omega)
      go_wp2
      go_ret2
      exact ⟨by rw [Hn.out]; rfl, Bw.out⟩
end Go.Proofs.YtnidkdjapieinaaDoor
