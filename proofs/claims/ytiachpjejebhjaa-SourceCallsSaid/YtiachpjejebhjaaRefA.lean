/- Contracts of thunkmillref01.next, Where and At. Conditions: the text has at most 100000 bytes; a column from 1 to 1000000. -/
import Derived.Test.YtiachpjejebhjaaNext
import Derived.Test.YtiachpjejebhjaaPlain3
namespace Go.Proofs.Ytiachpjejebhjaa
open Go.RowKit

set_option maxHeartbeats 1000000 in
theorem nextR_any (col c : Int) (w : World) (h1 : 1 ≤ col) (h2 : col ≤ 1000000) :
    Calls Try.prog 21 #[.int .i64 col, .int .u8 c] w fun e w' => e = .returned (.int .i64 (nextC col c)) ∧ w = w' := by
  by_cases hc : c = 9
  · have hr := nextC_tab (col := col) hc
    have H := Lib.hid hr; clear hr
    have hcb : (c != 9) = false := by rw [bne_eq_false_iff_eq]; exact hc
    have Hc := Lib.hid hc; clear hc
    go_enter Try.func21, Try.ntmps21
    go_wp2
    go_loop [0] (fun x => ∃ y : Int, x = .int .i64 y ∧ col + 1 ≤ y ∧ y ≤ col + 8 - (col - 1) % 8) (fun x => (col + 8 - intOf x).toNat)
    case atStart => exact ⟨col + 1, rfl, by omega, by omega⟩
    case round =>
      obtain ⟨y, rfl, hy1, hy2⟩ := hrel
      by_cases hz : (y - 1) % 8 = 0
      · have hzb : ((y - 1) % 8 != 0) = false := by rw [bne_eq_false_iff_eq]; exact hz
        have hye : y = col + 8 - (col - 1) % 8 := by omega
        have Hy := Lib.hid hye
        clear hz hye
        go_wp2
        go_ret
        exact ⟨ret_int (by rw [H.out, ← Hy.out]), rfl⟩
      · have hzb : ((y - 1) % 8 != 0) = true := by rw [bne_iff_ne]; exact hz
        go_wp2
        go_round
        case rel => exact ⟨y + 1, rfl, by omega, by omega⟩
        case measure => simp [intOf]; omega
  · have hr := nextC_not (col := col) hc
    have H := Lib.hid hr; clear hr
    have hcb : (c != 9) = true := by rw [bne_iff_ne]; exact hc
    go_enter Try.func21, Try.ntmps21
    go_wp2
    go_ret
    exact ⟨ret_int (by rw [H.out]), rfl⟩

theorem ten_iff (c : UInt8) : ((c.toNat : Int) == 10) = decide (c = 10) := by
  rw [Bool.eq_iff_iff]
  simp only [beq_iff_eq, decide_eq_true_eq]
  constructor
  · intro h
    have h' : c.toNat = 10 := by omega
    exact UInt8.toNat_inj.1 h'
  · rintro rfl; rfl

set_option maxHeartbeats 1000000 in
theorem whereR_any (s : ByteArray) (hs : s.size ≤ 100000) (k : Nat) (hk : k ≤ s.size) (w : World) :
    Calls Try.prog 14 #[.string s, .int .i64 k] w fun e w' => e = .returned (.tuple #[.int .i64 (posR s.data.toList k).1, .int .i64 (posR s.data.toList k).2, .int .i64 0]) ∧ w = w' := by
  have hl0 : s.data.toList.length = s.size := rfl
  have hk1 : decide ((k : Int) < 0) = false := by simp
  have hk2 : decide (s.size < k) = false := by simp; omega
  go_enter Try.func14, Try.ntmps14
  go_wp2
  go_loop [7, 8, 9] (fun ln cl i => ∃ (j : Nat) (p : Nat) (c : Int), i = .int .i64 j ∧ j ≤ k ∧ ln = .int .i64 p ∧ cl = .int .i64 c ∧ posR s.data.toList j = (p, c)) (fun _ _ i => k - (intOf i).toNat)
  case atStart => exact ⟨0, 1, 1, rfl, Nat.zero_le _, rfl, rfl, rfl⟩
  case round =>
    obtain ⟨j, p, c, rfl, hj, rfl, rfl, hp⟩ := hrel
    have hbd := posR_bd s.data.toList j (by omega)
    rw [hp] at hbd; simp only at hbd
    obtain ⟨b1, b2, b3, b4⟩ := hbd
    by_cases hlt : j < k
    · have hjs : j < s.size := by omega
      have ebyte : s.data.toList[j]'hjs = s[j] := rfl
      have hc2 : c ≤ 1000000 := by omega
      by_cases h10 : s[j] = 10
      · have hn := posR_ten s.data.toList j hjs (by rw [ebyte]; exact h10)
        rw [hp] at hn
        have Hn := Lib.hid hn; have Hp := Lib.hid hp
        have hb : ((s[j].toNat : Int) == 10) = true := by rw [ten_iff]; simp [h10]
        clear hn hp h10 ebyte
        go_wp2_with (go_at_call 21; refine (nextR_any _ _ _ b3 hc2).mono ?_; rintro e w' ⟨rfl, rfl⟩)
        go_round
        case rel => exact ⟨j + 1, p + 1, 1, by go_num, by omega, by go_num, rfl, Hn.out⟩
        case measure => simp [intOf]; omega
      · have hn := posR_not s.data.toList j hjs (by rw [ebyte]; exact h10)
        rw [hp, ebyte] at hn
        have Hn := Lib.hid hn; have Hp := Lib.hid hp
        have hb : ((s[j].toNat : Int) == 10) = false := by rw [ten_iff]; simp [h10]
        clear hn hp h10 ebyte
        go_wp2_with (go_at_call 21; refine (nextR_any _ _ _ b3 hc2).mono ?_; rintro e w' ⟨rfl, rfl⟩)
        go_round
        case rel => exact ⟨j + 1, p, _, by go_num, by omega, rfl, rfl, Hn.out⟩
        case measure => simp [intOf]; omega
    · have hjk : j = k := by omega
      have Hp := Lib.hid hp; clear hp
      go_wp2
      go_ret3
      exact ⟨by rw [← hjk, Hp.out]; first | done | rfl, rfl⟩

theorem whereR_out (s : ByteArray) (k : Int) (hk : k < 0 ∨ (s.size : Int) < k) (w : World) :
    Calls Try.prog 14 #[.string s, .int .i64 k] w fun e w' => e = .returned (.tuple #[.int .i64 0, .int .i64 0, .int .i64 2]) ∧ w = w' := by
  by_cases hk1 : k < 0
  · go_enter Try.func14, Try.ntmps14
    go_wp2
    go_ret3
    exact ⟨rfl, rfl⟩
  · have hk2 : (s.size : Int) < k := by omega
    go_enter Try.func14, Try.ntmps14
    go_wp2
    go_ret3
    exact ⟨rfl, rfl⟩

set_option maxHeartbeats 1000000 in
theorem atR_any (s : ByteArray) (hs : s.size ≤ 100000) (line col : Int) (w : World) :
    Calls Try.prog 15 #[.string s, .int .i64 line, .int .i64 col] w fun e w' => e = .returned (.tuple #[.int .i64 (atF s.data.toList line col).1, .int .i64 (atF s.data.toList line col).2]) ∧ w = w' := by
  have hl0 : s.data.toList.length = s.size := rfl
  go_enter Try.func15, Try.ntmps15
  go_wp2
  go_loop [8, 9, 10] (fun ln cl i => ∃ (j : Nat) (p : Nat) (c : Int), i = .int .i64 j ∧ j ≤ s.size ∧ ln = .int .i64 p ∧ cl = .int .i64 c ∧ posR s.data.toList j = (p, c) ∧ ∀ q, q < j → ¬ (((posR s.data.toList q).1 : Int) = line ∧ (posR s.data.toList q).2 = col)) (fun _ _ i => s.size - (intOf i).toNat)
  case atStart => exact ⟨0, 1, 1, rfl, Nat.zero_le _, rfl, rfl, rfl, fun q h => by omega⟩
  case round =>
    obtain ⟨j, p, c, rfl, hj, rfl, rfl, hp, hno⟩ := hrel
    have hbd := posR_bd s.data.toList j (by omega)
    rw [hp] at hbd; simp only at hbd
    obtain ⟨b1, b2, b3, b4⟩ := hbd
    by_cases hhit : (p : Int) = line ∧ c = col
    · have hres := atF_some s.data.toList line col j (by omega) (by rw [hp]; exact hhit.1) (by rw [hp]; exact hhit.2)
      have Hr := Lib.hid hres
      have t1 : ((p : Int) == line) = true := by rw [beq_iff_eq]; exact hhit.1
      have t2 : (c == col) = true := by rw [beq_iff_eq]; exact hhit.2
      clear hres hhit hp hno
      go_wp2
      go_ret2
      exact ⟨by rw [Hr.out]; first | done | rfl, rfl⟩
    · have hno' : ∀ q, q < j + 1 → ¬ (((posR s.data.toList q).1 : Int) = line ∧ (posR s.data.toList q).2 = col) := fun q hq => by
        by_cases e : q = j
        · rw [e, hp]; exact hhit
        · exact hno q (by omega)
      have Hno := Lib.hid hno'
      clear hno hno'
      have t : ((p : Int) == line) = false ∨ (((p : Int) == line) = true ∧ (c == col) = false) := by
        by_cases e : (p : Int) = line
        · right; exact ⟨by rw [beq_iff_eq]; exact e, by rw [beq_eq_false_iff_ne]; exact fun h => hhit ⟨e, h⟩⟩
        · left; rw [beq_eq_false_iff_ne]; exact e
      clear hhit
      by_cases hend : j = s.size
      · have hres : atF s.data.toList line col = (0, 2) := atF_none _ _ _ (fun q hq => Hno.out q (by omega))
        have Hr := Lib.hid hres
        have he : (j == s.size) = true := by rw [beq_iff_eq]; exact hend
        clear hres hp
        have Hend := Lib.hid hend
        clear hend
        rcases t with t | ⟨t, t'⟩
        · go_wp2
          go_ret2
          exact ⟨by rw [Hr.out]; first | done | rfl, rfl⟩
        · go_wp2
          go_ret2
          exact ⟨by rw [Hr.out]; first | done | rfl, rfl⟩
      · have hjs : j < s.size := by omega
        have he : (j == s.size) = false := by rw [beq_eq_false_iff_ne]; exact hend
        have ebyte : s.data.toList[j]'hjs = s[j] := rfl
        have hc2 : c ≤ 1000000 := by omega
        clear hend
        by_cases h10 : s[j] = 10
        · have hn := posR_ten s.data.toList j hjs (by rw [ebyte]; exact h10)
          rw [hp] at hn
          have Hn := Lib.hid hn
          have hb : ((s[j].toNat : Int) == 10) = true := by rw [ten_iff]; simp [h10]
          clear hn hp h10 ebyte
          rcases t with t | ⟨t, t'⟩
          all_goals
            go_wp2_with (go_at_call 21; refine (nextR_any _ _ _ b3 hc2).mono ?_; rintro e w' ⟨rfl, rfl⟩)
            go_round
            case rel => exact ⟨j + 1, p + 1, 1, by go_num, by omega, by go_num, rfl, Hn.out, Hno.out⟩
            case measure => simp [intOf]; omega
        · have hn := posR_not s.data.toList j hjs (by rw [ebyte]; exact h10)
          rw [hp, ebyte] at hn
          have Hn := Lib.hid hn
          have hb : ((s[j].toNat : Int) == 10) = false := by rw [ten_iff]; simp [h10]
          clear hn hp h10 ebyte
          rcases t with t | ⟨t, t'⟩
          all_goals
            go_wp2_with (go_at_call 21; refine (nextR_any _ _ _ b3 hc2).mono ?_; rintro e w' ⟨rfl, rfl⟩)
            go_round
            case rel => exact ⟨j + 1, p, _, by go_num, by omega, rfl, rfl, Hn.out, Hno.out⟩
            case measure => simp [intOf]; omega

end Go.Proofs.Ytiachpjejebhjaa
