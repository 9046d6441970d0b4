/- Contracts of source.Check and thunkmillref01.Check. Condition: the text fits a Go string (at most maxLen bytes). -/
import Derived.Test.YtiachpjejebhjaaNext
namespace Go.Proofs.Ytiachpjejebhjaa
open Go.RowKit

def badB (c : UInt8) : Bool := decide ((c.toNat < 32 ∨ 126 < c.toNat) ∧ c.toNat ≠ 9 ∧ c.toNat ≠ 10)
def chkGo : Nat → List UInt8 → Int × Int
  | _, [] => (0, 0)
  | i, c :: cs => if badB c then (4, i) else chkGo (i + 1) cs
def checkF (l : List UInt8) : Int × Int := if 65536 < l.length then (3, -1) else chkGo 0 l

theorem chkGo_bad (l : List UInt8) (i : Nat) (h : i < l.length) (hb : badB l[i] = true) : chkGo i (l.drop i) = (4, (i : Int)) := by
  rw [List.drop_eq_getElem_cons h, chkGo, if_pos hb]
theorem chkGo_ok (l : List UInt8) (i : Nat) (h : i < l.length) (hb : badB l[i] = false) : chkGo i (l.drop i) = chkGo (i + 1) (l.drop (i + 1)) := by
  rw [List.drop_eq_getElem_cons h, chkGo, if_neg (by simp [hb])]
theorem chkGo_end (l : List UInt8) (i : Nat) (h : l.length ≤ i) : chkGo i (l.drop i) = (0, 0) := by
  rw [List.drop_eq_nil_of_le h, chkGo]

/-- A byte is one of five kinds. -/
theorem byte_kinds (n : Nat) : (n < 32 ∧ n < 9) ∨ (9 ≤ n ∧ n ≤ 9) ∨ (10 ≤ n ∧ n ≤ 10) ∨ (10 < n ∧ n < 32) ∨ (32 ≤ n ∧ n ≤ 126) ∨ 126 < n := by omega

theorem ret_fault {a b c d : Int} (h : (a, b) = (c, d)) : Ending.returned (.agg #[.int .i64 a, .int .i64 b]) = .returned (.agg #[.int .i64 c, .int .i64 d]) := by
  cases h; rfl

set_option maxRecDepth 100000 in
set_option maxHeartbeats 2000000 in
theorem check_any (s : ByteArray) (hs : s.size ≤ 9223372036854775807) (w : World) :
    Calls Try.prog 12 #[.string s] w fun e w' => e = .returned (.agg #[.int .i64 (checkF s.data.toList).1, .int .i64 (checkF s.data.toList).2]) ∧ Below w.heap.size w w' := by
  have hl0 : s.data.toList.length = s.size := rfl
  by_cases hlong : 65536 < s.size
  · have hres : checkF s.data.toList = (3, -1) := by unfold checkF; rw [if_pos (by omega)]
    have Hres := Lib.hid hres; clear hres
    go_enter Try.func12, Try.ntmps12
    go_wp2
    exact bodyPost_ret (v := .agg #[.int .i64 3, .int .i64 (-1)]) (by simp [results, Try.results12, go_sem]) rfl ⟨by rw [Hres.out], (Below.refl _ _).alloc (Nat.le_refl _) _⟩
  · have hres : checkF s.data.toList = chkGo 0 (s.data.toList.drop 0) := by unfold checkF; rw [if_neg (by omega)]; rfl
    have Hres := Lib.hid hres; clear hres
    go_enter Try.func12, Try.ntmps12
    go_wp2
    go_loop [11] (fun i => ∃ k : Nat, i = .int .i64 k ∧ k ≤ s.size ∧ checkF s.data.toList = chkGo k (s.data.toList.drop k)) (fun i => s.size - (intOf i).toNat)
    case atStart => exact ⟨0, rfl, Nat.zero_le _, Hres.out⟩
    case round =>
      obtain ⟨k, rfl, hk, hres⟩ := hrel
      have Hk := Lib.hid hres; clear hres
      by_cases hlt : k < s.size
      · have ebyte : s.data.toList[k]'hlt = s[k] := rfl
        have Hbad : badB s[k] = true → Hid (checkF s.data.toList = (4, (k : Int))) := fun hb => by rw [Hk.out, chkGo_bad _ k hlt (by rw [ebyte]; exact hb)]; rfl
        have Hok : badB s[k] = false → Hid (checkF s.data.toList = chkGo (k + 1) (s.data.toList.drop (k + 1))) := fun hb => by rw [Hk.out, chkGo_ok _ k hlt (by rw [ebyte]; exact hb)]; rfl
        clear ebyte
        rcases byte_kinds s[k].toNat with ⟨c1, c2⟩ | ⟨c1, c2⟩ | ⟨c1, c2⟩ | ⟨c1, c2⟩ | ⟨c1, c2⟩ | c1
        · have H := Hbad (by unfold badB; simp; omega)
          clear Hbad Hok
          have e9 : ((s[k].toNat : Int) == 9) = false := by rw [beq_eq_false_iff_ne]; omega
          have n9 : ((s[k].toNat : Int) != 9) = true := by rw [bne_iff_ne]; omega
          have e10 : ((s[k].toNat : Int) == 10) = false := by rw [beq_eq_false_iff_ne]; omega
          have n10 : ((s[k].toNat : Int) != 10) = true := by rw [bne_iff_ne]; omega
          have d1 : decide ((s[k].toNat : Int) < 32) = true := by simp; omega
          have d2 : decide (32 ≤ (s[k].toNat : Int)) = false := by simp; omega
          have d3 : decide (126 < (s[k].toNat : Int)) = false := by simp; omega
          have d4 : decide ((s[k].toNat : Int) ≤ 126) = true := by simp; omega
          go_wp2
          exact bodyPost_ret (v := .agg #[.int .i64 4, .int .i64 k]) (by simp [results, Try.results12, go_sem]) rfl ⟨by rw [H.out], ((Below.refl _ w).alloc (Nat.le_refl _) _)⟩
        · have H := Hok (by unfold badB; simp; omega)
          clear Hbad Hok
          have e9 : ((s[k].toNat : Int) == 9) = true := by rw [beq_iff_eq]; omega
          have n9 : ((s[k].toNat : Int) != 9) = false := by rw [bne_eq_false_iff_eq]; omega
          have e10 : ((s[k].toNat : Int) == 10) = false := by rw [beq_eq_false_iff_ne]; omega
          have n10 : ((s[k].toNat : Int) != 10) = true := by rw [bne_iff_ne]; omega
          have d1 : decide ((s[k].toNat : Int) < 32) = true := by simp; omega
          have d2 : decide (32 ≤ (s[k].toNat : Int)) = false := by simp; omega
          have d3 : decide (126 < (s[k].toNat : Int)) = false := by simp; omega
          have d4 : decide ((s[k].toNat : Int) ≤ 126) = true := by simp; omega
          go_wp2
          go_round
          case rel => exact ⟨k + 1, by go_num, by omega, H.out⟩
          case measure => simp [intOf]; omega
        · have H := Hok (by unfold badB; simp; omega)
          clear Hbad Hok
          have e9 : ((s[k].toNat : Int) == 9) = false := by rw [beq_eq_false_iff_ne]; omega
          have n9 : ((s[k].toNat : Int) != 9) = true := by rw [bne_iff_ne]; omega
          have e10 : ((s[k].toNat : Int) == 10) = true := by rw [beq_iff_eq]; omega
          have n10 : ((s[k].toNat : Int) != 10) = false := by rw [bne_eq_false_iff_eq]; omega
          have d1 : decide ((s[k].toNat : Int) < 32) = true := by simp; omega
          have d2 : decide (32 ≤ (s[k].toNat : Int)) = false := by simp; omega
          have d3 : decide (126 < (s[k].toNat : Int)) = false := by simp; omega
          have d4 : decide ((s[k].toNat : Int) ≤ 126) = true := by simp; omega
          go_wp2
          go_round
          case rel => exact ⟨k + 1, by go_num, by omega, H.out⟩
          case measure => simp [intOf]; omega
        · have H := Hbad (by unfold badB; simp; omega)
          clear Hbad Hok
          have e9 : ((s[k].toNat : Int) == 9) = false := by rw [beq_eq_false_iff_ne]; omega
          have n9 : ((s[k].toNat : Int) != 9) = true := by rw [bne_iff_ne]; omega
          have e10 : ((s[k].toNat : Int) == 10) = false := by rw [beq_eq_false_iff_ne]; omega
          have n10 : ((s[k].toNat : Int) != 10) = true := by rw [bne_iff_ne]; omega
          have d1 : decide ((s[k].toNat : Int) < 32) = true := by simp; omega
          have d2 : decide (32 ≤ (s[k].toNat : Int)) = false := by simp; omega
          have d3 : decide (126 < (s[k].toNat : Int)) = false := by simp; omega
          have d4 : decide ((s[k].toNat : Int) ≤ 126) = true := by simp; omega
          go_wp2
          exact bodyPost_ret (v := .agg #[.int .i64 4, .int .i64 k]) (by simp [results, Try.results12, go_sem]) rfl ⟨by rw [H.out], ((Below.refl _ w).alloc (Nat.le_refl _) _)⟩
        · have H := Hok (by unfold badB; simp; omega)
          clear Hbad Hok
          have e9 : ((s[k].toNat : Int) == 9) = false := by rw [beq_eq_false_iff_ne]; omega
          have n9 : ((s[k].toNat : Int) != 9) = true := by rw [bne_iff_ne]; omega
          have e10 : ((s[k].toNat : Int) == 10) = false := by rw [beq_eq_false_iff_ne]; omega
          have n10 : ((s[k].toNat : Int) != 10) = true := by rw [bne_iff_ne]; omega
          have d1 : decide ((s[k].toNat : Int) < 32) = false := by simp; omega
          have d2 : decide (32 ≤ (s[k].toNat : Int)) = true := by simp; omega
          have d3 : decide (126 < (s[k].toNat : Int)) = false := by simp; omega
          have d4 : decide ((s[k].toNat : Int) ≤ 126) = true := by simp; omega
          go_wp2
          go_round
          case rel => exact ⟨k + 1, by go_num, by omega, H.out⟩
          case measure => simp [intOf]; omega
        · have H := Hbad (by unfold badB; simp; omega)
          clear Hbad Hok
          have e9 : ((s[k].toNat : Int) == 9) = false := by rw [beq_eq_false_iff_ne]; omega
          have n9 : ((s[k].toNat : Int) != 9) = true := by rw [bne_iff_ne]; omega
          have e10 : ((s[k].toNat : Int) == 10) = false := by rw [beq_eq_false_iff_ne]; omega
          have n10 : ((s[k].toNat : Int) != 10) = true := by rw [bne_iff_ne]; omega
          have d1 : decide ((s[k].toNat : Int) < 32) = false := by simp; omega
          have d2 : decide (32 ≤ (s[k].toNat : Int)) = true := by simp; omega
          have d3 : decide (126 < (s[k].toNat : Int)) = true := by simp; omega
          have d4 : decide ((s[k].toNat : Int) ≤ 126) = false := by simp; omega
          go_wp2
          exact bodyPost_ret (v := .agg #[.int .i64 4, .int .i64 k]) (by simp [results, Try.results12, go_sem]) rfl ⟨by rw [H.out], ((Below.refl _ w).alloc (Nat.le_refl _) _)⟩
      · have hres : checkF s.data.toList = (0, 0) := by rw [Hk.out, chkGo_end _ _ (by omega)]
        have H := Lib.hid hres; clear hres
        go_wp2
        exact bodyPost_ret (v := .agg #[.int .i64 0, .int .i64 0]) (by simp [results, Try.results12, go_sem]) rfl ⟨by rw [H.out], ((Below.refl _ w).alloc (Nat.le_refl _) _)⟩

set_option maxRecDepth 100000 in
set_option maxHeartbeats 2000000 in
theorem checkR_any (s : ByteArray) (hs : s.size ≤ 9223372036854775807) (w : World) :
    Calls Try.prog 13 #[.string s] w fun e w' => e = .returned (.agg #[.int .i64 (checkF s.data.toList).1, .int .i64 (checkF s.data.toList).2]) ∧ Below w.heap.size w w' := by
  have hl0 : s.data.toList.length = s.size := rfl
  by_cases hlong : 65536 < s.size
  · have hres : checkF s.data.toList = (3, -1) := by unfold checkF; rw [if_pos (by omega)]
    have Hres := Lib.hid hres; clear hres
    go_enter Try.func13, Try.ntmps13
    go_wp2
    exact bodyPost_ret (v := .agg #[.int .i64 3, .int .i64 (-1)]) (by simp [results, Try.results13, go_sem]) rfl ⟨by rw [Hres.out], (Below.refl _ _).alloc (Nat.le_refl _) _⟩
  · have hres : checkF s.data.toList = chkGo 0 (s.data.toList.drop 0) := by unfold checkF; rw [if_neg (by omega)]; rfl
    have Hres := Lib.hid hres; clear hres
    go_enter Try.func13, Try.ntmps13
    go_wp2
    go_loop [3] (fun i => ∃ k : Nat, i = .int .i64 k ∧ k ≤ s.size ∧ checkF s.data.toList = chkGo k (s.data.toList.drop k)) (fun i => s.size - (intOf i).toNat)
    case atStart => exact ⟨0, rfl, Nat.zero_le _, Hres.out⟩
    case round =>
      obtain ⟨k, rfl, hk, hres⟩ := hrel
      have Hk := Lib.hid hres; clear hres
      by_cases hlt : k < s.size
      · have ebyte : s.data.toList[k]'hlt = s[k] := rfl
        have Hbad : badB s[k] = true → Hid (checkF s.data.toList = (4, (k : Int))) := fun hb => by rw [Hk.out, chkGo_bad _ k hlt (by rw [ebyte]; exact hb)]; rfl
        have Hok : badB s[k] = false → Hid (checkF s.data.toList = chkGo (k + 1) (s.data.toList.drop (k + 1))) := fun hb => by rw [Hk.out, chkGo_ok _ k hlt (by rw [ebyte]; exact hb)]; rfl
        clear ebyte
        rcases byte_kinds s[k].toNat with ⟨c1, c2⟩ | ⟨c1, c2⟩ | ⟨c1, c2⟩ | ⟨c1, c2⟩ | ⟨c1, c2⟩ | c1
        · have H := Hbad (by unfold badB; simp; omega)
          clear Hbad Hok
          have e9 : ((s[k].toNat : Int) == 9) = false := by rw [beq_eq_false_iff_ne]; omega
          have n9 : ((s[k].toNat : Int) != 9) = true := by rw [bne_iff_ne]; omega
          have e10 : ((s[k].toNat : Int) == 10) = false := by rw [beq_eq_false_iff_ne]; omega
          have n10 : ((s[k].toNat : Int) != 10) = true := by rw [bne_iff_ne]; omega
          have d1 : decide ((s[k].toNat : Int) < 32) = true := by simp; omega
          have d2 : decide (32 ≤ (s[k].toNat : Int)) = false := by simp; omega
          have d3 : decide (126 < (s[k].toNat : Int)) = false := by simp; omega
          have d4 : decide ((s[k].toNat : Int) ≤ 126) = true := by simp; omega
          go_wp2
          exact bodyPost_ret (v := .agg #[.int .i64 4, .int .i64 k]) (by simp [results, Try.results13, go_sem]) rfl ⟨by rw [H.out], ((Below.refl _ w).alloc (Nat.le_refl _) _)⟩
        · have H := Hok (by unfold badB; simp; omega)
          clear Hbad Hok
          have e9 : ((s[k].toNat : Int) == 9) = true := by rw [beq_iff_eq]; omega
          have n9 : ((s[k].toNat : Int) != 9) = false := by rw [bne_eq_false_iff_eq]; omega
          have e10 : ((s[k].toNat : Int) == 10) = false := by rw [beq_eq_false_iff_ne]; omega
          have n10 : ((s[k].toNat : Int) != 10) = true := by rw [bne_iff_ne]; omega
          have d1 : decide ((s[k].toNat : Int) < 32) = true := by simp; omega
          have d2 : decide (32 ≤ (s[k].toNat : Int)) = false := by simp; omega
          have d3 : decide (126 < (s[k].toNat : Int)) = false := by simp; omega
          have d4 : decide ((s[k].toNat : Int) ≤ 126) = true := by simp; omega
          go_wp2
          go_round
          case rel => exact ⟨k + 1, by go_num, by omega, H.out⟩
          case measure => simp [intOf]; omega
        · have H := Hok (by unfold badB; simp; omega)
          clear Hbad Hok
          have e9 : ((s[k].toNat : Int) == 9) = false := by rw [beq_eq_false_iff_ne]; omega
          have n9 : ((s[k].toNat : Int) != 9) = true := by rw [bne_iff_ne]; omega
          have e10 : ((s[k].toNat : Int) == 10) = true := by rw [beq_iff_eq]; omega
          have n10 : ((s[k].toNat : Int) != 10) = false := by rw [bne_eq_false_iff_eq]; omega
          have d1 : decide ((s[k].toNat : Int) < 32) = true := by simp; omega
          have d2 : decide (32 ≤ (s[k].toNat : Int)) = false := by simp; omega
          have d3 : decide (126 < (s[k].toNat : Int)) = false := by simp; omega
          have d4 : decide ((s[k].toNat : Int) ≤ 126) = true := by simp; omega
          go_wp2
          go_round
          case rel => exact ⟨k + 1, by go_num, by omega, H.out⟩
          case measure => simp [intOf]; omega
        · have H := Hbad (by unfold badB; simp; omega)
          clear Hbad Hok
          have e9 : ((s[k].toNat : Int) == 9) = false := by rw [beq_eq_false_iff_ne]; omega
          have n9 : ((s[k].toNat : Int) != 9) = true := by rw [bne_iff_ne]; omega
          have e10 : ((s[k].toNat : Int) == 10) = false := by rw [beq_eq_false_iff_ne]; omega
          have n10 : ((s[k].toNat : Int) != 10) = true := by rw [bne_iff_ne]; omega
          have d1 : decide ((s[k].toNat : Int) < 32) = true := by simp; omega
          have d2 : decide (32 ≤ (s[k].toNat : Int)) = false := by simp; omega
          have d3 : decide (126 < (s[k].toNat : Int)) = false := by simp; omega
          have d4 : decide ((s[k].toNat : Int) ≤ 126) = true := by simp; omega
          go_wp2
          exact bodyPost_ret (v := .agg #[.int .i64 4, .int .i64 k]) (by simp [results, Try.results13, go_sem]) rfl ⟨by rw [H.out], ((Below.refl _ w).alloc (Nat.le_refl _) _)⟩
        · have H := Hok (by unfold badB; simp; omega)
          clear Hbad Hok
          have e9 : ((s[k].toNat : Int) == 9) = false := by rw [beq_eq_false_iff_ne]; omega
          have n9 : ((s[k].toNat : Int) != 9) = true := by rw [bne_iff_ne]; omega
          have e10 : ((s[k].toNat : Int) == 10) = false := by rw [beq_eq_false_iff_ne]; omega
          have n10 : ((s[k].toNat : Int) != 10) = true := by rw [bne_iff_ne]; omega
          have d1 : decide ((s[k].toNat : Int) < 32) = false := by simp; omega
          have d2 : decide (32 ≤ (s[k].toNat : Int)) = true := by simp; omega
          have d3 : decide (126 < (s[k].toNat : Int)) = false := by simp; omega
          have d4 : decide ((s[k].toNat : Int) ≤ 126) = true := by simp; omega
          go_wp2
          go_round
          case rel => exact ⟨k + 1, by go_num, by omega, H.out⟩
          case measure => simp [intOf]; omega
        · have H := Hbad (by unfold badB; simp; omega)
          clear Hbad Hok
          have e9 : ((s[k].toNat : Int) == 9) = false := by rw [beq_eq_false_iff_ne]; omega
          have n9 : ((s[k].toNat : Int) != 9) = true := by rw [bne_iff_ne]; omega
          have e10 : ((s[k].toNat : Int) == 10) = false := by rw [beq_eq_false_iff_ne]; omega
          have n10 : ((s[k].toNat : Int) != 10) = true := by rw [bne_iff_ne]; omega
          have d1 : decide ((s[k].toNat : Int) < 32) = false := by simp; omega
          have d2 : decide (32 ≤ (s[k].toNat : Int)) = true := by simp; omega
          have d3 : decide (126 < (s[k].toNat : Int)) = true := by simp; omega
          have d4 : decide ((s[k].toNat : Int) ≤ 126) = false := by simp; omega
          go_wp2
          exact bodyPost_ret (v := .agg #[.int .i64 4, .int .i64 k]) (by simp [results, Try.results13, go_sem]) rfl ⟨by rw [H.out], ((Below.refl _ w).alloc (Nat.le_refl _) _)⟩
      · have hres : checkF s.data.toList = (0, 0) := by rw [Hk.out, chkGo_end _ _ (by omega)]
        have H := Lib.hid hres; clear hres
        go_wp2
        exact bodyPost_ret (v := .agg #[.int .i64 0, .int .i64 0]) (by simp [results, Try.results13, go_sem]) rfl ⟨by rw [H.out], ((Below.refl _ w).alloc (Nat.le_refl _) _)⟩

end Go.Proofs.Ytiachpjejebhjaa
