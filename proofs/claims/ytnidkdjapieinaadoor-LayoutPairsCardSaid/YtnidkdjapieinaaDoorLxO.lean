/- Contract of source.Check. -/
import Derived.Test.YtnidkdjapieinaaDoorLxN
namespace Go.Proofs.YtnidkdjapieinaaDoor
open Go.RowKit Go.Shelf
set_option linter.unusedSimpArgs false

def badB (c : UInt8) : Bool := decide ((c.toNat < 32 ∨ 126 < c.toNat) ∧ c.toNat ≠ 9 ∧ c.toNat ≠ 10)
def chkGo : Nat → List UInt8 → Int × Int
  | _, [] => (0, 0)
  | i, c :: cs => if badB c then (4, i) else chkGo (i + 1) cs
def checkF (l : List UInt8) : Int × Int := if 65536 < l.length then (3, -1) else chkGo 0 l
theorem chkGo_at (l : List UInt8) (i : Nat) (h : i < l.length) : chkGo i (l.drop i) = if badB l[i] then (4, (i : Int)) else chkGo (i + 1) (l.drop (i + 1)) := by
  rw [List.drop_eq_getElem_cons h, chkGo]
theorem chkGo_end (l : List UInt8) (i : Nat) (h : l.length ≤ i) : chkGo i (l.drop i) = (0, 0) := by
  rw [List.drop_eq_nil_of_le h, chkGo]
def faultV (x : Int × Int) : Value := .agg #[.int .i64 x.1, .int .i64 x.2]
theorem byte_sort (n : Nat) : (n < 32 ∧ n ≠ 9 ∧ n ≠ 10) ∨ n = 9 ∨ n = 10 ∨ (32 ≤ n ∧ n ≤ 126) ∨ 126 < n := by omega

set_option maxRecDepth 100000 in
set_option maxHeartbeats 8000000 in
theorem check_any (s : ByteArray) (hs : s.size ≤ 9223372036854775807) (w : World) :
    Calls Tryd.prog 10 #[.string s] w fun e w' => e = .returned (faultV (checkF s.data.toList)) ∧ Below w.heap.size w w' := by
  have hl0 : s.data.toList.length = s.size := rfl
  by_cases hlong : 65536 < s.size
  · have hres : checkF s.data.toList = (3, -1) := by unfold checkF; rw [if_pos (by omega)]
    have Hres := Lib.hid hres; clear hres
    go_enter Tryd.func10, Tryd.ntmps10
    go_wp2
    exact bodyPost_ret (v := .agg #[.int .i64 3, .int .i64 (-1)]) (by simp [results, Tryd.results10, go_sem, hs]) rfl ⟨by rw [Hres.out]; rfl, by exact (by ((repeat (first | exact Below.refl _ _ | (refine Below.alloc ?_ (by first | (simp [World.setCell]; done) | (simp [World.setCell]; omega)) _) | (refine Below.setCell ?_ (by first | (simp [World.setCell]; done) | (simp [World.setCell]; omega)) _) | refine Below.drew ?_ | (refine Below.trans ?_ ((below_drewN _ _).mono (by first | (simp [World.setCell]; done) | (simp [World.setCell]; omega))))))))⟩
  · have hres : checkF s.data.toList = chkGo 0 (s.data.toList.drop 0) := by unfold checkF; rw [if_neg (by omega)]; rfl
    have Hres := Lib.hid hres; clear hres
    go_enter Tryd.func10, Tryd.ntmps10
    go_wp2
    go_loop [11] (fun i => ∃ k : Nat, i = .int .i64 k ∧ k ≤ s.size ∧ Hid (checkF s.data.toList = chkGo k (s.data.toList.drop k))) (fun i => s.size - (intOf i).toNat)
    case atStart => exact ⟨0, rfl, Nat.zero_le _, Hres⟩
    case round =>
      obtain ⟨k, rfl, hk, Hk⟩ := hrel
      by_cases hlt : k < s.size
      · have ha := Hk.out.trans (chkGo_at s.data.toList k hlt)
        obtain ⟨n, hn⟩ : ∃ n, s[k].toNat = n := ⟨_, rfl⟩
        have hb : badB s.data.toList[k] = decide ((n < 32 ∨ 126 < n) ∧ n ≠ 9 ∧ n ≠ 10) := by rw [← hn]; rfl
        rw [hb] at ha
        clear hb
        rcases byte_sort n with ⟨c1, c2, c3⟩ | rfl | rfl | ⟨c1, c2⟩ | c1
        · have H := Lib.hid (ha.trans (if_pos (by simp; omega)))
          have d1 : decide ((n : Int) < 32) = true := by simp; omega
          have d2 : ((n : Int) != 9) = true := by rw [bne_iff_ne]; omega
          have d3 : ((n : Int) != 10) = true := by rw [bne_iff_ne]; omega
          clear ha
          go_wp2
          exact bodyPost_ret (v := .agg #[.int .i64 4, .int .i64 k]) (by simp [results, Tryd.results10, go_sem, hn]) rfl ⟨by rw [H.out]; rfl, by exact (by ((repeat (first | exact Below.refl _ _ | (refine Below.alloc ?_ (by first | (simp [World.setCell]; done) | (simp [World.setCell]; omega)) _) | (refine Below.setCell ?_ (by first | (simp [World.setCell]; done) | (simp [World.setCell]; omega)) _) | refine Below.drew ?_ | (refine Below.trans ?_ ((below_drewN _ _).mono (by first | (simp [World.setCell]; done) | (simp [World.setCell]; omega))))))))⟩
        · have H := Lib.hid (ha.trans (if_neg (by simp)))
          clear ha
          go_wp2
          go_round
          case rel => exact ⟨k + 1, by go_num, by omega, H⟩
          case measure => simp [intOf]; omega
        · have H := Lib.hid (ha.trans (if_neg (by simp)))
          clear ha
          go_wp2
          go_round
          case rel => exact ⟨k + 1, by go_num, by omega, H⟩
          case measure => simp [intOf]; omega
        · have H := Lib.hid (ha.trans (if_neg (by simp; omega)))
          have d1 : decide ((n : Int) < 32) = false := by simp; omega
          have d2 : decide ((126 : Int) < (n : Int)) = false := by simp; omega
          clear ha
          go_wp2
          go_round
          case rel => exact ⟨k + 1, by go_num, by omega, H⟩
          case measure => simp [intOf]; omega
        · have H := Lib.hid (ha.trans (if_pos (by simp; omega)))
          have d1 : decide ((n : Int) < 32) = false := by simp; omega
          have d1b : decide ((126 : Int) < (n : Int)) = true := by simp; omega
          have d2 : ((n : Int) != 9) = true := by rw [bne_iff_ne]; omega
          have d3 : ((n : Int) != 10) = true := by rw [bne_iff_ne]; omega
          clear ha
          go_wp2
          exact bodyPost_ret (v := .agg #[.int .i64 4, .int .i64 k]) (by simp [results, Tryd.results10, go_sem, hn]) rfl ⟨by rw [H.out]; rfl, by exact (by ((repeat (first | exact Below.refl _ _ | (refine Below.alloc ?_ (by first | (simp [World.setCell]; done) | (simp [World.setCell]; omega)) _) | (refine Below.setCell ?_ (by first | (simp [World.setCell]; done) | (simp [World.setCell]; omega)) _) | refine Below.drew ?_ | (refine Below.trans ?_ ((below_drewN _ _).mono (by first | (simp [World.setCell]; done) | (simp [World.setCell]; omega))))))))⟩
      · have H := Lib.hid (Hk.out.trans (chkGo_end s.data.toList k (by omega)))
        have d0 : decide ((k : Int) < s.size) = false := by simp; omega
        go_wp2
        exact bodyPost_ret (v := .agg #[.int .i64 0, .int .i64 0]) (by simp [results, Tryd.results10, go_sem, d0]) rfl ⟨by rw [H.out]; rfl, by exact (by ((repeat (first | exact Below.refl _ _ | (refine Below.alloc ?_ (by first | (simp [World.setCell]; done) | (simp [World.setCell]; omega)) _) | (refine Below.setCell ?_ (by first | (simp [World.setCell]; done) | (simp [World.setCell]; omega)) _) | refine Below.drew ?_ | (refine Below.trans ?_ ((below_drewN _ _).mono (by first | (simp [World.setCell]; done) | (simp [World.setCell]; omega))))))))⟩
end Go.Proofs.YtnidkdjapieinaaDoor
