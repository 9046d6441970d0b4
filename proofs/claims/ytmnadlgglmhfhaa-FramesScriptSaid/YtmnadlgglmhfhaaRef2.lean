/- Contract of the reference's Check, kind by kind. (Printed by gen_check.py.) -/
import Derived.Test.YtmnadlgglmhfhaaRef1
namespace Go.Proofs.Ytmnadlgglmhfhaa
open Go.RowKit
set_option linter.unusedSimpArgs false

set_option maxRecDepth 100000 in
set_option maxHeartbeats 4000000 in
set_option linter.unusedSimpArgs false in
theorem rcheck_1 (o n : Int) (s : ByteArray) (a1 a2 : Option Addr) (l1 l2 c1 c2 : Nat) (w : World) :
    Calls Try.prog 26 #[.agg #[.int .i64 1, .int .i64 o, .int .i64 n, .string s, .slice a1 l1 c1, .slice a2 l2 c2]] w fun e w' => e = .returned (.int .i64 (if chkM (mayOf 1) o n s l1 l2 then 0 else 2)) ∧ Below w.heap.size w w' := by
  obtain ⟨r, hr⟩ : ∃ r : Int, (if chkM (mayOf 1) o n s l1 l2 then (0 : Int) else 2) = r := ⟨_, rfl⟩
  rw [hr]
  have Hr := Lib.hid hr
  clear hr
  rcases h1 : decide (o < 0) with _ | _
  case true =>
    have Hv : Hid (r = 2) := Lib.hid (by rw [← Hr.out]; simp [chkM, mayOf, h1]; try (simp at h1; omega))
    go_enter Try.func26, Try.ntmps26
    go_wp2
    exact bodyPost_ret (v := .int .i64 2) (by simp [results, Try.results26, go_sem]) rfl ⟨by rw [Hv.out], by ((repeat (first | exact Below.refl _ _ | (refine Below.alloc ?_ (by first | (simp [World.setCell]; done) | (simp [World.setCell]; omega)) _) | (refine Below.setCell ?_ (by first | (simp [World.setCell]; done) | (simp [World.setCell]; omega)) _) | refine Below.drew ?_)))⟩
  rcases h2 : (o != 0) with _ | _
  case true =>
    have Hv : Hid (r = 2) := Lib.hid (by rw [← Hr.out]; simp [chkM, mayOf, h1, h2]; try (simp at h1 h2; omega))
    go_enter Try.func26, Try.ntmps26
    go_wp2
    exact bodyPost_ret (v := .int .i64 2) (by simp [results, Try.results26, go_sem]) rfl ⟨by rw [Hv.out], by ((repeat (first | exact Below.refl _ _ | (refine Below.alloc ?_ (by first | (simp [World.setCell]; done) | (simp [World.setCell]; omega)) _) | (refine Below.setCell ?_ (by first | (simp [World.setCell]; done) | (simp [World.setCell]; omega)) _) | refine Below.drew ?_)))⟩
  rcases h3 : decide (n < 0) with _ | _
  case true =>
    have Hv : Hid (r = 2) := Lib.hid (by rw [← Hr.out]; simp [chkM, mayOf, h1, h2, h3]; try (simp at h1 h2 h3; omega))
    go_enter Try.func26, Try.ntmps26
    go_wp2
    exact bodyPost_ret (v := .int .i64 2) (by simp [results, Try.results26, go_sem]) rfl ⟨by rw [Hv.out], by ((repeat (first | exact Below.refl _ _ | (refine Below.alloc ?_ (by first | (simp [World.setCell]; done) | (simp [World.setCell]; omega)) _) | (refine Below.setCell ?_ (by first | (simp [World.setCell]; done) | (simp [World.setCell]; omega)) _) | refine Below.drew ?_)))⟩
  rcases h4 : decide (1 < n) with _ | _
  case true =>
    have Hv : Hid (r = 2) := Lib.hid (by rw [← Hr.out]; simp [chkM, mayOf, h1, h2, h3, h4]; try (simp at h1 h2 h3 h4; omega))
    go_enter Try.func26, Try.ntmps26
    go_wp2
    exact bodyPost_ret (v := .int .i64 2) (by simp [results, Try.results26, go_sem]) rfl ⟨by rw [Hv.out], by ((repeat (first | exact Below.refl _ _ | (refine Below.alloc ?_ (by first | (simp [World.setCell]; done) | (simp [World.setCell]; omega)) _) | (refine Below.setCell ?_ (by first | (simp [World.setCell]; done) | (simp [World.setCell]; omega)) _) | refine Below.drew ?_)))⟩
  rcases h5 : (n != 0) with _ | _
  case true =>
    have Hv : Hid (r = 2) := Lib.hid (by rw [← Hr.out]; simp [chkM, mayOf, h1, h2, h3, h4, h5]; try (simp at h1 h2 h3 h4 h5; omega))
    go_enter Try.func26, Try.ntmps26
    go_wp2
    exact bodyPost_ret (v := .int .i64 2) (by simp [results, Try.results26, go_sem]) rfl ⟨by rw [Hv.out], by ((repeat (first | exact Below.refl _ _ | (refine Below.alloc ?_ (by first | (simp [World.setCell]; done) | (simp [World.setCell]; omega)) _) | (refine Below.setCell ?_ (by first | (simp [World.setCell]; done) | (simp [World.setCell]; omega)) _) | refine Below.drew ?_)))⟩
  rcases h6 : s.toList with _ | ⟨x, xs⟩
  case cons =>
    have Hv : Hid (r = 2) := Lib.hid (by rw [← Hr.out]; simp [chkM, mayOf, h1, h2, h3, h4, h5, h6]; try (simp at h1 h2 h3 h4 h5; omega))
    go_enter Try.func26, Try.ntmps26
    go_wp2
    exact bodyPost_ret (v := .int .i64 2) (by simp [results, Try.results26, go_sem]) rfl ⟨by rw [Hv.out], by ((repeat (first | exact Below.refl _ _ | (refine Below.alloc ?_ (by first | (simp [World.setCell]; done) | (simp [World.setCell]; omega)) _) | (refine Below.setCell ?_ (by first | (simp [World.setCell]; done) | (simp [World.setCell]; omega)) _) | refine Below.drew ?_)))⟩
  rcases h7 : ((l2 : Int) != 0) with _ | _
  case true =>
    have Hv : Hid (r = 2) := Lib.hid (by rw [← Hr.out]; simp [chkM, mayOf, h1, h2, h3, h4, h5, h6, h7]; try (simp at h1 h2 h3 h4 h5 h7; omega))
    go_enter Try.func26, Try.ntmps26
    go_wp2
    exact bodyPost_ret (v := .int .i64 2) (by simp [results, Try.results26, go_sem]) rfl ⟨by rw [Hv.out], by ((repeat (first | exact Below.refl _ _ | (refine Below.alloc ?_ (by first | (simp [World.setCell]; done) | (simp [World.setCell]; omega)) _) | (refine Below.setCell ?_ (by first | (simp [World.setCell]; done) | (simp [World.setCell]; omega)) _) | refine Below.drew ?_)))⟩
  rcases h8 : ((l1 : Int) == 1) with _ | _
  case false =>
    have Hv : Hid (r = 2) := Lib.hid (by rw [← Hr.out]; simp [chkM, mayOf, h1, h2, h3, h4, h5, h6, h7, h8]; try (simp at h1 h2 h3 h4 h5 h7 h8; omega))
    go_enter Try.func26, Try.ntmps26
    go_wp2
    exact bodyPost_ret (v := .int .i64 2) (by simp [results, Try.results26, go_sem]) rfl ⟨by rw [Hv.out], by ((repeat (first | exact Below.refl _ _ | (refine Below.alloc ?_ (by first | (simp [World.setCell]; done) | (simp [World.setCell]; omega)) _) | (refine Below.setCell ?_ (by first | (simp [World.setCell]; done) | (simp [World.setCell]; omega)) _) | refine Below.drew ?_)))⟩
  case true =>
    have Hv : Hid (r = 0) := Lib.hid (by rw [← Hr.out]; simp [chkM, mayOf, h1, h2, h3, h4, h5, h6, h7, h8]; try (simp at h1 h2 h3 h4 h5 h7 h8; omega))
    go_enter Try.func26, Try.ntmps26
    go_wp2
    exact bodyPost_ret (v := .int .i64 0) (by simp [results, Try.results26, go_sem]) rfl ⟨by rw [Hv.out], by ((repeat (first | exact Below.refl _ _ | (refine Below.alloc ?_ (by first | (simp [World.setCell]; done) | (simp [World.setCell]; omega)) _) | (refine Below.setCell ?_ (by first | (simp [World.setCell]; done) | (simp [World.setCell]; omega)) _) | refine Below.drew ?_)))⟩

set_option maxRecDepth 100000 in
set_option maxHeartbeats 4000000 in
set_option linter.unusedSimpArgs false in
theorem rcheck_2 (o n : Int) (s : ByteArray) (a1 a2 : Option Addr) (l1 l2 c1 c2 : Nat) (w : World) :
    Calls Try.prog 26 #[.agg #[.int .i64 2, .int .i64 o, .int .i64 n, .string s, .slice a1 l1 c1, .slice a2 l2 c2]] w fun e w' => e = .returned (.int .i64 (if chkM (mayOf 2) o n s l1 l2 then 0 else 2)) ∧ Below w.heap.size w w' := by
  obtain ⟨r, hr⟩ : ∃ r : Int, (if chkM (mayOf 2) o n s l1 l2 then (0 : Int) else 2) = r := ⟨_, rfl⟩
  rw [hr]
  have Hr := Lib.hid hr
  clear hr
  rcases h1 : decide (o < 0) with _ | _
  case true =>
    have Hv : Hid (r = 2) := Lib.hid (by rw [← Hr.out]; simp [chkM, mayOf, h1]; try (simp at h1; omega))
    go_enter Try.func26, Try.ntmps26
    go_wp2
    exact bodyPost_ret (v := .int .i64 2) (by simp [results, Try.results26, go_sem]) rfl ⟨by rw [Hv.out], by ((repeat (first | exact Below.refl _ _ | (refine Below.alloc ?_ (by first | (simp [World.setCell]; done) | (simp [World.setCell]; omega)) _) | (refine Below.setCell ?_ (by first | (simp [World.setCell]; done) | (simp [World.setCell]; omega)) _) | refine Below.drew ?_)))⟩
  rcases h3 : decide (n < 0) with _ | _
  case true =>
    have Hv : Hid (r = 2) := Lib.hid (by rw [← Hr.out]; simp [chkM, mayOf, h1, h3]; try (simp at h1 h3; omega))
    go_enter Try.func26, Try.ntmps26
    go_wp2
    exact bodyPost_ret (v := .int .i64 2) (by simp [results, Try.results26, go_sem]) rfl ⟨by rw [Hv.out], by ((repeat (first | exact Below.refl _ _ | (refine Below.alloc ?_ (by first | (simp [World.setCell]; done) | (simp [World.setCell]; omega)) _) | (refine Below.setCell ?_ (by first | (simp [World.setCell]; done) | (simp [World.setCell]; omega)) _) | refine Below.drew ?_)))⟩
  rcases h4 : decide (1 < n) with _ | _
  case true =>
    have Hv : Hid (r = 2) := Lib.hid (by rw [← Hr.out]; simp [chkM, mayOf, h1, h3, h4]; try (simp at h1 h3 h4; omega))
    go_enter Try.func26, Try.ntmps26
    go_wp2
    exact bodyPost_ret (v := .int .i64 2) (by simp [results, Try.results26, go_sem]) rfl ⟨by rw [Hv.out], by ((repeat (first | exact Below.refl _ _ | (refine Below.alloc ?_ (by first | (simp [World.setCell]; done) | (simp [World.setCell]; omega)) _) | (refine Below.setCell ?_ (by first | (simp [World.setCell]; done) | (simp [World.setCell]; omega)) _) | refine Below.drew ?_)))⟩
  rcases h5 : (n != 0) with _ | _
  case true =>
    have Hv : Hid (r = 2) := Lib.hid (by rw [← Hr.out]; simp [chkM, mayOf, h1, h3, h4, h5]; try (simp at h1 h3 h4 h5; omega))
    go_enter Try.func26, Try.ntmps26
    go_wp2
    exact bodyPost_ret (v := .int .i64 2) (by simp [results, Try.results26, go_sem]) rfl ⟨by rw [Hv.out], by ((repeat (first | exact Below.refl _ _ | (refine Below.alloc ?_ (by first | (simp [World.setCell]; done) | (simp [World.setCell]; omega)) _) | (refine Below.setCell ?_ (by first | (simp [World.setCell]; done) | (simp [World.setCell]; omega)) _) | refine Below.drew ?_)))⟩
  rcases h6 : s.toList with _ | ⟨x, xs⟩
  case cons =>
    have Hv : Hid (r = 2) := Lib.hid (by rw [← Hr.out]; simp [chkM, mayOf, h1, h3, h4, h5, h6]; try (simp at h1 h3 h4 h5; omega))
    go_enter Try.func26, Try.ntmps26
    go_wp2
    exact bodyPost_ret (v := .int .i64 2) (by simp [results, Try.results26, go_sem]) rfl ⟨by rw [Hv.out], by ((repeat (first | exact Below.refl _ _ | (refine Below.alloc ?_ (by first | (simp [World.setCell]; done) | (simp [World.setCell]; omega)) _) | (refine Below.setCell ?_ (by first | (simp [World.setCell]; done) | (simp [World.setCell]; omega)) _) | refine Below.drew ?_)))⟩
  rcases h7 : ((l2 : Int) != 0) with _ | _
  case true =>
    have Hv : Hid (r = 2) := Lib.hid (by rw [← Hr.out]; simp [chkM, mayOf, h1, h3, h4, h5, h6, h7]; try (simp at h1 h3 h4 h5 h7; omega))
    go_enter Try.func26, Try.ntmps26
    go_wp2
    exact bodyPost_ret (v := .int .i64 2) (by simp [results, Try.results26, go_sem]) rfl ⟨by rw [Hv.out], by ((repeat (first | exact Below.refl _ _ | (refine Below.alloc ?_ (by first | (simp [World.setCell]; done) | (simp [World.setCell]; omega)) _) | (refine Below.setCell ?_ (by first | (simp [World.setCell]; done) | (simp [World.setCell]; omega)) _) | refine Below.drew ?_)))⟩
  have Hv : Hid (r = 0) := Lib.hid (by rw [← Hr.out]; simp [chkM, mayOf, h1, h3, h4, h5, h6, h7]; try (simp at h1 h3 h4 h5 h7; omega))
  go_enter Try.func26, Try.ntmps26
  go_wp2
  exact bodyPost_ret (v := .int .i64 0) (by simp [results, Try.results26, go_sem]) rfl ⟨by rw [Hv.out], by ((repeat (first | exact Below.refl _ _ | (refine Below.alloc ?_ (by first | (simp [World.setCell]; done) | (simp [World.setCell]; omega)) _) | (refine Below.setCell ?_ (by first | (simp [World.setCell]; done) | (simp [World.setCell]; omega)) _) | refine Below.drew ?_)))⟩

set_option maxRecDepth 100000 in
set_option maxHeartbeats 4000000 in
set_option linter.unusedSimpArgs false in
theorem rcheck_3 (o n : Int) (s : ByteArray) (a1 a2 : Option Addr) (l1 l2 c1 c2 : Nat) (w : World) :
    Calls Try.prog 26 #[.agg #[.int .i64 3, .int .i64 o, .int .i64 n, .string s, .slice a1 l1 c1, .slice a2 l2 c2]] w fun e w' => e = .returned (.int .i64 (if chkM (mayOf 3) o n s l1 l2 then 0 else 2)) ∧ Below w.heap.size w w' := by
  obtain ⟨r, hr⟩ : ∃ r : Int, (if chkM (mayOf 3) o n s l1 l2 then (0 : Int) else 2) = r := ⟨_, rfl⟩
  rw [hr]
  have Hr := Lib.hid hr
  clear hr
  rcases h1 : decide (o < 0) with _ | _
  case true =>
    have Hv : Hid (r = 2) := Lib.hid (by rw [← Hr.out]; simp [chkM, mayOf, h1]; try (simp at h1; omega))
    go_enter Try.func26, Try.ntmps26
    go_wp2
    exact bodyPost_ret (v := .int .i64 2) (by simp [results, Try.results26, go_sem]) rfl ⟨by rw [Hv.out], by ((repeat (first | exact Below.refl _ _ | (refine Below.alloc ?_ (by first | (simp [World.setCell]; done) | (simp [World.setCell]; omega)) _) | (refine Below.setCell ?_ (by first | (simp [World.setCell]; done) | (simp [World.setCell]; omega)) _) | refine Below.drew ?_)))⟩
  rcases h2 : (o != 0) with _ | _
  case true =>
    have Hv : Hid (r = 2) := Lib.hid (by rw [← Hr.out]; simp [chkM, mayOf, h1, h2]; try (simp at h1 h2; omega))
    go_enter Try.func26, Try.ntmps26
    go_wp2
    exact bodyPost_ret (v := .int .i64 2) (by simp [results, Try.results26, go_sem]) rfl ⟨by rw [Hv.out], by ((repeat (first | exact Below.refl _ _ | (refine Below.alloc ?_ (by first | (simp [World.setCell]; done) | (simp [World.setCell]; omega)) _) | (refine Below.setCell ?_ (by first | (simp [World.setCell]; done) | (simp [World.setCell]; omega)) _) | refine Below.drew ?_)))⟩
  rcases h3 : decide (n < 0) with _ | _
  case true =>
    have Hv : Hid (r = 2) := Lib.hid (by rw [← Hr.out]; simp [chkM, mayOf, h1, h2, h3]; try (simp at h1 h2 h3; omega))
    go_enter Try.func26, Try.ntmps26
    go_wp2
    exact bodyPost_ret (v := .int .i64 2) (by simp [results, Try.results26, go_sem]) rfl ⟨by rw [Hv.out], by ((repeat (first | exact Below.refl _ _ | (refine Below.alloc ?_ (by first | (simp [World.setCell]; done) | (simp [World.setCell]; omega)) _) | (refine Below.setCell ?_ (by first | (simp [World.setCell]; done) | (simp [World.setCell]; omega)) _) | refine Below.drew ?_)))⟩
  rcases h4 : decide (1 < n) with _ | _
  case true =>
    have Hv : Hid (r = 2) := Lib.hid (by rw [← Hr.out]; simp [chkM, mayOf, h1, h2, h3, h4]; try (simp at h1 h2 h3 h4; omega))
    go_enter Try.func26, Try.ntmps26
    go_wp2
    exact bodyPost_ret (v := .int .i64 2) (by simp [results, Try.results26, go_sem]) rfl ⟨by rw [Hv.out], by ((repeat (first | exact Below.refl _ _ | (refine Below.alloc ?_ (by first | (simp [World.setCell]; done) | (simp [World.setCell]; omega)) _) | (refine Below.setCell ?_ (by first | (simp [World.setCell]; done) | (simp [World.setCell]; omega)) _) | refine Below.drew ?_)))⟩
  rcases h5 : (n != 0) with _ | _
  case true =>
    have Hv : Hid (r = 2) := Lib.hid (by rw [← Hr.out]; simp [chkM, mayOf, h1, h2, h3, h4, h5]; try (simp at h1 h2 h3 h4 h5; omega))
    go_enter Try.func26, Try.ntmps26
    go_wp2
    exact bodyPost_ret (v := .int .i64 2) (by simp [results, Try.results26, go_sem]) rfl ⟨by rw [Hv.out], by ((repeat (first | exact Below.refl _ _ | (refine Below.alloc ?_ (by first | (simp [World.setCell]; done) | (simp [World.setCell]; omega)) _) | (refine Below.setCell ?_ (by first | (simp [World.setCell]; done) | (simp [World.setCell]; omega)) _) | refine Below.drew ?_)))⟩
  rcases h6 : s.toList with _ | ⟨x, xs⟩
  case cons =>
    have Hv : Hid (r = 2) := Lib.hid (by rw [← Hr.out]; simp [chkM, mayOf, h1, h2, h3, h4, h5, h6]; try (simp at h1 h2 h3 h4 h5; omega))
    go_enter Try.func26, Try.ntmps26
    go_wp2
    exact bodyPost_ret (v := .int .i64 2) (by simp [results, Try.results26, go_sem]) rfl ⟨by rw [Hv.out], by ((repeat (first | exact Below.refl _ _ | (refine Below.alloc ?_ (by first | (simp [World.setCell]; done) | (simp [World.setCell]; omega)) _) | (refine Below.setCell ?_ (by first | (simp [World.setCell]; done) | (simp [World.setCell]; omega)) _) | refine Below.drew ?_)))⟩
  rcases h7 : ((l2 : Int) != 0) with _ | _
  case true =>
    have Hv : Hid (r = 2) := Lib.hid (by rw [← Hr.out]; simp [chkM, mayOf, h1, h2, h3, h4, h5, h6, h7]; try (simp at h1 h2 h3 h4 h5 h7; omega))
    go_enter Try.func26, Try.ntmps26
    go_wp2
    exact bodyPost_ret (v := .int .i64 2) (by simp [results, Try.results26, go_sem]) rfl ⟨by rw [Hv.out], by ((repeat (first | exact Below.refl _ _ | (refine Below.alloc ?_ (by first | (simp [World.setCell]; done) | (simp [World.setCell]; omega)) _) | (refine Below.setCell ?_ (by first | (simp [World.setCell]; done) | (simp [World.setCell]; omega)) _) | refine Below.drew ?_)))⟩
  rcases h8 : decide ((1 : Int) ≤ (l1 : Int)) with _ | _
  case false =>
    have Hv : Hid (r = 2) := Lib.hid (by rw [← Hr.out]; simp [chkM, mayOf, h1, h2, h3, h4, h5, h6, h7, h8]; try (simp at h1 h2 h3 h4 h5 h7 h8; omega))
    go_enter Try.func26, Try.ntmps26
    go_wp2
    exact bodyPost_ret (v := .int .i64 2) (by simp [results, Try.results26, go_sem]) rfl ⟨by rw [Hv.out], by ((repeat (first | exact Below.refl _ _ | (refine Below.alloc ?_ (by first | (simp [World.setCell]; done) | (simp [World.setCell]; omega)) _) | (refine Below.setCell ?_ (by first | (simp [World.setCell]; done) | (simp [World.setCell]; omega)) _) | refine Below.drew ?_)))⟩
  rcases h9 : decide ((l1 : Int) ≤ 32) with _ | _
  case false =>
    have Hv : Hid (r = 2) := Lib.hid (by rw [← Hr.out]; simp [chkM, mayOf, h1, h2, h3, h4, h5, h6, h7, h8, h9]; try (simp at h1 h2 h3 h4 h5 h7 h8 h9; omega))
    go_enter Try.func26, Try.ntmps26
    go_wp2
    exact bodyPost_ret (v := .int .i64 2) (by simp [results, Try.results26, go_sem]) rfl ⟨by rw [Hv.out], by ((repeat (first | exact Below.refl _ _ | (refine Below.alloc ?_ (by first | (simp [World.setCell]; done) | (simp [World.setCell]; omega)) _) | (refine Below.setCell ?_ (by first | (simp [World.setCell]; done) | (simp [World.setCell]; omega)) _) | refine Below.drew ?_)))⟩
  have Hv : Hid (r = 0) := Lib.hid (by rw [← Hr.out]; simp [chkM, mayOf, h1, h2, h3, h4, h5, h6, h7, h8, h9]; try (simp at h1 h2 h3 h4 h5 h7 h8 h9; omega))
  go_enter Try.func26, Try.ntmps26
  go_wp2
  exact bodyPost_ret (v := .int .i64 0) (by simp [results, Try.results26, go_sem]) rfl ⟨by rw [Hv.out], by ((repeat (first | exact Below.refl _ _ | (refine Below.alloc ?_ (by first | (simp [World.setCell]; done) | (simp [World.setCell]; omega)) _) | (refine Below.setCell ?_ (by first | (simp [World.setCell]; done) | (simp [World.setCell]; omega)) _) | refine Below.drew ?_)))⟩

set_option maxRecDepth 100000 in
set_option maxHeartbeats 4000000 in
set_option linter.unusedSimpArgs false in
theorem rcheck_4 (o n : Int) (s : ByteArray) (a1 a2 : Option Addr) (l1 l2 c1 c2 : Nat) (w : World) :
    Calls Try.prog 26 #[.agg #[.int .i64 4, .int .i64 o, .int .i64 n, .string s, .slice a1 l1 c1, .slice a2 l2 c2]] w fun e w' => e = .returned (.int .i64 (if chkM (mayOf 4) o n s l1 l2 then 0 else 2)) ∧ Below w.heap.size w w' := by
  obtain ⟨r, hr⟩ : ∃ r : Int, (if chkM (mayOf 4) o n s l1 l2 then (0 : Int) else 2) = r := ⟨_, rfl⟩
  rw [hr]
  have Hr := Lib.hid hr
  clear hr
  rcases h1 : decide (o < 0) with _ | _
  case true =>
    have Hv : Hid (r = 2) := Lib.hid (by rw [← Hr.out]; simp [chkM, mayOf, h1]; try (simp at h1; omega))
    go_enter Try.func26, Try.ntmps26
    go_wp2
    exact bodyPost_ret (v := .int .i64 2) (by simp [results, Try.results26, go_sem]) rfl ⟨by rw [Hv.out], by ((repeat (first | exact Below.refl _ _ | (refine Below.alloc ?_ (by first | (simp [World.setCell]; done) | (simp [World.setCell]; omega)) _) | (refine Below.setCell ?_ (by first | (simp [World.setCell]; done) | (simp [World.setCell]; omega)) _) | refine Below.drew ?_)))⟩
  rcases h3 : decide (n < 0) with _ | _
  case true =>
    have Hv : Hid (r = 2) := Lib.hid (by rw [← Hr.out]; simp [chkM, mayOf, h1, h3]; try (simp at h1 h3; omega))
    go_enter Try.func26, Try.ntmps26
    go_wp2
    exact bodyPost_ret (v := .int .i64 2) (by simp [results, Try.results26, go_sem]) rfl ⟨by rw [Hv.out], by ((repeat (first | exact Below.refl _ _ | (refine Below.alloc ?_ (by first | (simp [World.setCell]; done) | (simp [World.setCell]; omega)) _) | (refine Below.setCell ?_ (by first | (simp [World.setCell]; done) | (simp [World.setCell]; omega)) _) | refine Below.drew ?_)))⟩
  rcases h4 : decide (1 < n) with _ | _
  case true =>
    have Hv : Hid (r = 2) := Lib.hid (by rw [← Hr.out]; simp [chkM, mayOf, h1, h3, h4]; try (simp at h1 h3 h4; omega))
    go_enter Try.func26, Try.ntmps26
    go_wp2
    exact bodyPost_ret (v := .int .i64 2) (by simp [results, Try.results26, go_sem]) rfl ⟨by rw [Hv.out], by ((repeat (first | exact Below.refl _ _ | (refine Below.alloc ?_ (by first | (simp [World.setCell]; done) | (simp [World.setCell]; omega)) _) | (refine Below.setCell ?_ (by first | (simp [World.setCell]; done) | (simp [World.setCell]; omega)) _) | refine Below.drew ?_)))⟩
  rcases h5 : (n != 0) with _ | _
  case true =>
    have Hv : Hid (r = 2) := Lib.hid (by rw [← Hr.out]; simp [chkM, mayOf, h1, h3, h4, h5]; try (simp at h1 h3 h4 h5; omega))
    go_enter Try.func26, Try.ntmps26
    go_wp2
    exact bodyPost_ret (v := .int .i64 2) (by simp [results, Try.results26, go_sem]) rfl ⟨by rw [Hv.out], by ((repeat (first | exact Below.refl _ _ | (refine Below.alloc ?_ (by first | (simp [World.setCell]; done) | (simp [World.setCell]; omega)) _) | (refine Below.setCell ?_ (by first | (simp [World.setCell]; done) | (simp [World.setCell]; omega)) _) | refine Below.drew ?_)))⟩
  rcases h6 : s.toList with _ | ⟨x, xs⟩
  case cons =>
    have Hv : Hid (r = 2) := Lib.hid (by rw [← Hr.out]; simp [chkM, mayOf, h1, h3, h4, h5, h6]; try (simp at h1 h3 h4 h5; omega))
    go_enter Try.func26, Try.ntmps26
    go_wp2
    exact bodyPost_ret (v := .int .i64 2) (by simp [results, Try.results26, go_sem]) rfl ⟨by rw [Hv.out], by ((repeat (first | exact Below.refl _ _ | (refine Below.alloc ?_ (by first | (simp [World.setCell]; done) | (simp [World.setCell]; omega)) _) | (refine Below.setCell ?_ (by first | (simp [World.setCell]; done) | (simp [World.setCell]; omega)) _) | refine Below.drew ?_)))⟩
  have Hv : Hid (r = 0) := Lib.hid (by rw [← Hr.out]; simp [chkM, mayOf, h1, h3, h4, h5, h6]; try (simp at h1 h3 h4 h5; omega))
  go_enter Try.func26, Try.ntmps26
  go_wp2
  exact bodyPost_ret (v := .int .i64 0) (by simp [results, Try.results26, go_sem]) rfl ⟨by rw [Hv.out], by ((repeat (first | exact Below.refl _ _ | (refine Below.alloc ?_ (by first | (simp [World.setCell]; done) | (simp [World.setCell]; omega)) _) | (refine Below.setCell ?_ (by first | (simp [World.setCell]; done) | (simp [World.setCell]; omega)) _) | refine Below.drew ?_)))⟩

set_option maxRecDepth 100000 in
set_option maxHeartbeats 4000000 in
set_option linter.unusedSimpArgs false in
theorem rcheck_5 (o n : Int) (s : ByteArray) (a1 a2 : Option Addr) (l1 l2 c1 c2 : Nat) (w : World) :
    Calls Try.prog 26 #[.agg #[.int .i64 5, .int .i64 o, .int .i64 n, .string s, .slice a1 l1 c1, .slice a2 l2 c2]] w fun e w' => e = .returned (.int .i64 (if chkM (mayOf 5) o n s l1 l2 then 0 else 2)) ∧ Below w.heap.size w w' := by
  obtain ⟨r, hr⟩ : ∃ r : Int, (if chkM (mayOf 5) o n s l1 l2 then (0 : Int) else 2) = r := ⟨_, rfl⟩
  rw [hr]
  have Hr := Lib.hid hr
  clear hr
  rcases h1 : decide (o < 0) with _ | _
  case true =>
    have Hv : Hid (r = 2) := Lib.hid (by rw [← Hr.out]; simp [chkM, mayOf, h1]; try (simp at h1; omega))
    go_enter Try.func26, Try.ntmps26
    go_wp2
    exact bodyPost_ret (v := .int .i64 2) (by simp [results, Try.results26, go_sem]) rfl ⟨by rw [Hv.out], by ((repeat (first | exact Below.refl _ _ | (refine Below.alloc ?_ (by first | (simp [World.setCell]; done) | (simp [World.setCell]; omega)) _) | (refine Below.setCell ?_ (by first | (simp [World.setCell]; done) | (simp [World.setCell]; omega)) _) | refine Below.drew ?_)))⟩
  rcases h2 : (o != 0) with _ | _
  case true =>
    have Hv : Hid (r = 2) := Lib.hid (by rw [← Hr.out]; simp [chkM, mayOf, h1, h2]; try (simp at h1 h2; omega))
    go_enter Try.func26, Try.ntmps26
    go_wp2
    exact bodyPost_ret (v := .int .i64 2) (by simp [results, Try.results26, go_sem]) rfl ⟨by rw [Hv.out], by ((repeat (first | exact Below.refl _ _ | (refine Below.alloc ?_ (by first | (simp [World.setCell]; done) | (simp [World.setCell]; omega)) _) | (refine Below.setCell ?_ (by first | (simp [World.setCell]; done) | (simp [World.setCell]; omega)) _) | refine Below.drew ?_)))⟩
  rcases h3 : decide (n < 0) with _ | _
  case true =>
    have Hv : Hid (r = 2) := Lib.hid (by rw [← Hr.out]; simp [chkM, mayOf, h1, h2, h3]; try (simp at h1 h2 h3; omega))
    go_enter Try.func26, Try.ntmps26
    go_wp2
    exact bodyPost_ret (v := .int .i64 2) (by simp [results, Try.results26, go_sem]) rfl ⟨by rw [Hv.out], by ((repeat (first | exact Below.refl _ _ | (refine Below.alloc ?_ (by first | (simp [World.setCell]; done) | (simp [World.setCell]; omega)) _) | (refine Below.setCell ?_ (by first | (simp [World.setCell]; done) | (simp [World.setCell]; omega)) _) | refine Below.drew ?_)))⟩
  rcases h4 : decide (1 < n) with _ | _
  case true =>
    have Hv : Hid (r = 2) := Lib.hid (by rw [← Hr.out]; simp [chkM, mayOf, h1, h2, h3, h4]; try (simp at h1 h2 h3 h4; omega))
    go_enter Try.func26, Try.ntmps26
    go_wp2
    exact bodyPost_ret (v := .int .i64 2) (by simp [results, Try.results26, go_sem]) rfl ⟨by rw [Hv.out], by ((repeat (first | exact Below.refl _ _ | (refine Below.alloc ?_ (by first | (simp [World.setCell]; done) | (simp [World.setCell]; omega)) _) | (refine Below.setCell ?_ (by first | (simp [World.setCell]; done) | (simp [World.setCell]; omega)) _) | refine Below.drew ?_)))⟩
  rcases h5 : (n != 0) with _ | _
  case true =>
    have Hv : Hid (r = 2) := Lib.hid (by rw [← Hr.out]; simp [chkM, mayOf, h1, h2, h3, h4, h5]; try (simp at h1 h2 h3 h4 h5; omega))
    go_enter Try.func26, Try.ntmps26
    go_wp2
    exact bodyPost_ret (v := .int .i64 2) (by simp [results, Try.results26, go_sem]) rfl ⟨by rw [Hv.out], by ((repeat (first | exact Below.refl _ _ | (refine Below.alloc ?_ (by first | (simp [World.setCell]; done) | (simp [World.setCell]; omega)) _) | (refine Below.setCell ?_ (by first | (simp [World.setCell]; done) | (simp [World.setCell]; omega)) _) | refine Below.drew ?_)))⟩
  rcases h6 : s.toList with _ | ⟨x, xs⟩
  case cons =>
    have Hv : Hid (r = 2) := Lib.hid (by rw [← Hr.out]; simp [chkM, mayOf, h1, h2, h3, h4, h5, h6]; try (simp at h1 h2 h3 h4 h5; omega))
    go_enter Try.func26, Try.ntmps26
    go_wp2
    exact bodyPost_ret (v := .int .i64 2) (by simp [results, Try.results26, go_sem]) rfl ⟨by rw [Hv.out], by ((repeat (first | exact Below.refl _ _ | (refine Below.alloc ?_ (by first | (simp [World.setCell]; done) | (simp [World.setCell]; omega)) _) | (refine Below.setCell ?_ (by first | (simp [World.setCell]; done) | (simp [World.setCell]; omega)) _) | refine Below.drew ?_)))⟩
  rcases h7 : ((l2 : Int) != 0) with _ | _
  case true =>
    have Hv : Hid (r = 2) := Lib.hid (by rw [← Hr.out]; simp [chkM, mayOf, h1, h2, h3, h4, h5, h6, h7]; try (simp at h1 h2 h3 h4 h5 h7; omega))
    go_enter Try.func26, Try.ntmps26
    go_wp2
    exact bodyPost_ret (v := .int .i64 2) (by simp [results, Try.results26, go_sem]) rfl ⟨by rw [Hv.out], by ((repeat (first | exact Below.refl _ _ | (refine Below.alloc ?_ (by first | (simp [World.setCell]; done) | (simp [World.setCell]; omega)) _) | (refine Below.setCell ?_ (by first | (simp [World.setCell]; done) | (simp [World.setCell]; omega)) _) | refine Below.drew ?_)))⟩
  rcases h8 : ((l1 : Int) == 1) with _ | _
  case false =>
    have Hv : Hid (r = 2) := Lib.hid (by rw [← Hr.out]; simp [chkM, mayOf, h1, h2, h3, h4, h5, h6, h7, h8]; try (simp at h1 h2 h3 h4 h5 h7 h8; omega))
    go_enter Try.func26, Try.ntmps26
    go_wp2
    exact bodyPost_ret (v := .int .i64 2) (by simp [results, Try.results26, go_sem]) rfl ⟨by rw [Hv.out], by ((repeat (first | exact Below.refl _ _ | (refine Below.alloc ?_ (by first | (simp [World.setCell]; done) | (simp [World.setCell]; omega)) _) | (refine Below.setCell ?_ (by first | (simp [World.setCell]; done) | (simp [World.setCell]; omega)) _) | refine Below.drew ?_)))⟩
  case true =>
    have Hv : Hid (r = 0) := Lib.hid (by rw [← Hr.out]; simp [chkM, mayOf, h1, h2, h3, h4, h5, h6, h7, h8]; try (simp at h1 h2 h3 h4 h5 h7 h8; omega))
    go_enter Try.func26, Try.ntmps26
    go_wp2
    exact bodyPost_ret (v := .int .i64 0) (by simp [results, Try.results26, go_sem]) rfl ⟨by rw [Hv.out], by ((repeat (first | exact Below.refl _ _ | (refine Below.alloc ?_ (by first | (simp [World.setCell]; done) | (simp [World.setCell]; omega)) _) | (refine Below.setCell ?_ (by first | (simp [World.setCell]; done) | (simp [World.setCell]; omega)) _) | refine Below.drew ?_)))⟩

set_option maxRecDepth 100000 in
set_option maxHeartbeats 4000000 in
set_option linter.unusedSimpArgs false in
theorem rcheck_6 (o n : Int) (s : ByteArray) (a1 a2 : Option Addr) (l1 l2 c1 c2 : Nat) (w : World) :
    Calls Try.prog 26 #[.agg #[.int .i64 6, .int .i64 o, .int .i64 n, .string s, .slice a1 l1 c1, .slice a2 l2 c2]] w fun e w' => e = .returned (.int .i64 (if chkM (mayOf 6) o n s l1 l2 then 0 else 2)) ∧ Below w.heap.size w w' := by
  obtain ⟨r, hr⟩ : ∃ r : Int, (if chkM (mayOf 6) o n s l1 l2 then (0 : Int) else 2) = r := ⟨_, rfl⟩
  rw [hr]
  have Hr := Lib.hid hr
  clear hr
  rcases h1 : decide (o < 0) with _ | _
  case true =>
    have Hv : Hid (r = 2) := Lib.hid (by rw [← Hr.out]; simp [chkM, mayOf, h1]; try (simp at h1; omega))
    go_enter Try.func26, Try.ntmps26
    go_wp2
    exact bodyPost_ret (v := .int .i64 2) (by simp [results, Try.results26, go_sem]) rfl ⟨by rw [Hv.out], by ((repeat (first | exact Below.refl _ _ | (refine Below.alloc ?_ (by first | (simp [World.setCell]; done) | (simp [World.setCell]; omega)) _) | (refine Below.setCell ?_ (by first | (simp [World.setCell]; done) | (simp [World.setCell]; omega)) _) | refine Below.drew ?_)))⟩
  rcases h2 : (o != 0) with _ | _
  case true =>
    have Hv : Hid (r = 2) := Lib.hid (by rw [← Hr.out]; simp [chkM, mayOf, h1, h2]; try (simp at h1 h2; omega))
    go_enter Try.func26, Try.ntmps26
    go_wp2
    exact bodyPost_ret (v := .int .i64 2) (by simp [results, Try.results26, go_sem]) rfl ⟨by rw [Hv.out], by ((repeat (first | exact Below.refl _ _ | (refine Below.alloc ?_ (by first | (simp [World.setCell]; done) | (simp [World.setCell]; omega)) _) | (refine Below.setCell ?_ (by first | (simp [World.setCell]; done) | (simp [World.setCell]; omega)) _) | refine Below.drew ?_)))⟩
  rcases h3 : decide (n < 0) with _ | _
  case true =>
    have Hv : Hid (r = 2) := Lib.hid (by rw [← Hr.out]; simp [chkM, mayOf, h1, h2, h3]; try (simp at h1 h2 h3; omega))
    go_enter Try.func26, Try.ntmps26
    go_wp2
    exact bodyPost_ret (v := .int .i64 2) (by simp [results, Try.results26, go_sem]) rfl ⟨by rw [Hv.out], by ((repeat (first | exact Below.refl _ _ | (refine Below.alloc ?_ (by first | (simp [World.setCell]; done) | (simp [World.setCell]; omega)) _) | (refine Below.setCell ?_ (by first | (simp [World.setCell]; done) | (simp [World.setCell]; omega)) _) | refine Below.drew ?_)))⟩
  rcases h4 : decide (1 < n) with _ | _
  case true =>
    have Hv : Hid (r = 2) := Lib.hid (by rw [← Hr.out]; simp [chkM, mayOf, h1, h2, h3, h4]; try (simp at h1 h2 h3 h4; omega))
    go_enter Try.func26, Try.ntmps26
    go_wp2
    exact bodyPost_ret (v := .int .i64 2) (by simp [results, Try.results26, go_sem]) rfl ⟨by rw [Hv.out], by ((repeat (first | exact Below.refl _ _ | (refine Below.alloc ?_ (by first | (simp [World.setCell]; done) | (simp [World.setCell]; omega)) _) | (refine Below.setCell ?_ (by first | (simp [World.setCell]; done) | (simp [World.setCell]; omega)) _) | refine Below.drew ?_)))⟩
  rcases h5 : (n != 0) with _ | _
  case true =>
    have Hv : Hid (r = 2) := Lib.hid (by rw [← Hr.out]; simp [chkM, mayOf, h1, h2, h3, h4, h5]; try (simp at h1 h2 h3 h4 h5; omega))
    go_enter Try.func26, Try.ntmps26
    go_wp2
    exact bodyPost_ret (v := .int .i64 2) (by simp [results, Try.results26, go_sem]) rfl ⟨by rw [Hv.out], by ((repeat (first | exact Below.refl _ _ | (refine Below.alloc ?_ (by first | (simp [World.setCell]; done) | (simp [World.setCell]; omega)) _) | (refine Below.setCell ?_ (by first | (simp [World.setCell]; done) | (simp [World.setCell]; omega)) _) | refine Below.drew ?_)))⟩
  rcases h6 : s.toList with _ | ⟨x, xs⟩
  case cons =>
    have Hv : Hid (r = 2) := Lib.hid (by rw [← Hr.out]; simp [chkM, mayOf, h1, h2, h3, h4, h5, h6]; try (simp at h1 h2 h3 h4 h5; omega))
    go_enter Try.func26, Try.ntmps26
    go_wp2
    exact bodyPost_ret (v := .int .i64 2) (by simp [results, Try.results26, go_sem]) rfl ⟨by rw [Hv.out], by ((repeat (first | exact Below.refl _ _ | (refine Below.alloc ?_ (by first | (simp [World.setCell]; done) | (simp [World.setCell]; omega)) _) | (refine Below.setCell ?_ (by first | (simp [World.setCell]; done) | (simp [World.setCell]; omega)) _) | refine Below.drew ?_)))⟩
  rcases h7 : ((l2 : Int) != 0) with _ | _
  case true =>
    have Hv : Hid (r = 2) := Lib.hid (by rw [← Hr.out]; simp [chkM, mayOf, h1, h2, h3, h4, h5, h6, h7]; try (simp at h1 h2 h3 h4 h5 h7; omega))
    go_enter Try.func26, Try.ntmps26
    go_wp2
    exact bodyPost_ret (v := .int .i64 2) (by simp [results, Try.results26, go_sem]) rfl ⟨by rw [Hv.out], by ((repeat (first | exact Below.refl _ _ | (refine Below.alloc ?_ (by first | (simp [World.setCell]; done) | (simp [World.setCell]; omega)) _) | (refine Below.setCell ?_ (by first | (simp [World.setCell]; done) | (simp [World.setCell]; omega)) _) | refine Below.drew ?_)))⟩
  rcases h8 : ((l1 : Int) == 0) with _ | _
  case false =>
    have Hv : Hid (r = 2) := Lib.hid (by rw [← Hr.out]; simp [chkM, mayOf, h1, h2, h3, h4, h5, h6, h7, h8]; try (simp at h1 h2 h3 h4 h5 h7 h8; omega))
    go_enter Try.func26, Try.ntmps26
    go_wp2
    exact bodyPost_ret (v := .int .i64 2) (by simp [results, Try.results26, go_sem]) rfl ⟨by rw [Hv.out], by ((repeat (first | exact Below.refl _ _ | (refine Below.alloc ?_ (by first | (simp [World.setCell]; done) | (simp [World.setCell]; omega)) _) | (refine Below.setCell ?_ (by first | (simp [World.setCell]; done) | (simp [World.setCell]; omega)) _) | refine Below.drew ?_)))⟩
  case true =>
    have Hv : Hid (r = 0) := Lib.hid (by rw [← Hr.out]; simp [chkM, mayOf, h1, h2, h3, h4, h5, h6, h7, h8]; try (simp at h1 h2 h3 h4 h5 h7 h8; omega))
    go_enter Try.func26, Try.ntmps26
    go_wp2
    exact bodyPost_ret (v := .int .i64 0) (by simp [results, Try.results26, go_sem]) rfl ⟨by rw [Hv.out], by ((repeat (first | exact Below.refl _ _ | (refine Below.alloc ?_ (by first | (simp [World.setCell]; done) | (simp [World.setCell]; omega)) _) | (refine Below.setCell ?_ (by first | (simp [World.setCell]; done) | (simp [World.setCell]; omega)) _) | refine Below.drew ?_)))⟩

set_option maxRecDepth 100000 in
set_option maxHeartbeats 4000000 in
set_option linter.unusedSimpArgs false in
theorem rcheck_7 (o n : Int) (s : ByteArray) (a1 a2 : Option Addr) (l1 l2 c1 c2 : Nat) (w : World) :
    Calls Try.prog 26 #[.agg #[.int .i64 7, .int .i64 o, .int .i64 n, .string s, .slice a1 l1 c1, .slice a2 l2 c2]] w fun e w' => e = .returned (.int .i64 (if chkM (mayOf 7) o n s l1 l2 then 0 else 2)) ∧ Below w.heap.size w w' := by
  obtain ⟨r, hr⟩ : ∃ r : Int, (if chkM (mayOf 7) o n s l1 l2 then (0 : Int) else 2) = r := ⟨_, rfl⟩
  rw [hr]
  have Hr := Lib.hid hr
  clear hr
  rcases h1 : decide (o < 0) with _ | _
  case true =>
    have Hv : Hid (r = 2) := Lib.hid (by rw [← Hr.out]; simp [chkM, mayOf, h1]; try (simp at h1; omega))
    go_enter Try.func26, Try.ntmps26
    go_wp2
    exact bodyPost_ret (v := .int .i64 2) (by simp [results, Try.results26, go_sem]) rfl ⟨by rw [Hv.out], by ((repeat (first | exact Below.refl _ _ | (refine Below.alloc ?_ (by first | (simp [World.setCell]; done) | (simp [World.setCell]; omega)) _) | (refine Below.setCell ?_ (by first | (simp [World.setCell]; done) | (simp [World.setCell]; omega)) _) | refine Below.drew ?_)))⟩
  rcases h2 : (o != 0) with _ | _
  case true =>
    have Hv : Hid (r = 2) := Lib.hid (by rw [← Hr.out]; simp [chkM, mayOf, h1, h2]; try (simp at h1 h2; omega))
    go_enter Try.func26, Try.ntmps26
    go_wp2
    exact bodyPost_ret (v := .int .i64 2) (by simp [results, Try.results26, go_sem]) rfl ⟨by rw [Hv.out], by ((repeat (first | exact Below.refl _ _ | (refine Below.alloc ?_ (by first | (simp [World.setCell]; done) | (simp [World.setCell]; omega)) _) | (refine Below.setCell ?_ (by first | (simp [World.setCell]; done) | (simp [World.setCell]; omega)) _) | refine Below.drew ?_)))⟩
  rcases h3 : decide (n < 0) with _ | _
  case true =>
    have Hv : Hid (r = 2) := Lib.hid (by rw [← Hr.out]; simp [chkM, mayOf, h1, h2, h3]; try (simp at h1 h2 h3; omega))
    go_enter Try.func26, Try.ntmps26
    go_wp2
    exact bodyPost_ret (v := .int .i64 2) (by simp [results, Try.results26, go_sem]) rfl ⟨by rw [Hv.out], by ((repeat (first | exact Below.refl _ _ | (refine Below.alloc ?_ (by first | (simp [World.setCell]; done) | (simp [World.setCell]; omega)) _) | (refine Below.setCell ?_ (by first | (simp [World.setCell]; done) | (simp [World.setCell]; omega)) _) | refine Below.drew ?_)))⟩
  rcases h4 : decide (1 < n) with _ | _
  case true =>
    have Hv : Hid (r = 2) := Lib.hid (by rw [← Hr.out]; simp [chkM, mayOf, h1, h2, h3, h4]; try (simp at h1 h2 h3 h4; omega))
    go_enter Try.func26, Try.ntmps26
    go_wp2
    exact bodyPost_ret (v := .int .i64 2) (by simp [results, Try.results26, go_sem]) rfl ⟨by rw [Hv.out], by ((repeat (first | exact Below.refl _ _ | (refine Below.alloc ?_ (by first | (simp [World.setCell]; done) | (simp [World.setCell]; omega)) _) | (refine Below.setCell ?_ (by first | (simp [World.setCell]; done) | (simp [World.setCell]; omega)) _) | refine Below.drew ?_)))⟩
  rcases h7 : ((l2 : Int) != 0) with _ | _
  case true =>
    have Hv : Hid (r = 2) := Lib.hid (by rw [← Hr.out]; simp [chkM, mayOf, h1, h2, h3, h4, h7]; try (simp at h1 h2 h3 h4 h7; omega))
    go_enter Try.func26, Try.ntmps26
    go_wp2
    exact bodyPost_ret (v := .int .i64 2) (by simp [results, Try.results26, go_sem]) rfl ⟨by rw [Hv.out], by ((repeat (first | exact Below.refl _ _ | (refine Below.alloc ?_ (by first | (simp [World.setCell]; done) | (simp [World.setCell]; omega)) _) | (refine Below.setCell ?_ (by first | (simp [World.setCell]; done) | (simp [World.setCell]; omega)) _) | refine Below.drew ?_)))⟩
  rcases h8 : ((l1 : Int) == n) with _ | _
  case false =>
    have Hv : Hid (r = 2) := Lib.hid (by rw [← Hr.out]; simp [chkM, mayOf, h1, h2, h3, h4, h7, h8]; try (simp at h1 h2 h3 h4 h7 h8; omega))
    go_enter Try.func26, Try.ntmps26
    go_wp2
    exact bodyPost_ret (v := .int .i64 2) (by simp [results, Try.results26, go_sem]) rfl ⟨by rw [Hv.out], by ((repeat (first | exact Below.refl _ _ | (refine Below.alloc ?_ (by first | (simp [World.setCell]; done) | (simp [World.setCell]; omega)) _) | (refine Below.setCell ?_ (by first | (simp [World.setCell]; done) | (simp [World.setCell]; omega)) _) | refine Below.drew ?_)))⟩
  case true =>
    have Hv : Hid (r = 0) := Lib.hid (by rw [← Hr.out]; simp [chkM, mayOf, h1, h2, h3, h4, h7, h8]; try (simp at h1 h2 h3 h4 h7 h8; omega))
    go_enter Try.func26, Try.ntmps26
    go_wp2
    exact bodyPost_ret (v := .int .i64 0) (by simp [results, Try.results26, go_sem]) rfl ⟨by rw [Hv.out], by ((repeat (first | exact Below.refl _ _ | (refine Below.alloc ?_ (by first | (simp [World.setCell]; done) | (simp [World.setCell]; omega)) _) | (refine Below.setCell ?_ (by first | (simp [World.setCell]; done) | (simp [World.setCell]; omega)) _) | refine Below.drew ?_)))⟩

set_option maxRecDepth 100000 in
set_option maxHeartbeats 4000000 in
set_option linter.unusedSimpArgs false in
theorem rcheck_8 (o n : Int) (s : ByteArray) (a1 a2 : Option Addr) (l1 l2 c1 c2 : Nat) (w : World) :
    Calls Try.prog 26 #[.agg #[.int .i64 8, .int .i64 o, .int .i64 n, .string s, .slice a1 l1 c1, .slice a2 l2 c2]] w fun e w' => e = .returned (.int .i64 (if chkM (mayOf 8) o n s l1 l2 then 0 else 2)) ∧ Below w.heap.size w w' := by
  obtain ⟨r, hr⟩ : ∃ r : Int, (if chkM (mayOf 8) o n s l1 l2 then (0 : Int) else 2) = r := ⟨_, rfl⟩
  rw [hr]
  have Hr := Lib.hid hr
  clear hr
  rcases h1 : decide (o < 0) with _ | _
  case true =>
    have Hv : Hid (r = 2) := Lib.hid (by rw [← Hr.out]; simp [chkM, mayOf, h1]; try (simp at h1; omega))
    go_enter Try.func26, Try.ntmps26
    go_wp2
    exact bodyPost_ret (v := .int .i64 2) (by simp [results, Try.results26, go_sem]) rfl ⟨by rw [Hv.out], by ((repeat (first | exact Below.refl _ _ | (refine Below.alloc ?_ (by first | (simp [World.setCell]; done) | (simp [World.setCell]; omega)) _) | (refine Below.setCell ?_ (by first | (simp [World.setCell]; done) | (simp [World.setCell]; omega)) _) | refine Below.drew ?_)))⟩
  rcases h2 : (o != 0) with _ | _
  case true =>
    have Hv : Hid (r = 2) := Lib.hid (by rw [← Hr.out]; simp [chkM, mayOf, h1, h2]; try (simp at h1 h2; omega))
    go_enter Try.func26, Try.ntmps26
    go_wp2
    exact bodyPost_ret (v := .int .i64 2) (by simp [results, Try.results26, go_sem]) rfl ⟨by rw [Hv.out], by ((repeat (first | exact Below.refl _ _ | (refine Below.alloc ?_ (by first | (simp [World.setCell]; done) | (simp [World.setCell]; omega)) _) | (refine Below.setCell ?_ (by first | (simp [World.setCell]; done) | (simp [World.setCell]; omega)) _) | refine Below.drew ?_)))⟩
  rcases h3 : decide (n < 0) with _ | _
  case true =>
    have Hv : Hid (r = 2) := Lib.hid (by rw [← Hr.out]; simp [chkM, mayOf, h1, h2, h3]; try (simp at h1 h2 h3; omega))
    go_enter Try.func26, Try.ntmps26
    go_wp2
    exact bodyPost_ret (v := .int .i64 2) (by simp [results, Try.results26, go_sem]) rfl ⟨by rw [Hv.out], by ((repeat (first | exact Below.refl _ _ | (refine Below.alloc ?_ (by first | (simp [World.setCell]; done) | (simp [World.setCell]; omega)) _) | (refine Below.setCell ?_ (by first | (simp [World.setCell]; done) | (simp [World.setCell]; omega)) _) | refine Below.drew ?_)))⟩
  rcases h4 : decide (1 < n) with _ | _
  case true =>
    have Hv : Hid (r = 2) := Lib.hid (by rw [← Hr.out]; simp [chkM, mayOf, h1, h2, h3, h4]; try (simp at h1 h2 h3 h4; omega))
    go_enter Try.func26, Try.ntmps26
    go_wp2
    exact bodyPost_ret (v := .int .i64 2) (by simp [results, Try.results26, go_sem]) rfl ⟨by rw [Hv.out], by ((repeat (first | exact Below.refl _ _ | (refine Below.alloc ?_ (by first | (simp [World.setCell]; done) | (simp [World.setCell]; omega)) _) | (refine Below.setCell ?_ (by first | (simp [World.setCell]; done) | (simp [World.setCell]; omega)) _) | refine Below.drew ?_)))⟩
  rcases h5 : (n != 0) with _ | _
  case true =>
    have Hv : Hid (r = 2) := Lib.hid (by rw [← Hr.out]; simp [chkM, mayOf, h1, h2, h3, h4, h5]; try (simp at h1 h2 h3 h4 h5; omega))
    go_enter Try.func26, Try.ntmps26
    go_wp2
    exact bodyPost_ret (v := .int .i64 2) (by simp [results, Try.results26, go_sem]) rfl ⟨by rw [Hv.out], by ((repeat (first | exact Below.refl _ _ | (refine Below.alloc ?_ (by first | (simp [World.setCell]; done) | (simp [World.setCell]; omega)) _) | (refine Below.setCell ?_ (by first | (simp [World.setCell]; done) | (simp [World.setCell]; omega)) _) | refine Below.drew ?_)))⟩
  rcases h6 : s.toList with _ | ⟨x, xs⟩
  case cons =>
    have Hv : Hid (r = 2) := Lib.hid (by rw [← Hr.out]; simp [chkM, mayOf, h1, h2, h3, h4, h5, h6]; try (simp at h1 h2 h3 h4 h5; omega))
    go_enter Try.func26, Try.ntmps26
    go_wp2
    exact bodyPost_ret (v := .int .i64 2) (by simp [results, Try.results26, go_sem]) rfl ⟨by rw [Hv.out], by ((repeat (first | exact Below.refl _ _ | (refine Below.alloc ?_ (by first | (simp [World.setCell]; done) | (simp [World.setCell]; omega)) _) | (refine Below.setCell ?_ (by first | (simp [World.setCell]; done) | (simp [World.setCell]; omega)) _) | refine Below.drew ?_)))⟩
  rcases h7 : ((l2 : Int) != 0) with _ | _
  case true =>
    have Hv : Hid (r = 2) := Lib.hid (by rw [← Hr.out]; simp [chkM, mayOf, h1, h2, h3, h4, h5, h6, h7]; try (simp at h1 h2 h3 h4 h5 h7; omega))
    go_enter Try.func26, Try.ntmps26
    go_wp2
    exact bodyPost_ret (v := .int .i64 2) (by simp [results, Try.results26, go_sem]) rfl ⟨by rw [Hv.out], by ((repeat (first | exact Below.refl _ _ | (refine Below.alloc ?_ (by first | (simp [World.setCell]; done) | (simp [World.setCell]; omega)) _) | (refine Below.setCell ?_ (by first | (simp [World.setCell]; done) | (simp [World.setCell]; omega)) _) | refine Below.drew ?_)))⟩
  rcases h8 : ((l1 : Int) == 0) with _ | _
  case false =>
    have Hv : Hid (r = 2) := Lib.hid (by rw [← Hr.out]; simp [chkM, mayOf, h1, h2, h3, h4, h5, h6, h7, h8]; try (simp at h1 h2 h3 h4 h5 h7 h8; omega))
    go_enter Try.func26, Try.ntmps26
    go_wp2
    exact bodyPost_ret (v := .int .i64 2) (by simp [results, Try.results26, go_sem]) rfl ⟨by rw [Hv.out], by ((repeat (first | exact Below.refl _ _ | (refine Below.alloc ?_ (by first | (simp [World.setCell]; done) | (simp [World.setCell]; omega)) _) | (refine Below.setCell ?_ (by first | (simp [World.setCell]; done) | (simp [World.setCell]; omega)) _) | refine Below.drew ?_)))⟩
  case true =>
    have Hv : Hid (r = 0) := Lib.hid (by rw [← Hr.out]; simp [chkM, mayOf, h1, h2, h3, h4, h5, h6, h7, h8]; try (simp at h1 h2 h3 h4 h5 h7 h8; omega))
    go_enter Try.func26, Try.ntmps26
    go_wp2
    exact bodyPost_ret (v := .int .i64 0) (by simp [results, Try.results26, go_sem]) rfl ⟨by rw [Hv.out], by ((repeat (first | exact Below.refl _ _ | (refine Below.alloc ?_ (by first | (simp [World.setCell]; done) | (simp [World.setCell]; omega)) _) | (refine Below.setCell ?_ (by first | (simp [World.setCell]; done) | (simp [World.setCell]; omega)) _) | refine Below.drew ?_)))⟩

set_option maxRecDepth 100000 in
set_option maxHeartbeats 4000000 in
set_option linter.unusedSimpArgs false in
theorem rcheck_9 (o n : Int) (s : ByteArray) (a1 a2 : Option Addr) (l1 l2 c1 c2 : Nat) (w : World) :
    Calls Try.prog 26 #[.agg #[.int .i64 9, .int .i64 o, .int .i64 n, .string s, .slice a1 l1 c1, .slice a2 l2 c2]] w fun e w' => e = .returned (.int .i64 (if chkM (mayOf 9) o n s l1 l2 then 0 else 2)) ∧ Below w.heap.size w w' := by
  obtain ⟨r, hr⟩ : ∃ r : Int, (if chkM (mayOf 9) o n s l1 l2 then (0 : Int) else 2) = r := ⟨_, rfl⟩
  rw [hr]
  have Hr := Lib.hid hr
  clear hr
  rcases h1 : decide (o < 0) with _ | _
  case true =>
    have Hv : Hid (r = 2) := Lib.hid (by rw [← Hr.out]; simp [chkM, mayOf, h1]; try (simp at h1; omega))
    go_enter Try.func26, Try.ntmps26
    go_wp2
    exact bodyPost_ret (v := .int .i64 2) (by simp [results, Try.results26, go_sem]) rfl ⟨by rw [Hv.out], by ((repeat (first | exact Below.refl _ _ | (refine Below.alloc ?_ (by first | (simp [World.setCell]; done) | (simp [World.setCell]; omega)) _) | (refine Below.setCell ?_ (by first | (simp [World.setCell]; done) | (simp [World.setCell]; omega)) _) | refine Below.drew ?_)))⟩
  rcases h2 : (o != 0) with _ | _
  case true =>
    have Hv : Hid (r = 2) := Lib.hid (by rw [← Hr.out]; simp [chkM, mayOf, h1, h2]; try (simp at h1 h2; omega))
    go_enter Try.func26, Try.ntmps26
    go_wp2
    exact bodyPost_ret (v := .int .i64 2) (by simp [results, Try.results26, go_sem]) rfl ⟨by rw [Hv.out], by ((repeat (first | exact Below.refl _ _ | (refine Below.alloc ?_ (by first | (simp [World.setCell]; done) | (simp [World.setCell]; omega)) _) | (refine Below.setCell ?_ (by first | (simp [World.setCell]; done) | (simp [World.setCell]; omega)) _) | refine Below.drew ?_)))⟩
  rcases h3 : decide (n < 0) with _ | _
  case true =>
    have Hv : Hid (r = 2) := Lib.hid (by rw [← Hr.out]; simp [chkM, mayOf, h1, h2, h3]; try (simp at h1 h2 h3; omega))
    go_enter Try.func26, Try.ntmps26
    go_wp2
    exact bodyPost_ret (v := .int .i64 2) (by simp [results, Try.results26, go_sem]) rfl ⟨by rw [Hv.out], by ((repeat (first | exact Below.refl _ _ | (refine Below.alloc ?_ (by first | (simp [World.setCell]; done) | (simp [World.setCell]; omega)) _) | (refine Below.setCell ?_ (by first | (simp [World.setCell]; done) | (simp [World.setCell]; omega)) _) | refine Below.drew ?_)))⟩
  rcases h4 : decide (1 < n) with _ | _
  case true =>
    have Hv : Hid (r = 2) := Lib.hid (by rw [← Hr.out]; simp [chkM, mayOf, h1, h2, h3, h4]; try (simp at h1 h2 h3 h4; omega))
    go_enter Try.func26, Try.ntmps26
    go_wp2
    exact bodyPost_ret (v := .int .i64 2) (by simp [results, Try.results26, go_sem]) rfl ⟨by rw [Hv.out], by ((repeat (first | exact Below.refl _ _ | (refine Below.alloc ?_ (by first | (simp [World.setCell]; done) | (simp [World.setCell]; omega)) _) | (refine Below.setCell ?_ (by first | (simp [World.setCell]; done) | (simp [World.setCell]; omega)) _) | refine Below.drew ?_)))⟩
  rcases h5 : (n != 0) with _ | _
  case true =>
    have Hv : Hid (r = 2) := Lib.hid (by rw [← Hr.out]; simp [chkM, mayOf, h1, h2, h3, h4, h5]; try (simp at h1 h2 h3 h4 h5; omega))
    go_enter Try.func26, Try.ntmps26
    go_wp2
    exact bodyPost_ret (v := .int .i64 2) (by simp [results, Try.results26, go_sem]) rfl ⟨by rw [Hv.out], by ((repeat (first | exact Below.refl _ _ | (refine Below.alloc ?_ (by first | (simp [World.setCell]; done) | (simp [World.setCell]; omega)) _) | (refine Below.setCell ?_ (by first | (simp [World.setCell]; done) | (simp [World.setCell]; omega)) _) | refine Below.drew ?_)))⟩
  rcases h6 : s.toList with _ | ⟨x, xs⟩
  case cons =>
    have Hv : Hid (r = 2) := Lib.hid (by rw [← Hr.out]; simp [chkM, mayOf, h1, h2, h3, h4, h5, h6]; try (simp at h1 h2 h3 h4 h5; omega))
    go_enter Try.func26, Try.ntmps26
    go_wp2
    exact bodyPost_ret (v := .int .i64 2) (by simp [results, Try.results26, go_sem]) rfl ⟨by rw [Hv.out], by ((repeat (first | exact Below.refl _ _ | (refine Below.alloc ?_ (by first | (simp [World.setCell]; done) | (simp [World.setCell]; omega)) _) | (refine Below.setCell ?_ (by first | (simp [World.setCell]; done) | (simp [World.setCell]; omega)) _) | refine Below.drew ?_)))⟩
  rcases h7 : ((l2 : Int) != 0) with _ | _
  case true =>
    have Hv : Hid (r = 2) := Lib.hid (by rw [← Hr.out]; simp [chkM, mayOf, h1, h2, h3, h4, h5, h6, h7]; try (simp at h1 h2 h3 h4 h5 h7; omega))
    go_enter Try.func26, Try.ntmps26
    go_wp2
    exact bodyPost_ret (v := .int .i64 2) (by simp [results, Try.results26, go_sem]) rfl ⟨by rw [Hv.out], by ((repeat (first | exact Below.refl _ _ | (refine Below.alloc ?_ (by first | (simp [World.setCell]; done) | (simp [World.setCell]; omega)) _) | (refine Below.setCell ?_ (by first | (simp [World.setCell]; done) | (simp [World.setCell]; omega)) _) | refine Below.drew ?_)))⟩
  rcases h8 : ((l1 : Int) == 1) with _ | _
  case false =>
    have Hv : Hid (r = 2) := Lib.hid (by rw [← Hr.out]; simp [chkM, mayOf, h1, h2, h3, h4, h5, h6, h7, h8]; try (simp at h1 h2 h3 h4 h5 h7 h8; omega))
    go_enter Try.func26, Try.ntmps26
    go_wp2
    exact bodyPost_ret (v := .int .i64 2) (by simp [results, Try.results26, go_sem]) rfl ⟨by rw [Hv.out], by ((repeat (first | exact Below.refl _ _ | (refine Below.alloc ?_ (by first | (simp [World.setCell]; done) | (simp [World.setCell]; omega)) _) | (refine Below.setCell ?_ (by first | (simp [World.setCell]; done) | (simp [World.setCell]; omega)) _) | refine Below.drew ?_)))⟩
  case true =>
    have Hv : Hid (r = 0) := Lib.hid (by rw [← Hr.out]; simp [chkM, mayOf, h1, h2, h3, h4, h5, h6, h7, h8]; try (simp at h1 h2 h3 h4 h5 h7 h8; omega))
    go_enter Try.func26, Try.ntmps26
    go_wp2
    exact bodyPost_ret (v := .int .i64 0) (by simp [results, Try.results26, go_sem]) rfl ⟨by rw [Hv.out], by ((repeat (first | exact Below.refl _ _ | (refine Below.alloc ?_ (by first | (simp [World.setCell]; done) | (simp [World.setCell]; omega)) _) | (refine Below.setCell ?_ (by first | (simp [World.setCell]; done) | (simp [World.setCell]; omega)) _) | refine Below.drew ?_)))⟩

set_option maxRecDepth 100000 in
set_option maxHeartbeats 4000000 in
set_option linter.unusedSimpArgs false in
theorem rcheck_10 (o n : Int) (s : ByteArray) (a1 a2 : Option Addr) (l1 l2 c1 c2 : Nat) (w : World) :
    Calls Try.prog 26 #[.agg #[.int .i64 10, .int .i64 o, .int .i64 n, .string s, .slice a1 l1 c1, .slice a2 l2 c2]] w fun e w' => e = .returned (.int .i64 (if chkM (mayOf 10) o n s l1 l2 then 0 else 2)) ∧ Below w.heap.size w w' := by
  obtain ⟨r, hr⟩ : ∃ r : Int, (if chkM (mayOf 10) o n s l1 l2 then (0 : Int) else 2) = r := ⟨_, rfl⟩
  rw [hr]
  have Hr := Lib.hid hr
  clear hr
  rcases h1 : decide (o < 0) with _ | _
  case true =>
    have Hv : Hid (r = 2) := Lib.hid (by rw [← Hr.out]; simp [chkM, mayOf, h1]; try (simp at h1; omega))
    go_enter Try.func26, Try.ntmps26
    go_wp2
    exact bodyPost_ret (v := .int .i64 2) (by simp [results, Try.results26, go_sem]) rfl ⟨by rw [Hv.out], by ((repeat (first | exact Below.refl _ _ | (refine Below.alloc ?_ (by first | (simp [World.setCell]; done) | (simp [World.setCell]; omega)) _) | (refine Below.setCell ?_ (by first | (simp [World.setCell]; done) | (simp [World.setCell]; omega)) _) | refine Below.drew ?_)))⟩
  rcases h2 : (o != 0) with _ | _
  case true =>
    have Hv : Hid (r = 2) := Lib.hid (by rw [← Hr.out]; simp [chkM, mayOf, h1, h2]; try (simp at h1 h2; omega))
    go_enter Try.func26, Try.ntmps26
    go_wp2
    exact bodyPost_ret (v := .int .i64 2) (by simp [results, Try.results26, go_sem]) rfl ⟨by rw [Hv.out], by ((repeat (first | exact Below.refl _ _ | (refine Below.alloc ?_ (by first | (simp [World.setCell]; done) | (simp [World.setCell]; omega)) _) | (refine Below.setCell ?_ (by first | (simp [World.setCell]; done) | (simp [World.setCell]; omega)) _) | refine Below.drew ?_)))⟩
  rcases h3 : decide (n < 0) with _ | _
  case true =>
    have Hv : Hid (r = 2) := Lib.hid (by rw [← Hr.out]; simp [chkM, mayOf, h1, h2, h3]; try (simp at h1 h2 h3; omega))
    go_enter Try.func26, Try.ntmps26
    go_wp2
    exact bodyPost_ret (v := .int .i64 2) (by simp [results, Try.results26, go_sem]) rfl ⟨by rw [Hv.out], by ((repeat (first | exact Below.refl _ _ | (refine Below.alloc ?_ (by first | (simp [World.setCell]; done) | (simp [World.setCell]; omega)) _) | (refine Below.setCell ?_ (by first | (simp [World.setCell]; done) | (simp [World.setCell]; omega)) _) | refine Below.drew ?_)))⟩
  rcases h4 : decide (1 < n) with _ | _
  case true =>
    have Hv : Hid (r = 2) := Lib.hid (by rw [← Hr.out]; simp [chkM, mayOf, h1, h2, h3, h4]; try (simp at h1 h2 h3 h4; omega))
    go_enter Try.func26, Try.ntmps26
    go_wp2
    exact bodyPost_ret (v := .int .i64 2) (by simp [results, Try.results26, go_sem]) rfl ⟨by rw [Hv.out], by ((repeat (first | exact Below.refl _ _ | (refine Below.alloc ?_ (by first | (simp [World.setCell]; done) | (simp [World.setCell]; omega)) _) | (refine Below.setCell ?_ (by first | (simp [World.setCell]; done) | (simp [World.setCell]; omega)) _) | refine Below.drew ?_)))⟩
  rcases h5 : (n != 0) with _ | _
  case true =>
    have Hv : Hid (r = 2) := Lib.hid (by rw [← Hr.out]; simp [chkM, mayOf, h1, h2, h3, h4, h5]; try (simp at h1 h2 h3 h4 h5; omega))
    go_enter Try.func26, Try.ntmps26
    go_wp2
    exact bodyPost_ret (v := .int .i64 2) (by simp [results, Try.results26, go_sem]) rfl ⟨by rw [Hv.out], by ((repeat (first | exact Below.refl _ _ | (refine Below.alloc ?_ (by first | (simp [World.setCell]; done) | (simp [World.setCell]; omega)) _) | (refine Below.setCell ?_ (by first | (simp [World.setCell]; done) | (simp [World.setCell]; omega)) _) | refine Below.drew ?_)))⟩
  rcases h6 : s.toList with _ | ⟨x, xs⟩
  case cons =>
    have Hv : Hid (r = 2) := Lib.hid (by rw [← Hr.out]; simp [chkM, mayOf, h1, h2, h3, h4, h5, h6]; try (simp at h1 h2 h3 h4 h5; omega))
    go_enter Try.func26, Try.ntmps26
    go_wp2
    exact bodyPost_ret (v := .int .i64 2) (by simp [results, Try.results26, go_sem]) rfl ⟨by rw [Hv.out], by ((repeat (first | exact Below.refl _ _ | (refine Below.alloc ?_ (by first | (simp [World.setCell]; done) | (simp [World.setCell]; omega)) _) | (refine Below.setCell ?_ (by first | (simp [World.setCell]; done) | (simp [World.setCell]; omega)) _) | refine Below.drew ?_)))⟩
  rcases h7 : ((l2 : Int) != 0) with _ | _
  case true =>
    have Hv : Hid (r = 2) := Lib.hid (by rw [← Hr.out]; simp [chkM, mayOf, h1, h2, h3, h4, h5, h6, h7]; try (simp at h1 h2 h3 h4 h5 h7; omega))
    go_enter Try.func26, Try.ntmps26
    go_wp2
    exact bodyPost_ret (v := .int .i64 2) (by simp [results, Try.results26, go_sem]) rfl ⟨by rw [Hv.out], by ((repeat (first | exact Below.refl _ _ | (refine Below.alloc ?_ (by first | (simp [World.setCell]; done) | (simp [World.setCell]; omega)) _) | (refine Below.setCell ?_ (by first | (simp [World.setCell]; done) | (simp [World.setCell]; omega)) _) | refine Below.drew ?_)))⟩
  rcases h8 : ((l1 : Int) == 0) with _ | _
  case false =>
    have Hv : Hid (r = 2) := Lib.hid (by rw [← Hr.out]; simp [chkM, mayOf, h1, h2, h3, h4, h5, h6, h7, h8]; try (simp at h1 h2 h3 h4 h5 h7 h8; omega))
    go_enter Try.func26, Try.ntmps26
    go_wp2
    exact bodyPost_ret (v := .int .i64 2) (by simp [results, Try.results26, go_sem]) rfl ⟨by rw [Hv.out], by ((repeat (first | exact Below.refl _ _ | (refine Below.alloc ?_ (by first | (simp [World.setCell]; done) | (simp [World.setCell]; omega)) _) | (refine Below.setCell ?_ (by first | (simp [World.setCell]; done) | (simp [World.setCell]; omega)) _) | refine Below.drew ?_)))⟩
  case true =>
    have Hv : Hid (r = 0) := Lib.hid (by rw [← Hr.out]; simp [chkM, mayOf, h1, h2, h3, h4, h5, h6, h7, h8]; try (simp at h1 h2 h3 h4 h5 h7 h8; omega))
    go_enter Try.func26, Try.ntmps26
    go_wp2
    exact bodyPost_ret (v := .int .i64 0) (by simp [results, Try.results26, go_sem]) rfl ⟨by rw [Hv.out], by ((repeat (first | exact Below.refl _ _ | (refine Below.alloc ?_ (by first | (simp [World.setCell]; done) | (simp [World.setCell]; omega)) _) | (refine Below.setCell ?_ (by first | (simp [World.setCell]; done) | (simp [World.setCell]; omega)) _) | refine Below.drew ?_)))⟩

set_option maxRecDepth 100000 in
set_option maxHeartbeats 4000000 in
set_option linter.unusedSimpArgs false in
theorem rcheck_11 (o n : Int) (s : ByteArray) (a1 a2 : Option Addr) (l1 l2 c1 c2 : Nat) (w : World) :
    Calls Try.prog 26 #[.agg #[.int .i64 11, .int .i64 o, .int .i64 n, .string s, .slice a1 l1 c1, .slice a2 l2 c2]] w fun e w' => e = .returned (.int .i64 (if chkM (mayOf 11) o n s l1 l2 then 0 else 2)) ∧ Below w.heap.size w w' := by
  obtain ⟨r, hr⟩ : ∃ r : Int, (if chkM (mayOf 11) o n s l1 l2 then (0 : Int) else 2) = r := ⟨_, rfl⟩
  rw [hr]
  have Hr := Lib.hid hr
  clear hr
  rcases h1 : decide (o < 0) with _ | _
  case true =>
    have Hv : Hid (r = 2) := Lib.hid (by rw [← Hr.out]; simp [chkM, mayOf, h1]; try (simp at h1; omega))
    go_enter Try.func26, Try.ntmps26
    go_wp2
    exact bodyPost_ret (v := .int .i64 2) (by simp [results, Try.results26, go_sem]) rfl ⟨by rw [Hv.out], by ((repeat (first | exact Below.refl _ _ | (refine Below.alloc ?_ (by first | (simp [World.setCell]; done) | (simp [World.setCell]; omega)) _) | (refine Below.setCell ?_ (by first | (simp [World.setCell]; done) | (simp [World.setCell]; omega)) _) | refine Below.drew ?_)))⟩
  rcases h2 : (o != 0) with _ | _
  case true =>
    have Hv : Hid (r = 2) := Lib.hid (by rw [← Hr.out]; simp [chkM, mayOf, h1, h2]; try (simp at h1 h2; omega))
    go_enter Try.func26, Try.ntmps26
    go_wp2
    exact bodyPost_ret (v := .int .i64 2) (by simp [results, Try.results26, go_sem]) rfl ⟨by rw [Hv.out], by ((repeat (first | exact Below.refl _ _ | (refine Below.alloc ?_ (by first | (simp [World.setCell]; done) | (simp [World.setCell]; omega)) _) | (refine Below.setCell ?_ (by first | (simp [World.setCell]; done) | (simp [World.setCell]; omega)) _) | refine Below.drew ?_)))⟩
  rcases h3 : decide (n < 0) with _ | _
  case true =>
    have Hv : Hid (r = 2) := Lib.hid (by rw [← Hr.out]; simp [chkM, mayOf, h1, h2, h3]; try (simp at h1 h2 h3; omega))
    go_enter Try.func26, Try.ntmps26
    go_wp2
    exact bodyPost_ret (v := .int .i64 2) (by simp [results, Try.results26, go_sem]) rfl ⟨by rw [Hv.out], by ((repeat (first | exact Below.refl _ _ | (refine Below.alloc ?_ (by first | (simp [World.setCell]; done) | (simp [World.setCell]; omega)) _) | (refine Below.setCell ?_ (by first | (simp [World.setCell]; done) | (simp [World.setCell]; omega)) _) | refine Below.drew ?_)))⟩
  rcases h4 : decide (1 < n) with _ | _
  case true =>
    have Hv : Hid (r = 2) := Lib.hid (by rw [← Hr.out]; simp [chkM, mayOf, h1, h2, h3, h4]; try (simp at h1 h2 h3 h4; omega))
    go_enter Try.func26, Try.ntmps26
    go_wp2
    exact bodyPost_ret (v := .int .i64 2) (by simp [results, Try.results26, go_sem]) rfl ⟨by rw [Hv.out], by ((repeat (first | exact Below.refl _ _ | (refine Below.alloc ?_ (by first | (simp [World.setCell]; done) | (simp [World.setCell]; omega)) _) | (refine Below.setCell ?_ (by first | (simp [World.setCell]; done) | (simp [World.setCell]; omega)) _) | refine Below.drew ?_)))⟩
  rcases h5 : (n != 0) with _ | _
  case true =>
    have Hv : Hid (r = 2) := Lib.hid (by rw [← Hr.out]; simp [chkM, mayOf, h1, h2, h3, h4, h5]; try (simp at h1 h2 h3 h4 h5; omega))
    go_enter Try.func26, Try.ntmps26
    go_wp2
    exact bodyPost_ret (v := .int .i64 2) (by simp [results, Try.results26, go_sem]) rfl ⟨by rw [Hv.out], by ((repeat (first | exact Below.refl _ _ | (refine Below.alloc ?_ (by first | (simp [World.setCell]; done) | (simp [World.setCell]; omega)) _) | (refine Below.setCell ?_ (by first | (simp [World.setCell]; done) | (simp [World.setCell]; omega)) _) | refine Below.drew ?_)))⟩
  rcases h6 : s.toList with _ | ⟨x, xs⟩
  case cons =>
    have Hv : Hid (r = 2) := Lib.hid (by rw [← Hr.out]; simp [chkM, mayOf, h1, h2, h3, h4, h5, h6]; try (simp at h1 h2 h3 h4 h5; omega))
    go_enter Try.func26, Try.ntmps26
    go_wp2
    exact bodyPost_ret (v := .int .i64 2) (by simp [results, Try.results26, go_sem]) rfl ⟨by rw [Hv.out], by ((repeat (first | exact Below.refl _ _ | (refine Below.alloc ?_ (by first | (simp [World.setCell]; done) | (simp [World.setCell]; omega)) _) | (refine Below.setCell ?_ (by first | (simp [World.setCell]; done) | (simp [World.setCell]; omega)) _) | refine Below.drew ?_)))⟩
  rcases h7 : ((l2 : Int) != 0) with _ | _
  case true =>
    have Hv : Hid (r = 2) := Lib.hid (by rw [← Hr.out]; simp [chkM, mayOf, h1, h2, h3, h4, h5, h6, h7]; try (simp at h1 h2 h3 h4 h5 h7; omega))
    go_enter Try.func26, Try.ntmps26
    go_wp2
    exact bodyPost_ret (v := .int .i64 2) (by simp [results, Try.results26, go_sem]) rfl ⟨by rw [Hv.out], by ((repeat (first | exact Below.refl _ _ | (refine Below.alloc ?_ (by first | (simp [World.setCell]; done) | (simp [World.setCell]; omega)) _) | (refine Below.setCell ?_ (by first | (simp [World.setCell]; done) | (simp [World.setCell]; omega)) _) | refine Below.drew ?_)))⟩
  rcases h8 : ((l1 : Int) == 0) with _ | _
  case false =>
    have Hv : Hid (r = 2) := Lib.hid (by rw [← Hr.out]; simp [chkM, mayOf, h1, h2, h3, h4, h5, h6, h7, h8]; try (simp at h1 h2 h3 h4 h5 h7 h8; omega))
    go_enter Try.func26, Try.ntmps26
    go_wp2
    exact bodyPost_ret (v := .int .i64 2) (by simp [results, Try.results26, go_sem]) rfl ⟨by rw [Hv.out], by ((repeat (first | exact Below.refl _ _ | (refine Below.alloc ?_ (by first | (simp [World.setCell]; done) | (simp [World.setCell]; omega)) _) | (refine Below.setCell ?_ (by first | (simp [World.setCell]; done) | (simp [World.setCell]; omega)) _) | refine Below.drew ?_)))⟩
  case true =>
    have Hv : Hid (r = 0) := Lib.hid (by rw [← Hr.out]; simp [chkM, mayOf, h1, h2, h3, h4, h5, h6, h7, h8]; try (simp at h1 h2 h3 h4 h5 h7 h8; omega))
    go_enter Try.func26, Try.ntmps26
    go_wp2
    exact bodyPost_ret (v := .int .i64 0) (by simp [results, Try.results26, go_sem]) rfl ⟨by rw [Hv.out], by ((repeat (first | exact Below.refl _ _ | (refine Below.alloc ?_ (by first | (simp [World.setCell]; done) | (simp [World.setCell]; omega)) _) | (refine Below.setCell ?_ (by first | (simp [World.setCell]; done) | (simp [World.setCell]; omega)) _) | refine Below.drew ?_)))⟩

end Go.Proofs.Ytmnadlgglmhfhaa
