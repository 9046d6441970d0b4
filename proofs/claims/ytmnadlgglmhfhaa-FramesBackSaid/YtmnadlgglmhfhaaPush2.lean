/- Contracts of (*frames.Stack).Push where it refuses, of Taken, Top and Pop. -/
import Derived.Test.YtmnadlgglmhfhaaPush
namespace Go.Proofs.Ytmnadlgglmhfhaa
open Go.RowKit
set_option linter.unusedSimpArgs false

set_option maxRecDepth 100000 in
set_option maxHeartbeats 4000000 in
theorem push_bad (f : FrD) (vw vd : Value) (b B lim : Nat) (us : List Row) (vl : Value) (w : World) (h : SInv w b B lim us vl) (hw : WAt w vw f.ws) (hd : WAt w vd f.ds)
    (hc : chkK f.k f.o f.n f.s f.ws.length f.ds.length = false) :
    Calls Try.prog 11 #[.pointer (some ⟨b, 0, none⟩), .agg #[.int .i64 f.k, .int .i64 f.o, .int .i64 f.n, .string f.s, vw, vd]] w fun e w' => e = .returned (.int .i64 2) ∧ Below w.heap.size w w' := by
  obtain ⟨aw, cw, rfl, hw'⟩ := hw
  obtain ⟨ad, cd, rfl, hd'⟩ := hd
  have kc := fun W => check_any f.k f.o f.n f.s aw ad f.ws.length f.ds.length cw cd W
  rw [hc] at kc
  simp only [Bool.false_eq_true, if_false] at kc
  have KC := Lib.hid kc
  have hS := h.blk
  clear kc hw' hd' hc
  go_enter Try.func11, Try.ntmps11
  go_upto_region 1 with fail
  generalize hW0 : w.alloc (Obj.cells #[.int .i64 f.k, .int .i64 f.o, .int .i64 f.n, .string f.s, .slice aw f.ws.length cw, .slice ad f.ds.length cd] 32) = W0
  have hbel : Below w.heap.size w W0 := by rw [← hW0]; ((repeat (first | exact Below.refl _ _ | (refine Below.alloc ?_ (by first | (simp [World.setCell]; done) | (simp [World.setCell]; omega)) _) | (refine Below.setCell ?_ (by first | (simp [World.setCell]; done) | (simp [World.setCell]; omega)) _) | refine Below.drew ?_)))
  have B0 : Blk W0 w.heap.size #[.int .i64 f.k, .int .i64 f.o, .int .i64 f.n, .string f.s, .slice aw f.ws.length cw, .slice ad f.ds.length cd] := by rw [← hW0]; exact Blk.new w _ _
  have S0 := hS.below hbel hS.lt
  clear hW0
  have c0 := B0.cell
  go_wp2_with (first | (go_at_call 40; with_reducible refine (none_any b _ _ _ true _ S0).mono ?_; rintro e w1 ⟨rfl, hb1⟩; have B1 := B0.below hb1 B0.lt; have c1 := B1.cell; have l1 := hbel.trans (hb1.mono hbel.size)) | (go_at_call 25; with_reducible refine (KC.out _).mono ?_; rintro e w2 ⟨rfl, hb2⟩; have l2 := l1.trans (hb2.mono l1.size)))
  exact bodyPost_ret (v := .int .i64 2) (by simp [results, Try.results11, go_sem]) rfl ⟨rfl, l2⟩

set_option maxRecDepth 100000 in
set_option maxHeartbeats 4000000 in
theorem push_full (f : FrD) (vw vd : Value) (b B lim : Nat) (us : List Row) (vl : Value) (w : World) (h : SInv w b B lim us vl) (hw : WAt w vw f.ws) (hd : WAt w vd f.ds) (hnl : f.ws.length ≤ 1000000000) (hnd : f.ds.length ≤ 1000000000) (hns : f.s.size ≤ 1000000000)
    (hc : chkK f.k f.o f.n f.s f.ws.length f.ds.length = true) (hb : lim < takenOf us + f.takes) :
    Calls Try.prog 11 #[.pointer (some ⟨b, 0, none⟩), .agg #[.int .i64 f.k, .int .i64 f.o, .int .i64 f.n, .string f.s, vw, vd]] w fun e w' => e = .returned (.int .i64 12) ∧ Below w.heap.size w w' := by
  have hlim := h.lm
  have htk := h.tk
  obtain ⟨aw, cw, rfl, hw'⟩ := hw
  obtain ⟨ad, cd, rfl, hd'⟩ := hd
  have kc := fun W => check_any f.k f.o f.n f.s aw ad f.ws.length f.ds.length cw cd W
  rw [hc] at kc
  simp only [if_true] at kc
  have kt := fun W => takes_any f.k f.o f.n f.s aw ad f.ws.length f.ds.length cw cd W (by omega) (by omega) (by omega)
  have KC := Lib.hid kc
  obtain ⟨K, hK⟩ : ∃ K, 1 + f.ws.length + f.ds.length + (f.s.size + 7) / 8 = K := ⟨_, rfl⟩
  have hKf : f.takes = K := hK
  have hKb : K ≤ 10000000000 := by omega
  rw [hK] at kt
  have KT := Lib.hid kt
  rw [hKf] at hb
  obtain ⟨T, hT⟩ : ∃ T, takenOf us = T := ⟨_, rfl⟩
  have hS := h.blk
  rw [hT] at hS hb htk
  clear kc kt hw' hd' hc h hT hKf hK
  have HWr : Hid (IntKind.i64.wrap ((T : Int) + (K : Int)) = (T : Int) + (K : Int)) := Lib.hid (IntWalk.i64_in _ (by omega))
  go_enter Try.func11, Try.ntmps11
  go_upto_region 1 with fail
  generalize hW0 : w.alloc (Obj.cells #[.int .i64 f.k, .int .i64 f.o, .int .i64 f.n, .string f.s, .slice aw f.ws.length cw, .slice ad f.ds.length cd] 32) = W0
  have hbel : Below w.heap.size w W0 := by rw [← hW0]; ((repeat (first | exact Below.refl _ _ | (refine Below.alloc ?_ (by first | (simp [World.setCell]; done) | (simp [World.setCell]; omega)) _) | (refine Below.setCell ?_ (by first | (simp [World.setCell]; done) | (simp [World.setCell]; omega)) _) | refine Below.drew ?_)))
  have B0 : Blk W0 w.heap.size #[.int .i64 f.k, .int .i64 f.o, .int .i64 f.n, .string f.s, .slice aw f.ws.length cw, .slice ad f.ds.length cd] := by rw [← hW0]; exact Blk.new w _ _
  have S0 := hS.below hbel hS.lt
  clear hW0
  have c0 := B0.cell
  have s0 := S0.cell
  go_upto_region 6 with (first | (go_at_call 40; with_reducible refine (none_any b _ _ _ true _ S0).mono ?_; rintro e w1 ⟨rfl, hb1⟩; have B1 := B0.below hb1 B0.lt; have c1 := B1.cell; have l1 := hbel.trans (hb1.mono hbel.size)) | (go_at_call 25; with_reducible refine (KC.out _).mono ?_; rintro e w2 ⟨rfl, hb2⟩; have l2 := l1.trans (hb2.mono l1.size); have B2 := B1.below hb2 B1.lt))
  clear c0 s0 c1
  have S2 := hS.below l2 hS.lt
  have c2 := B2.cell
  have s2 := S2.cell
  go_cut [24] (fun s24 wx => s24 = .bool true ∧ Below w.heap.size w wx)
  case first =>
    go_region_with (go_at_call 12; with_reducible refine (KT.out _).mono ?_; rintro e w3 ⟨rfl, hb3⟩; have q3 := below_of_drew hb3; have l3 := l2.trans (q3.mono l2.size); have S3 := hS.below l3 hS.lt; have s3 := S3.cell)
    all_goals
      go_wp2
      go_meet
      exact ⟨by simp only [HWr.out]; simp; omega, l3⟩
  case rest =>
    obtain ⟨rfl, l3⟩ := hcut
    go_wp2
    exact bodyPost_ret (v := .int .i64 12) (by simp [results, Try.results11, go_sem]) rfl ⟨rfl, l3⟩

set_option maxHeartbeats 1000000 in
theorem taken_any (b B lim : Nat) (us : List Row) (vl : Value) (w : World) (h : SInv w b B lim us vl) :
    Calls Try.prog 14 #[.pointer (some ⟨b, 0, none⟩)] w fun e w' => e = .returned (.int .i64 (takenOf us : Nat)) ∧ Below w.heap.size w w' := by
  have hS := h.blk
  clear h
  go_enter Try.func14, Try.ntmps14
  go_wp2_with (go_at_call 40; with_reducible refine (none_any b _ _ _ true _ hS).mono ?_; rintro e w1 ⟨rfl, hb1⟩; have S1 := hS.below hb1 hS.lt; have s1 := S1.cell)
  exact bodyPost_ret (v := .int .i64 (takenOf us : Nat)) (by simp [results, Try.results14, go_sem]) rfl ⟨rfl, hb1⟩

end Go.Proofs.Ytmnadlgglmhfhaa
