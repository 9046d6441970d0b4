/- kit.SameExpr of two expressions that are the same. -/
import Derived.Test.YtkcgchpflppmnaaOdC
import Derived.BigRegion
import Derived.Deep.DeepCutAuto
namespace Go.Proofs.Ytkcgchpflppmnaa
open Go.RowKit
set_option linter.unusedSimpArgs false
set_option linter.unusedVariables false

theorem two_blk (w : World) (c1 c2 : Array Value) (t : TypeId) : Blk ((w.alloc (.cells c1 t)).alloc (.cells c2 t)).drew w.heap.size c1 ∧ Blk ((w.alloc (.cells c1 t)).alloc (.cells c2 t)).drew (w.heap.size + 1) c2 ∧ Below w.heap.size w ((w.alloc (.cells c1 t)).alloc (.cells c2 t)).drew := by
  refine ⟨((Blk.new w c1 t).alloc _).drew, ?_, (((Below.refl _ w).alloc (Nat.le_refl _) _).alloc (by simp) _).drew⟩
  have := Blk.new (w.alloc (.cells c1 t)) c2 t
  rw [show (w.alloc (.cells c1 t)).heap.size = w.heap.size + 1 by simp] at this
  exact this.drew
set_option maxRecDepth 100000 in
set_option maxHeartbeats 8000000 in
theorem same_step (d : Nat)
    (hsm : ∀ (x : Ex d) (v1 v2 : Value) (W : World), ExIs W d v1 x → ExIs W d v2 x → Sm d x → Calls Try.prog 19 #[v1, v2] W fun r W' => r = .returned (.bool true) ∧ Below W.heap.size W W')
    (v1 v2 : Value) (e : ExN (Ex d)) (w : World) (ha : ExIs w (d + 1) v1 e) (hb : ExIs w (d + 1) v2 e) (hs : Sm (d + 1) e) :
    Calls Try.prog 19 #[v1, v2] w fun r W' => r = .returned (.bool true) ∧ Below w.heap.size w W' := by
  obtain ⟨l1, rfl, hp1⟩ := ha
  obtain ⟨pa, pb, pc, pd, pa2, pb2, pc2, pd2, rfl⟩ := parts_form hp1
  obtain ⟨ps1, bs1, es1, ls1, hq1, h11, ⟨xb, yb, hqb, h21⟩, ⟨xc, yc, hqc, h31⟩, ⟨xd, yd, hqd, h41⟩⟩ := hp1
  simp only [exV, List.cons.injEq] at hq1
  obtain ⟨-, -, -, rfl, rfl, rfl, rfl, -⟩ := hq1
  simp only [Value.slice.injEq] at hqb hqc hqd
  obtain ⟨rfl, -, rfl⟩ := hqb
  obtain ⟨rfl, -, rfl⟩ := hqc
  obtain ⟨rfl, -, rfl⟩ := hqd
  obtain ⟨l2, rfl, hp2⟩ := hb
  obtain ⟨qa, qb, qc, qd, qa2, qb2, qc2, qd2, rfl⟩ := parts_form hp2
  obtain ⟨ps2, bs2, es2, ls2, hq2, h12, ⟨xb, yb, hqb, h22⟩, ⟨xc, yc, hqc, h32⟩, ⟨xd, yd, hqd, h42⟩⟩ := hp2
  simp only [exV, List.cons.injEq] at hq2
  obtain ⟨-, -, -, rfl, rfl, rfl, rfl, -⟩ := hq2
  simp only [Value.slice.injEq] at hqb hqc hqd
  obtain ⟨rfl, -, rfl⟩ := hqb
  obtain ⟨rfl, -, rfl⟩ := hqc
  obtain ⟨rfl, -, rfl⟩ := hqd
  have R1 := (Blk.new w #[.int .i64 e.kind, .string e.name, .int .i64 e.num, .slice pa e.params.length pa2, .slice pb e.binds.length pb2, .slice pc e.args.length pc2, .slice pd e.alts.length pd2] 29).alloc (.cells #[.int .i64 e.kind, .string e.name, .int .i64 e.num, .slice qa e.params.length qa2, .slice qb e.binds.length qb2, .slice qc e.args.length qc2, .slice qd e.alts.length qd2] 29)
  have R2 := Blk.new (w.alloc (.cells #[.int .i64 e.kind, .string e.name, .int .i64 e.num, .slice pa e.params.length pa2, .slice pb e.binds.length pb2, .slice pc e.args.length pc2, .slice pd e.alts.length pd2] 29)) #[.int .i64 e.kind, .string e.name, .int .i64 e.num, .slice qa e.params.length qa2, .slice qb e.binds.length qb2, .slice qc e.args.length qc2, .slice qd e.alts.length qd2] 29
  have hB0 : Below w.heap.size w ((w.alloc (.cells #[.int .i64 e.kind, .string e.name, .int .i64 e.num, .slice pa e.params.length pa2, .slice pb e.binds.length pb2, .slice pc e.args.length pc2, .slice pd e.alts.length pd2] 29)).alloc (.cells #[.int .i64 e.kind, .string e.name, .int .i64 e.num, .slice qa e.params.length qa2, .slice qb e.binds.length qb2, .slice qc e.args.length qc2, .slice qd e.alts.length qd2] 29)) := ((Below.refl _ w).alloc (Nat.le_refl _) _).alloc (by simp) _
  rw [show (w.alloc (.cells #[.int .i64 e.kind, .string e.name, .int .i64 e.num, .slice pa e.params.length pa2, .slice pb e.binds.length pb2, .slice pc e.args.length pc2, .slice pd e.alts.length pd2] 29)).heap.size = w.heap.size + 1 by simp] at R2
  have KT := Lib.hid (fun W (hW : Below w.heap.size w W) => same_texts _ _ e.params W (h11.below hW) (h12.below hW) hs.1)
  have HS := Lib.hid hs
  have HSM := Lib.hid hsm
  obtain ⟨N3, hN3⟩ : ∃ N, e.params.length = N := ⟨_, rfl⟩
  obtain ⟨N4, hN4⟩ : ∃ N, e.binds.length = N := ⟨_, rfl⟩
  obtain ⟨N5, hN5⟩ : ∃ N, e.args.length = N := ⟨_, rfl⟩
  obtain ⟨N6, hN6⟩ : ∃ N, e.alts.length = N := ⟨_, rfl⟩
  have m4 : N4 ≤ 10000000 := hN4 ▸ hs.2.1.1
  have m5 : N5 ≤ 10000000 := hN5 ▸ hs.2.2.1.1
  have m6 : N6 ≤ 10000000 := hN6 ▸ hs.2.2.2.1
  unfold exV
  rw [hN3] at KT
  rw [hN3, hN4, hN5, hN6] at R1 R2 hB0 ⊢
  have HN4 := Lib.hid hN4
  have HN5 := Lib.hid hN5
  have HN6 := Lib.hid hN6
  have H21 := Lib.hid (show True ∧ _ from ⟨trivial, h21⟩)
  have H22 := Lib.hid (show True ∧ _ from ⟨trivial, h22⟩)
  have H31 := Lib.hid h31
  have H32 := Lib.hid h32
  have H41 := Lib.hid h41
  have H42 := Lib.hid h42
  generalize e.kind = kd at R1 R2 hB0 ⊢
  generalize e.name = nm at R1 R2 hB0 ⊢
  generalize e.num = nu at R1 R2 hB0 ⊢
  clear h11 h12 h21 h22 h31 h32 h41 h42 hN3 hN4 hN5 hN6 hs hsm
  go_enter Try.func19, Try.ntmps19
  go_upto_region 1 with fail
  generalize (w.alloc (.cells #[.int .i64 kd, .string nm, .int .i64 nu, .slice pa N3 pa2, .slice pb N4 pb2, .slice pc N5 pc2, .slice pd N6 pd2] 29)).alloc (.cells #[.int .i64 kd, .string nm, .int .i64 nu, .slice qa N3 qa2, .slice qb N4 qb2, .slice qc N5 qc2, .slice qd N6 qd2] 29) = W0 at R1 R2 hB0 ⊢
  generalize hbq : w.heap.size = b at R1 R2 ⊢
  have HR1 := Lib.hid R1
  have HR2 := Lib.hid R2
  have HB0 := Lib.hid hB0
  have HC := Lib.hid (show ∀ W, Below W0.heap.size W0 W → (∀ j, W.cell? ⟨b, j, none⟩ = #[.int .i64 kd, .string nm, .int .i64 nu, .slice pa N3 pa2, .slice pb N4 pb2, .slice pc N5 pc2, .slice pd N6 pd2][j]?) ∧ (∀ j, W.cell? ⟨b + 1, j, none⟩ = #[.int .i64 kd, .string nm, .int .i64 nu, .slice qa N3 qa2, .slice qb N4 qb2, .slice qc N5 qc2, .slice qd N6 qd2][j]?) from fun W hW => ⟨(HR1.out.below hW HR1.out.lt).cell, (HR2.out.below hW HR2.out.lt).cell⟩)
  have HC2 := Lib.hid (show ∀ W, Below W0.heap.size W0 W → (W.cell? ⟨b, 4, none⟩ = some (.slice pb N4 pb2) ∧ W.cell? ⟨b, 5, none⟩ = some (.slice pc N5 pc2) ∧ W.cell? ⟨b, 6, none⟩ = some (.slice pd N6 pd2)) ∧ (W.cell? ⟨b + 1, 4, none⟩ = some (.slice qb N4 qb2) ∧ W.cell? ⟨b + 1, 5, none⟩ = some (.slice qc N5 qc2) ∧ W.cell? ⟨b + 1, 6, none⟩ = some (.slice qd N6 qd2)) from fun W hW => ⟨⟨(HC.out W hW).1 4, (HC.out W hW).1 5, (HC.out W hW).1 6⟩, ⟨(HC.out W hW).2 4, (HC.out W hW).2 5, (HC.out W hW).2 6⟩⟩)
  have HWB := Lib.hid (show ∀ W, Below W0.heap.size W0 W → Below w.heap.size w W from fun W hW => HB0.out.trans (hW.mono HB0.out.size))
  have HKT := Lib.hid (KT.out W0 hB0)
  have c1 := R1.cell
  have c2 := R2.cell
  have z4 : ((N4 : Int) != (N4 : Int)) = false := by simp
  have z5 : ((N5 : Int) != (N5 : Int)) = false := by simp
  have z6 : ((N6 : Int) != (N6 : Int)) = false := by simp
  have z0 : (kd != kd) = false := by simp
  have z2 : (nu != nu) = false := by simp
  clear R1 R2 hB0 KT
  go_upto_region 3 with (go_at_call 33; refine HKT.out.mono ?_; rintro r1 w1 ⟨rfl, b1⟩; have B1 := Lib.hid b1; have d1 := (HC.out w1 b1).1; have d2 := (HC.out w1 b1).2; clear b1)
  clear c1 c2 z0 z2 z4 z5 z6 d1 d2
  go_wp2
  go_loopw [5] (fun i wr => ∃ k : Nat, i = .int .i64 k ∧ k ≤ N4 ∧ Below W0.heap.size W0 wr) (fun i _ => N4 - (intOf i).toNat)
  case atStart => exact ⟨0, rfl, Nat.zero_le _, B1.out⟩
  case round =>
    clear B1
    obtain ⟨k, rfl, hk, hB⟩ := hrel
    obtain ⟨⟨x4, x5, x6⟩, ⟨q4, q5, q6⟩⟩ := HC2.out wr hB
    by_cases hlt : k < N4
    · have hlt2 : decide ((k : Int) < (N4 : Int)) = true := by simp; omega
      have hlt3 : decide (k < N4) = true := by simp; omega
      have hi0 : (0 : Int) ≤ (k : Int) := by omega
      have hkt : k < e.binds.length := by rw [HN4.out]; exact hlt
      obtain ⟨p, o1, hq, hp, hat1⟩ := H21.out.2 (by omega)
      subst hq
      obtain ⟨p', o2, hq, hp', hat2⟩ := H22.out.2 (by omega)
      subst hq
      obtain ⟨x, hx⟩ : ∃ x, e.binds[k]? = some x := ⟨_, List.getElem?_eq_getElem hkt⟩
      obtain ⟨hn1, he1⟩ := hat1 k x hx
      obtain ⟨hn2, he2⟩ := hat2 k x hx
      obtain ⟨y0, y1, y2, y3, y4, y5, y6, y7, y8, y9, ya, yb, yc, yd, ye, hyc, hyv⟩ := ex_val he1
      obtain ⟨n0, n1, n2, n3, n4, n5, n6, n7, n8, n9, na, nb, nc, nd, ne, hnc, hnv⟩ := ex_val he2
      have KO := Lib.hid (fun W (hW : Below w.heap.size w W) => HSM.out x.2 _ _ W (ExIs.below hW d _ x.2 hyv) (ExIs.below hW d _ x.2 hnv) (HS.out.2.1.2 x (List.mem_of_getElem? hx)))
      unfold exV at KO
      obtain ⟨xn, hxn⟩ : ∃ xn, x.1 = xn := ⟨_, rfl⟩
      rw [hxn] at hn1 hn2
      have HS9 := Lib.hid (show ∀ W, Below W0.heap.size W0 W → W.cell? ⟨b, 4, none⟩ = some (.slice (some ⟨p, o1, none⟩) N4 pb2) ∧ W.cell? ⟨b + 1, 4, none⟩ = some (.slice (some ⟨p', o2, none⟩) N4 qb2) ∧ W.cell? ⟨p, o1 + k * 8, none⟩ = some (.string xn) ∧ W.cell? ⟨p', o2 + k * 8, none⟩ = some (.string xn) ∧ W.cell? ⟨p, o1 + k * 8 + 1, none⟩ = some (.int .i64 y0) ∧ W.cell? ⟨p, o1 + k * 8 + 2, none⟩ = some (.string y1) ∧ W.cell? ⟨p, o1 + k * 8 + 3, none⟩ = some (.int .i64 y2) ∧ W.cell? ⟨p, o1 + k * 8 + 4, none⟩ = some (.slice y3 y7 y8) ∧ W.cell? ⟨p, o1 + k * 8 + 5, none⟩ = some (.slice y4 y9 ya) ∧ W.cell? ⟨p, o1 + k * 8 + 6, none⟩ = some (.slice y5 yb yc) ∧ W.cell? ⟨p, o1 + k * 8 + 7, none⟩ = some (.slice y6 yd ye) ∧ W.cell? ⟨p', o2 + k * 8 + 1, none⟩ = some (.int .i64 n0) ∧ W.cell? ⟨p', o2 + k * 8 + 2, none⟩ = some (.string n1) ∧ W.cell? ⟨p', o2 + k * 8 + 3, none⟩ = some (.int .i64 n2) ∧ W.cell? ⟨p', o2 + k * 8 + 4, none⟩ = some (.slice n3 n7 n8) ∧ W.cell? ⟨p', o2 + k * 8 + 5, none⟩ = some (.slice n4 n9 na) ∧ W.cell? ⟨p', o2 + k * 8 + 6, none⟩ = some (.slice n5 nb nc) ∧ W.cell? ⟨p', o2 + k * 8 + 7, none⟩ = some (.slice n6 nd ne) from fun W hW => by
        have hWw := HWB.out W hW
        have hc := HC2.out W hW
        have g := hyc.below hWw hp
        have g' := hnc.below hWw hp'
        exact ⟨hc.1.1, hc.2.1, (hWw.cell (p := ⟨p, o1 + k * 8, none⟩) hp).trans hn1, (hWw.cell (p := ⟨p', o2 + k * 8, none⟩) hp').trans hn2, g 0 _ rfl, g 1 _ rfl, g 2 _ rfl, g 3 _ rfl, g 4 _ rfl, g 5 _ rfl, g 6 _ rfl, g' 0 _ rfl, g' 1 _ rfl, g' 2 _ rfl, g' 3 _ rfl, g' 4 _ rfl, g' 5 _ rfl, g' 6 _ rfl⟩)
      have HB := Lib.hid hB
      have HBw := Lib.hid (HWB.out wr hB)
      clear hat1 hat2 hx hn1 hn2 he1 he2 hyc hyv hnc hnv hxn
      go_upto_region 6 with fail
      have hS0 : wr.drew.cell? ⟨b, 4, none⟩ = some (.slice (some ⟨p, o1, none⟩) N4 pb2) ∧ wr.drew.cell? ⟨b + 1, 4, none⟩ = some (.slice (some ⟨p', o2, none⟩) N4 qb2) ∧ wr.drew.cell? ⟨p, o1 + k * 8, none⟩ = some (.string xn) ∧ wr.drew.cell? ⟨p', o2 + k * 8, none⟩ = some (.string xn) ∧ wr.drew.cell? ⟨p, o1 + k * 8 + 1, none⟩ = some (.int .i64 y0) ∧ wr.drew.cell? ⟨p, o1 + k * 8 + 2, none⟩ = some (.string y1) ∧ wr.drew.cell? ⟨p, o1 + k * 8 + 3, none⟩ = some (.int .i64 y2) ∧ wr.drew.cell? ⟨p, o1 + k * 8 + 4, none⟩ = some (.slice y3 y7 y8) ∧ wr.drew.cell? ⟨p, o1 + k * 8 + 5, none⟩ = some (.slice y4 y9 ya) ∧ wr.drew.cell? ⟨p, o1 + k * 8 + 6, none⟩ = some (.slice y5 yb yc) ∧ wr.drew.cell? ⟨p, o1 + k * 8 + 7, none⟩ = some (.slice y6 yd ye) ∧ wr.drew.cell? ⟨p', o2 + k * 8 + 1, none⟩ = some (.int .i64 n0) ∧ wr.drew.cell? ⟨p', o2 + k * 8 + 2, none⟩ = some (.string n1) ∧ wr.drew.cell? ⟨p', o2 + k * 8 + 3, none⟩ = some (.int .i64 n2) ∧ wr.drew.cell? ⟨p', o2 + k * 8 + 4, none⟩ = some (.slice n3 n7 n8) ∧ wr.drew.cell? ⟨p', o2 + k * 8 + 5, none⟩ = some (.slice n4 n9 na) ∧ wr.drew.cell? ⟨p', o2 + k * 8 + 6, none⟩ = some (.slice n5 nb nc) ∧ wr.drew.cell? ⟨p', o2 + k * 8 + 7, none⟩ = some (.slice n6 nd ne) := HS9.out wr HB.out
      go_region_held3 (fun wx => wx.cell? ⟨b, 4, none⟩ = some (.slice (some ⟨p, o1, none⟩) N4 pb2) ∧ wx.cell? ⟨b + 1, 4, none⟩ = some (.slice (some ⟨p', o2, none⟩) N4 qb2) ∧ wx.cell? ⟨p, o1 + k * 8, none⟩ = some (.string xn) ∧ wx.cell? ⟨p', o2 + k * 8, none⟩ = some (.string xn) ∧ wx.cell? ⟨p, o1 + k * 8 + 1, none⟩ = some (.int .i64 y0) ∧ wx.cell? ⟨p, o1 + k * 8 + 2, none⟩ = some (.string y1) ∧ wx.cell? ⟨p, o1 + k * 8 + 3, none⟩ = some (.int .i64 y2) ∧ wx.cell? ⟨p, o1 + k * 8 + 4, none⟩ = some (.slice y3 y7 y8) ∧ wx.cell? ⟨p, o1 + k * 8 + 5, none⟩ = some (.slice y4 y9 ya) ∧ wx.cell? ⟨p, o1 + k * 8 + 6, none⟩ = some (.slice y5 yb yc) ∧ wx.cell? ⟨p, o1 + k * 8 + 7, none⟩ = some (.slice y6 yd ye) ∧ wx.cell? ⟨p', o2 + k * 8 + 1, none⟩ = some (.int .i64 n0) ∧ wx.cell? ⟨p', o2 + k * 8 + 2, none⟩ = some (.string n1) ∧ wx.cell? ⟨p', o2 + k * 8 + 3, none⟩ = some (.int .i64 n2) ∧ wx.cell? ⟨p', o2 + k * 8 + 4, none⟩ = some (.slice n3 n7 n8) ∧ wx.cell? ⟨p', o2 + k * 8 + 5, none⟩ = some (.slice n4 n9 na) ∧ wx.cell? ⟨p', o2 + k * 8 + 6, none⟩ = some (.slice n5 nb nc) ∧ wx.cell? ⟨p', o2 + k * 8 + 7, none⟩ = some (.slice n6 nd ne)) (assumption) ((go_at_call 19; with_reducible (refine (KO.out _ HBw.out.drew).mono ?_); rintro r1 w1 ⟨rfl, b1⟩; have q1 := below_of_drew b1; have B1 := chain HB.out q1; have hS1 := HS9.out w1 B1; have K1 := Lib.hid B1; clear B1 b1 q1))
      all_goals
        go_wp2
        go_roundw
        case measure => simp [intOf]; omega
        case rel => exact ⟨k + 1, by go_num, by omega, K1.out⟩
    · have hlt2 : decide ((k : Int) < (N4 : Int)) = false := by simp; omega
      have hlt3 : decide (k < N4) = false := by simp; omega
      obtain rfl : N4 = k := by omega
      clear hlt hlt2 hlt3 hk
      go_upto_region 9 with fail
      clear x4 x5 x6 q4 q5 q6
      go_loopw [6] (fun i wr => ∃ k : Nat, i = .int .i64 k ∧ k ≤ N5 ∧ Below W0.heap.size W0 wr) (fun i _ => N5 - (intOf i).toNat)
      case atStart => exact ⟨0, rfl, Nat.zero_le _, hB⟩
      case round =>
        clear hB
        obtain ⟨k, rfl, hk, hB⟩ := hrel
        obtain ⟨⟨x4, x5, x6⟩, ⟨q4, q5, q6⟩⟩ := HC2.out wr hB
        by_cases hlt : k < N5
        · have hlt2 : decide ((k : Int) < (N5 : Int)) = true := by simp; omega
          have hlt3 : decide (k < N5) = true := by simp; omega
          have hi0 : (0 : Int) ≤ (k : Int) := by omega
          have hkt : k < e.args.length := by rw [HN5.out]; exact hlt
          obtain ⟨p, o1, hq, hp, hat1⟩ := H31.out (by omega)
          subst hq
          obtain ⟨p', o2, hq, hp', hat2⟩ := H32.out (by omega)
          subst hq
          obtain ⟨x, hx⟩ : ∃ x, e.args[k]? = some x := ⟨_, List.getElem?_eq_getElem hkt⟩
          obtain ⟨y0, y1, y2, y3, y4, y5, y6, y7, y8, y9, ya, yb, yc, yd, ye, hyc, hyv⟩ := ex_val (hat1 k x hx)
          obtain ⟨n0, n1, n2, n3, n4, n5, n6, n7, n8, n9, na, nb, nc, nd, ne, hnc, hnv⟩ := ex_val (hat2 k x hx)
          have KO := Lib.hid (fun W (hW : Below w.heap.size w W) => HSM.out x _ _ W (ExIs.below hW d _ x hyv) (ExIs.below hW d _ x hnv) (HS.out.2.2.1.2 x (List.mem_of_getElem? hx)))
          unfold exV at KO
          have HS9 := Lib.hid (show ∀ W, Below W0.heap.size W0 W → W.cell? ⟨b, 5, none⟩ = some (.slice (some ⟨p, o1, none⟩) N5 pc2) ∧ W.cell? ⟨b + 1, 5, none⟩ = some (.slice (some ⟨p', o2, none⟩) N5 qc2) ∧ W.cell? ⟨p, o1 + k * 7, none⟩ = some (.int .i64 y0) ∧ W.cell? ⟨p, o1 + k * 7 + 1, none⟩ = some (.string y1) ∧ W.cell? ⟨p, o1 + k * 7 + 2, none⟩ = some (.int .i64 y2) ∧ W.cell? ⟨p, o1 + k * 7 + 3, none⟩ = some (.slice y3 y7 y8) ∧ W.cell? ⟨p, o1 + k * 7 + 4, none⟩ = some (.slice y4 y9 ya) ∧ W.cell? ⟨p, o1 + k * 7 + 5, none⟩ = some (.slice y5 yb yc) ∧ W.cell? ⟨p, o1 + k * 7 + 6, none⟩ = some (.slice y6 yd ye) ∧ W.cell? ⟨p', o2 + k * 7, none⟩ = some (.int .i64 n0) ∧ W.cell? ⟨p', o2 + k * 7 + 1, none⟩ = some (.string n1) ∧ W.cell? ⟨p', o2 + k * 7 + 2, none⟩ = some (.int .i64 n2) ∧ W.cell? ⟨p', o2 + k * 7 + 3, none⟩ = some (.slice n3 n7 n8) ∧ W.cell? ⟨p', o2 + k * 7 + 4, none⟩ = some (.slice n4 n9 na) ∧ W.cell? ⟨p', o2 + k * 7 + 5, none⟩ = some (.slice n5 nb nc) ∧ W.cell? ⟨p', o2 + k * 7 + 6, none⟩ = some (.slice n6 nd ne) from fun W hW => by
            have hWw := HWB.out W hW
            have hc := HC2.out W hW
            have g := hyc.below hWw hp
            have g' := hnc.below hWw hp'
            exact ⟨hc.1.2.1, hc.2.2.1, g 0 _ rfl, g 1 _ rfl, g 2 _ rfl, g 3 _ rfl, g 4 _ rfl, g 5 _ rfl, g 6 _ rfl, g' 0 _ rfl, g' 1 _ rfl, g' 2 _ rfl, g' 3 _ rfl, g' 4 _ rfl, g' 5 _ rfl, g' 6 _ rfl⟩)
          have HB := Lib.hid hB
          have HBw := Lib.hid (HWB.out wr hB)
          clear hat1 hat2 hx hyc hyv hnc hnv
          go_upto_region 11 with fail
          have hS0 : wr.drew.cell? ⟨b, 5, none⟩ = some (.slice (some ⟨p, o1, none⟩) N5 pc2) ∧ wr.drew.cell? ⟨b + 1, 5, none⟩ = some (.slice (some ⟨p', o2, none⟩) N5 qc2) ∧ wr.drew.cell? ⟨p, o1 + k * 7, none⟩ = some (.int .i64 y0) ∧ wr.drew.cell? ⟨p, o1 + k * 7 + 1, none⟩ = some (.string y1) ∧ wr.drew.cell? ⟨p, o1 + k * 7 + 2, none⟩ = some (.int .i64 y2) ∧ wr.drew.cell? ⟨p, o1 + k * 7 + 3, none⟩ = some (.slice y3 y7 y8) ∧ wr.drew.cell? ⟨p, o1 + k * 7 + 4, none⟩ = some (.slice y4 y9 ya) ∧ wr.drew.cell? ⟨p, o1 + k * 7 + 5, none⟩ = some (.slice y5 yb yc) ∧ wr.drew.cell? ⟨p, o1 + k * 7 + 6, none⟩ = some (.slice y6 yd ye) ∧ wr.drew.cell? ⟨p', o2 + k * 7, none⟩ = some (.int .i64 n0) ∧ wr.drew.cell? ⟨p', o2 + k * 7 + 1, none⟩ = some (.string n1) ∧ wr.drew.cell? ⟨p', o2 + k * 7 + 2, none⟩ = some (.int .i64 n2) ∧ wr.drew.cell? ⟨p', o2 + k * 7 + 3, none⟩ = some (.slice n3 n7 n8) ∧ wr.drew.cell? ⟨p', o2 + k * 7 + 4, none⟩ = some (.slice n4 n9 na) ∧ wr.drew.cell? ⟨p', o2 + k * 7 + 5, none⟩ = some (.slice n5 nb nc) ∧ wr.drew.cell? ⟨p', o2 + k * 7 + 6, none⟩ = some (.slice n6 nd ne) := HS9.out wr HB.out
          go_region_held3 (fun wx => wx.cell? ⟨b, 5, none⟩ = some (.slice (some ⟨p, o1, none⟩) N5 pc2) ∧ wx.cell? ⟨b + 1, 5, none⟩ = some (.slice (some ⟨p', o2, none⟩) N5 qc2) ∧ wx.cell? ⟨p, o1 + k * 7, none⟩ = some (.int .i64 y0) ∧ wx.cell? ⟨p, o1 + k * 7 + 1, none⟩ = some (.string y1) ∧ wx.cell? ⟨p, o1 + k * 7 + 2, none⟩ = some (.int .i64 y2) ∧ wx.cell? ⟨p, o1 + k * 7 + 3, none⟩ = some (.slice y3 y7 y8) ∧ wx.cell? ⟨p, o1 + k * 7 + 4, none⟩ = some (.slice y4 y9 ya) ∧ wx.cell? ⟨p, o1 + k * 7 + 5, none⟩ = some (.slice y5 yb yc) ∧ wx.cell? ⟨p, o1 + k * 7 + 6, none⟩ = some (.slice y6 yd ye) ∧ wx.cell? ⟨p', o2 + k * 7, none⟩ = some (.int .i64 n0) ∧ wx.cell? ⟨p', o2 + k * 7 + 1, none⟩ = some (.string n1) ∧ wx.cell? ⟨p', o2 + k * 7 + 2, none⟩ = some (.int .i64 n2) ∧ wx.cell? ⟨p', o2 + k * 7 + 3, none⟩ = some (.slice n3 n7 n8) ∧ wx.cell? ⟨p', o2 + k * 7 + 4, none⟩ = some (.slice n4 n9 na) ∧ wx.cell? ⟨p', o2 + k * 7 + 5, none⟩ = some (.slice n5 nb nc) ∧ wx.cell? ⟨p', o2 + k * 7 + 6, none⟩ = some (.slice n6 nd ne)) (assumption) ((go_at_call 19; with_reducible (refine (KO.out _ HBw.out.drew).mono ?_); rintro r1 w1 ⟨rfl, b1⟩; have q1 := below_of_drew b1; have B1 := chain HB.out q1; have hS1 := HS9.out w1 B1; have K1 := Lib.hid B1; clear B1 b1 q1))
          all_goals
            go_wp2
            go_roundw
            case measure => simp [intOf]; omega
            case rel => exact ⟨k + 1, by go_num, by omega, K1.out⟩
        · have hlt2 : decide ((k : Int) < (N5 : Int)) = false := by simp; omega
          have hlt3 : decide (k < N5) = false := by simp; omega
          obtain rfl : N5 = k := by omega
          clear hlt hlt2 hlt3 hk
          go_upto_region 14 with fail
          clear x4 x5 x6 q4 q5 q6
          go_loopw [7, 8, 9] (fun i _ _ wr => ∃ k : Nat, i = .int .i64 k ∧ k ≤ N6 ∧ Below W0.heap.size W0 wr) (fun i _ _ _ => N6 - (intOf i).toNat)
          case atStart => exact ⟨0, rfl, Nat.zero_le _, hB⟩
          case round =>
            clear hB
            obtain ⟨k, rfl, hk, hB⟩ := hrel
            obtain ⟨⟨x4, x5, x6⟩, ⟨q4, q5, q6⟩⟩ := HC2.out wr hB
            by_cases hlt : k < N6
            · have hlt2 : decide ((k : Int) < (N6 : Int)) = true := by simp; omega
              have hlt3 : decide (k < N6) = true := by simp; omega
              have hi0 : (0 : Int) ≤ (k : Int) := by omega
              have hkt : k < e.alts.length := by rw [HN6.out]; exact hlt
              obtain ⟨p, o1, hq, hp, hat1⟩ := H41.out (by omega)
              subst hq
              obtain ⟨p', o2, hq, hp', hat2⟩ := H42.out (by omega)
              subst hq
              obtain ⟨x, hx⟩ : ∃ x, e.alts[k]? = some x := ⟨_, List.getElem?_eq_getElem hkt⟩
              obtain ⟨vs1, hcs1, htx1, he1⟩ := hat1 k x hx
              obtain ⟨vs2, hcs2, htx2, he2⟩ := hat2 k x hx
              have hsm := HS.out.2.2.2.2 x (List.mem_of_getElem? hx)
              obtain ⟨y0, y1, y2, y3, y4, y5, y6, y7, y8, y9, ya, yb, yc, yd, ye, hyc, hyv⟩ := ex_val he1
              obtain ⟨n0, n1, n2, n3, n4, n5, n6, n7, n8, n9, na, nb, nc, nd, ne, hnc, hnv⟩ := ex_val he2
              have KO := Lib.hid (fun W (hW : Below w.heap.size w W) => HSM.out x.e _ _ W (ExIs.below hW d _ x.e hyv) (ExIs.below hW d _ x.e hnv) hsm.2)
              have KT := Lib.hid (fun W (hW : Below w.heap.size w W) => same_texts _ _ x.vars W (htx1.below hW) (htx2.below hW) hsm.1)
              obtain ⟨aw, cw, rfl, -⟩ := htx1
              obtain ⟨aw', cw', rfl, -⟩ := htx2
              unfold exV at KO
              obtain ⟨M, hM⟩ : ∃ M, x.vars.length = M := ⟨_, rfl⟩
              rw [hM] at hcs1 hcs2 KT
              have hBw := HWB.out wr hB
              have a0 := (hBw.cell (p := ⟨p, o1 + k * 11 + 0, none⟩) hp).trans (hcs1 0 _ rfl)
              have a1 := (hBw.cell (p := ⟨p, o1 + k * 11 + 1, none⟩) hp).trans (hcs1 1 _ rfl)
              have a2 := (hBw.cell (p := ⟨p, o1 + k * 11 + 2, none⟩) hp).trans (hcs1 2 _ rfl)
              have a3 := (hBw.cell (p := ⟨p, o1 + k * 11 + 3, none⟩) hp).trans (hcs1 3 _ rfl)
              have a0' := (hBw.cell (p := ⟨p', o2 + k * 11 + 0, none⟩) hp').trans (hcs2 0 _ rfl)
              have a1' := (hBw.cell (p := ⟨p', o2 + k * 11 + 1, none⟩) hp').trans (hcs2 1 _ rfl)
              have a2' := (hBw.cell (p := ⟨p', o2 + k * 11 + 2, none⟩) hp').trans (hcs2 2 _ rfl)
              have a3' := (hBw.cell (p := ⟨p', o2 + k * 11 + 3, none⟩) hp').trans (hcs2 3 _ rfl)
              rw [Nat.add_zero] at a0 a0'
              have vv := hyc.below hBw hp
              have uu := hnc.below hBw hp'
              have v0 : wr.cell? ⟨p, o1 + k * 11 + 4, none⟩ = _ := vv 0 _ rfl
              have v1 : wr.cell? ⟨p, o1 + k * 11 + 5, none⟩ = _ := vv 1 _ rfl
              have v2 : wr.cell? ⟨p, o1 + k * 11 + 6, none⟩ = _ := vv 2 _ rfl
              have v3 : wr.cell? ⟨p, o1 + k * 11 + 7, none⟩ = _ := vv 3 _ rfl
              have v4 : wr.cell? ⟨p, o1 + k * 11 + 8, none⟩ = _ := vv 4 _ rfl
              have v5 : wr.cell? ⟨p, o1 + k * 11 + 9, none⟩ = _ := vv 5 _ rfl
              have v6 : wr.cell? ⟨p, o1 + k * 11 + 10, none⟩ = _ := vv 6 _ rfl
              have t0 : wr.cell? ⟨p', o2 + k * 11 + 4, none⟩ = _ := uu 0 _ rfl
              have t1 : wr.cell? ⟨p', o2 + k * 11 + 5, none⟩ = _ := uu 1 _ rfl
              have t2 : wr.cell? ⟨p', o2 + k * 11 + 6, none⟩ = _ := uu 2 _ rfl
              have t3 : wr.cell? ⟨p', o2 + k * 11 + 7, none⟩ = _ := uu 3 _ rfl
              have t4 : wr.cell? ⟨p', o2 + k * 11 + 8, none⟩ = _ := uu 4 _ rfl
              have t5 : wr.cell? ⟨p', o2 + k * 11 + 9, none⟩ = _ := uu 5 _ rfl
              have t6 : wr.cell? ⟨p', o2 + k * 11 + 10, none⟩ = _ := uu 6 _ rfl
              generalize x.kind = xk at *
              generalize x.num = xu at *
              generalize x.name = xn at *
              have HB := Lib.hid hB
              have hlt1 := HR2.out.lt
              have hszw := hB.size
              have hwsz := hBw.size
              have hb0 : b < wr.heap.size := by omega
              have hb1 : b + 1 < wr.heap.size := by omega
              have hp0 : p < wr.heap.size := by omega
              have hp1 : p' < wr.heap.size := by omega
              clear hat1 hat2 hx hcs1 hcs2 he1 he2 hyc hyv hnc hnv hM hsm hBw vv uu
              go_upto_region 16 with fail
              go_cut [8, 9] (fun s8 s9 wx => ∃ b8 b9 : Nat, s8 = .pointer (some ⟨b8, 0, none⟩) ∧ s9 = .pointer (some ⟨b9, 0, none⟩) ∧ Blk wx b8 #[.int .i64 xk, .string xn, .int .i64 xu, .slice aw M cw, .int .i64 y0, .string y1, .int .i64 y2, .slice y3 y7 y8, .slice y4 y9 ya, .slice y5 yb yc, .slice y6 yd ye] ∧ Blk wx b9 #[.int .i64 xk, .string xn, .int .i64 xu, .slice aw' M cw', .int .i64 n0, .string n1, .int .i64 n2, .slice n3 n7 n8, .slice n4 n9 na, .slice n5 nb nc, .slice n6 nd ne] ∧ Below wr.heap.size wr wx)
              case first =>
                go_region
                all_goals
                  go_wp2
                  go_meet
                  first | exact ⟨_, _, rfl, rfl, (two_blk wr _ _ _).1, (two_blk wr _ _ _).2.1, (two_blk wr _ _ _).2.2⟩ | exact ⟨_, _, rfl, rfl, (two_blk wr _ _ _).2.1, (two_blk wr _ _ _).1, (two_blk wr _ _ _).2.2⟩
              case rest =>
                obtain ⟨b8, b9, rfl, rfl, B8, B9, bwc⟩ := hcut
                have hBc := chain HB.out bwc
                have HBc := Lib.hid hBc
                have HKT := Lib.hid (KT.out wc (HWB.out wc hBc))
                have HB8 := Lib.hid B8
                have HB9 := Lib.hid B9
                have c8 := B8.cell
                have c9 := B9.cell
                have z0 : (xk != xk) = false := by simp
                have z2 : (xu != xu) = false := by simp
                clear a0 a0' a1 a1' a2 a2' a3 a3' v0 t0 v1 t1 v2 t2 v3 t3 v4 t4 v5 t5 v6 t6 x4 x5 x6 q4 q5 q6 B8 B9 bwc hBc hb0 hb1 hp0 hp1 hlt1 hszw hwsz
                go_wp2_with (first | (go_at_call 33; refine HKT.out.mono ?_; rintro r1 w1 ⟨rfl, b1⟩; have d8 := (HB8.out.below b1 HB8.out.lt).cell; have d9 := (HB9.out.below b1 HB9.out.lt).cell; have K1 := Lib.hid (chain HBc.out b1); clear c8 c9 b1) | (go_at_call 19; refine (KO.out _ (HWB.out _ K1.out)).mono ?_; rintro r2 w2 ⟨rfl, b2⟩; have K2 := Lib.hid (chain K1.out b2); clear b2))
                go_roundw
                case measure => simp [intOf]; omega
                case rel => exact ⟨k + 1, by go_num, by omega, K2.out⟩
            · have hlt2 : decide ((k : Int) < (N6 : Int)) = false := by simp; omega
              have hlt3 : decide (k < N6) = false := by simp; omega
              obtain rfl : N6 = k := by omega
              go_wp2
              go_ret
              exact ⟨rfl, HWB.out _ hB⟩
theorem same_any : ∀ (d : Nat) (x : Ex d) (v1 v2 : Value) (W : World), ExIs W d v1 x → ExIs W d v2 x → Sm d x → Calls Try.prog 19 #[v1, v2] W fun r W' => r = .returned (.bool true) ∧ Below W.heap.size W W'
  | 0, x, _, _, _, _, _, _ => nomatch (x : Empty)
  | d + 1, x, v1, v2, W, h1, h2, hs => same_step d (same_any d) v1 v2 x W h1 h2 hs
end Go.Proofs.Ytkcgchpflppmnaa
