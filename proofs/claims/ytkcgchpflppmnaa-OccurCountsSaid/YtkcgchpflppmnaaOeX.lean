/- core.CheckExpr: some number. The law OccurCounts, walked. -/
import Derived.Test.YtkcgchpflppmnaaOeY
import Derived.Test.YtkcgchpflppmnaaOeS
import Derived.Test.YtkcgchpflppmnaaOeM
import Derived.Test.YtkcgchpflppmnaaOdE
namespace Go.Proofs.Ytkcgchpflppmnaa
open Go.RowKit
set_option linter.unusedSimpArgs false
set_option linter.unusedVariables false
set_option maxRecDepth 100000 in
set_option maxHeartbeats 600000 in
theorem checkExpr_any (d : Nat) (v vv : Value) (e : ExN (Ex d)) (vars : List ByteArray) (b o N c : Nat) (w : World) (h : ExIs w (d + 1) v e) (hcap : ∃ l, v = .agg l.toArray ∧ CapP w (CapAt w d) l) (hbd : Bd (d + 1) e) (hs : Sm (d + 1) e) (hz : sizeK (d + 1) e ≤ 4096)
    (hN : N ≤ 1000) (hb : b < w.heap.size) (hC : Cons w b o N) (ht : Txs w vv vars) (hv : vars.length ≤ 10000000) :
    Calls Try.prog 20 #[.agg #[.slice (some ⟨b, o, none⟩) N c, .slice none 0 0], v, vv] w fun r w' => SomeInt w r w' := by
  obtain ⟨l0, rfl, hp⟩ := h
  obtain ⟨pa, pb, pc, pd, pa2, pb2, pc2, pd2, rfl⟩ := parts_form hp
  obtain ⟨l1, hl1, hcp⟩ := hcap
  obtain ⟨av, cv, rfl, -⟩ := id ht
  have hl2 : l1 = exV e.kind e.name e.num pa pb pc pd e.params.length pa2 e.binds.length pb2 e.args.length pc2 e.alts.length pd2 := by
    have := (Value.agg.inj hl1).symm
    exact (Array.toList_inj.2 this) |> fun h => by simpa using h
  subst hl2
  have hB1 : Below w.heap.size w (w.alloc (.cells #[.slice (some ⟨b, o, none⟩) N c, .slice none 0 0] 49)) := (Below.refl _ w).alloc (Nat.le_refl _) _
  have hx1 : ExIs (w.alloc (.cells #[.slice (some ⟨b, o, none⟩) N c, .slice none 0 0] 49)) (d + 1) _ e := ExIs.below hB1 (d + 1) _ e ⟨_, rfl, hp⟩
  have P1 := Blk.new w #[.slice (some ⟨b, o, none⟩) N c, .slice none 0 0] 49
  have hcp1 := hcp.imp hB1.size (fun b o hl h => CapAt.below hB1 d b o hl h)
  have hC1 := hC.below hB1 hb
  have ht1 := ht.below hB1
  have hb1 : b < (w.alloc (.cells #[.slice (some ⟨b, o, none⟩) N c, .slice none 0 0] 49)).heap.size := Nat.lt_of_lt_of_le hb hB1.size
  have hsz1 : (w.alloc (.cells #[.slice (some ⟨b, o, none⟩) N c, .slice none 0 0] 49)).heap.size = w.heap.size + 1 := by simp
  unfold exV at hcp1 hx1 ⊢
  have hbx := ExIs.boxed (t := 29) hx1
  go_enter Try.func20, Try.ntmps20
  go_upto_region 1 with fail
  have R0 := Blk.new (w.alloc (.cells #[.slice (some ⟨b, o, none⟩) N c, .slice none 0 0] 49)) #[.int .i64 e.kind, .string e.name, .int .i64 e.num, .slice pa e.params.length pa2, .slice pb e.binds.length pb2, .slice pc e.args.length pc2, .slice pd e.alts.length pd2] 29
  have hB2 := (Below.refl _ (w.alloc (.cells #[.slice (some ⟨b, o, none⟩) N c, .slice none 0 0] 49))).alloc (Nat.le_refl _) (.cells #[.int .i64 e.kind, .string e.name, .int .i64 e.num, .slice pa e.params.length pa2, .slice pb e.binds.length pb2, .slice pc e.args.length pc2, .slice pd e.alts.length pd2] 29)
  generalize (w.alloc (.cells #[.slice (some ⟨b, o, none⟩) N c, .slice none 0 0] 49)).alloc (.cells #[.int .i64 e.kind, .string e.name, .int .i64 e.num, .slice pa e.params.length pa2, .slice pb e.binds.length pb2, .slice pc e.args.length pc2, .slice pd e.alts.length pd2] 29) = W0 at R0 hB2 hbx ⊢
  generalize w.alloc (.cells #[.slice (some ⟨b, o, none⟩) N c, .slice none 0 0] 49) = Wp at *
  rw [hsz1] at R0 hbx
  have P0 := P1.below hB2 P1.lt
  have hC0 := hC1.below hB2 hb1
  have ht0 := ht1.below hB2
  have hX0 := ExIs.below hB2 (d + 1) _ e hx1
  have hB0 := hB1.trans (hB2.mono hB1.size)
  have hcap0 : CapAt W0 (d + 1) (w.heap.size + 1) 0 := ⟨_, fun j cc hj => by rw [Nat.zero_add]; exact (R0.cell j).trans (by rw [← hj]; simp), hcp1.imp hB2.size (fun b o hl h => CapAt.below hB2 d b o hl h)⟩
  have hb0 := Nat.lt_of_lt_of_le hb1 hB2.size
  have KF := Lib.hid (fits_any (d + 1) e _ W0 hX0 hs hz)
  have HB0 := Lib.hid hB0
  have HC0 := Lib.hid (And.intro hb0 hC0)
  have HT0 := Lib.hid ht0
  have HX := Lib.hid hbx
  have HCap := Lib.hid hcap0
  have HBD := Lib.hid hbd
  have HS := Lib.hid hs
  have HV := Lib.hid hv
  have HP0 := Lib.hid P0
  have HR0 := Lib.hid (And.intro R0.lt (Nat.le_succ w.heap.size))
  clear hp hcp ht hB1 hx1 P1 hcp1 hC1 ht1 hb1 hsz1 hB2 hC hb hX0 hB0 hcap0 hb0 hC0 ht0 hbx hbd hs hz hv
  generalize w.heap.size + 1 = be at *
  generalize e.kind = kd at R0 KF ⊢
  generalize e.name = nm at R0 KF ⊢
  generalize e.num = nu at R0 KF ⊢
  generalize e.params.length = n3 at R0 KF ⊢
  generalize e.binds.length = n4 at R0 KF ⊢
  generalize e.args.length = n5 at R0 KF ⊢
  generalize e.alts.length = n6 at R0 KF ⊢
  have x0 : W0.cell? ⟨be, 0, none⟩ = _ := R0.cell 0
  have x1 : W0.cell? ⟨be, 1, none⟩ = _ := R0.cell 1
  have x2 : W0.cell? ⟨be, 2, none⟩ = _ := R0.cell 2
  have x3 : W0.cell? ⟨be, 3, none⟩ = _ := R0.cell 3
  have x4 : W0.cell? ⟨be, 4, none⟩ = _ := R0.cell 4
  have x5 : W0.cell? ⟨be, 5, none⟩ = _ := R0.cell 5
  have x6 : W0.cell? ⟨be, 6, none⟩ = _ := R0.cell 6
  simp only [List.getElem?_toArray, List.getElem?_cons_zero, List.getElem?_cons_succ] at x0 x1 x2 x3 x4 x5 x6
  clear R0 P0
  generalize hbp : w.heap.size = bp at HP0 HR0 ⊢
  go_upto_region 3 with (go_at_call 34; refine KF.out.mono ?_; rintro r1 w1 ⟨rfl, b1⟩; have HB1 := Lib.hid b1; clear b1)
  clear x0 x1 x2 x3 x4 x5 x6 KF
  have HP1 := Lib.hid (HP0.out.below HB1.out HP0.out.lt)
  have p0 : w1.cell? ⟨bp, 0, none⟩ = some (.slice (some ⟨b, o, none⟩) N c) := HP1.out.cell 0
  have p1 : w1.cell? ⟨bp, 1, none⟩ = some (.slice none 0 0) := HP1.out.cell 1
  have KO := Lib.hid (callsIn_wide.1 (ofc_in b o N c hN w1 (Nat.lt_of_lt_of_le HC0.out.1 HB1.out.size) (HC0.out.2.below HB1.out HC0.out.1)))
  go_upto_region 4 with (go_at_call 35; refine KO.out.mono ?_; rintro r2 w2 ⟨cb, m, rfl, hcb, hmp, hge, b2⟩; have HCB := Lib.hid hcb; have HMP := Lib.hid hmp; have HGE := Lib.hid hge; have HB2 := Lib.hid (HB1.out.trans (b2.mono HB1.out.size)); have HP2 := Lib.hid (HP1.out.below b2 HP1.out.lt); clear hcb hmp hge b2)
  clear p0 p1 KO HP1
  have p1 : w2.cell? ⟨bp, 1, none⟩ = some (.slice none 0 0) := HP2.out.cell 1
  have KB := Lib.hid (cbinds_any (.slice none 0 0) [] w2 ⟨none, 0, rfl, fun h => by simp at h⟩ (by simp))
  have HFS := Lib.hid (show FrSm [vars, []] from FrSm.cons HV.out (FrSm.cons (by simp) (fun x hx => by cases hx)))
  have HBW := Lib.hid (HB0.out.trans (HB2.out.mono HB0.out.size))
  go_wp2_with (first | (go_at_call 37; refine KB.out.mono ?_; rintro r3 w3 ⟨vb, rfl, ho, b3⟩; obtain ⟨ab, cb3, rfl⟩ : ∃ a c, vb = .slice a 0 c := own_shape ho; have F1 := FrAt.push ho.txs (show FrAt w3 (.pointer none) [] from rfl) 70; have HB3 := (HB2.out.trans (b3.mono HB2.out.size)); have T1 := HT0.out.below (HB3.trans (((Below.refl _ w3).alloc (Nat.le_refl _) (.cells #[.slice ab 0 cb3, .pointer none] 70)).mono HB3.size)); have F2 := FrAt.push T1 F1 70; rw [World.size_alloc] at F2; have F2 := Lib.hid F2; have B4 := Lib.hid (((Below.refl _ w2).trans b3).alloc b3.size (.cells #[.slice ab 0 cb3, .pointer none] 70)); have B5 := Lib.hid (B4.out.alloc B4.out.size (.cells #[.slice av vars.length cv, .pointer (some ⟨w3.heap.size, 0, none⟩)] 70)); clear ho b3 F1 HB3 T1))
  have hcw : w.heap.size ≤ cb := by
    have h1 := HGE.out
    have h2 := HB1.out.size
    have h3 := HB0.out.size
    omega
  have hc0 : W0.heap.size ≤ cb := Nat.le_trans HB1.out.size HGE.out
  have hbl := HB2.out.trans (B5.out.mono HB2.out.size)
  have KE := expr_any W0 cb m (d + 1) e be 0 _ [vars, []] _ HR0.out.1 HX.out HCap.out HBD.out HS.out hbl hc0 F2.out HFS.out ⟨0, HCB.out.below B5.out HCB.out.lt⟩ (HMP.out.below B5.out)
  have B7 := Lib.hid (HBW.out.trans (B5.out.mono HBW.out.size))
  have Hcw := Lib.hid hcw
  clear hcw hc0 hbl
  go_wp2_with (go_at_call 36; refine KE.mono ?_; rintro r6 w6 ⟨k6, rfl, hk6, g6⟩; have y1 : w6.cell? ⟨cb, 1, none⟩ = some (.int .i64 k6) := hk6.cell 1; have B6 := Lib.hid (below_gnew B7.out g6 Hcw.out); clear hk6 g6 KE)
  go_ret
  exact SomeInt.mk rfl B6.out
end Go.Proofs.Ytkcgchpflppmnaa

namespace Go.Proofs.Ytkcgchpflppmnaa
open Go.RowKit
set_option linter.unusedSimpArgs false
set_option linter.unusedVariables false

set_option maxRecDepth 100000 in
set_option maxHeartbeats 8000000 in
theorem counts_step (d : Nat) (v : Value) (e : ExN (Ex d)) (s : ByteArray) (w : World) (h : ExIs w (d + 1) v e) (hs : Bd (d + 1) e) (hcap : ∃ l, v = .agg l.toArray ∧ CapP w (CapAt w d) l) :
    Calls Try.prog 5 #[v, .string s] w fun r w' => r = .returned (.bool true) ∧ Below w.heap.size w w' := by
  obtain ⟨l0, rfl, hp⟩ := h
  obtain ⟨pa, pb, pc, pd, pa2, pb2, pc2, pd2, rfl⟩ := parts_form hp
  have hx0 : ExIs w (d + 1) (.agg #[.int .i64 e.kind, .string e.name, .int .i64 e.num, .slice pa e.params.length pa2, .slice pb e.binds.length pb2, .slice pc e.args.length pc2, .slice pd e.alts.length pd2]) e := ⟨_, rfl, hp⟩
  have hbx : ExAt (w.alloc (.cells #[.int .i64 e.kind, .string e.name, .int .i64 e.num, .slice pa e.params.length pa2, .slice pb e.binds.length pb2, .slice pc e.args.length pc2, .slice pd e.alts.length pd2] 29)) (d + 1) w.heap.size 0 e := ExIs.boxed (t := 29) (d := d + 1) (W := w) (x := e) ⟨_, rfl, hp⟩
  have HCapV := Lib.hid (show ∀ W, Below w.heap.size w W → ∃ l, Value.agg #[.int .i64 e.kind, .string e.name, .int .i64 e.num, .slice pa e.params.length pa2, .slice pb e.binds.length pb2, .slice pc e.args.length pc2, .slice pd e.alts.length pd2] = .agg l.toArray ∧ CapP W (CapAt W d) l from fun W hW => by obtain ⟨l, g1, g2⟩ := hcap; exact ⟨l, g1, g2.imp hW.size (fun b o hl h => CapAt.below hW d b o hl h)⟩)
  clear hcap
  have R0 := Blk.new w #[.int .i64 e.kind, .string e.name, .int .i64 e.num, .slice pa e.params.length pa2, .slice pb e.binds.length pb2, .slice pc e.args.length pc2, .slice pd e.alts.length pd2] 29
  have hB0 : Below w.heap.size w (w.alloc (.cells #[.int .i64 e.kind, .string e.name, .int .i64 e.num, .slice pa e.params.length pa2, .slice pb e.binds.length pb2, .slice pc e.args.length pc2, .slice pd e.alts.length pd2] 29)) := (Below.refl _ w).alloc (Nat.le_refl _) _
  have HX0 := Lib.hid hx0
  have HBX := Lib.hid hbx
  have HS := Lib.hid hs
  unfold exV
  clear hp hx0 hbx hs
  generalize e.kind = kd at R0 hB0 HX0 HBX HCapV ⊢
  generalize e.name = nm at R0 hB0 HX0 HBX HCapV ⊢
  generalize e.num = nu at R0 hB0 HX0 HBX HCapV ⊢
  generalize e.params.length = n3 at R0 hB0 HX0 HBX HCapV ⊢
  generalize e.binds.length = n4 at R0 hB0 HX0 HBX HCapV ⊢
  generalize e.args.length = n5 at R0 hB0 HX0 HBX HCapV ⊢
  generalize e.alts.length = n6 at R0 hB0 HX0 HBX HCapV ⊢
  go_enter Try.func5, Try.ntmps5
  go_upto_region 1 with fail
  generalize w.alloc (.cells #[.int .i64 kd, .string nm, .int .i64 nu, .slice pa n3 pa2, .slice pb n4 pb2, .slice pc n5 pc2, .slice pd n6 pd2] 29) = W0 at R0 hB0 HBX ⊢
  have HB0 := Lib.hid hB0
  have HR0 := Lib.hid R0
  generalize hbq : w.heap.size = b at R0 HBX HR0 ⊢
  have x0 : W0.cell? ⟨b, 0, none⟩ = _ := R0.cell 0
  have x1 : W0.cell? ⟨b, 1, none⟩ = _ := R0.cell 1
  have x2 : W0.cell? ⟨b, 2, none⟩ = _ := R0.cell 2
  have x3 : W0.cell? ⟨b, 3, none⟩ = _ := R0.cell 3
  have x4 : W0.cell? ⟨b, 4, none⟩ = _ := R0.cell 4
  have x5 : W0.cell? ⟨b, 5, none⟩ = _ := R0.cell 5
  have x6 : W0.cell? ⟨b, 6, none⟩ = _ := R0.cell 6
  simp only [List.getElem?_toArray, List.getElem?_cons_zero, List.getElem?_cons_succ] at x0 x1 x2 x3 x4 x5 x6
  have hb := R0.lt
  clear R0 hB0
  have HC := Lib.hid (show ∀ W, Below W0.heap.size W0 W → W.cell? ⟨b, 0, none⟩ = some (.int .i64 kd) ∧ W.cell? ⟨b, 1, none⟩ = some (.string nm) ∧ W.cell? ⟨b, 2, none⟩ = some (.int .i64 nu) ∧ W.cell? ⟨b, 3, none⟩ = some (.slice pa n3 pa2) ∧ W.cell? ⟨b, 4, none⟩ = some (.slice pb n4 pb2) ∧ W.cell? ⟨b, 5, none⟩ = some (.slice pc n5 pc2) ∧ W.cell? ⟨b, 6, none⟩ = some (.slice pd n6 pd2) from fun W hW => by
    have R2 := HR0.out.below hW HR0.out.lt
    exact ⟨R2.cell 0, R2.cell 1, R2.cell 2, R2.cell 3, R2.cell 4, R2.cell 5, R2.cell 6⟩)
  have HXW := Lib.hid (show ∀ W, Below W0.heap.size W0 W → ExIs W (d + 1) (.agg #[.int .i64 kd, .string nm, .int .i64 nu, .slice pa n3 pa2, .slice pb n4 pb2, .slice pc n5 pc2, .slice pd n6 pd2]) e from fun W hW => ExIs.below (HB0.out.trans (hW.mono (hbq ▸ HB0.out.size))) _ _ _ HX0.out)
  have HFIN := Lib.hid (show ∀ W, Below W0.heap.size W0 W → Below w.heap.size w W from fun W hW => HB0.out.trans (hW.mono (hbq ▸ HB0.out.size)))
  have HCP := Lib.hid (show ∀ W, Below W0.heap.size W0 W → ∃ l, Value.agg #[.int .i64 kd, .string nm, .int .i64 nu, .slice pa n3 pa2, .slice pb n4 pb2, .slice pc n5 pc2, .slice pd n6 pd2] = .agg l.toArray ∧ CapP W (CapAt W d) l from fun W hW => HCapV.out W (HFIN.out W hW))
  have HS9 := Lib.hid (show ∀ wx, Below W0.heap.size W0 wx → Below W0.heap.size W0 wx ∧ wx.cell? ⟨b, 0, none⟩ = some (.int .i64 kd) ∧ wx.cell? ⟨b, 1, none⟩ = some (.string nm) ∧ wx.cell? ⟨b, 2, none⟩ = some (.int .i64 nu) ∧ wx.cell? ⟨b, 3, none⟩ = some (.slice pa n3 pa2) ∧ wx.cell? ⟨b, 4, none⟩ = some (.slice pb n4 pb2) ∧ wx.cell? ⟨b, 5, none⟩ = some (.slice pc n5 pc2) ∧ wx.cell? ⟨b, 6, none⟩ = some (.slice pd n6 pd2) from fun wx h => ⟨h, HC.out wx h⟩)
  have KL := Lib.hid (lives_any W0)
  have KS := Lib.hid (fun W (hW : Below W0.heap.size W0 W) => small_step d _ e W (HXW.out W hW) HS.out)
  obtain ⟨SZ, hSZ⟩ : ∃ n, s.size = n := ⟨_, rfl⟩
  go_upto_region 3 with (go_at_call 6; refine KL.out.mono ?_; rintro r1 w1 ⟨rfl, b1⟩; have B1 := Lib.hid b1; clear b1)
  clear x0 x1 x2 x3 x4 x5 x6 KL HX0 HB0 HBX HR0 HCapV
  go_cut [4, 30] (fun s4 s30 wx => ∃ q : Bool, s30 = .bool q ∧ s4 = .bool false ∧ (q = false → Hid (sizeK (d + 1) e ≤ 4096 ∧ Sm (d + 1) e)) ∧ Hid (Below W0.heap.size W0 wx))
  case first =>
    refine wp_region_held_drew (S := fun wx => Below W0.heap.size W0 wx ∧ wx.cell? ⟨b, 0, none⟩ = some (.int .i64 kd) ∧ wx.cell? ⟨b, 1, none⟩ = some (.string nm) ∧ wx.cell? ⟨b, 2, none⟩ = some (.int .i64 nu) ∧ wx.cell? ⟨b, 3, none⟩ = some (.slice pa n3 pa2) ∧ wx.cell? ⟨b, 4, none⟩ = some (.slice pb n4 pb2) ∧ wx.cell? ⟨b, 5, none⟩ = some (.slice pc n5 pc2) ∧ wx.cell? ⟨b, 6, none⟩ = some (.slice pd n6 pd2)) (by kernel_rfl) (HS9.out _ B1.out.drew) (fun hHeld => ?_)
    refine wpAnyH_take (i := 0) (v := ?_) rfl (by kernel_rfl) (by kernel_rfl) (by kernel_rfl) (fun _ _ _ h => h) (Or.inl ⟨by rfl, ?_⟩) (by assumption) ?_
    rotate_left
    · (intro w hSw; (try dsimp only at hSw); go_simp; try with_reducible rfl)
    try simp only [Act.put, List.setIfInBounds_toArray, List.set_cons_zero, List.set_cons_succ, List.getElem_toArray, List.getElem_cons_zero, List.getElem_cons_succ]
    refine wpAnyH_ready (rs := [1]) (by kernel_rfl) (by simp) ?_
    refine AllReadyH.cons rfl (fun K hK => ?_) AllReadyH.nil
    go_simp
    go_at_call 11
    refine (KS.out _ hHeld.1).mono ?_
    rintro r2 w2 ⟨c, rfl, hc, b2⟩
    have B2 := Lib.hid (chain B1.out.drew b2)
    clear b2
    try simp only []
    refine hK.out _ _ (HS9.out _ B2.out) (fun hHeld2 => ?_)
    clear hK K
    try simp only [Act.put, List.setIfInBounds_toArray, List.set_cons_zero, List.set_cons_succ, List.getElem_toArray, List.getElem_cons_zero, List.getElem_cons_succ]
    clear hHeld KS
    cases hq : decide (c ≤ 300) with
    | false =>
      refine wpAnyH_take (i := 2) (v := ?_) rfl (by kernel_rfl) (by kernel_rfl) (by kernel_rfl) (fun _ _ _ h => h) (Or.inl ⟨by rfl, ?_⟩) (by assumption) ?_
      rotate_left
      · (intro w hSw; (try dsimp only at hSw); go_simp; try with_reducible rfl)
      try simp only [Act.put, List.setIfInBounds_toArray, List.set_cons_zero, List.set_cons_succ, List.getElem_toArray, List.getElem_cons_zero, List.getElem_cons_succ]
      refine wpAnyH_take (i := 3) (v := ?_) rfl (by kernel_rfl) (by kernel_rfl) (by kernel_rfl) (fun _ _ _ h => h) (Or.inl ⟨by rfl, ?_⟩) (by assumption) ?_
      rotate_left
      · (intro w hSw; (try dsimp only at hSw); go_simp; try with_reducible rfl)
      try simp only [Act.put, List.setIfInBounds_toArray, List.set_cons_zero, List.set_cons_succ, List.getElem_toArray, List.getElem_cons_zero, List.getElem_cons_succ]
      refine wpAnyH_take (i := 4) (v := undef) rfl (by kernel_rfl) (by kernel_rfl) (by kernel_rfl) (fun _ _ _ h => h) (Or.inr ⟨by rfl, rfl⟩) (by assumption) ?_
      try simp only [Act.put, List.setIfInBounds_toArray, List.set_cons_zero, List.set_cons_succ, List.getElem_toArray, List.getElem_cons_zero, List.getElem_cons_succ]
      refine wpAnyH_take (i := 5) (v := undef) rfl (by kernel_rfl) (by kernel_rfl) (by kernel_rfl) (fun _ _ _ h => h) (Or.inr ⟨by rfl, rfl⟩) (by assumption) ?_
      try simp only [Act.put, List.setIfInBounds_toArray, List.set_cons_zero, List.set_cons_succ, List.getElem_toArray, List.getElem_cons_zero, List.getElem_cons_succ]
      refine wpAnyH_take (i := 6) (v := undef) rfl (by kernel_rfl) (by kernel_rfl) (by kernel_rfl) (fun _ _ _ h => h) (Or.inr ⟨by rfl, rfl⟩) (by assumption) ?_
      try simp only [Act.put, List.setIfInBounds_toArray, List.set_cons_zero, List.set_cons_succ, List.getElem_toArray, List.getElem_cons_zero, List.getElem_cons_succ]
      refine wpAnyH_take (i := 7) (v := ?_) rfl (by kernel_rfl) (by kernel_rfl) (by kernel_rfl) (fun _ _ _ h => h) (Or.inl ⟨by rfl, ?_⟩) (by assumption) ?_
      rotate_left
      · (intro w hSw; (try dsimp only at hSw); go_simp; try with_reducible rfl)
      try simp only [Act.put, List.setIfInBounds_toArray, List.set_cons_zero, List.set_cons_succ, List.getElem_toArray, List.getElem_cons_zero, List.getElem_cons_succ]
      refine wpAnyH_take (i := 8) (v := ?_) rfl (by kernel_rfl) (by kernel_rfl) (by kernel_rfl) (fun _ _ _ h => h) (Or.inl ⟨by rfl, ?_⟩) (by assumption) ?_
      rotate_left
      · (intro w hSw; (try dsimp only at hSw); go_simp; try with_reducible rfl)
      try simp only [Act.put, List.setIfInBounds_toArray, List.set_cons_zero, List.set_cons_succ, List.getElem_toArray, List.getElem_cons_zero, List.getElem_cons_succ]
      refine wpAnyH_take (i := 9) (v := undef) rfl (by kernel_rfl) (by kernel_rfl) (by kernel_rfl) (fun _ _ _ h => h) (Or.inr ⟨by rfl, rfl⟩) (by assumption) ?_
      try simp only [Act.put, List.setIfInBounds_toArray, List.set_cons_zero, List.set_cons_succ, List.getElem_toArray, List.getElem_cons_zero, List.getElem_cons_succ]
      refine wpAnyH_take (i := 10) (v := undef) rfl (by kernel_rfl) (by kernel_rfl) (by kernel_rfl) (fun _ _ _ h => h) (Or.inr ⟨by rfl, rfl⟩) (by assumption) ?_
      try simp only [Act.put, List.setIfInBounds_toArray, List.set_cons_zero, List.set_cons_succ, List.getElem_toArray, List.getElem_cons_zero, List.getElem_cons_succ]
      refine wpAnyH_take (i := 11) (v := undef) rfl (by kernel_rfl) (by kernel_rfl) (by kernel_rfl) (fun _ _ _ h => h) (Or.inr ⟨by rfl, rfl⟩) (by assumption) ?_
      try simp only [Act.put, List.setIfInBounds_toArray, List.set_cons_zero, List.set_cons_succ, List.getElem_toArray, List.getElem_cons_zero, List.getElem_cons_succ]
      refine wpAnyH_take (i := 12) (v := undef) rfl (by kernel_rfl) (by kernel_rfl) (by kernel_rfl) (fun _ _ _ h => h) (Or.inr ⟨by rfl, rfl⟩) (by assumption) ?_
      try simp only [Act.put, List.setIfInBounds_toArray, List.set_cons_zero, List.set_cons_succ, List.getElem_toArray, List.getElem_cons_zero, List.getElem_cons_succ]
      refine wpAnyH_take (i := 13) (v := undef) rfl (by kernel_rfl) (by kernel_rfl) (by kernel_rfl) (fun _ _ _ h => h) (Or.inr ⟨by rfl, rfl⟩) (by assumption) ?_
      try simp only [Act.put, List.setIfInBounds_toArray, List.set_cons_zero, List.set_cons_succ, List.getElem_toArray, List.getElem_cons_zero, List.getElem_cons_succ]
      refine wpAnyH_take (i := 14) (v := undef) rfl (by kernel_rfl) (by kernel_rfl) (by kernel_rfl) (fun _ _ _ h => h) (Or.inr ⟨by rfl, rfl⟩) (by assumption) ?_
      try simp only [Act.put, List.setIfInBounds_toArray, List.set_cons_zero, List.set_cons_succ, List.getElem_toArray, List.getElem_cons_zero, List.getElem_cons_succ]
      refine wpAnyH_take (i := 15) (v := undef) rfl (by kernel_rfl) (by kernel_rfl) (by kernel_rfl) (fun _ _ _ h => h) (Or.inr ⟨by rfl, rfl⟩) (by assumption) ?_
      try simp only [Act.put, List.setIfInBounds_toArray, List.set_cons_zero, List.set_cons_succ, List.getElem_toArray, List.getElem_cons_zero, List.getElem_cons_succ]
      refine wpAnyH_take (i := 16) (v := ?_) rfl (by kernel_rfl) (by kernel_rfl) (by kernel_rfl) (fun _ _ _ h => h) (Or.inl ⟨by rfl, ?_⟩) (by assumption) ?_
      rotate_left
      · (intro w hSw; (try dsimp only at hSw); go_simp; try with_reducible rfl)
      try simp only [Act.put, List.setIfInBounds_toArray, List.set_cons_zero, List.set_cons_succ, List.getElem_toArray, List.getElem_cons_zero, List.getElem_cons_succ]
      refine wpAnyH_done (by kernel_rfl) ?_ _
      go_wp2_with fail
      go_meet
      exact ⟨true, rfl, rfl, (fun h => by cases h), B2⟩
    | true =>
      have hN : nodeK (d + 1) e ≤ 300 := by
        have h1 : c ≤ 300 := of_decide_eq_true hq
        have := hc h1
        omega
      have HSm := Lib.hid (sm_of 300 (by omega) (d + 1) e hN)
      have hz := size_node (d + 1) e
      have HZ := Lib.hid (show sizeK (d + 1) e ≤ 4096 by omega)
      clear hN hz hc hq
      by_cases hs1 : 1000 < SZ
      · have s1 : decide (1000 < SZ) = true := by simp; omega
        have s2 : decide ((1000 : Int) < (SZ : Int)) = true := by simp; omega
        refine wpAnyH_take (i := 2) (v := ?_) rfl (by kernel_rfl) (by kernel_rfl) (by kernel_rfl) (fun _ _ _ h => h) (Or.inl ⟨by rfl, ?_⟩) (by assumption) ?_
        rotate_left
        · (intro w hSw; (try dsimp only at hSw); go_simp; try with_reducible rfl)
        try simp only [Act.put, List.setIfInBounds_toArray, List.set_cons_zero, List.set_cons_succ, List.getElem_toArray, List.getElem_cons_zero, List.getElem_cons_succ]
        refine wpAnyH_take (i := 3) (v := ?_) rfl (by kernel_rfl) (by kernel_rfl) (by kernel_rfl) (fun _ _ _ h => h) (Or.inl ⟨by rfl, ?_⟩) (by assumption) ?_
        rotate_left
        · (intro w hSw; (try dsimp only at hSw); go_simp; try with_reducible rfl)
        try simp only [Act.put, List.setIfInBounds_toArray, List.set_cons_zero, List.set_cons_succ, List.getElem_toArray, List.getElem_cons_zero, List.getElem_cons_succ]
        refine wpAnyH_take (i := 4) (v := ?_) rfl (by kernel_rfl) (by kernel_rfl) (by kernel_rfl) (fun _ _ _ h => h) (Or.inl ⟨by rfl, ?_⟩) (by assumption) ?_
        rotate_left
        · (intro w hSw; (try dsimp only at hSw); go_simp; try with_reducible rfl)
        try simp only [Act.put, List.setIfInBounds_toArray, List.set_cons_zero, List.set_cons_succ, List.getElem_toArray, List.getElem_cons_zero, List.getElem_cons_succ]
        refine wpAnyH_take (i := 5) (v := ?_) rfl (by kernel_rfl) (by kernel_rfl) (by kernel_rfl) (fun _ _ _ h => h) (Or.inl ⟨by rfl, ?_⟩) (by assumption) ?_
        rotate_left
        · (intro w hSw; (try dsimp only at hSw); go_simp; try with_reducible rfl)
        try simp only [Act.put, List.setIfInBounds_toArray, List.set_cons_zero, List.set_cons_succ, List.getElem_toArray, List.getElem_cons_zero, List.getElem_cons_succ]
        refine wpAnyH_take (i := 6) (v := ?_) rfl (by kernel_rfl) (by kernel_rfl) (by kernel_rfl) (fun _ _ _ h => h) (Or.inl ⟨by rfl, ?_⟩) (by assumption) ?_
        rotate_left
        · (intro w hSw; (try dsimp only at hSw); go_simp; try with_reducible rfl)
        try simp only [Act.put, List.setIfInBounds_toArray, List.set_cons_zero, List.set_cons_succ, List.getElem_toArray, List.getElem_cons_zero, List.getElem_cons_succ]
        refine wpAnyH_take (i := 7) (v := ?_) rfl (by kernel_rfl) (by kernel_rfl) (by kernel_rfl) (fun _ _ _ h => h) (Or.inl ⟨by rfl, ?_⟩) (by assumption) ?_
        rotate_left
        · (intro w hSw; (try dsimp only at hSw); go_simp; try with_reducible rfl)
        try simp only [Act.put, List.setIfInBounds_toArray, List.set_cons_zero, List.set_cons_succ, List.getElem_toArray, List.getElem_cons_zero, List.getElem_cons_succ]
        refine wpAnyH_take (i := 8) (v := ?_) rfl (by kernel_rfl) (by kernel_rfl) (by kernel_rfl) (fun _ _ _ h => h) (Or.inl ⟨by rfl, ?_⟩) (by assumption) ?_
        rotate_left
        · (intro w hSw; (try dsimp only at hSw); go_simp; try with_reducible rfl)
        try simp only [Act.put, List.setIfInBounds_toArray, List.set_cons_zero, List.set_cons_succ, List.getElem_toArray, List.getElem_cons_zero, List.getElem_cons_succ]
        refine wpAnyH_take (i := 9) (v := undef) rfl (by kernel_rfl) (by kernel_rfl) (by kernel_rfl) (fun _ _ _ h => h) (Or.inr ⟨by rfl, rfl⟩) (by assumption) ?_
        try simp only [Act.put, List.setIfInBounds_toArray, List.set_cons_zero, List.set_cons_succ, List.getElem_toArray, List.getElem_cons_zero, List.getElem_cons_succ]
        refine wpAnyH_take (i := 10) (v := undef) rfl (by kernel_rfl) (by kernel_rfl) (by kernel_rfl) (fun _ _ _ h => h) (Or.inr ⟨by rfl, rfl⟩) (by assumption) ?_
        try simp only [Act.put, List.setIfInBounds_toArray, List.set_cons_zero, List.set_cons_succ, List.getElem_toArray, List.getElem_cons_zero, List.getElem_cons_succ]
        refine wpAnyH_take (i := 11) (v := undef) rfl (by kernel_rfl) (by kernel_rfl) (by kernel_rfl) (fun _ _ _ h => h) (Or.inr ⟨by rfl, rfl⟩) (by assumption) ?_
        try simp only [Act.put, List.setIfInBounds_toArray, List.set_cons_zero, List.set_cons_succ, List.getElem_toArray, List.getElem_cons_zero, List.getElem_cons_succ]
        refine wpAnyH_take (i := 12) (v := undef) rfl (by kernel_rfl) (by kernel_rfl) (by kernel_rfl) (fun _ _ _ h => h) (Or.inr ⟨by rfl, rfl⟩) (by assumption) ?_
        try simp only [Act.put, List.setIfInBounds_toArray, List.set_cons_zero, List.set_cons_succ, List.getElem_toArray, List.getElem_cons_zero, List.getElem_cons_succ]
        refine wpAnyH_take (i := 13) (v := undef) rfl (by kernel_rfl) (by kernel_rfl) (by kernel_rfl) (fun _ _ _ h => h) (Or.inr ⟨by rfl, rfl⟩) (by assumption) ?_
        try simp only [Act.put, List.setIfInBounds_toArray, List.set_cons_zero, List.set_cons_succ, List.getElem_toArray, List.getElem_cons_zero, List.getElem_cons_succ]
        refine wpAnyH_take (i := 14) (v := undef) rfl (by kernel_rfl) (by kernel_rfl) (by kernel_rfl) (fun _ _ _ h => h) (Or.inr ⟨by rfl, rfl⟩) (by assumption) ?_
        try simp only [Act.put, List.setIfInBounds_toArray, List.set_cons_zero, List.set_cons_succ, List.getElem_toArray, List.getElem_cons_zero, List.getElem_cons_succ]
        refine wpAnyH_take (i := 15) (v := undef) rfl (by kernel_rfl) (by kernel_rfl) (by kernel_rfl) (fun _ _ _ h => h) (Or.inr ⟨by rfl, rfl⟩) (by assumption) ?_
        try simp only [Act.put, List.setIfInBounds_toArray, List.set_cons_zero, List.set_cons_succ, List.getElem_toArray, List.getElem_cons_zero, List.getElem_cons_succ]
        refine wpAnyH_take (i := 16) (v := ?_) rfl (by kernel_rfl) (by kernel_rfl) (by kernel_rfl) (fun _ _ _ h => h) (Or.inl ⟨by rfl, ?_⟩) (by assumption) ?_
        rotate_left
        · (intro w hSw; (try dsimp only at hSw); go_simp; try with_reducible rfl)
        try simp only [Act.put, List.setIfInBounds_toArray, List.set_cons_zero, List.set_cons_succ, List.getElem_toArray, List.getElem_cons_zero, List.getElem_cons_succ]
        refine wpAnyH_done (by kernel_rfl) ?_ _
        go_wp2_with fail
        go_meet
        exact ⟨true, rfl, rfl, (fun h => by cases h), B2⟩
      · have s1 : decide (1000 < SZ) = false := by simp; omega
        have s2 : decide ((1000 : Int) < (SZ : Int)) = false := by simp; omega
        refine wpAnyH_take (i := 2) (v := ?_) rfl (by kernel_rfl) (by kernel_rfl) (by kernel_rfl) (fun _ _ _ h => h) (Or.inl ⟨by rfl, ?_⟩) (by assumption) ?_
        rotate_left
        · (intro w hSw; (try dsimp only at hSw); go_simp; try with_reducible rfl)
        try simp only [Act.put, List.setIfInBounds_toArray, List.set_cons_zero, List.set_cons_succ, List.getElem_toArray, List.getElem_cons_zero, List.getElem_cons_succ]
        refine wpAnyH_take (i := 3) (v := ?_) rfl (by kernel_rfl) (by kernel_rfl) (by kernel_rfl) (fun _ _ _ h => h) (Or.inl ⟨by rfl, ?_⟩) (by assumption) ?_
        rotate_left
        · (intro w hSw; (try dsimp only at hSw); go_simp; try with_reducible rfl)
        try simp only [Act.put, List.setIfInBounds_toArray, List.set_cons_zero, List.set_cons_succ, List.getElem_toArray, List.getElem_cons_zero, List.getElem_cons_succ]
        refine wpAnyH_take (i := 4) (v := ?_) rfl (by kernel_rfl) (by kernel_rfl) (by kernel_rfl) (fun _ _ _ h => h) (Or.inl ⟨by rfl, ?_⟩) (by assumption) ?_
        rotate_left
        · (intro w hSw; (try dsimp only at hSw); go_simp; try with_reducible rfl)
        try simp only [Act.put, List.setIfInBounds_toArray, List.set_cons_zero, List.set_cons_succ, List.getElem_toArray, List.getElem_cons_zero, List.getElem_cons_succ]
        refine wpAnyH_take (i := 5) (v := ?_) rfl (by kernel_rfl) (by kernel_rfl) (by kernel_rfl) (fun _ _ _ h => h) (Or.inl ⟨by rfl, ?_⟩) (by assumption) ?_
        rotate_left
        · (intro w hSw; (try dsimp only at hSw); go_simp; try with_reducible rfl)
        try simp only [Act.put, List.setIfInBounds_toArray, List.set_cons_zero, List.set_cons_succ, List.getElem_toArray, List.getElem_cons_zero, List.getElem_cons_succ]
        refine wpAnyH_take (i := 6) (v := ?_) rfl (by kernel_rfl) (by kernel_rfl) (by kernel_rfl) (fun _ _ _ h => h) (Or.inl ⟨by rfl, ?_⟩) (by assumption) ?_
        rotate_left
        · (intro w hSw; (try dsimp only at hSw); go_simp; try with_reducible rfl)
        try simp only [Act.put, List.setIfInBounds_toArray, List.set_cons_zero, List.set_cons_succ, List.getElem_toArray, List.getElem_cons_zero, List.getElem_cons_succ]
        refine wpAnyH_take (i := 7) (v := ?_) rfl (by kernel_rfl) (by kernel_rfl) (by kernel_rfl) (fun _ _ _ h => h) (Or.inl ⟨by rfl, ?_⟩) (by assumption) ?_
        rotate_left
        · (intro w hSw; (try dsimp only at hSw); go_simp; try with_reducible rfl)
        try simp only [Act.put, List.setIfInBounds_toArray, List.set_cons_zero, List.set_cons_succ, List.getElem_toArray, List.getElem_cons_zero, List.getElem_cons_succ]
        refine wpAnyH_take (i := 8) (v := ?_) rfl (by kernel_rfl) (by kernel_rfl) (by kernel_rfl) (fun _ _ _ h => h) (Or.inl ⟨by rfl, ?_⟩) (by assumption) ?_
        rotate_left
        · (intro w hSw; (try dsimp only at hSw); go_simp; try with_reducible rfl)
        try simp only [Act.put, List.setIfInBounds_toArray, List.set_cons_zero, List.set_cons_succ, List.getElem_toArray, List.getElem_cons_zero, List.getElem_cons_succ]
        refine wpAnyH_take (i := 11) (v := ?_) rfl (by kernel_rfl) (by kernel_rfl) (by kernel_rfl) (fun _ _ _ h => h) (Or.inl ⟨by rfl, ?_⟩) (by assumption) ?_
        rotate_left
        · (intro w hSw; (try dsimp only at hSw); go_simp; try with_reducible rfl)
        try simp only [Act.put, List.setIfInBounds_toArray, List.set_cons_zero, List.set_cons_succ, List.getElem_toArray, List.getElem_cons_zero, List.getElem_cons_succ]
        refine wpAnyH_take (i := 12) (v := ?_) rfl (by kernel_rfl) (by kernel_rfl) (by kernel_rfl) (fun _ _ _ h => h) (Or.inl ⟨by rfl, ?_⟩) (by assumption) ?_
        rotate_left
        · (intro w hSw; (try dsimp only at hSw); go_simp; try with_reducible rfl)
        try simp only [Act.put, List.setIfInBounds_toArray, List.set_cons_zero, List.set_cons_succ, List.getElem_toArray, List.getElem_cons_zero, List.getElem_cons_succ]
        refine wpAnyH_ready (rs := [9]) (by kernel_rfl) (by simp) ?_
        refine AllReadyH.cons rfl (fun K hK => ?_) AllReadyH.nil
        go_simp
        go_at_call 21
        refine (builtin_any _).mono ?_
        rintro r3 w3 ⟨bb, rfl, hbl, hcons, b3⟩
        have B3 := Lib.hid (chain B2.out b3)
        have HC3 := Lib.hid (And.intro hbl hcons)
        clear b3 hbl hcons
        try simp only []
        refine hK.out _ _ (HS9.out _ B3.out) (fun hHeld3 => ?_)
        clear hK K
        try simp only [Act.put, List.setIfInBounds_toArray, List.set_cons_zero, List.set_cons_succ, List.getElem_toArray, List.getElem_cons_zero, List.getElem_cons_succ]
        refine wpAnyH_take (i := 10) (v := ?_) rfl (by kernel_rfl) (by kernel_rfl) (by kernel_rfl) (fun _ _ _ h => h) (Or.inl ⟨by rfl, ?_⟩) (by assumption) ?_
        rotate_left
        · (intro w hSw; (try dsimp only at hSw); go_simp; try with_reducible rfl)
        try simp only [Act.put, List.setIfInBounds_toArray, List.set_cons_zero, List.set_cons_succ, List.getElem_toArray, List.getElem_cons_zero, List.getElem_cons_succ]
        refine wpAnyH_ready (rs := [13]) (by kernel_rfl) (by simp) ?_
        refine AllReadyH.cons rfl (fun K hK => ?_) AllReadyH.nil
        go_simp
        go_at_call 22
        refine (Free_any (d + 1) e _ _ (HXW.out _ B3.out) HSm.out HZ.out).mono ?_
        rintro r4 w4 ⟨v', ol, rfl, t4, hlen, -, b4⟩
        have B4 := Lib.hid (chain B3.out b4)
        have HC4 := Lib.hid (And.intro (Nat.lt_of_lt_of_le HC3.out.1 b4.size) (HC3.out.2.below b4 HC3.out.1))
        have T4 := Lib.hid t4
        have HL4 := Lib.hid hlen
        clear b4 t4 hlen
        try simp only []
        refine hK.out _ _ (HS9.out _ B4.out) (fun hHeld4 => ?_)
        clear hK K
        try simp only [Act.put, List.setIfInBounds_toArray, List.set_cons_zero, List.set_cons_succ, List.getElem_toArray, List.getElem_cons_zero, List.getElem_cons_succ]
        refine wpAnyH_ready (rs := [14]) (by kernel_rfl) (by simp) ?_
        refine AllReadyH.cons rfl (fun K hK => ?_) AllReadyH.nil
        go_simp
        go_at_call 20
        refine (checkExpr_any d _ v' e ol bb 0 5 5 _ (HXW.out _ B4.out) (HCP.out _ B4.out) HS.out HSm.out HZ.out (by omega) HC4.out.1 HC4.out.2 T4.out (by have := HL4.out; omega)).mono ?_
        rintro r5 w5 ⟨n, rfl, b5⟩
        have B5 := Lib.hid (chain B4.out b5)
        clear b5
        try simp only []
        refine hK.out _ _ (HS9.out _ B5.out) (fun hHeld5 => ?_)
        clear hK K
        try simp only [Act.put, List.setIfInBounds_toArray, List.set_cons_zero, List.set_cons_succ, List.getElem_toArray, List.getElem_cons_zero, List.getElem_cons_succ]
        refine wpAnyH_take (i := 15) (v := ?_) rfl (by kernel_rfl) (by kernel_rfl) (by kernel_rfl) (fun _ _ _ h => h) (Or.inl ⟨by rfl, ?_⟩) (by assumption) ?_
        rotate_left
        · (intro w hSw; (try dsimp only at hSw); go_simp; try with_reducible rfl)
        try simp only [Act.put, List.setIfInBounds_toArray, List.set_cons_zero, List.set_cons_succ, List.getElem_toArray, List.getElem_cons_zero, List.getElem_cons_succ]
        refine wpAnyH_take (i := 16) (v := ?_) rfl (by kernel_rfl) (by kernel_rfl) (by kernel_rfl) (fun _ _ _ h => h) (Or.inl ⟨by rfl, ?_⟩) (by assumption) ?_
        rotate_left
        · (intro w hSw; (try dsimp only at hSw); go_simp; try with_reducible rfl)
        try simp only [Act.put, List.setIfInBounds_toArray, List.set_cons_zero, List.set_cons_succ, List.getElem_toArray, List.getElem_cons_zero, List.getElem_cons_succ]
        refine wpAnyH_done (by kernel_rfl) ?_ _
        go_wp2_with fail
        go_meet
        exact ⟨_, rfl, rfl, fun _ => Lib.hid ⟨HZ.out, HSm.out⟩, B5⟩
  case rest =>
    obtain ⟨q, rfl, rfl, hq, HB⟩ := hcut
    clear KS B1
    cases q with
    | true =>
      go_wp2
      go_ret
      exact ⟨rfl, HFIN.out _ HB.out⟩
    | false =>
      have HZS := hq rfl
      clear hq
      have HZ := Lib.hid HZS.out.1
      have HSm := Lib.hid HZS.out.2
      clear HZS HCP HS
      have hrel := of_rel s (d + 1) e
      have hcnt := cnt_is s (d + 1) e HZ.out
      have hle := Nat.le_trans (cN_le s (d + 1) e) HZ.out
      have k1 := fun W hW => Of_step d _ e s W (HXW.out W hW) HSm.out HZ.out
      have k2 := fun W hW => Count_step d _ e s W (HXW.out W hW) HSm.out HZ.out
      rw [hcnt] at k2
      obtain ⟨oc, hoc⟩ : ∃ oc, ofK 1 5 s (d + 1) e = oc := ⟨_, rfl⟩
      rw [hoc] at hrel k1
      have KFr := Lib.hid (fun W (hW : Below W0.heap.size W0 W) => Free_any (d + 1) e _ W (HXW.out W hW) HSm.out HZ.out)
      obtain ⟨cn, hcn⟩ : ∃ n, cN s (d + 1) e = n := ⟨_, rfl⟩
      rw [hcn] at hrel hle k2
      have HCN := Lib.hid hcn
      have K1 := Lib.hid k1
      have K2 := Lib.hid k2
      have HRel := Lib.hid hrel
      clear k1 k2 hrel hcnt hoc hcn
      obtain ⟨x0, x1, x2, x3, x4, x5, x6⟩ := HC.out _ HB.out
      rename World => wc0
      go_upto_region 11 with (first | (go_at_call 13; refine (K1.out _ HB.out).mono ?_; rintro r6 w6 ⟨rfl, b6⟩; have D6 := Lib.hid (chain HB.out b6); clear b6; obtain ⟨x0, x1, x2, x3, x4, x5, x6⟩ := HC.out w6 D6.out) | (go_at_call 15; refine (K2.out _ D6.out).mono ?_; rintro r7 w7 ⟨rfl, b7⟩; have D7 := Lib.hid (chain D6.out b7); clear b7; obtain ⟨x0, x1, x2, x3, x4, x5, x6⟩ := HC.out w7 D7.out) | (go_at_call 22; refine (KFr.out _ D7.out).mono ?_; rintro r8 w8 ⟨v', ol, rfl, t8, hlen, hmem, b8⟩; obtain ⟨ao, co, rfl, hat⟩ := t8; have D8 := Lib.hid (chain D7.out b8); have HAt := Lib.hid hat; have HLen := Lib.hid hlen; have HMem := Lib.hid hmem; clear b8 hlen hmem hat))
      clear x0 x1 x2 x3 x4 x5 x6 K1 K2 KFr
      obtain ⟨N, hN⟩ : ∃ N, ol.length = N := ⟨_, rfl⟩
      have hN4 : N ≤ 4096 := hN ▸ HLen.out
      have HN := Lib.hid hN
      rw [hN]
      clear hN D6 D7 HLen
      have B8 := Lib.hid (Below.refl w8.heap.size w8)
      go_upto_region 12 with fail
      go_loopw [9, 11] (fun s9 i wr => ∃ k : Nat, i = .int .i64 k ∧ s9 = .bool (decide (s ∈ ol.take k)) ∧ k ≤ N ∧ Hid (Below w8.heap.size w8 wr)) (fun _ i _ => N - (intOf i).toNat)
      case atStart => exact ⟨0, rfl, by simp, Nat.zero_le _, B8⟩
      case round =>
        clear B8
        obtain ⟨k, rfl, rfl, hk, HB8⟩ := hrel
        by_cases hlt : k < N
        · have hlt2 : decide ((k : Int) < (N : Int)) = true := by simp; omega
          have hlt3 : decide (k < N) = true := by simp; omega
          have hi0 : (0 : Int) ≤ (k : Int) := by omega
          obtain ⟨x, hx⟩ : ∃ x, ol[k]? = some x := ⟨_, List.getElem?_eq_getElem (by rw [HN.out]; exact hlt)⟩
          obtain ⟨p, o', rfl, hp, hat⟩ := HAt.out (by rw [HN.out]; omega)
          have c0 := (HB8.out.cell (p := ⟨p, o' + k * 1, none⟩) hp).trans (hat k x hx)
          rw [Nat.mul_one] at c0
          have htk : ol.take (k + 1) = ol.take k ++ [x] := by rw [List.take_add_one, hx]; rfl
          have HTK := Lib.hid htk
          clear hat hx htk
          cases hd : decide (s ∈ ol.take k) with
          | true =>
            have HR := Lib.hid (show Value.bool true = .bool (decide (s ∈ ol.take (k + 1))) by rw [HTK.out, decide_eq_true (List.mem_append_left _ (of_decide_eq_true hd))])
            clear hd
            go_wp2
            go_roundw
            case rel => exact ⟨k + 1, by go_num, HR.out, by omega, HB8⟩
            case measure => simp [intOf]; omega
          | false =>
            have hno := of_decide_eq_false hd
            by_cases hxs : x = s
            · have fx : (x.toList == s.toList) = true := by rw [hxs]; simp
              have HR := Lib.hid (show Value.bool true = .bool (decide (s ∈ ol.take (k + 1))) by rw [HTK.out, hxs, decide_eq_true (List.mem_append_right _ (List.mem_singleton.2 rfl))])
              clear hd hno hxs
              go_wp2
              go_roundw
              case rel => exact ⟨k + 1, by go_num, HR.out, by omega, HB8⟩
              case measure => simp [intOf]; omega
            · have fx : (x.toList == s.toList) = false := toList_ne hxs
              have HR := Lib.hid (show Value.bool false = .bool (decide (s ∈ ol.take (k + 1))) by rw [HTK.out, decide_eq_false (fun h => by
                rcases List.mem_append.1 h with h | h
                · exact hno h
                · exact hxs (List.mem_singleton.1 h).symm)])
              clear hd hno hxs
              go_wp2
              go_roundw
              case rel => exact ⟨k + 1, by go_num, HR.out, by omega, HB8⟩
              case measure => simp [intOf]; omega
        · have hlt2 : decide ((k : Int) < (N : Int)) = false := by simp; omega
          have hlt3 : decide (k < N) = false := by simp; omega
          obtain rfl : N = k := by omega
          have hfin : w.heap.size ≤ w.heap.size := Nat.le_refl _
          have HBF := Lib.hid (HFIN.out _ (chain D8.out HB8.out))
          rw [take_whole HN.out]
          have hF : decide (s ∈ ol) = decide (0 < cn) := by
            have := HMem.out s
            rw [HCN.out] at this
            simp only [this]
          rw [hF]
          clear hF hfin HAt HMem HCN HB8 D8 hlt hlt2 hlt3 hk
          rcases HRel.out with ⟨rfl, rfl⟩ | ⟨rfl, rfl⟩ | ⟨rfl, rfl⟩ | ⟨rfl, h2⟩ | ⟨rfl, h2⟩
          · rw [show decide (0 < 0) = false from rfl]
            go_wp2
            go_ret
            exact ⟨rfl, HBF.out⟩
          · rw [show decide (0 < 1) = true from rfl]
            go_wp2
            go_ret
            exact ⟨rfl, HBF.out⟩
          · rw [show decide (0 < 1) = true from rfl]
            go_wp2
            go_ret
            exact ⟨rfl, HBF.out⟩
          · rw [show decide (0 < cn) = true from decide_eq_true (by omega)]
            have f2 : decide ((2 : Int) ≤ (cn : Int)) = true := by simp; omega
            have f3 : decide (2 ≤ cn) = true := by simpa using h2
            go_wp2
            go_ret
            exact ⟨rfl, HBF.out⟩
          · rw [show decide (0 < cn) = true from decide_eq_true (by omega)]
            have f2 : decide ((2 : Int) ≤ (cn : Int)) = true := by simp; omega
            have f3 : decide (2 ≤ cn) = true := by simpa using h2
            go_wp2
            go_ret
            exact ⟨rfl, HBF.out⟩
end Go.Proofs.Ytkcgchpflppmnaa
