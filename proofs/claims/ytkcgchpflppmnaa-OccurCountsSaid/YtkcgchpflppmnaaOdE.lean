/- kit.SmallExpr; the law OccurCalls, walked. -/
import Derived.Test.YtkcgchpflppmnaaOdD
import Derived.Test.YtkcgchpflppmnaaEvQ
import Derived.Test.YtkcgchpflppmnaaRows
namespace Go.Proofs.Ytkcgchpflppmnaa
open Go.RowKit
set_option linter.unusedSimpArgs false
set_option linter.unusedVariables false

set_option maxRecDepth 100000 in
set_option maxHeartbeats 8000000 in
theorem small_step (d : Nat) (v : Value) (e : ExN (Ex d)) (w : World) (h : ExIs w (d + 1) v e) (hs : Bd (d + 1) e) :
    Calls Try.prog 11 #[v, .int .i64 300, .int .i64 120] w fun r w' => ∃ c : Int, r = .returned (.bool (decide (c ≤ 300))) ∧ (c ≤ 300 → (nodeK (d + 1) e : Int) ≤ c) ∧ Below w.heap.size w w' := by
  obtain ⟨l0, rfl, hp⟩ := h
  obtain ⟨pa, pb, pc, pd, pa2, pb2, pc2, pd2, rfl⟩ := parts_form hp
  have hx0 : ExIs w (d + 1) (.agg #[.int .i64 e.kind, .string e.name, .int .i64 e.num, .slice pa e.params.length pa2, .slice pb e.binds.length pb2, .slice pc e.args.length pc2, .slice pd e.alts.length pd2]) e := ⟨_, rfl, hp⟩
  have hbx : ExAt (w.alloc (.cells #[.int .i64 e.kind, .string e.name, .int .i64 e.num, .slice pa e.params.length pa2, .slice pb e.binds.length pb2, .slice pc e.args.length pc2, .slice pd e.alts.length pd2] 29)) (d + 1) w.heap.size 0 e := ExIs.boxed (t := 29) (d := d + 1) (W := w) (x := e) ⟨_, rfl, hp⟩
  have R0 := Blk.new w #[.int .i64 e.kind, .string e.name, .int .i64 e.num, .slice pa e.params.length pa2, .slice pb e.binds.length pb2, .slice pc e.args.length pc2, .slice pd e.alts.length pd2] 29
  have hB0 : Below w.heap.size w (w.alloc (.cells #[.int .i64 e.kind, .string e.name, .int .i64 e.num, .slice pa e.params.length pa2, .slice pb e.binds.length pb2, .slice pc e.args.length pc2, .slice pd e.alts.length pd2] 29)) := (Below.refl _ w).alloc (Nat.le_refl _) _
  have HX0 := Lib.hid hx0
  have HBX := Lib.hid hbx
  have HS := Lib.hid hs
  unfold exV
  clear hp hx0 hbx hs
  generalize e.kind = kd at R0 hB0 HX0 HBX ⊢
  generalize e.name = nm at R0 hB0 HX0 HBX ⊢
  generalize e.num = nu at R0 hB0 HX0 HBX ⊢
  generalize e.params.length = n3 at R0 hB0 HX0 HBX ⊢
  generalize e.binds.length = n4 at R0 hB0 HX0 HBX ⊢
  generalize e.args.length = n5 at R0 hB0 HX0 HBX ⊢
  generalize e.alts.length = n6 at R0 hB0 HX0 HBX ⊢
  go_enter Try.func11, Try.ntmps11
  go_upto_region 1 with fail
  generalize w.alloc (.cells #[.int .i64 kd, .string nm, .int .i64 nu, .slice pa n3 pa2, .slice pb n4 pb2, .slice pc n5 pc2, .slice pd n6 pd2] 29) = W0 at R0 hB0 HBX ⊢
  have HB0 := Lib.hid hB0
  have HR0 := Lib.hid R0
  generalize hbq : w.heap.size = b at R0 HBX HR0 ⊢
  have x0 : W0.cell? ⟨b, 0, none⟩ = _ := R0.cell 0
  have x1 : W0.cell? ⟨b, 1, none⟩ = _ := R0.cell 1
  have x2 : W0.cell? ⟨b, 2, none⟩ = _ := R0.cell 2
  have x3 : W0.cell? ⟨b, 3, none⟩ = _ := R0.cell 3
  have x4 : W0.cell? ⟨b, 4, none⟩ = _ := R0.cell 4
  have x5 : W0.cell? ⟨b, 5, none⟩ = _ := R0.cell 5
  have x6 : W0.cell? ⟨b, 6, none⟩ = _ := R0.cell 6
  simp only [List.getElem?_toArray, List.getElem?_cons_zero, List.getElem?_cons_succ] at x0 x1 x2 x3 x4 x5 x6
  have hb := R0.lt
  clear R0 hB0
  have KC := Lib.hid (cexprs_any (d + 1) e _ W0 120 (ExIs.below HB0.out _ _ _ HX0.out) HS.out (Nat.le_refl _))
  go_wp2_with (go_at_call 23; refine KC.out.mono ?_; rintro r1 w1 ⟨c, rfl, ⟨hc0, hc1, hc2⟩, k1⟩)
  go_ret
  exact ⟨c, rfl, hc2, chain HB0.out k1⟩
theorem OOwn.shape {W : World} {B : Nat} {v : Value} {l : List (ByteArray × Int)} (h : OOwn W B v l) : ∃ a c, v = .slice a l.length c := by
  obtain ⟨a, c, hv⟩ := own_shape h
  exact ⟨a, c, by rw [hv, List.length_map]⟩
theorem OOwn.at {W : World} {B : Nat} {a : Option Addr} {n c : Nat} {l : List (ByteArray × Int)} (h : OOwn W B (.slice a n c) l) {k : Nat} {x : ByteArray × Int} (hx : l[k]? = some x) : ∃ g, a = some ⟨g, 0, none⟩ ∧ g < W.heap.size ∧ W.cell? ⟨g, k * 2, none⟩ = some (.string x.1) ∧ W.cell? ⟨g, k * 2 + 1, none⟩ = some (.int .i64 x.2) := by
  have hk : k < l.length := (List.getElem?_eq_some_iff.1 hx).1
  have h0 : W.ownsRow B 42 2 (.slice a n c) (l.map occRow).length (l.map occRow).flatten := h
  rcases h0.2 with ⟨_, h2⟩ | ⟨g, cap, cc, hv, hg, hh, _⟩
  · simp at h2; subst h2; simp at hk
  · simp only [Value.slice.injEq] at hv
    obtain ⟨rfl, -, rfl⟩ := hv
    have key : ∀ j u, j < 2 → (occRow x)[j]? = some u → W.cell? ⟨g, k * 2 + j, none⟩ = some u := fun j u hj hu => by
      have := World.ownsRow.cells h0 (g := g) rfl (k * 2 + j) u (by
        rw [flatten_get (n := 2) (by decide) (fun r hr => by obtain ⟨y, _, rfl⟩ := List.mem_map.1 hr; rfl), show (k * 2 + j) / 2 = k by omega, show (k * 2 + j) % 2 = j by omega, List.getElem?_map, hx]
        exact hu)
      rwa [show (⟨g, 0, none⟩ : Addr).add (k * 2 + j) = ⟨g, k * 2 + j, none⟩ from by unfold Addr.add; split <;> simp_all] at this
    exact ⟨g, rfl, (Array.getElem?_eq_some_iff.1 hh).1, key 0 _ (by omega) rfl, key 1 _ (by omega) rfl⟩

set_option maxRecDepth 1000000 in
theorem livesRuns : Ev.isTrue (Ev.calls Try.prog Ev.noFacts 100000 60 6 [] Ev.Mem.start) = true := by kernel_rfl
theorem lives_any (w : World) : Calls Try.prog 6 #[] w fun e w' => e = .returned (.bool true) ∧ Below w.heap.size w w' := Ev.closed (by kernel_rfl) livesRuns w
set_option maxRecDepth 100000 in
set_option maxHeartbeats 8000000 in
theorem calls_step (d : Nat) (v : Value) (e : ExN (Ex d)) (s : ByteArray) (w : World) (h : ExIs w (d + 1) v e) (hs : Bd (d + 1) e) :
    Calls Try.prog 4 #[v, .string s] w fun r w' => r = .returned (.bool true) ∧ Below w.heap.size w w' := by
  obtain ⟨l0, rfl, hp⟩ := h
  obtain ⟨pa, pb, pc, pd, pa2, pb2, pc2, pd2, rfl⟩ := parts_form hp
  have hx0 : ExIs w (d + 1) (.agg #[.int .i64 e.kind, .string e.name, .int .i64 e.num, .slice pa e.params.length pa2, .slice pb e.binds.length pb2, .slice pc e.args.length pc2, .slice pd e.alts.length pd2]) e := ⟨_, rfl, hp⟩
  have hbx : ExAt (w.alloc (.cells #[.int .i64 e.kind, .string e.name, .int .i64 e.num, .slice pa e.params.length pa2, .slice pb e.binds.length pb2, .slice pc e.args.length pc2, .slice pd e.alts.length pd2] 29)) (d + 1) w.heap.size 0 e := ExIs.boxed (t := 29) (d := d + 1) (W := w) (x := e) ⟨_, rfl, hp⟩
  have R0 := Blk.new w #[.int .i64 e.kind, .string e.name, .int .i64 e.num, .slice pa e.params.length pa2, .slice pb e.binds.length pb2, .slice pc e.args.length pc2, .slice pd e.alts.length pd2] 29
  have hB0 : Below w.heap.size w (w.alloc (.cells #[.int .i64 e.kind, .string e.name, .int .i64 e.num, .slice pa e.params.length pa2, .slice pb e.binds.length pb2, .slice pc e.args.length pc2, .slice pd e.alts.length pd2] 29)) := (Below.refl _ w).alloc (Nat.le_refl _) _
  have HX0 := Lib.hid hx0
  have HBX := Lib.hid hbx
  have HS := Lib.hid hs
  unfold exV
  clear hp hx0 hbx hs
  generalize e.kind = kd at R0 hB0 HX0 HBX ⊢
  generalize e.name = nm at R0 hB0 HX0 HBX ⊢
  generalize e.num = nu at R0 hB0 HX0 HBX ⊢
  generalize e.params.length = n3 at R0 hB0 HX0 HBX ⊢
  generalize e.binds.length = n4 at R0 hB0 HX0 HBX ⊢
  generalize e.args.length = n5 at R0 hB0 HX0 HBX ⊢
  generalize e.alts.length = n6 at R0 hB0 HX0 HBX ⊢
  go_enter Try.func4, Try.ntmps4
  go_upto_region 1 with fail
  generalize w.alloc (.cells #[.int .i64 kd, .string nm, .int .i64 nu, .slice pa n3 pa2, .slice pb n4 pb2, .slice pc n5 pc2, .slice pd n6 pd2] 29) = W0 at R0 hB0 HBX ⊢
  have HB0 := Lib.hid hB0
  have HR0 := Lib.hid R0
  generalize hbq : w.heap.size = b at R0 HBX HR0 ⊢
  have x0 : W0.cell? ⟨b, 0, none⟩ = _ := R0.cell 0
  have x1 : W0.cell? ⟨b, 1, none⟩ = _ := R0.cell 1
  have x2 : W0.cell? ⟨b, 2, none⟩ = _ := R0.cell 2
  have x3 : W0.cell? ⟨b, 3, none⟩ = _ := R0.cell 3
  have x4 : W0.cell? ⟨b, 4, none⟩ = _ := R0.cell 4
  have x5 : W0.cell? ⟨b, 5, none⟩ = _ := R0.cell 5
  have x6 : W0.cell? ⟨b, 6, none⟩ = _ := R0.cell 6
  simp only [List.getElem?_toArray, List.getElem?_cons_zero, List.getElem?_cons_succ] at x0 x1 x2 x3 x4 x5 x6
  have hb := R0.lt
  clear R0 hB0
  have HC := Lib.hid (show ∀ W, Below W0.heap.size W0 W → W.cell? ⟨b, 0, none⟩ = some (.int .i64 kd) ∧ W.cell? ⟨b, 1, none⟩ = some (.string nm) ∧ W.cell? ⟨b, 2, none⟩ = some (.int .i64 nu) ∧ W.cell? ⟨b, 3, none⟩ = some (.slice pa n3 pa2) ∧ W.cell? ⟨b, 4, none⟩ = some (.slice pb n4 pb2) ∧ W.cell? ⟨b, 5, none⟩ = some (.slice pc n5 pc2) ∧ W.cell? ⟨b, 6, none⟩ = some (.slice pd n6 pd2) from fun W hW => by
    have R2 := HR0.out.below hW HR0.out.lt
    exact ⟨R2.cell 0, R2.cell 1, R2.cell 2, R2.cell 3, R2.cell 4, R2.cell 5, R2.cell 6⟩)
  have HXW := Lib.hid (show ∀ W, Below W0.heap.size W0 W → ExIs W (d + 1) (.agg #[.int .i64 kd, .string nm, .int .i64 nu, .slice pa n3 pa2, .slice pb n4 pb2, .slice pc n5 pc2, .slice pd n6 pd2]) e from fun W hW => ExIs.below (HB0.out.trans (hW.mono (hbq ▸ HB0.out.size))) _ _ _ HX0.out)
  have HFIN := Lib.hid (show ∀ W, Below W0.heap.size W0 W → Below w.heap.size w W from fun W hW => HB0.out.trans (hW.mono (hbq ▸ HB0.out.size)))
  have KL := Lib.hid (lives_any W0)
  have KS := Lib.hid (fun W (hW : Below W0.heap.size W0 W) => small_step d _ e W (HXW.out W hW) HS.out)
  obtain ⟨SZ, hSZ⟩ : ∃ n, s.size = n := ⟨_, rfl⟩
  go_upto_region 3 with (go_at_call 6; refine KL.out.mono ?_; rintro r1 w1 ⟨rfl, b1⟩; have B1 := Lib.hid b1; clear b1)
  clear x0 x1 x2 x3 x4 x5 x6 KL
  obtain ⟨x0, x1, x2, x3, x4, x5, x6⟩ := HC.out w1 B1.out
  have KS1 := KS.out w1 B1.out
  clear KS
  have hcase : (decide (1000 < SZ) = true ∧ decide ((1000 : Int) < (SZ : Int)) = true) ∨ (decide (1000 < SZ) = false ∧ decide ((1000 : Int) < (SZ : Int)) = false) := by
    by_cases h : 1000 < SZ
    · exact .inl ⟨by simp; omega, by simp; omega⟩
    · exact .inr ⟨by simp; omega, by simp; omega⟩
  rcases hcase with ⟨s1, s2⟩ | ⟨s1, s2⟩
  · go_upto_region 5 with (go_at_call 11; refine KS1.mono ?_; rintro r2 w2 ⟨c, rfl, hc, b2⟩; have B2 := Lib.hid (chain B1.out b2); rcases hcb : decide (c ≤ 300) with _ | _)
    all_goals
      go_ret
      exact ⟨rfl, HFIN.out _ B2.out⟩
  go_upto_region 5 with (go_at_call 11; refine KS1.mono ?_; rintro r2 w2 ⟨c, rfl, hc, b2⟩; have B2 := Lib.hid (chain B1.out b2); rcases hcb : decide (c ≤ 300) with _ | _)
  · go_ret
    exact ⟨rfl, HFIN.out _ B2.out⟩
  have hN : nodeK (d + 1) e ≤ 300 := by
    have h1 : c ≤ 300 := of_decide_eq_true hcb
    have := hc h1
    omega
  have HSm := Lib.hid (sm_of 300 (by omega) (d + 1) e hN)
  have hz := size_node (d + 1) e
  have hal := all_node 1 5 (d + 1) e
  have HZ := Lib.hid (show sizeK (d + 1) e ≤ 4096 by omega)
  have HAL := Lib.hid (show (allK 1 5 (d + 1) e).length ≤ 300 by omega)
  have KX := Lib.hid (kexpr_any (d + 1) e _ w2 (HXW.out w2 B2.out) HSm.out)
  obtain ⟨x0, x1, x2, x3, x4, x5, x6⟩ := HC.out w2 B2.out
  clear hN hz hal hc hcb b2 KS1 s1 s2
  go_upto_region 6 with (go_at_call 12; refine KX.out.mono ?_; rintro r3 w3 ⟨v', rfl, hd, b3⟩; have hnow := Lib.hid hd.now; obtain ⟨y0, y1, y2, y3, y4, y5, y6, y7, y8, y9, ya, yb, yc, yd, ye, hvq⟩ := hd.now.form; subst hvq; unfold exV; have B3 := Lib.hid (chain B2.out b3); clear hd b3)
  clear x0 x1 x2 x3 x4 x5 x6 KX
  have R5 := Blk.new w3 #[.int .i64 y0, .string y1, .int .i64 y2, .slice y3 y7 y8, .slice y4 y9 ya, .slice y5 yb yc, .slice y6 yd ye] 29
  have hb5 : Below w3.heap.size w3 (w3.alloc (.cells #[.int .i64 y0, .string y1, .int .i64 y2, .slice y3 y7 y8, .slice y4 y9 ya, .slice y5 yb yc, .slice y6 yd ye] 29)) := (Below.refl _ _).alloc (Nat.le_refl _) _
  have hx5 : ExIs (w3.alloc (.cells #[.int .i64 y0, .string y1, .int .i64 y2, .slice y3 y7 y8, .slice y4 y9 ya, .slice y5 yb yc, .slice y6 yd ye] 29)) (d + 1) (.agg #[.int .i64 y0, .string y1, .int .i64 y2, .slice y3 y7 y8, .slice y4 y9 ya, .slice y5 yb yc, .slice y6 yd ye]) e := ExIs.below hb5 _ _ _ hnow.out
  have B5 := chain B3.out hb5
  generalize w3.alloc (.cells #[.int .i64 y0, .string y1, .int .i64 y2, .slice y3 y7 y8, .slice y4 y9 ya, .slice y5 yb yc, .slice y6 yd ye] 29) = W5 at R5 hb5 hx5 B5 ⊢
  generalize w3.heap.size = b5 at R5 ⊢
  have HB5 := Lib.hid B5
  have HC5 := Lib.hid (show ∀ W, Below W5.heap.size W5 W → (W.cell? ⟨b, 0, none⟩ = some (.int .i64 kd) ∧ W.cell? ⟨b, 1, none⟩ = some (.string nm) ∧ W.cell? ⟨b, 2, none⟩ = some (.int .i64 nu) ∧ W.cell? ⟨b, 3, none⟩ = some (.slice pa n3 pa2) ∧ W.cell? ⟨b, 4, none⟩ = some (.slice pb n4 pb2) ∧ W.cell? ⟨b, 5, none⟩ = some (.slice pc n5 pc2) ∧ W.cell? ⟨b, 6, none⟩ = some (.slice pd n6 pd2)) ∧ (∀ j, W.cell? ⟨b5, j, none⟩ = #[.int .i64 y0, .string y1, .int .i64 y2, .slice y3 y7 y8, .slice y4 y9 ya, .slice y5 yb yc, .slice y6 yd ye][j]?) from fun W hW => ⟨HC.out W (HB5.out.trans (hW.mono HB5.out.size)), (R5.below hW R5.lt).cell⟩)
  have HXV := Lib.hid (show ∀ W, Below W5.heap.size W5 W → ExIs W (d + 1) (.agg #[.int .i64 kd, .string nm, .int .i64 nu, .slice pa n3 pa2, .slice pb n4 pb2, .slice pc n5 pc2, .slice pd n6 pd2]) e ∧ ExIs W (d + 1) (.agg #[.int .i64 y0, .string y1, .int .i64 y2, .slice y3 y7 y8, .slice y4 y9 ya, .slice y5 yb yc, .slice y6 yd ye]) e from fun W hW => ⟨HXW.out W (HB5.out.trans (hW.mono HB5.out.size)), ExIs.below hW _ _ _ hx5⟩)
  have HFI5 := Lib.hid (show ∀ W, Below W5.heap.size W5 W → Below w.heap.size w W from fun W hW => HFIN.out W (HB5.out.trans (hW.mono HB5.out.size)))
  have k1 := fun W hW => Of_step d _ e s W (HXV.out W hW).2 HSm.out HZ.out
  have k2 := fun W hW => rOf_step d _ e s W (HXV.out W hW).1 HSm.out HZ.out
  have k3 := fun W hW => Count_step d _ e s W (HXV.out W hW).2 HSm.out HZ.out
  have k4 := fun W hW => rCount_step d _ e s W (HXV.out W hW).1 HSm.out HZ.out
  have hal7 : (allK 1 5 (d + 1) e).length ≤ 10000000 := by have := HAL.out; omega
  have k5 := fun W hW => All_step d _ e W (HXV.out W hW).2 HSm.out HZ.out hal7
  have k6 := fun W hW => rAll_step d _ e W (HXV.out W hW).1 HSm.out HZ.out hal7
  have K7 := Lib.hid (fun W hW => same_any (d + 1) e _ _ W (HXV.out W hW).2 (HXV.out W hW).1 HSm.out)
  obtain ⟨oc, hoc⟩ : ∃ oc, ofK 1 5 s (d + 1) e = oc := ⟨_, rfl⟩
  obtain ⟨cn, hcn⟩ : ∃ cn, cntK s (d + 1) e = cn := ⟨_, rfl⟩
  have hal3 := HAL.out
  obtain ⟨AL, hAL⟩ : ∃ l, allK 1 5 (d + 1) e = l := ⟨_, rfl⟩
  rw [hAL] at k5 k6 hal3
  rw [hoc] at k1 k2
  rw [hcn] at k3 k4
  obtain ⟨LN, hLN⟩ : ∃ n, AL.length = n := ⟨_, rfl⟩
  rw [hLN] at hal3
  have HLN := Lib.hid hLN
  have K1 := Lib.hid k1
  have K2 := Lib.hid k2
  have K3 := Lib.hid k3
  have K4 := Lib.hid k4
  have K5 := Lib.hid k5
  have K6 := Lib.hid k6
  clear k1 k2 k3 k4 k5 k6 hal7 hoc hcn hAL hLN hb5 hx5 B5 R5 HXW HAL HFIN hnow
  have z1 : (oc != oc) = false := by simp
  have z2 : (cn != cn) = false := by simp
  have z3 : ((LN : Int) != (LN : Int)) = false := by simp
  obtain ⟨⟨x0, x1, x2, x3, x4, x5, x6⟩, xx⟩ := HC5.out W5 (Below.refl _ _)
  go_upto_region 10 with (first | (go_at_call 13; refine (K1.out _ (Below.refl _ _)).mono ?_; rintro r6 w6 ⟨rfl, b6⟩; have D6 := Lib.hid b6; obtain ⟨⟨x0, x1, x2, x3, x4, x5, x6⟩, xx⟩ := HC5.out w6 b6) | (go_at_call 14; refine (K2.out _ D6.out).mono ?_; rintro r7 w7 ⟨rfl, b7⟩; have D7 := Lib.hid (chain D6.out b7); obtain ⟨⟨x0, x1, x2, x3, x4, x5, x6⟩, xx⟩ := HC5.out w7 D7.out) | (go_at_call 15; refine (K3.out _ D7.out).mono ?_; rintro r8 w8 ⟨rfl, b8⟩; have D8 := Lib.hid (chain D7.out b8); obtain ⟨⟨x0, x1, x2, x3, x4, x5, x6⟩, xx⟩ := HC5.out w8 D8.out) | (go_at_call 16; refine (K4.out _ D8.out).mono ?_; rintro r9 w9 ⟨rfl, b9⟩; have D9 := Lib.hid (chain D8.out b9); obtain ⟨⟨x0, x1, x2, x3, x4, x5, x6⟩, xx⟩ := HC5.out w9 D9.out))
  clear x0 x1 x2 x3 x4 x5 x6 xx
  obtain ⟨⟨x0, x1, x2, x3, x4, x5, x6⟩, xx⟩ := HC5.out w9 D9.out
  go_upto_region 14 with (first | (go_at_call 17; refine (K5.out _ D9.out).mono ?_; rintro ra wa ⟨⟨va, rfl, oa⟩, ba⟩; obtain ⟨a1, c1, rfl⟩ := oa.shape; rw [HLN.out] at oa ⊢; have DA := Lib.hid (chain D9.out ba); have OA := Lib.hid oa; obtain ⟨⟨x0, x1, x2, x3, x4, x5, x6⟩, xx⟩ := HC5.out wa DA.out) | (go_at_call 18; refine (K6.out _ DA.out).mono ?_; rintro rb wb ⟨⟨vb, rfl, ob⟩, bb⟩; obtain ⟨a2, c2, rfl⟩ := ob.shape; rw [HLN.out] at ob ⊢; have DB := Lib.hid (chain DA.out bb); have OB := Lib.hid ob; have OA2 := Lib.hid (OA.out.below bb)))
  clear x0 x1 x2 x3 x4 x5 x6 xx z1 z2 z3 OA D6 D7 D8 D9 K1 K2 K3 K4 K5 K6
  go_wp2
  go_loopw [18] (fun i wr => ∃ k : Nat, i = .int .i64 k ∧ k ≤ LN ∧ Below wb.heap.size wb wr) (fun i _ => LN - (intOf i).toNat)
  case atStart => exact ⟨0, rfl, Nat.zero_le _, Below.refl _ _⟩
  case round =>
    obtain ⟨k, rfl, hk, hB⟩ := hrel
    by_cases hlt : k < LN
    · have hlt2 : decide ((k : Int) < (LN : Int)) = true := by simp; omega
      have hlt3 : decide (k < LN) = true := by simp; omega
      have hi0 : (0 : Int) ≤ (k : Int) := by omega
      have hkt : k < AL.length := by rw [HLN.out]; exact hlt
      obtain ⟨x, hx⟩ : ∃ x, AL[k]? = some x := ⟨_, List.getElem?_eq_getElem hkt⟩
      obtain ⟨g1, rfl, l1, e1, e2⟩ := OA2.out.at hx
      obtain ⟨g2, rfl, l2, f1, f2⟩ := OB.out.at hx
      have e1' := (hB.cell (p := ⟨g1, k * 2, none⟩) l1).trans e1
      have e2' := (hB.cell (p := ⟨g1, k * 2 + 1, none⟩) l1).trans e2
      have f1' := (hB.cell (p := ⟨g2, k * 2, none⟩) l2).trans f1
      have f2' := (hB.cell (p := ⟨g2, k * 2 + 1, none⟩) l2).trans f2
      obtain ⟨xn, xm⟩ := x
      have HB := Lib.hid hB
      clear e1 e2 f1 f2 hx
      go_wp2
      go_quiet (fail)
      go_wp2
      go_roundw
      case measure => simp [intOf]; omega
      case rel => exact ⟨k + 1, by go_num, by omega, HB.out.trans ⟨rfl, rfl, rfl, Nat.le_refl _, fun _ _ => rfl⟩⟩
    · have hlt2 : decide ((k : Int) < (LN : Int)) = false := by simp; omega
      have hlt3 : decide (k < LN) = false := by simp; omega
      obtain rfl : LN = k := by omega
      have DR := chain DB.out hB
      obtain ⟨⟨x0, x1, x2, x3, x4, x5, x6⟩, xx⟩ := HC5.out wr DR
      have HDR := Lib.hid DR
      clear DR hlt hlt2 hlt3
      go_wp2_with (go_at_call 19; refine (K7.out _ HDR.out).mono ?_; rintro rf wf ⟨rfl, bf⟩)
      go_ret
      exact ⟨rfl, HFI5.out _ (chain HDR.out bf)⟩
end Go.Proofs.Ytkcgchpflppmnaa
