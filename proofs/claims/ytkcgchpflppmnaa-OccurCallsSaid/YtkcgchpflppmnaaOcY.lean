/- The reference's Within, Long, Of, Count, All. -/
import Derived.Test.YtkcgchpflppmnaaOcX
namespace Go.Proofs.Ytkcgchpflppmnaa
open Go.RowKit
set_option linter.unusedSimpArgs false
set_option linter.unusedVariables false

set_option maxRecDepth 100000 in
set_option maxHeartbeats 8000000 in
theorem within_step (d : Nat) (v : Value) (e : ExN (Ex d)) (w : World) (h : ExIs w (d + 1) v e) (hs : Sm (d + 1) e) (hz : sizeK (d + 1) e ≤ 4096) :
    Calls Try.prog 43 #[v, .int .i64 1048576, .int .i64 4096] w fun r w' => r = .returned (.bool true) ∧ Below w.heap.size w w' := by
  obtain ⟨l0, rfl, hp⟩ := h
  obtain ⟨pa, pb, pc, pd, pa2, pb2, pc2, pd2, rfl⟩ := parts_form hp
  have hx0 : ExIs w (d + 1) (.agg #[.int .i64 e.kind, .string e.name, .int .i64 e.num, .slice pa e.params.length pa2, .slice pb e.binds.length pb2, .slice pc e.args.length pc2, .slice pd e.alts.length pd2]) e := ⟨_, rfl, hp⟩
  have hbx : ExAt (w.alloc (.cells #[.int .i64 e.kind, .string e.name, .int .i64 e.num, .slice pa e.params.length pa2, .slice pb e.binds.length pb2, .slice pc e.args.length pc2, .slice pd e.alts.length pd2] 29)) (d + 1) w.heap.size 0 e := ExIs.boxed (t := 29) (d := d + 1) (W := w) (x := e) ⟨_, rfl, hp⟩
  have R0 := Blk.new w #[.int .i64 e.kind, .string e.name, .int .i64 e.num, .slice pa e.params.length pa2, .slice pb e.binds.length pb2, .slice pc e.args.length pc2, .slice pd e.alts.length pd2] 29
  have hB0 : Below w.heap.size w (w.alloc (.cells #[.int .i64 e.kind, .string e.name, .int .i64 e.num, .slice pa e.params.length pa2, .slice pb e.binds.length pb2, .slice pc e.args.length pc2, .slice pd e.alts.length pd2] 29)) := (Below.refl _ w).alloc (Nat.le_refl _) _
  have HX0 := Lib.hid hx0
  have HBX := Lib.hid hbx
  have HS := Lib.hid hs
  unfold exV
  clear hp hx0 hbx hs
  generalize e.kind = kd at R0 hB0 HX0 HBX ⊢
  generalize e.name = nm at R0 hB0 HX0 HBX ⊢
  generalize e.num = nu at R0 hB0 HX0 HBX ⊢
  generalize e.params.length = n3 at R0 hB0 HX0 HBX ⊢
  generalize e.binds.length = n4 at R0 hB0 HX0 HBX ⊢
  generalize e.args.length = n5 at R0 hB0 HX0 HBX ⊢
  generalize e.alts.length = n6 at R0 hB0 HX0 HBX ⊢
  go_enter Try.func43, Try.ntmps43
  go_upto_region 1 with fail
  generalize w.alloc (.cells #[.int .i64 kd, .string nm, .int .i64 nu, .slice pa n3 pa2, .slice pb n4 pb2, .slice pc n5 pc2, .slice pd n6 pd2] 29) = W0 at R0 hB0 HBX ⊢
  have HB0 := Lib.hid hB0
  have HR0 := Lib.hid R0
  generalize hbq : w.heap.size = b at R0 HBX HR0 ⊢
  have x0 : W0.cell? ⟨b, 0, none⟩ = _ := R0.cell 0
  have x1 : W0.cell? ⟨b, 1, none⟩ = _ := R0.cell 1
  have x2 : W0.cell? ⟨b, 2, none⟩ = _ := R0.cell 2
  have x3 : W0.cell? ⟨b, 3, none⟩ = _ := R0.cell 3
  have x4 : W0.cell? ⟨b, 4, none⟩ = _ := R0.cell 4
  have x5 : W0.cell? ⟨b, 5, none⟩ = _ := R0.cell 5
  have x6 : W0.cell? ⟨b, 6, none⟩ = _ := R0.cell 6
  simp only [List.getElem?_toArray, List.getElem?_cons_zero, List.getElem?_cons_succ] at x0 x1 x2 x3 x4 x5 x6
  have hb := R0.lt
  clear R0 hB0
  have s0 := HB0.out.size
  have KC0 := measure_any (d + 1) e _ W0 (W0.alloc (.cells #[.int .i64 ((0 : Nat) : Int)] 3)) W0.heap.size 0 1 (ExIs.below HB0.out _ _ _ HX0.out) ((Below.refl _ _).alloc (Nat.le_refl _) _) (Nat.le_refl _) (Blk.new _ _ _) HS.out (by omega) (by omega)
  rw [Nat.zero_add, show ((0 : Nat) : Int) = 0 from rfl, show ((1 : Nat) : Int) = 1 from rfl] at KC0
  have KC := Lib.hid KC0
  have k9 : Below W0.heap.size W0 (W0.alloc (.cells #[.int .i64 0] 3)) := (Below.refl _ _).alloc (Nat.le_refl _) _
  have xx0 := (k9.cell (p := ⟨b, 0, none⟩) hb).trans x0
  have xx1 := (k9.cell (p := ⟨b, 1, none⟩) hb).trans x1
  have xx2 := (k9.cell (p := ⟨b, 2, none⟩) hb).trans x2
  have xx3 := (k9.cell (p := ⟨b, 3, none⟩) hb).trans x3
  have xx4 := (k9.cell (p := ⟨b, 4, none⟩) hb).trans x4
  have xx5 := (k9.cell (p := ⟨b, 5, none⟩) hb).trans x5
  have xx6 := (k9.cell (p := ⟨b, 6, none⟩) hb).trans x6
  have K9 := Lib.hid k9
  clear KC0 k9
  go_wp2_with (go_at_call 65; refine KC.out.mono ?_; rintro r1 w1 ⟨rfl, q1, k1⟩; have K1 := Lib.hid (below_grown K9.out k1 (Nat.le_refl _) K9.out.size); clear q1 k1)
  go_ret
  exact ⟨rfl, HB0.out.trans (K1.out.mono (hbq ▸ s0))⟩
theorem within_any : ∀ (d : Nat) (x : Ex d) (v : Value) (w : World), ExIs w d v x → Sm d x → sizeK d x ≤ 4096 → Calls Try.prog 43 #[v, .int .i64 1048576, .int .i64 4096] w fun r w' => r = .returned (.bool true) ∧ Below w.heap.size w w'
  | 0, x, _, _, _, _, _ => nomatch (x : Empty)
  | d + 1, x, v, w, h, hs, hz => within_step d v x w h hs hz
set_option maxRecDepth 100000 in
set_option maxHeartbeats 8000000 in
theorem rlong_step (d : Nat) (v : Value) (e : ExN (Ex d)) (w : World) (h : ExIs w (d + 1) v e) (hs : Sm (d + 1) e) (hz : sizeK (d + 1) e ≤ 4096) :
    Calls Try.prog 27 #[v] w fun r w' => r = .returned (.bool false) ∧ Below w.heap.size w w' := by
  obtain ⟨l0, rfl, hp⟩ := h
  obtain ⟨pa, pb, pc, pd, pa2, pb2, pc2, pd2, rfl⟩ := parts_form hp
  have hx0 : ExIs w (d + 1) (.agg #[.int .i64 e.kind, .string e.name, .int .i64 e.num, .slice pa e.params.length pa2, .slice pb e.binds.length pb2, .slice pc e.args.length pc2, .slice pd e.alts.length pd2]) e := ⟨_, rfl, hp⟩
  have hbx : ExAt (w.alloc (.cells #[.int .i64 e.kind, .string e.name, .int .i64 e.num, .slice pa e.params.length pa2, .slice pb e.binds.length pb2, .slice pc e.args.length pc2, .slice pd e.alts.length pd2] 29)) (d + 1) w.heap.size 0 e := ExIs.boxed (t := 29) (d := d + 1) (W := w) (x := e) ⟨_, rfl, hp⟩
  have R0 := Blk.new w #[.int .i64 e.kind, .string e.name, .int .i64 e.num, .slice pa e.params.length pa2, .slice pb e.binds.length pb2, .slice pc e.args.length pc2, .slice pd e.alts.length pd2] 29
  have hB0 : Below w.heap.size w (w.alloc (.cells #[.int .i64 e.kind, .string e.name, .int .i64 e.num, .slice pa e.params.length pa2, .slice pb e.binds.length pb2, .slice pc e.args.length pc2, .slice pd e.alts.length pd2] 29)) := (Below.refl _ w).alloc (Nat.le_refl _) _
  have HX0 := Lib.hid hx0
  have HBX := Lib.hid hbx
  have HS := Lib.hid hs
  unfold exV
  clear hp hx0 hbx hs
  generalize e.kind = kd at R0 hB0 HX0 HBX ⊢
  generalize e.name = nm at R0 hB0 HX0 HBX ⊢
  generalize e.num = nu at R0 hB0 HX0 HBX ⊢
  generalize e.params.length = n3 at R0 hB0 HX0 HBX ⊢
  generalize e.binds.length = n4 at R0 hB0 HX0 HBX ⊢
  generalize e.args.length = n5 at R0 hB0 HX0 HBX ⊢
  generalize e.alts.length = n6 at R0 hB0 HX0 HBX ⊢
  go_enter Try.func27, Try.ntmps27
  go_upto_region 1 with fail
  generalize w.alloc (.cells #[.int .i64 kd, .string nm, .int .i64 nu, .slice pa n3 pa2, .slice pb n4 pb2, .slice pc n5 pc2, .slice pd n6 pd2] 29) = W0 at R0 hB0 HBX ⊢
  have HB0 := Lib.hid hB0
  have HR0 := Lib.hid R0
  generalize hbq : w.heap.size = b at R0 HBX HR0 ⊢
  have x0 : W0.cell? ⟨b, 0, none⟩ = _ := R0.cell 0
  have x1 : W0.cell? ⟨b, 1, none⟩ = _ := R0.cell 1
  have x2 : W0.cell? ⟨b, 2, none⟩ = _ := R0.cell 2
  have x3 : W0.cell? ⟨b, 3, none⟩ = _ := R0.cell 3
  have x4 : W0.cell? ⟨b, 4, none⟩ = _ := R0.cell 4
  have x5 : W0.cell? ⟨b, 5, none⟩ = _ := R0.cell 5
  have x6 : W0.cell? ⟨b, 6, none⟩ = _ := R0.cell 6
  simp only [List.getElem?_toArray, List.getElem?_cons_zero, List.getElem?_cons_succ] at x0 x1 x2 x3 x4 x5 x6
  have hb := R0.lt
  clear R0 hB0
  have KC := Lib.hid (within_any (d + 1) e _ W0 (ExIs.below HB0.out _ _ _ HX0.out) HS.out hz)
  go_wp2_with (go_at_call 43; refine KC.out.mono ?_; rintro r1 w1 ⟨rfl, k1⟩)
  go_ret
  exact ⟨rfl, chain HB0.out k1⟩
theorem rlong_any : ∀ (d : Nat) (x : Ex d) (v : Value) (w : World), ExIs w d v x → Sm d x → sizeK d x ≤ 4096 → Calls Try.prog 27 #[v] w fun r w' => r = .returned (.bool false) ∧ Below w.heap.size w w'
  | 0, x, _, _, _, _, _ => nomatch (x : Empty)
  | d + 1, x, v, w, h, hs, hz => rlong_step d v x w h hs hz
set_option maxRecDepth 100000 in
set_option maxHeartbeats 8000000 in
theorem rOf_step (d : Nat) (v : Value) (e : ExN (Ex d)) (s : ByteArray) (w : World) (h : ExIs w (d + 1) v e) (hs : Sm (d + 1) e) (hz : sizeK (d + 1) e ≤ 4096) :
    Calls Try.prog 14 #[v, .string s] w fun r w' => r = .returned (.tuple #[.int .i64 (ofK 1 5 s (d + 1) e), .int .i64 0]) ∧ Below w.heap.size w w' := by
  obtain ⟨l0, rfl, hp⟩ := h
  obtain ⟨pa, pb, pc, pd, pa2, pb2, pc2, pd2, rfl⟩ := parts_form hp
  have hx0 : ExIs w (d + 1) (.agg #[.int .i64 e.kind, .string e.name, .int .i64 e.num, .slice pa e.params.length pa2, .slice pb e.binds.length pb2, .slice pc e.args.length pc2, .slice pd e.alts.length pd2]) e := ⟨_, rfl, hp⟩
  have hbx : ExAt (w.alloc (.cells #[.int .i64 e.kind, .string e.name, .int .i64 e.num, .slice pa e.params.length pa2, .slice pb e.binds.length pb2, .slice pc e.args.length pc2, .slice pd e.alts.length pd2] 29)) (d + 1) w.heap.size 0 e := ExIs.boxed (t := 29) (d := d + 1) (W := w) (x := e) ⟨_, rfl, hp⟩
  have R0 := Blk.new w #[.int .i64 e.kind, .string e.name, .int .i64 e.num, .slice pa e.params.length pa2, .slice pb e.binds.length pb2, .slice pc e.args.length pc2, .slice pd e.alts.length pd2] 29
  have hB0 : Below w.heap.size w (w.alloc (.cells #[.int .i64 e.kind, .string e.name, .int .i64 e.num, .slice pa e.params.length pa2, .slice pb e.binds.length pb2, .slice pc e.args.length pc2, .slice pd e.alts.length pd2] 29)) := (Below.refl _ w).alloc (Nat.le_refl _) _
  have HX0 := Lib.hid hx0
  have HBX := Lib.hid hbx
  have HS := Lib.hid hs
  unfold exV
  clear hp hx0 hbx hs
  generalize e.kind = kd at R0 hB0 HX0 HBX ⊢
  generalize e.name = nm at R0 hB0 HX0 HBX ⊢
  generalize e.num = nu at R0 hB0 HX0 HBX ⊢
  generalize e.params.length = n3 at R0 hB0 HX0 HBX ⊢
  generalize e.binds.length = n4 at R0 hB0 HX0 HBX ⊢
  generalize e.args.length = n5 at R0 hB0 HX0 HBX ⊢
  generalize e.alts.length = n6 at R0 hB0 HX0 HBX ⊢
  go_enter Try.func14, Try.ntmps14
  go_upto_region 1 with fail
  generalize w.alloc (.cells #[.int .i64 kd, .string nm, .int .i64 nu, .slice pa n3 pa2, .slice pb n4 pb2, .slice pc n5 pc2, .slice pd n6 pd2] 29) = W0 at R0 hB0 HBX ⊢
  have HB0 := Lib.hid hB0
  have HR0 := Lib.hid R0
  generalize hbq : w.heap.size = b at R0 HBX HR0 ⊢
  have x0 : W0.cell? ⟨b, 0, none⟩ = _ := R0.cell 0
  have x1 : W0.cell? ⟨b, 1, none⟩ = _ := R0.cell 1
  have x2 : W0.cell? ⟨b, 2, none⟩ = _ := R0.cell 2
  have x3 : W0.cell? ⟨b, 3, none⟩ = _ := R0.cell 3
  have x4 : W0.cell? ⟨b, 4, none⟩ = _ := R0.cell 4
  have x5 : W0.cell? ⟨b, 5, none⟩ = _ := R0.cell 5
  have x6 : W0.cell? ⟨b, 6, none⟩ = _ := R0.cell 6
  simp only [List.getElem?_toArray, List.getElem?_cons_zero, List.getElem?_cons_succ] at x0 x1 x2 x3 x4 x5 x6
  have hb := R0.lt
  clear R0 hB0
  have KL := Lib.hid (rlong_any (d + 1) e _ W0 (ExIs.below HB0.out _ _ _ HX0.out) HS.out hz)
  have HC := Lib.hid (show ∀ W, Below W0.heap.size W0 W → W.cell? ⟨b, 0, none⟩ = some (.int .i64 kd) ∧ W.cell? ⟨b, 1, none⟩ = some (.string nm) ∧ W.cell? ⟨b, 2, none⟩ = some (.int .i64 nu) ∧ W.cell? ⟨b, 3, none⟩ = some (.slice pa n3 pa2) ∧ W.cell? ⟨b, 4, none⟩ = some (.slice pb n4 pb2) ∧ W.cell? ⟨b, 5, none⟩ = some (.slice pc n5 pc2) ∧ W.cell? ⟨b, 6, none⟩ = some (.slice pd n6 pd2) from fun W hW => by
    have R2 := HR0.out.below hW HR0.out.lt
    exact ⟨R2.cell 0, R2.cell 1, R2.cell 2, R2.cell 3, R2.cell 4, R2.cell 5, R2.cell 6⟩)
  have KO := Lib.hid (fun W (hW : Below W0.heap.size W0 W) => rof_any s (d + 1) e _ W (ExIs.below (HB0.out.trans (hW.mono (hbq ▸ HB0.out.size))) _ _ _ HX0.out) HS.out)
  go_wp2_with (first | (go_at_call 27; refine KL.out.mono ?_; rintro r1 w1 ⟨rfl, k1⟩; have K1 := Lib.hid k1; obtain ⟨z0, z1, z2, z3, z4, z5, z6⟩ := HC.out _ k1) | (go_at_call 28; refine (KO.out _ K1.out).mono ?_; rintro r2 w2 ⟨rfl, k2⟩))
  refine bodyPost_ret (v := .tuple #[.int .i64 (ofK 1 5 s (d + 1) e), .int .i64 0]) (by simp [results, Try.results14, go_sem]) rfl ?_
  exact ⟨rfl, chain HB0.out (chain K1.out k2)⟩
set_option maxRecDepth 100000 in
set_option maxHeartbeats 8000000 in
theorem rCount_step (d : Nat) (v : Value) (e : ExN (Ex d)) (s : ByteArray) (w : World) (h : ExIs w (d + 1) v e) (hs : Sm (d + 1) e) (hz : sizeK (d + 1) e ≤ 4096) :
    Calls Try.prog 16 #[v, .string s] w fun r w' => r = .returned (.tuple #[.int .i64 (cntK s (d + 1) e), .int .i64 0]) ∧ Below w.heap.size w w' := by
  obtain ⟨l0, rfl, hp⟩ := h
  obtain ⟨pa, pb, pc, pd, pa2, pb2, pc2, pd2, rfl⟩ := parts_form hp
  have hx0 : ExIs w (d + 1) (.agg #[.int .i64 e.kind, .string e.name, .int .i64 e.num, .slice pa e.params.length pa2, .slice pb e.binds.length pb2, .slice pc e.args.length pc2, .slice pd e.alts.length pd2]) e := ⟨_, rfl, hp⟩
  have hbx : ExAt (w.alloc (.cells #[.int .i64 e.kind, .string e.name, .int .i64 e.num, .slice pa e.params.length pa2, .slice pb e.binds.length pb2, .slice pc e.args.length pc2, .slice pd e.alts.length pd2] 29)) (d + 1) w.heap.size 0 e := ExIs.boxed (t := 29) (d := d + 1) (W := w) (x := e) ⟨_, rfl, hp⟩
  have R0 := Blk.new w #[.int .i64 e.kind, .string e.name, .int .i64 e.num, .slice pa e.params.length pa2, .slice pb e.binds.length pb2, .slice pc e.args.length pc2, .slice pd e.alts.length pd2] 29
  have hB0 : Below w.heap.size w (w.alloc (.cells #[.int .i64 e.kind, .string e.name, .int .i64 e.num, .slice pa e.params.length pa2, .slice pb e.binds.length pb2, .slice pc e.args.length pc2, .slice pd e.alts.length pd2] 29)) := (Below.refl _ w).alloc (Nat.le_refl _) _
  have HX0 := Lib.hid hx0
  have HBX := Lib.hid hbx
  have HS := Lib.hid hs
  unfold exV
  clear hp hx0 hbx hs
  generalize e.kind = kd at R0 hB0 HX0 HBX ⊢
  generalize e.name = nm at R0 hB0 HX0 HBX ⊢
  generalize e.num = nu at R0 hB0 HX0 HBX ⊢
  generalize e.params.length = n3 at R0 hB0 HX0 HBX ⊢
  generalize e.binds.length = n4 at R0 hB0 HX0 HBX ⊢
  generalize e.args.length = n5 at R0 hB0 HX0 HBX ⊢
  generalize e.alts.length = n6 at R0 hB0 HX0 HBX ⊢
  go_enter Try.func16, Try.ntmps16
  go_upto_region 1 with fail
  generalize w.alloc (.cells #[.int .i64 kd, .string nm, .int .i64 nu, .slice pa n3 pa2, .slice pb n4 pb2, .slice pc n5 pc2, .slice pd n6 pd2] 29) = W0 at R0 hB0 HBX ⊢
  have HB0 := Lib.hid hB0
  have HR0 := Lib.hid R0
  generalize hbq : w.heap.size = b at R0 HBX HR0 ⊢
  have x0 : W0.cell? ⟨b, 0, none⟩ = _ := R0.cell 0
  have x1 : W0.cell? ⟨b, 1, none⟩ = _ := R0.cell 1
  have x2 : W0.cell? ⟨b, 2, none⟩ = _ := R0.cell 2
  have x3 : W0.cell? ⟨b, 3, none⟩ = _ := R0.cell 3
  have x4 : W0.cell? ⟨b, 4, none⟩ = _ := R0.cell 4
  have x5 : W0.cell? ⟨b, 5, none⟩ = _ := R0.cell 5
  have x6 : W0.cell? ⟨b, 6, none⟩ = _ := R0.cell 6
  simp only [List.getElem?_toArray, List.getElem?_cons_zero, List.getElem?_cons_succ] at x0 x1 x2 x3 x4 x5 x6
  have hb := R0.lt
  clear R0 hB0
  have KL := Lib.hid (rlong_any (d + 1) e _ W0 (ExIs.below HB0.out _ _ _ HX0.out) HS.out hz)
  have HC := Lib.hid (show ∀ W, Below W0.heap.size W0 W → W.cell? ⟨b, 0, none⟩ = some (.int .i64 kd) ∧ W.cell? ⟨b, 1, none⟩ = some (.string nm) ∧ W.cell? ⟨b, 2, none⟩ = some (.int .i64 nu) ∧ W.cell? ⟨b, 3, none⟩ = some (.slice pa n3 pa2) ∧ W.cell? ⟨b, 4, none⟩ = some (.slice pb n4 pb2) ∧ W.cell? ⟨b, 5, none⟩ = some (.slice pc n5 pc2) ∧ W.cell? ⟨b, 6, none⟩ = some (.slice pd n6 pd2) from fun W hW => by
    have R2 := HR0.out.below hW HR0.out.lt
    exact ⟨R2.cell 0, R2.cell 1, R2.cell 2, R2.cell 3, R2.cell 4, R2.cell 5, R2.cell 6⟩)
  have KO := Lib.hid (fun W (hW : Below W0.heap.size W0 W) => rcount_any s (d + 1) e _ W (ExIs.below (HB0.out.trans (hW.mono (hbq ▸ HB0.out.size))) _ _ _ HX0.out) HS.out)
  go_wp2_with (first | (go_at_call 27; refine KL.out.mono ?_; rintro r1 w1 ⟨rfl, k1⟩; have K1 := Lib.hid k1; obtain ⟨z0, z1, z2, z3, z4, z5, z6⟩ := HC.out _ k1) | (go_at_call 30; refine (KO.out _ K1.out).mono ?_; rintro r2 w2 ⟨rfl, k2⟩))
  refine bodyPost_ret (v := .tuple #[.int .i64 (cntK s (d + 1) e), .int .i64 0]) (by simp [results, Try.results16, go_sem]) rfl ?_
  exact ⟨rfl, chain HB0.out (chain K1.out k2)⟩
set_option maxRecDepth 100000 in
set_option maxHeartbeats 8000000 in
theorem rAll_step (d : Nat) (v : Value) (e : ExN (Ex d)) (w : World) (h : ExIs w (d + 1) v e) (hs : Sm (d + 1) e) (hz : sizeK (d + 1) e ≤ 4096) (hn : (allK 1 5 (d + 1) e).length ≤ 10000000) :
    Calls Try.prog 18 #[v] w fun r w' => (∃ v', r = .returned (.tuple #[v', .int .i64 0]) ∧ OOwn w' w.heap.size v' (allK 1 5 (d + 1) e)) ∧ Below w.heap.size w w' := by
  obtain ⟨l0, rfl, hp⟩ := h
  obtain ⟨pa, pb, pc, pd, pa2, pb2, pc2, pd2, rfl⟩ := parts_form hp
  have hx0 : ExIs w (d + 1) (.agg #[.int .i64 e.kind, .string e.name, .int .i64 e.num, .slice pa e.params.length pa2, .slice pb e.binds.length pb2, .slice pc e.args.length pc2, .slice pd e.alts.length pd2]) e := ⟨_, rfl, hp⟩
  have hbx : ExAt (w.alloc (.cells #[.int .i64 e.kind, .string e.name, .int .i64 e.num, .slice pa e.params.length pa2, .slice pb e.binds.length pb2, .slice pc e.args.length pc2, .slice pd e.alts.length pd2] 29)) (d + 1) w.heap.size 0 e := ExIs.boxed (t := 29) (d := d + 1) (W := w) (x := e) ⟨_, rfl, hp⟩
  have R0 := Blk.new w #[.int .i64 e.kind, .string e.name, .int .i64 e.num, .slice pa e.params.length pa2, .slice pb e.binds.length pb2, .slice pc e.args.length pc2, .slice pd e.alts.length pd2] 29
  have hB0 : Below w.heap.size w (w.alloc (.cells #[.int .i64 e.kind, .string e.name, .int .i64 e.num, .slice pa e.params.length pa2, .slice pb e.binds.length pb2, .slice pc e.args.length pc2, .slice pd e.alts.length pd2] 29)) := (Below.refl _ w).alloc (Nat.le_refl _) _
  have HX0 := Lib.hid hx0
  have HBX := Lib.hid hbx
  have HS := Lib.hid hs
  unfold exV
  clear hp hx0 hbx hs
  generalize e.kind = kd at R0 hB0 HX0 HBX ⊢
  generalize e.name = nm at R0 hB0 HX0 HBX ⊢
  generalize e.num = nu at R0 hB0 HX0 HBX ⊢
  generalize e.params.length = n3 at R0 hB0 HX0 HBX ⊢
  generalize e.binds.length = n4 at R0 hB0 HX0 HBX ⊢
  generalize e.args.length = n5 at R0 hB0 HX0 HBX ⊢
  generalize e.alts.length = n6 at R0 hB0 HX0 HBX ⊢
  go_enter Try.func18, Try.ntmps18
  go_upto_region 1 with fail
  generalize w.alloc (.cells #[.int .i64 kd, .string nm, .int .i64 nu, .slice pa n3 pa2, .slice pb n4 pb2, .slice pc n5 pc2, .slice pd n6 pd2] 29) = W0 at R0 hB0 HBX ⊢
  have HB0 := Lib.hid hB0
  have HR0 := Lib.hid R0
  generalize hbq : w.heap.size = b at R0 HBX HR0 ⊢
  have x0 : W0.cell? ⟨b, 0, none⟩ = _ := R0.cell 0
  have x1 : W0.cell? ⟨b, 1, none⟩ = _ := R0.cell 1
  have x2 : W0.cell? ⟨b, 2, none⟩ = _ := R0.cell 2
  have x3 : W0.cell? ⟨b, 3, none⟩ = _ := R0.cell 3
  have x4 : W0.cell? ⟨b, 4, none⟩ = _ := R0.cell 4
  have x5 : W0.cell? ⟨b, 5, none⟩ = _ := R0.cell 5
  have x6 : W0.cell? ⟨b, 6, none⟩ = _ := R0.cell 6
  simp only [List.getElem?_toArray, List.getElem?_cons_zero, List.getElem?_cons_succ] at x0 x1 x2 x3 x4 x5 x6
  have hb := R0.lt
  clear R0 hB0
  have KL := Lib.hid (rlong_any (d + 1) e _ W0 (ExIs.below HB0.out _ _ _ HX0.out) HS.out hz)
  have HC := Lib.hid (show ∀ W, Below W0.heap.size W0 W → W.cell? ⟨b, 0, none⟩ = some (.int .i64 kd) ∧ W.cell? ⟨b, 1, none⟩ = some (.string nm) ∧ W.cell? ⟨b, 2, none⟩ = some (.int .i64 nu) ∧ W.cell? ⟨b, 3, none⟩ = some (.slice pa n3 pa2) ∧ W.cell? ⟨b, 4, none⟩ = some (.slice pb n4 pb2) ∧ W.cell? ⟨b, 5, none⟩ = some (.slice pc n5 pc2) ∧ W.cell? ⟨b, 6, none⟩ = some (.slice pd n6 pd2) from fun W hW => by
    have R2 := HR0.out.below hW HR0.out.lt
    exact ⟨R2.cell 0, R2.cell 1, R2.cell 2, R2.cell 3, R2.cell 4, R2.cell 5, R2.cell 6⟩)
  have KO := Lib.hid (fun W (hW : Below W0.heap.size W0 W) => rall_any (d + 1) e _ W (ExIs.below (HB0.out.trans (hW.mono (hbq ▸ HB0.out.size))) _ _ _ HX0.out) HS.out hn)
  go_wp2_with (first | (go_at_call 27; refine KL.out.mono ?_; rintro r1 w1 ⟨rfl, k1⟩; have K1 := Lib.hid k1; obtain ⟨z0, z1, z2, z3, z4, z5, z6⟩ := HC.out _ k1) | (go_at_call 32; refine (KO.out _ K1.out).mono ?_; rintro r2 w2 ⟨v2, rfl, o2, k2⟩))
  refine bodyPost_ret (v := .tuple #[v2, .int .i64 0]) (by simp [results, Try.results18, go_sem]) rfl ?_
  exact ⟨⟨_, rfl, own_low o2 (Nat.le_trans HB0.out.size K1.out.size)⟩, chain HB0.out (chain K1.out k2)⟩
end Go.Proofs.Ytkcgchpflppmnaa
