/- core.Size, occur.long, Of, Count, All. -/
import Derived.Test.YtkcgchpflppmnaaOcT
namespace Go.Proofs.Ytkcgchpflppmnaa
open Go.RowKit
set_option linter.unusedSimpArgs false
set_option linter.unusedVariables false

set_option maxRecDepth 100000 in
set_option maxHeartbeats 8000000 in
theorem size_step (d : Nat) (v : Value) (e : ExN (Ex d)) (w : World) (h : ExIs w (d + 1) v e) (hs : Sm (d + 1) e) (hz : sizeK (d + 1) e ≤ 4096) :
    Calls Try.prog 40 #[v] w fun r w' => r = .returned (.int .i64 ((sizeK (d + 1) e : Nat) : Int)) ∧ Below w.heap.size w w' := by
  obtain ⟨l0, rfl, hp⟩ := h
  obtain ⟨pa, pb, pc, pd, pa2, pb2, pc2, pd2, rfl⟩ := parts_form hp
  have hx0 : ExIs w (d + 1) (.agg #[.int .i64 e.kind, .string e.name, .int .i64 e.num, .slice pa e.params.length pa2, .slice pb e.binds.length pb2, .slice pc e.args.length pc2, .slice pd e.alts.length pd2]) e := ⟨_, rfl, hp⟩
  have hbx : ExAt (w.alloc (.cells #[.int .i64 e.kind, .string e.name, .int .i64 e.num, .slice pa e.params.length pa2, .slice pb e.binds.length pb2, .slice pc e.args.length pc2, .slice pd e.alts.length pd2] 29)) (d + 1) w.heap.size 0 e := ExIs.boxed (t := 29) (d := d + 1) (W := w) (x := e) ⟨_, rfl, hp⟩
  have R0 := Blk.new w #[.int .i64 e.kind, .string e.name, .int .i64 e.num, .slice pa e.params.length pa2, .slice pb e.binds.length pb2, .slice pc e.args.length pc2, .slice pd e.alts.length pd2] 29
  have hB0 : Below w.heap.size w (w.alloc (.cells #[.int .i64 e.kind, .string e.name, .int .i64 e.num, .slice pa e.params.length pa2, .slice pb e.binds.length pb2, .slice pc e.args.length pc2, .slice pd e.alts.length pd2] 29)) := (Below.refl _ w).alloc (Nat.le_refl _) _
  have HX0 := Lib.hid hx0
  have HBX := Lib.hid hbx
  have HS := Lib.hid hs
  unfold exV
  clear hp hx0 hbx hs
  generalize e.kind = kd at R0 hB0 HX0 HBX ⊢
  generalize e.name = nm at R0 hB0 HX0 HBX ⊢
  generalize e.num = nu at R0 hB0 HX0 HBX ⊢
  generalize e.params.length = n3 at R0 hB0 HX0 HBX ⊢
  generalize e.binds.length = n4 at R0 hB0 HX0 HBX ⊢
  generalize e.args.length = n5 at R0 hB0 HX0 HBX ⊢
  generalize e.alts.length = n6 at R0 hB0 HX0 HBX ⊢
  go_enter Try.func40, Try.ntmps40
  go_upto_region 1 with fail
  generalize w.alloc (.cells #[.int .i64 kd, .string nm, .int .i64 nu, .slice pa n3 pa2, .slice pb n4 pb2, .slice pc n5 pc2, .slice pd n6 pd2] 29) = W0 at R0 hB0 HBX ⊢
  have HB0 := Lib.hid hB0
  have HR0 := Lib.hid R0
  generalize hbq : w.heap.size = b at R0 HBX HR0 ⊢
  have x0 : W0.cell? ⟨b, 0, none⟩ = _ := R0.cell 0
  have x1 : W0.cell? ⟨b, 1, none⟩ = _ := R0.cell 1
  have x2 : W0.cell? ⟨b, 2, none⟩ = _ := R0.cell 2
  have x3 : W0.cell? ⟨b, 3, none⟩ = _ := R0.cell 3
  have x4 : W0.cell? ⟨b, 4, none⟩ = _ := R0.cell 4
  have x5 : W0.cell? ⟨b, 5, none⟩ = _ := R0.cell 5
  have x6 : W0.cell? ⟨b, 6, none⟩ = _ := R0.cell 6
  simp only [List.getElem?_toArray, List.getElem?_cons_zero, List.getElem?_cons_succ] at x0 x1 x2 x3 x4 x5 x6
  have hb := R0.lt
  clear R0 hB0
  have s0 := HB0.out.size
  have KC0 := ccount_any (d + 1) e b 0 W0 (W0.alloc (.cells #[.int .i64 ((0 : Nat) : Int), .bool false] 85)) W0.heap.size 0 1 hb HBX.out ((Below.refl _ _).alloc (Nat.le_refl _) _) (Nat.le_refl _) (Blk.new _ _ _) HS.out (by omega) (by omega)
  rw [Nat.zero_add, show ((0 : Nat) : Int) = 0 from rfl, show ((1 : Nat) : Int) = 1 from rfl] at KC0
  have KC := Lib.hid KC0
  clear KC0
  go_wp2_with (go_at_call 51; refine KC.out.mono ?_; rintro r1 w1 ⟨rfl, q1, k1⟩; have z0 : w1.cell? ⟨W0.heap.size, 0, none⟩ = _ := q1.cell 0; simp only [List.getElem?_toArray, List.getElem?_cons_zero] at z0; have K1 := Lib.hid k1; clear q1 k1)
  go_ret
  exact ⟨rfl, HB0.out.trans (K1.out.mono (hbq ▸ s0))⟩
theorem size_any : ∀ (d : Nat) (x : Ex d) (v : Value) (w : World), ExIs w d v x → Sm d x → sizeK d x ≤ 4096 → Calls Try.prog 40 #[v] w fun r w' => r = .returned (.int .i64 ((sizeK d x : Nat) : Int)) ∧ Below w.heap.size w w'
  | 0, x, _, _, _, _, _ => nomatch (x : Empty)
  | d + 1, x, v, w, h, hs, hz => size_step d v x w h hs hz
theorem size_pos : ∀ (d : Nat) (x : Ex d), 1 ≤ sizeK d x
  | 0, x => nomatch (x : Empty)
  | d + 1, x => by have := size_succ d x; omega
set_option maxRecDepth 100000 in
set_option maxHeartbeats 8000000 in
theorem long_step (d : Nat) (v : Value) (e : ExN (Ex d)) (w : World) (h : ExIs w (d + 1) v e) (hs : Sm (d + 1) e) (hz : sizeK (d + 1) e ≤ 4096) :
    Calls Try.prog 25 #[v] w fun r w' => r = .returned (.bool false) ∧ Below w.heap.size w w' := by
  obtain ⟨l0, rfl, hp⟩ := h
  obtain ⟨pa, pb, pc, pd, pa2, pb2, pc2, pd2, rfl⟩ := parts_form hp
  have hx0 : ExIs w (d + 1) (.agg #[.int .i64 e.kind, .string e.name, .int .i64 e.num, .slice pa e.params.length pa2, .slice pb e.binds.length pb2, .slice pc e.args.length pc2, .slice pd e.alts.length pd2]) e := ⟨_, rfl, hp⟩
  have hbx : ExAt (w.alloc (.cells #[.int .i64 e.kind, .string e.name, .int .i64 e.num, .slice pa e.params.length pa2, .slice pb e.binds.length pb2, .slice pc e.args.length pc2, .slice pd e.alts.length pd2] 29)) (d + 1) w.heap.size 0 e := ExIs.boxed (t := 29) (d := d + 1) (W := w) (x := e) ⟨_, rfl, hp⟩
  have R0 := Blk.new w #[.int .i64 e.kind, .string e.name, .int .i64 e.num, .slice pa e.params.length pa2, .slice pb e.binds.length pb2, .slice pc e.args.length pc2, .slice pd e.alts.length pd2] 29
  have hB0 : Below w.heap.size w (w.alloc (.cells #[.int .i64 e.kind, .string e.name, .int .i64 e.num, .slice pa e.params.length pa2, .slice pb e.binds.length pb2, .slice pc e.args.length pc2, .slice pd e.alts.length pd2] 29)) := (Below.refl _ w).alloc (Nat.le_refl _) _
  have HX0 := Lib.hid hx0
  have HBX := Lib.hid hbx
  have HS := Lib.hid hs
  unfold exV
  clear hp hx0 hbx hs
  generalize e.kind = kd at R0 hB0 HX0 HBX ⊢
  generalize e.name = nm at R0 hB0 HX0 HBX ⊢
  generalize e.num = nu at R0 hB0 HX0 HBX ⊢
  generalize e.params.length = n3 at R0 hB0 HX0 HBX ⊢
  generalize e.binds.length = n4 at R0 hB0 HX0 HBX ⊢
  generalize e.args.length = n5 at R0 hB0 HX0 HBX ⊢
  generalize e.alts.length = n6 at R0 hB0 HX0 HBX ⊢
  go_enter Try.func25, Try.ntmps25
  go_upto_region 1 with fail
  generalize w.alloc (.cells #[.int .i64 kd, .string nm, .int .i64 nu, .slice pa n3 pa2, .slice pb n4 pb2, .slice pc n5 pc2, .slice pd n6 pd2] 29) = W0 at R0 hB0 HBX ⊢
  have HB0 := Lib.hid hB0
  have HR0 := Lib.hid R0
  generalize hbq : w.heap.size = b at R0 HBX HR0 ⊢
  have x0 : W0.cell? ⟨b, 0, none⟩ = _ := R0.cell 0
  have x1 : W0.cell? ⟨b, 1, none⟩ = _ := R0.cell 1
  have x2 : W0.cell? ⟨b, 2, none⟩ = _ := R0.cell 2
  have x3 : W0.cell? ⟨b, 3, none⟩ = _ := R0.cell 3
  have x4 : W0.cell? ⟨b, 4, none⟩ = _ := R0.cell 4
  have x5 : W0.cell? ⟨b, 5, none⟩ = _ := R0.cell 5
  have x6 : W0.cell? ⟨b, 6, none⟩ = _ := R0.cell 6
  simp only [List.getElem?_toArray, List.getElem?_cons_zero, List.getElem?_cons_succ] at x0 x1 x2 x3 x4 x5 x6
  have hb := R0.lt
  clear R0 hB0
  have hp := size_pos (d + 1) e
  have KC := Lib.hid (size_any (d + 1) e _ W0 (ExIs.below HB0.out _ _ _ HX0.out) HS.out hz)
  obtain ⟨S, hS⟩ : ∃ S, sizeK (d + 1) e = S := ⟨_, rfl⟩
  rw [hS] at KC hp
  have t1 : (((S : Nat) : Int) == 0) = false := by simp; omega
  have t2 : decide (((S : Nat) : Int) = 0) = false := by simp; omega
  clear hS
  go_wp2_with (go_at_call 40; refine KC.out.mono ?_; rintro r1 w1 ⟨rfl, k1⟩)
  go_ret
  exact ⟨rfl, chain HB0.out k1⟩
theorem long_any : ∀ (d : Nat) (x : Ex d) (v : Value) (w : World), ExIs w d v x → Sm d x → sizeK d x ≤ 4096 → Calls Try.prog 25 #[v] w fun r w' => r = .returned (.bool false) ∧ Below w.heap.size w w'
  | 0, x, _, _, _, _, _ => nomatch (x : Empty)
  | d + 1, x, v, w, h, hs, hz => long_step d v x w h hs hz
set_option maxRecDepth 100000 in
set_option maxHeartbeats 8000000 in
theorem Of_step (d : Nat) (v : Value) (e : ExN (Ex d)) (s : ByteArray) (w : World) (h : ExIs w (d + 1) v e) (hs : Sm (d + 1) e) (hz : sizeK (d + 1) e ≤ 4096) :
    Calls Try.prog 13 #[v, .string s] w fun r w' => r = .returned (.tuple #[.int .i64 (ofK 1 5 s (d + 1) e), .int .i64 0]) ∧ Below w.heap.size w w' := by
  obtain ⟨l0, rfl, hp⟩ := h
  obtain ⟨pa, pb, pc, pd, pa2, pb2, pc2, pd2, rfl⟩ := parts_form hp
  have hx0 : ExIs w (d + 1) (.agg #[.int .i64 e.kind, .string e.name, .int .i64 e.num, .slice pa e.params.length pa2, .slice pb e.binds.length pb2, .slice pc e.args.length pc2, .slice pd e.alts.length pd2]) e := ⟨_, rfl, hp⟩
  have hbx : ExAt (w.alloc (.cells #[.int .i64 e.kind, .string e.name, .int .i64 e.num, .slice pa e.params.length pa2, .slice pb e.binds.length pb2, .slice pc e.args.length pc2, .slice pd e.alts.length pd2] 29)) (d + 1) w.heap.size 0 e := ExIs.boxed (t := 29) (d := d + 1) (W := w) (x := e) ⟨_, rfl, hp⟩
  have R0 := Blk.new w #[.int .i64 e.kind, .string e.name, .int .i64 e.num, .slice pa e.params.length pa2, .slice pb e.binds.length pb2, .slice pc e.args.length pc2, .slice pd e.alts.length pd2] 29
  have hB0 : Below w.heap.size w (w.alloc (.cells #[.int .i64 e.kind, .string e.name, .int .i64 e.num, .slice pa e.params.length pa2, .slice pb e.binds.length pb2, .slice pc e.args.length pc2, .slice pd e.alts.length pd2] 29)) := (Below.refl _ w).alloc (Nat.le_refl _) _
  have HX0 := Lib.hid hx0
  have HBX := Lib.hid hbx
  have HS := Lib.hid hs
  unfold exV
  clear hp hx0 hbx hs
  generalize e.kind = kd at R0 hB0 HX0 HBX ⊢
  generalize e.name = nm at R0 hB0 HX0 HBX ⊢
  generalize e.num = nu at R0 hB0 HX0 HBX ⊢
  generalize e.params.length = n3 at R0 hB0 HX0 HBX ⊢
  generalize e.binds.length = n4 at R0 hB0 HX0 HBX ⊢
  generalize e.args.length = n5 at R0 hB0 HX0 HBX ⊢
  generalize e.alts.length = n6 at R0 hB0 HX0 HBX ⊢
  go_enter Try.func13, Try.ntmps13
  go_upto_region 1 with fail
  generalize w.alloc (.cells #[.int .i64 kd, .string nm, .int .i64 nu, .slice pa n3 pa2, .slice pb n4 pb2, .slice pc n5 pc2, .slice pd n6 pd2] 29) = W0 at R0 hB0 HBX ⊢
  have HB0 := Lib.hid hB0
  have HR0 := Lib.hid R0
  generalize hbq : w.heap.size = b at R0 HBX HR0 ⊢
  have x0 : W0.cell? ⟨b, 0, none⟩ = _ := R0.cell 0
  have x1 : W0.cell? ⟨b, 1, none⟩ = _ := R0.cell 1
  have x2 : W0.cell? ⟨b, 2, none⟩ = _ := R0.cell 2
  have x3 : W0.cell? ⟨b, 3, none⟩ = _ := R0.cell 3
  have x4 : W0.cell? ⟨b, 4, none⟩ = _ := R0.cell 4
  have x5 : W0.cell? ⟨b, 5, none⟩ = _ := R0.cell 5
  have x6 : W0.cell? ⟨b, 6, none⟩ = _ := R0.cell 6
  simp only [List.getElem?_toArray, List.getElem?_cons_zero, List.getElem?_cons_succ] at x0 x1 x2 x3 x4 x5 x6
  have hb := R0.lt
  clear R0 hB0
  have KL := Lib.hid (long_any (d + 1) e _ W0 (ExIs.below HB0.out _ _ _ HX0.out) HS.out hz)
  have KO := Lib.hid (fun W (hW : Below W0.heap.size W0 W) => of_any s (d + 1) e b 0 W (Nat.lt_of_lt_of_le hb hW.size) (ExAt.below hW _ _ _ _ hb HBX.out) HS.out)
  go_wp2_with (first | (go_at_call 25; refine KL.out.mono ?_; rintro r1 w1 ⟨rfl, k1⟩; have K1 := Lib.hid k1) | (go_at_call 26; refine (KO.out _ K1.out).mono ?_; rintro r2 w2 ⟨rfl, k2⟩))
  refine bodyPost_ret (v := .tuple #[.int .i64 (ofK 1 5 s (d + 1) e), .int .i64 0]) (by simp [results, Try.results13, go_sem]) rfl ?_
  exact ⟨rfl, chain HB0.out (chain K1.out k2)⟩
set_option maxRecDepth 100000 in
set_option maxHeartbeats 8000000 in
theorem Count_step (d : Nat) (v : Value) (e : ExN (Ex d)) (s : ByteArray) (w : World) (h : ExIs w (d + 1) v e) (hs : Sm (d + 1) e) (hz : sizeK (d + 1) e ≤ 4096) :
    Calls Try.prog 15 #[v, .string s] w fun r w' => r = .returned (.tuple #[.int .i64 (cntK s (d + 1) e), .int .i64 0]) ∧ Below w.heap.size w w' := by
  obtain ⟨l0, rfl, hp⟩ := h
  obtain ⟨pa, pb, pc, pd, pa2, pb2, pc2, pd2, rfl⟩ := parts_form hp
  have hx0 : ExIs w (d + 1) (.agg #[.int .i64 e.kind, .string e.name, .int .i64 e.num, .slice pa e.params.length pa2, .slice pb e.binds.length pb2, .slice pc e.args.length pc2, .slice pd e.alts.length pd2]) e := ⟨_, rfl, hp⟩
  have hbx : ExAt (w.alloc (.cells #[.int .i64 e.kind, .string e.name, .int .i64 e.num, .slice pa e.params.length pa2, .slice pb e.binds.length pb2, .slice pc e.args.length pc2, .slice pd e.alts.length pd2] 29)) (d + 1) w.heap.size 0 e := ExIs.boxed (t := 29) (d := d + 1) (W := w) (x := e) ⟨_, rfl, hp⟩
  have R0 := Blk.new w #[.int .i64 e.kind, .string e.name, .int .i64 e.num, .slice pa e.params.length pa2, .slice pb e.binds.length pb2, .slice pc e.args.length pc2, .slice pd e.alts.length pd2] 29
  have hB0 : Below w.heap.size w (w.alloc (.cells #[.int .i64 e.kind, .string e.name, .int .i64 e.num, .slice pa e.params.length pa2, .slice pb e.binds.length pb2, .slice pc e.args.length pc2, .slice pd e.alts.length pd2] 29)) := (Below.refl _ w).alloc (Nat.le_refl _) _
  have HX0 := Lib.hid hx0
  have HBX := Lib.hid hbx
  have HS := Lib.hid hs
  unfold exV
  clear hp hx0 hbx hs
  generalize e.kind = kd at R0 hB0 HX0 HBX ⊢
  generalize e.name = nm at R0 hB0 HX0 HBX ⊢
  generalize e.num = nu at R0 hB0 HX0 HBX ⊢
  generalize e.params.length = n3 at R0 hB0 HX0 HBX ⊢
  generalize e.binds.length = n4 at R0 hB0 HX0 HBX ⊢
  generalize e.args.length = n5 at R0 hB0 HX0 HBX ⊢
  generalize e.alts.length = n6 at R0 hB0 HX0 HBX ⊢
  go_enter Try.func15, Try.ntmps15
  go_upto_region 1 with fail
  generalize w.alloc (.cells #[.int .i64 kd, .string nm, .int .i64 nu, .slice pa n3 pa2, .slice pb n4 pb2, .slice pc n5 pc2, .slice pd n6 pd2] 29) = W0 at R0 hB0 HBX ⊢
  have HB0 := Lib.hid hB0
  have HR0 := Lib.hid R0
  generalize hbq : w.heap.size = b at R0 HBX HR0 ⊢
  have x0 : W0.cell? ⟨b, 0, none⟩ = _ := R0.cell 0
  have x1 : W0.cell? ⟨b, 1, none⟩ = _ := R0.cell 1
  have x2 : W0.cell? ⟨b, 2, none⟩ = _ := R0.cell 2
  have x3 : W0.cell? ⟨b, 3, none⟩ = _ := R0.cell 3
  have x4 : W0.cell? ⟨b, 4, none⟩ = _ := R0.cell 4
  have x5 : W0.cell? ⟨b, 5, none⟩ = _ := R0.cell 5
  have x6 : W0.cell? ⟨b, 6, none⟩ = _ := R0.cell 6
  simp only [List.getElem?_toArray, List.getElem?_cons_zero, List.getElem?_cons_succ] at x0 x1 x2 x3 x4 x5 x6
  have hb := R0.lt
  clear R0 hB0
  have KL := Lib.hid (long_any (d + 1) e _ W0 (ExIs.below HB0.out _ _ _ HX0.out) HS.out hz)
  have KO := Lib.hid (fun W (hW : Below W0.heap.size W0 W) => count_any s (d + 1) e b 0 W (Nat.lt_of_lt_of_le hb hW.size) (ExAt.below hW _ _ _ _ hb HBX.out) HS.out)
  go_wp2_with (first | (go_at_call 25; refine KL.out.mono ?_; rintro r1 w1 ⟨rfl, k1⟩; have K1 := Lib.hid k1) | (go_at_call 29; refine (KO.out _ K1.out).mono ?_; rintro r2 w2 ⟨rfl, k2⟩))
  refine bodyPost_ret (v := .tuple #[.int .i64 (cntK s (d + 1) e), .int .i64 0]) (by simp [results, Try.results15, go_sem]) rfl ?_
  exact ⟨rfl, chain HB0.out (chain K1.out k2)⟩
set_option maxRecDepth 100000 in
set_option maxHeartbeats 8000000 in
theorem All_step (d : Nat) (v : Value) (e : ExN (Ex d)) (w : World) (h : ExIs w (d + 1) v e) (hs : Sm (d + 1) e) (hz : sizeK (d + 1) e ≤ 4096) (hn : (allK 1 5 (d + 1) e).length ≤ 10000000) :
    Calls Try.prog 17 #[v] w fun r w' => (∃ v', r = .returned (.tuple #[v', .int .i64 0]) ∧ OOwn w' w.heap.size v' (allK 1 5 (d + 1) e)) ∧ Below w.heap.size w w' := by
  obtain ⟨l0, rfl, hp⟩ := h
  obtain ⟨pa, pb, pc, pd, pa2, pb2, pc2, pd2, rfl⟩ := parts_form hp
  have hx0 : ExIs w (d + 1) (.agg #[.int .i64 e.kind, .string e.name, .int .i64 e.num, .slice pa e.params.length pa2, .slice pb e.binds.length pb2, .slice pc e.args.length pc2, .slice pd e.alts.length pd2]) e := ⟨_, rfl, hp⟩
  have hbx : ExAt (w.alloc (.cells #[.int .i64 e.kind, .string e.name, .int .i64 e.num, .slice pa e.params.length pa2, .slice pb e.binds.length pb2, .slice pc e.args.length pc2, .slice pd e.alts.length pd2] 29)) (d + 1) w.heap.size 0 e := ExIs.boxed (t := 29) (d := d + 1) (W := w) (x := e) ⟨_, rfl, hp⟩
  have R0 := Blk.new w #[.int .i64 e.kind, .string e.name, .int .i64 e.num, .slice pa e.params.length pa2, .slice pb e.binds.length pb2, .slice pc e.args.length pc2, .slice pd e.alts.length pd2] 29
  have hB0 : Below w.heap.size w (w.alloc (.cells #[.int .i64 e.kind, .string e.name, .int .i64 e.num, .slice pa e.params.length pa2, .slice pb e.binds.length pb2, .slice pc e.args.length pc2, .slice pd e.alts.length pd2] 29)) := (Below.refl _ w).alloc (Nat.le_refl _) _
  have HX0 := Lib.hid hx0
  have HBX := Lib.hid hbx
  have HS := Lib.hid hs
  unfold exV
  clear hp hx0 hbx hs
  generalize e.kind = kd at R0 hB0 HX0 HBX ⊢
  generalize e.name = nm at R0 hB0 HX0 HBX ⊢
  generalize e.num = nu at R0 hB0 HX0 HBX ⊢
  generalize e.params.length = n3 at R0 hB0 HX0 HBX ⊢
  generalize e.binds.length = n4 at R0 hB0 HX0 HBX ⊢
  generalize e.args.length = n5 at R0 hB0 HX0 HBX ⊢
  generalize e.alts.length = n6 at R0 hB0 HX0 HBX ⊢
  go_enter Try.func17, Try.ntmps17
  go_upto_region 1 with fail
  generalize w.alloc (.cells #[.int .i64 kd, .string nm, .int .i64 nu, .slice pa n3 pa2, .slice pb n4 pb2, .slice pc n5 pc2, .slice pd n6 pd2] 29) = W0 at R0 hB0 HBX ⊢
  have HB0 := Lib.hid hB0
  have HR0 := Lib.hid R0
  generalize hbq : w.heap.size = b at R0 HBX HR0 ⊢
  have x0 : W0.cell? ⟨b, 0, none⟩ = _ := R0.cell 0
  have x1 : W0.cell? ⟨b, 1, none⟩ = _ := R0.cell 1
  have x2 : W0.cell? ⟨b, 2, none⟩ = _ := R0.cell 2
  have x3 : W0.cell? ⟨b, 3, none⟩ = _ := R0.cell 3
  have x4 : W0.cell? ⟨b, 4, none⟩ = _ := R0.cell 4
  have x5 : W0.cell? ⟨b, 5, none⟩ = _ := R0.cell 5
  have x6 : W0.cell? ⟨b, 6, none⟩ = _ := R0.cell 6
  simp only [List.getElem?_toArray, List.getElem?_cons_zero, List.getElem?_cons_succ] at x0 x1 x2 x3 x4 x5 x6
  have hb := R0.lt
  clear R0 hB0
  have KL := Lib.hid (long_any (d + 1) e _ W0 (ExIs.below HB0.out _ _ _ HX0.out) HS.out hz)
  have KO := Lib.hid (fun W (hW : Below W0.heap.size W0 W) => all_any (d + 1) e b 0 W0 W (.slice none 0 0) [] hb HBX.out hW (ROwn.nil _ _ _ _) HS.out (by simpa using hn))
  go_wp2_with (first | (go_at_call 25; refine KL.out.mono ?_; rintro r1 w1 ⟨rfl, k1⟩; have K1 := Lib.hid k1) | (go_at_call 31; refine (KO.out _ K1.out).mono ?_; rintro r2 w2 ⟨v2, rfl, o2, k2⟩))
  refine bodyPost_ret (v := .tuple #[v2, .int .i64 0]) (by simp [results, Try.results17, go_sem]) rfl ?_
  exact ⟨⟨_, rfl, own_low o2 (hbq ▸ HB0.out.size)⟩, HB0.out.trans (k2.mono (hbq ▸ HB0.out.size))⟩
end Go.Proofs.Ytkcgchpflppmnaa
