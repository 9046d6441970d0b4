/- The reference's measure, Within, Long, Of, Count, All. -/
import Derived.Test.YtkcgchpflppmnaaOcW
namespace Go.Proofs.Ytkcgchpflppmnaa
open Go.RowKit
set_option linter.unusedSimpArgs false
set_option linter.unusedVariables false

theorem grown_trans {a b c : World} {row : Option Nat} (h : a.grownBy b row) (k : b.grownBy c row) : a.grownBy c row :=
  ⟨k.os.trans h.os, k.tape.trans h.tape, k.output.trans h.output, Nat.le_trans h.size k.size, fun i hi hne => (k.block i (Nat.lt_of_lt_of_le hi h.size) hne).trans (h.block i hi hne)⟩
theorem grown_below {a b : World} (row : Option Nat) (h : Below a.heap.size a b) : a.grownBy b row := ⟨h.os, h.tape, h.output, h.size, fun i hi _ => h.block i hi⟩
theorem grown_refl (a : World) (row : Option Nat) : a.grownBy a row := grown_below row (Below.refl _ _)
theorem grown_set (a : World) (bn o : Nat) (v : Value) : a.grownBy (a.setCell ⟨bn, o, none⟩ v) (some bn) :=
  ⟨rfl, rfl, rfl, by simp [World.setCell], fun i hi hne => Below.heap_setCell _ _ _ _ (fun e => hne (by rw [e]))⟩
theorem below_grown {n : Nat} {w a b : World} {bn : Nat} (h : Below n w a) (g : a.grownBy b (some bn)) (hn : n ≤ bn) (hs : n ≤ a.heap.size) : Below n w b := h.grown g hs (fun i e => by simp at e; omega)
theorem EOwn.at {W0 W : World} {B d : Nat} {a : Option Addr} {n c : Nat} {cur : List (List Value × Ex d)} (h : EOwn W0 W B d (.slice a n c) cur) {k : Nat} {y : List Value × Ex d} (hy : cur[k]? = some y) : ∃ g, a = some ⟨g, 0, none⟩ ∧ B ≤ g ∧ g < W.heap.size ∧ CellsAt W g (k * 7) y.1 := by
  have hk : k < cur.length := (List.getElem?_eq_some_iff.1 hy).1
  have h0 := h.own
  rcases h0.2 with ⟨_, h2⟩ | ⟨g, cap, cc, hv, hg, hh, _⟩
  · simp at h2; subst h2; simp at hk
  · simp only [Value.slice.injEq] at hv
    obtain ⟨rfl, -, rfl⟩ := hv
    refine ⟨g, rfl, hg, (Array.getElem?_eq_some_iff.1 hh).1, fun j u hj => ?_⟩
    have hyl := (h.good y (List.mem_of_getElem? hy)).len
    have hj7 : j < 7 := by rw [← hyl]; exact (List.getElem?_eq_some_iff.1 hj).1
    have := World.ownsRow.cells h0 (g := g) rfl (k * 7 + j) u (by
      rw [flatten_get (n := 7) (by decide) (fun r hr => by obtain ⟨y, hy, rfl⟩ := List.mem_map.1 hr; exact (h.good y hy).len), show (k * 7 + j) / 7 = k by omega, show (k * 7 + j) % 7 = j by omega, List.getElem?_map, hy]
      exact hj)
    rwa [show (⟨g, 0, none⟩ : Addr).add (k * 7 + j) = ⟨g, k * 7 + j, none⟩ from by unfold Addr.add; split <;> simp_all] at this
theorem EOwn.shape {W0 W : World} {B d : Nat} {v : Value} {cur : List (List Value × Ex d)} (h : EOwn W0 W B d v cur) : ∃ a c, v = .slice a cur.length c := by
  obtain ⟨a, c, hv⟩ := own_shape h.own
  exact ⟨a, c, by rw [hv, List.length_map]⟩
set_option maxRecDepth 100000 in
set_option maxHeartbeats 8000000 in
theorem measure_step (d : Nat)
    (hm : ∀ (x : Ex d) (v : Value) (W0 W : World) (bn n at' : Nat), ExIs W0 d v x → Below W0.heap.size W0 W → W0.heap.size ≤ bn → Blk W bn #[.int .i64 (n : Int)] → Sm d x → at' + sizeK d x ≤ 4097 → n + sizeK d x ≤ 1048576 →
      Calls Try.prog 65 #[v, .int .i64 (at' : Int), .int .i64 4096, .int .i64 1048576, .pointer (some ⟨bn, 0, none⟩)] W fun r W' => r = .returned (.bool true) ∧ Blk W' bn #[.int .i64 ((n + sizeK d x : Nat) : Int)] ∧ W.grownBy W' (some bn))
    (v : Value) (e : ExN (Ex d)) (w wi : World) (bn n at' : Nat) (h : ExIs w (d + 1) v e) (hw : Below w.heap.size w wi) (hbn : w.heap.size ≤ bn) (hc : Blk wi bn #[.int .i64 (n : Int)]) (hs : Sm (d + 1) e) (ha : at' + sizeK (d + 1) e ≤ 4097) (hn : n + sizeK (d + 1) e ≤ 1048576) :
    Calls Try.prog 65 #[v, .int .i64 (at' : Int), .int .i64 4096, .int .i64 1048576, .pointer (some ⟨bn, 0, none⟩)] wi fun r W' => r = .returned (.bool true) ∧ Blk W' bn #[.int .i64 ((n + sizeK (d + 1) e : Nat) : Int)] ∧ wi.grownBy W' (some bn) := by
  obtain ⟨T, hT⟩ : ∃ T, n + sizeK (d + 1) e = T := ⟨_, rfl⟩
  rw [hT] at hn ⊢
  have hps := parts_size d e
  have HT := Lib.hid (show (n + 1) + (((partsK e).drop 0).map (sizeK d)).sum = T by rw [List.drop_zero]; omega)
  have HXA := Lib.hid (show ∀ x ∈ partsK e, at' + 1 + sizeK d x ≤ 4097 from fun x hx => by have := le_sum (sizeK d) hx; omega)
  have hpl : (partsK e).length ≤ 4097 := by have := len_sum (sizeK d) (l := partsK e) (fun x _ => size_pos d x); omega
  have hat : at' + 1 ≤ 4097 := by omega
  have hn1 : n + 1 ≤ 1048576 := by omega
  have HPS := Lib.hid (parts_sm d e hs)
  have HHV := Lib.hid h
  have HM := Lib.hid hm
  have HW := Lib.hid hw
  have KP := Lib.hid (fun W (hW : Below w.heap.size w W) => parts_any d v e w W h hW hs (by omega))
  have hbl := hc.lt
  have hv := ExIs.below hw (d + 1) v e h
  obtain ⟨l0, rfl, hp⟩ := hv
  obtain ⟨pa, pb, pc, pd, pa2, pb2, pc2, pd2, rfl⟩ := parts_form hp
  have hx0 : ExIs wi (d + 1) (.agg #[.int .i64 e.kind, .string e.name, .int .i64 e.num, .slice pa e.params.length pa2, .slice pb e.binds.length pb2, .slice pc e.args.length pc2, .slice pd e.alts.length pd2]) e := ⟨_, rfl, hp⟩
  have hbx : ExAt (wi.alloc (.cells #[.int .i64 e.kind, .string e.name, .int .i64 e.num, .slice pa e.params.length pa2, .slice pb e.binds.length pb2, .slice pc e.args.length pc2, .slice pd e.alts.length pd2] 29)) (d + 1) wi.heap.size 0 e := ExIs.boxed (t := 29) (d := d + 1) (W := wi) (x := e) ⟨_, rfl, hp⟩
  have R0 := Blk.new wi #[.int .i64 e.kind, .string e.name, .int .i64 e.num, .slice pa e.params.length pa2, .slice pb e.binds.length pb2, .slice pc e.args.length pc2, .slice pd e.alts.length pd2] 29
  have hB0 : Below wi.heap.size wi (wi.alloc (.cells #[.int .i64 e.kind, .string e.name, .int .i64 e.num, .slice pa e.params.length pa2, .slice pb e.binds.length pb2, .slice pc e.args.length pc2, .slice pd e.alts.length pd2] 29)) := (Below.refl _ wi).alloc (Nat.le_refl _) _
  have HX0 := Lib.hid hx0
  have HBX := Lib.hid hbx
  have HS := Lib.hid hs
  unfold exV at KP HHV ⊢
  clear hp hx0 hbx hs
  generalize e.kind = kd at KP HHV R0 hB0 HX0 HBX ⊢
  generalize e.name = nm at KP HHV R0 hB0 HX0 HBX ⊢
  generalize e.num = nu at KP HHV R0 hB0 HX0 HBX ⊢
  generalize e.params.length = n3 at KP HHV R0 hB0 HX0 HBX ⊢
  generalize e.binds.length = n4 at KP HHV R0 hB0 HX0 HBX ⊢
  generalize e.args.length = n5 at KP HHV R0 hB0 HX0 HBX ⊢
  generalize e.alts.length = n6 at KP HHV R0 hB0 HX0 HBX ⊢
  have C1 := hc.below hB0 hbl
  have r0 : (wi.alloc (.cells #[.int .i64 kd, .string nm, .int .i64 nu, .slice pa n3 pa2, .slice pb n4 pb2, .slice pc n5 pc2, .slice pd n6 pd2] 29)).cell? ⟨bn, 0, none⟩ = _ := C1.cell 0
  have f0 := C1.free 0
  simp only [List.getElem?_toArray, List.getElem?_cons_zero] at r0
  have d1 : decide ((4096 : Int) < (at' : Int)) = false := by simp; omega
  have d2 : decide ((1048576 : Int) < (n : Int) + 1) = false := by simp; omega
  clear hT hps hm h hc hw ha
  go_enter Try.func65, Try.ntmps65
  go_upto_region 1 with fail
  generalize wi.alloc (.cells #[.int .i64 kd, .string nm, .int .i64 nu, .slice pa n3 pa2, .slice pb n4 pb2, .slice pc n5 pc2, .slice pd n6 pd2] 29) = W0 at R0 hB0 HBX C1 r0 f0 ⊢
  generalize hbq : wi.heap.size = b at R0 HBX ⊢
  go_upto_region 2 with fail
  have hne : bn ≠ b := by omega
  have S1 : Blk (W0.setCell ⟨bn, 0, none⟩ (.int .i64 ((n : Int) + 1))) bn #[.int .i64 ((n + 1 : Nat) : Int)] := C1.set 0 _ (by simp)
  have R1 := R0.other ⟨bn, 0, none⟩ (.int .i64 ((n : Int) + 1)) (fun e => hne e.symm)
  have G1 := grown_trans (grown_below (some bn) hB0) (grown_set W0 bn 0 (.int .i64 ((n : Int) + 1)))
  have D1 := below_grown HW.out G1 hbn HW.out.size
  have e1 : (W0.setCell ⟨bn, 0, none⟩ (.int .i64 ((n : Int) + 1))).cell? ⟨bn, 0, none⟩ = some (.int .i64 ((n : Int) + 1)) := S1.cell 0
  generalize W0.setCell ⟨bn, 0, none⟩ (.int .i64 ((n : Int) + 1)) = W1 at S1 R1 G1 D1 e1 ⊢
  have x0 : W1.cell? ⟨b, 0, none⟩ = _ := R1.cell 0
  have x1 : W1.cell? ⟨b, 1, none⟩ = _ := R1.cell 1
  have x2 : W1.cell? ⟨b, 2, none⟩ = _ := R1.cell 2
  have x3 : W1.cell? ⟨b, 3, none⟩ = _ := R1.cell 3
  have x4 : W1.cell? ⟨b, 4, none⟩ = _ := R1.cell 4
  have x5 : W1.cell? ⟨b, 5, none⟩ = _ := R1.cell 5
  have x6 : W1.cell? ⟨b, 6, none⟩ = _ := R1.cell 6
  simp only [List.getElem?_toArray, List.getElem?_cons_zero, List.getElem?_cons_succ] at x0 x1 x2 x3 x4 x5 x6
  have HS1 := Lib.hid S1
  have HG1 := Lib.hid G1
  have HD1 := Lib.hid D1
  have KQ := Lib.hid (KP.out W1 D1)
  clear r0 f0 R0 C1 S1 R1 G1 D1 hB0
  go_upto_region 5 with (go_at_call 85; refine KQ.out.mono ?_; rintro r1 w1 ⟨v1, cur, rfl, o1, p1, k1⟩; obtain ⟨pa1, pc1, rfl⟩ := o1.shape; have S2 := Lib.hid (HS1.out.below k1 HS1.out.lt); have O1 := Lib.hid o1; have P1 := Lib.hid p1; have G2 := Lib.hid (grown_trans HG1.out (grown_below (some bn) k1)); have D2 := Lib.hid (HD1.out.trans (k1.mono HD1.out.size)); have hlow := HS1.out.lt; clear o1 p1 k1)
  obtain ⟨N, hN⟩ : ∃ N, cur.length = N := ⟨_, rfl⟩
  have HN := Lib.hid hN
  have hPN : (partsK e).length = N := by rw [← P1.out, List.length_map]; exact hN
  have HPN := Lib.hid hPN
  rw [hPN] at hpl
  rw [hN] at O1 ⊢
  clear x0 x1 x2 x3 x4 x5 x6 e1 hN hPN
  go_wp2
  go_loopw [12] (fun i wr => ∃ (k m : Nat), i = .int .i64 k ∧ k ≤ N ∧ Hid (Blk wr bn #[.int .i64 (m : Int)]) ∧ Hid (m + (((partsK e).drop k).map (sizeK d)).sum = T) ∧ Hid (w1.grownBy wr (some bn))) (fun i _ => N - (intOf i).toNat)
  case atStart => exact ⟨0, _, rfl, Nat.zero_le _, S2, HT, Lib.hid (grown_refl _ _)⟩
  case round =>
    clear S2 HT
    obtain ⟨k, m, rfl, hk, HR, HT, HG⟩ := hrel
    by_cases hlt : k < N
    · have hlt2 : decide ((k : Int) < (N : Int)) = true := by simp; omega
      have hlt3 : decide (k < N) = true := by simp; omega
      have hi0 : (0 : Int) ≤ (k : Int) := by omega
      have hkt : k < cur.length := by rw [HN.out]; exact hlt
      obtain ⟨y, hy⟩ : ∃ y, cur[k]? = some y := ⟨_, List.getElem?_eq_getElem hkt⟩
      have hx : (partsK e)[k]? = some y.2 := by rw [← P1.out, List.getElem?_map, hy]; rfl
      have OK : EOwn w wr W1.heap.size d (.slice pa1 N pc1) cur := ⟨O1.out.own.kept HG.out (by
        rcases hq : (Value.slice pa1 N pc1).ownBlock with _ | g
        · exact .inl rfl
        · refine .inr fun e => ?_
          have := own_from O1.out.own g hq
          simp at e
          omega), O1.out.good⟩
      obtain ⟨g, rfl, hg1, hg2, hcs⟩ := OK.at hy
      obtain ⟨y0, y1, y2, y3, y4, y5, y6, z3, x3, z4, x4, z5, x5, z6, x6, hye, hyv⟩ := OK.good y (List.mem_of_getElem? hy)
      rw [hye] at hcs hyv
      have hDr := below_grown D2.out HG.out hbn D2.out.size
      have KO0 := HM.out y.2 _ w wr bn m (at' + 1) hyv hDr hbn HR.out (HPS.out _ (List.mem_of_getElem? hx)) (HXA.out _ (List.mem_of_getElem? hx)) (by have := sum_next (sizeK d) hx (m := m) (R := 0) (T := T) (by simpa using HT.out); have hT1 : T ≤ 1048576 := hn; omega)
      rw [show ((at' + 1 : Nat) : Int) = (at' : Int) + 1 from rfl] at KO0
      unfold exV at KO0
      have KO := Lib.hid KO0
      have HT2 := Lib.hid (show (m + sizeK d y.2) + (((partsK e).drop (k + 1)).map (sizeK d)).sum = T by have := sum_next (sizeK d) hx (m := m) (R := 0) (T := T) (by simpa using HT.out); simpa using this)
      have v0 := hcs 0 _ rfl
      have v1 := hcs 1 _ rfl
      have v2 := hcs 2 _ rfl
      have v3 := hcs 3 _ rfl
      have v4 := hcs 4 _ rfl
      have v5 := hcs 5 _ rfl
      have v6 := hcs 6 _ rfl
      rw [Nat.add_zero] at v0
      clear hcs hye hyv KO0 OK hy hx HT hDr
      go_wp2_with (go_at_call 65; refine KO.out.mono ?_; rintro r1 w2 ⟨rfl, q1, k1⟩; have R2 := Lib.hid q1; have K2 := Lib.hid (grown_trans HG.out k1); clear q1 k1)
      go_roundw
      case measure => simp [intOf]; omega
      case rel => exact ⟨k + 1, _, by go_num, by omega, R2, HT2, K2⟩
    · have hlt2 : decide ((k : Int) < (N : Int)) = false := by simp; omega
      have hlt3 : decide (k < N) = false := by simp; omega
      obtain rfl : N = k := by omega
      have hT1 : m = T := by have := HT.out; rw [← HPN.out, List.drop_length] at this; simpa using this
      subst hT1
      clear HT hlt2 hlt3
      go_wp2
      go_ret
      exact ⟨rfl, HR.out, grown_trans G2.out HG.out⟩
theorem measure_any : ∀ (d : Nat) (x : Ex d) (v : Value) (W0 W : World) (bn n at' : Nat), ExIs W0 d v x → Below W0.heap.size W0 W → W0.heap.size ≤ bn → Blk W bn #[.int .i64 (n : Int)] → Sm d x → at' + sizeK d x ≤ 4097 → n + sizeK d x ≤ 1048576 →
      Calls Try.prog 65 #[v, .int .i64 (at' : Int), .int .i64 4096, .int .i64 1048576, .pointer (some ⟨bn, 0, none⟩)] W fun r W' => r = .returned (.bool true) ∧ Blk W' bn #[.int .i64 ((n + sizeK d x : Nat) : Int)] ∧ W.grownBy W' (some bn)
  | 0, x, _, _, _, _, _, _, _, _, _, _, _, _, _ => nomatch (x : Empty)
  | d + 1, x, v, W0, W, bn, n, at', h, hw, hbn, hc, hs, ha, hn => measure_step d (measure_any d) v x W0 W bn n at' h hw hbn hc hs ha hn
end Go.Proofs.Ytkcgchpflppmnaa
