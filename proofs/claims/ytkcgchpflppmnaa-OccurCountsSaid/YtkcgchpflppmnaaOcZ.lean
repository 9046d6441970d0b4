/- kit.countExprs: what it counts is no less than the names and expressions, unless it is above the bound. -/
import Derived.Test.YtkcgchpflppmnaaOcY
import Derived.Deep.DeepCutAuto
import Derived.Deep.CutBlock
namespace Go.Proofs.Ytkcgchpflppmnaa
open Go.RowKit
set_option linter.unusedSimpArgs false
set_option linter.unusedVariables false

theorem drop_sum {β : Type} (f : β → Nat) {l : List β} {k : Nat} {x : β} (hx : l[k]? = some x) : ((l.drop k).map f).sum = f x + ((l.drop (k + 1)).map f).sum := by
  obtain ⟨hk, rfl⟩ := List.getElem?_eq_some_iff.1 hx
  rw [List.drop_eq_getElem_cons hk, List.map_cons, List.sum_cons]
theorem drop_sum0 {β : Type} (f : β → Nat) {l : List β} {n : Nat} (hn : l.length = n) : ((l.drop n).map f).sum = 0 := by
  subst hn; rw [List.drop_length]; rfl
theorem tdiv_in {n : Nat} (h : n ≤ 140737488351232) : (0 : Int) ≤ Int.tdiv (n : Int) 64 ∧ Int.tdiv (n : Int) 64 ≤ 3000000000000 := by rw [Int.tdiv_eq_ediv_of_nonneg (by omega)]; omega
set_option maxRecDepth 100000 in
set_option maxHeartbeats 8000000 in
theorem cexprs_step (d : Nat)
    (hcnt : ∀ (x : Ex d) (v : Value) (W : World) (q : Nat), ExIs W d v x → Bd d x → q ≤ 120 → Calls Try.prog 23 #[v, .int .i64 300, .int .i64 (q : Int)] W fun r W' => ∃ c : Int, r = .returned (.int .i64 c) ∧ (0 ≤ c ∧ c ≤ ((q : Int) + 1) * 1000000000000000 ∧ (c ≤ 300 → (nodeK d x : Int) ≤ c)) ∧ Below W.heap.size W W')
    (v : Value) (e : ExN (Ex d)) (w : World) (q : Nat) (h : ExIs w (d + 1) v e) (hbd : Bd (d + 1) e) (hq : q ≤ 120) :
    Calls Try.prog 23 #[v, .int .i64 300, .int .i64 (q : Int)] w fun r W' => ∃ c : Int, r = .returned (.int .i64 c) ∧ (0 ≤ c ∧ c ≤ ((q : Int) + 1) * 1000000000000000 ∧ (c ≤ 300 → (nodeK (d + 1) e : Int) ≤ c)) ∧ Below w.heap.size w W' := by
  have hq120 := hq
  obtain ⟨l0, rfl, hp⟩ := h
  obtain ⟨pa, pb, pc, pd, pa2, pb2, pc2, pd2, rfl⟩ := parts_form hp
  have R0 := Blk.new w #[.int .i64 e.kind, .string e.name, .int .i64 e.num, .slice pa e.params.length pa2, .slice pb e.binds.length pb2, .slice pc e.args.length pc2, .slice pd e.alts.length pd2] 29
  have hB0 : Below w.heap.size w (w.alloc (.cells #[.int .i64 e.kind, .string e.name, .int .i64 e.num, .slice pa e.params.length pa2, .slice pb e.binds.length pb2, .slice pc e.args.length pc2, .slice pd e.alts.length pd2] 29)) := (Below.refl _ w).alloc (Nat.le_refl _) _
  obtain ⟨ps, bs, es, ls, hq, ⟨xa, ya, hqa, h1⟩, ⟨xb, yb, hqb, h2⟩, ⟨xc, yc, hqc, h3⟩, ⟨xd, yd, hqd, h4⟩⟩ := hp
  simp only [exV, List.cons.injEq] at hq
  obtain ⟨-, -, -, rfl, rfl, rfl, rfl, -⟩ := hq
  simp only [Value.slice.injEq] at hqa hqb hqc hqd
  obtain ⟨rfl, -, rfl⟩ := hqa
  obtain ⟨rfl, -, rfl⟩ := hqb
  obtain ⟨rfl, -, rfl⟩ := hqc
  obtain ⟨rfl, -, rfl⟩ := hqd
  obtain ⟨N3, hN3⟩ : ∃ N, e.params.length = N := ⟨_, rfl⟩
  obtain ⟨N4, hN4⟩ : ∃ N, e.binds.length = N := ⟨_, rfl⟩
  obtain ⟨N5, hN5⟩ : ∃ N, e.args.length = N := ⟨_, rfl⟩
  obtain ⟨N6, hN6⟩ : ∃ N, e.alts.length = N := ⟨_, rfl⟩
  have m3 : N3 ≤ 10000000000000 := hN3 ▸ hbd.2.1.1
  have m4 : N4 ≤ 10000000000000 := hN4 ▸ hbd.2.2.1.1
  have m5 : N5 ≤ 10000000000000 := hN5 ▸ hbd.2.2.2.1.1
  have m6 : N6 ≤ 10000000000000 := hN6 ▸ hbd.2.2.2.2.1
  obtain ⟨NL, hNL⟩ : ∃ N, e.name.size = N := ⟨_, rfl⟩
  have m7 : NL ≤ 140737488351232 := hNL ▸ hbd.1
  obtain ⟨NT, hNT⟩ : ∃ N, nodeK (d + 1) e = N := ⟨_, rfl⟩
  rw [hNT]
  rw [node_succ, hN3] at hNT
  have HNT := Lib.hid (show NT ≤ (1 + N3) + (((e.binds.drop 0).map fun x => 1 + nodeK d x.2).sum + ((e.args.map (nodeK d)).sum + ((e.alts.map fun x => x.vars.length + nodeK d x.e).sum + 0))) by rw [List.drop_zero]; omega)
  unfold exV
  rw [hN3, hN4, hN5, hN6] at R0 hB0 ⊢
  have HN3 := Lib.hid hN3
  have HN4 := Lib.hid hN4
  have HN5 := Lib.hid hN5
  have HN6 := Lib.hid hN6
  have HNL := Lib.hid hNL
  have H1 := Lib.hid (show True ∧ True ∧ _ from ⟨trivial, trivial, h1⟩)
  have H2 := Lib.hid (show True ∧ _ from ⟨trivial, h2⟩)
  have H3 := Lib.hid h3
  have H4 := Lib.hid h4
  have HBD := Lib.hid hbd
  have HCT := Lib.hid hcnt
  generalize e.kind = kd at R0 hB0 ⊢
  generalize e.name = nm at R0 hB0 HNL ⊢
  generalize e.num = nu at R0 hB0 ⊢
  have hnl := HNL.out
  clear h1 h2 h3 h4 hN3 hN4 hN5 hN6 hNT hbd hcnt hNL
  have hB1 : (1000000000000000 : Int) ≤ ((q : Int) + 1) * 1000000000000000 := by omega
  have hB2 : ((q : Int) + 1) * 1000000000000000 ≤ 121000000000000000 := by omega
  obtain ⟨BD, hBD⟩ : ∃ BD, ((q : Int) + 1) * 1000000000000000 = BD := ⟨_, rfl⟩
  have HBQ := Lib.hid hBD
  rw [hBD] at hB1 hB2 ⊢
  go_enter Try.func23, Try.ntmps23
  go_upto_region 1 with fail
  generalize w.alloc (.cells #[.int .i64 kd, .string nm, .int .i64 nu, .slice pa N3 pa2, .slice pb N4 pb2, .slice pc N5 pc2, .slice pd N6 pd2] 29) = W0 at R0 hB0 ⊢
  have HB0 := Lib.hid hB0
  have HR0 := Lib.hid R0
  generalize hbq : w.heap.size = b at R0 HR0 ⊢
  have x0 : W0.cell? ⟨b, 0, none⟩ = _ := R0.cell 0
  have x1 : W0.cell? ⟨b, 1, none⟩ = _ := R0.cell 1
  have x2 : W0.cell? ⟨b, 2, none⟩ = _ := R0.cell 2
  have x3 : W0.cell? ⟨b, 3, none⟩ = _ := R0.cell 3
  have x4 : W0.cell? ⟨b, 4, none⟩ = _ := R0.cell 4
  have x5 : W0.cell? ⟨b, 5, none⟩ = _ := R0.cell 5
  have x6 : W0.cell? ⟨b, 6, none⟩ = _ := R0.cell 6
  simp only [List.getElem?_toArray, List.getElem?_cons_zero, List.getElem?_cons_succ] at x0 x1 x2 x3 x4 x5 x6
  have hb := R0.lt
  clear R0 hB0
  have HC := Lib.hid (show ∀ W, Below W0.heap.size W0 W → W.cell? ⟨b, 0, none⟩ = some (.int .i64 kd) ∧ W.cell? ⟨b, 1, none⟩ = some (.string nm) ∧ W.cell? ⟨b, 2, none⟩ = some (.int .i64 nu) ∧ W.cell? ⟨b, 3, none⟩ = some (.slice pa N3 pa2) ∧ W.cell? ⟨b, 4, none⟩ = some (.slice pb N4 pb2) ∧ W.cell? ⟨b, 5, none⟩ = some (.slice pc N5 pc2) ∧ W.cell? ⟨b, 6, none⟩ = some (.slice pd N6 pd2) from fun W hW => by
    have R2 := HR0.out.below hW HR0.out.lt
    exact ⟨R2.cell 0, R2.cell 1, R2.cell 2, R2.cell 3, R2.cell 4, R2.cell 5, R2.cell 6⟩)
  have ts0 : (0 : Int) ≤ Int.tdiv (NL : Int) 64 ∧ Int.tdiv (NL : Int) 64 ≤ 3000000000000 := by rw [Int.tdiv_eq_ediv_of_nonneg (by omega)]; omega
  obtain ⟨Q0, hQ0⟩ : ∃ Q, Int.tdiv (NL : Int) 64 = Q := ⟨_, rfl⟩
  rw [hQ0] at ts0
  have HW0 := Lib.hid (show Below w.heap.size w W0 from HB0.out)
  have HWB := Lib.hid (show ∀ W, Below W0.heap.size W0 W → Below w.heap.size w W from fun W hW => HB0.out.trans (hW.mono HB0.out.size))
  clear hBD hq
  by_cases hq0 : q = 0
  · have t1 : ((q : Int) == 0) = true := by simp [hq0]
    have t2 : decide ((q : Int) = 0) = true := by simp [hq0]
    go_wp2
    go_ret
    exact ⟨_, rfl, ⟨by omega, by omega, fun h => by omega⟩, by rw [← hbq]; exact HB0.out⟩
  have t1 : ((q : Int) == 0) = false := by simp [hq0]
  have t2 : decide ((q : Int) = 0) = false := by simp [hq0]
  obtain ⟨q', hq'⟩ : ∃ q' : Nat, (q : Int) - 1 = (q' : Int) := ⟨q - 1, by omega⟩
  have hqw : IntKind.i64.wrap ((q : Int) - 1) = (q' : Int) := by rw [hq']; exact IntWalk.i64_in _ (by omega)
  have hq'1 : q' ≤ 120 := by omega
  obtain ⟨BM, hBM⟩ : ∃ BM, ((q' : Int) + 1) * 1000000000000000 = BM := ⟨_, rfl⟩
  have hBB : BM + 1000000000000000 = BD := by rw [← hBM, ← HBQ.out]; omega
  have HCU := Lib.hid (fun (x : Ex d) (v : Value) (W : World) (hx : ExIs W d v x) (hb : Bd d x) => HCT.out x v W q' hx hb hq'1)
  rw [hBM] at HCU
  clear hBM hq0 HCT HBQ hq' hq'1
  have hB := Below.refl W0.heap.size W0
  go_upto_region 4 with fail
  go_upto_block 0 with fail
  go_cut [7] (fun s7 wx => ∃ c : Int, s7 = .int .i64 c ∧ 0 ≤ c ∧ c ≤ BD ∧ Hid (c ≤ 300 → (NT : Int) ≤ c + (((e.binds.map fun x => 1 + nodeK d x.2).sum + ((e.args.map (nodeK d)).sum + (e.alts.map fun x => x.vars.length + nodeK d x.e).sum) : Nat) : Int)) ∧ Below W0.heap.size W0 wx)
  case first =>
    clear x0 x1 x2 x3 x4 x5 x6
    go_wp2_with fail
    go_loopw [7, 8] (fun v i wr => ∃ (k : Nat) (c : Int), i = .int .i64 k ∧ v = .int .i64 c ∧ k ≤ N3 ∧ 0 ≤ c ∧ c ≤ BD ∧ Hid (c ≤ 300 → (NT : Int) ≤ c + (((e.binds.map fun x => 1 + nodeK d x.2).sum + ((e.args.map (nodeK d)).sum + (e.alts.map fun x => x.vars.length + nodeK d x.e).sum) : Nat) : Int)) ∧ Below W0.heap.size W0 wr) (fun v i _ => N3 - (intOf i).toNat)
    case atStart => exact ⟨0, _, rfl, rfl, Nat.zero_le _, by omega, by omega, Lib.hid (fun _ => by have := HNT.out; rw [List.drop_zero, Nat.add_zero] at this; push_cast; omega), hB⟩
    case round =>
      clear hB
      obtain ⟨k, c, rfl, rfl, hk, hc0, hc1, HC1, hB⟩ := hrel
      obtain ⟨x0, x1, x2, x3, x4, x5, x6⟩ := HC.out wr hB
      by_cases hlt : k < N3
      · have hlt2 : decide ((k : Int) < (N3 : Int)) = true := by simp; omega
        have hlt3 : decide (k < N3) = true := by simp; omega
        have hi0 : (0 : Int) ≤ (k : Int) := by omega
        by_cases hc : c ≤ 300
        · have hc2 : decide (c ≤ 300) = true := by simp; omega
          have hkt : k < e.params.length := by rw [HN3.out]; exact hlt
          obtain ⟨p, o', hq, hp, hat⟩ := H1.out.2.2 (by omega)
          subst hq
          obtain ⟨x, hx⟩ : ∃ x, e.params[k]? = some x := ⟨_, List.getElem?_eq_getElem hkt⟩
          have hBw := HWB.out wr hB
          have c0 := (hBw.cell (p := ⟨p, o' + k * 1, none⟩) hp).trans (hat k x hx)
          rw [Nat.mul_one] at c0
          have hxb := HBD.out.2.1.2 x (List.mem_of_getElem? hx)
          obtain ⟨XL, hXL⟩ : ∃ N, x.size = N := ⟨_, rfl⟩
          rw [hXL] at hxb
          have hxb2 : XL ≤ 140737488351232 := hxb
          have tx : (0 : Int) ≤ Int.tdiv (XL : Int) 64 ∧ Int.tdiv (XL : Int) 64 ≤ 3000000000000 := by rw [Int.tdiv_eq_ediv_of_nonneg (by omega)]; omega
          obtain ⟨QX, hQX⟩ : ∃ Q, Int.tdiv (XL : Int) 64 = Q := ⟨_, rfl⟩
          rw [hQX] at tx
          clear hat hx hxb
          go_wp2
          go_roundw
          case measure => simp [intOf]; omega
          case rel => exact ⟨k + 1, c + QX, by go_num, rfl, by omega, by omega, by omega, Lib.hid (fun h => by have := HC1.out (by omega); omega), hB⟩
        · have hc2 : decide (c ≤ 300) = false := by simp; omega
          go_wp2
          go_meet
          exact ⟨c, rfl, hc0, hc1, Lib.hid (fun h => by omega), hB⟩
      · have hlt2 : decide ((k : Int) < (N3 : Int)) = false := by simp; omega
        have hlt3 : decide (k < N3) = false := by simp; omega
        obtain rfl : N3 = k := by omega
        go_wp2
        go_meet
        exact ⟨c, rfl, hc0, hc1, HC1, hB⟩
  case rest =>
  obtain ⟨c, rfl, hc0, hc1, HC1, hB⟩ := hcut
  go_upto_block 2 with fail
  go_cut [7] (fun s7 wx => ∃ c : Int, s7 = .int .i64 c ∧ 0 ≤ c ∧ c ≤ BD ∧ Hid (c ≤ 300 → (NT : Int) ≤ c + (((e.args.map (nodeK d)).sum + (e.alts.map fun x => x.vars.length + nodeK d x.e).sum : Nat) : Int)) ∧ Below W0.heap.size W0 wx)
  case first =>
    
    go_wp2_with fail
    go_loopw [7, 9] (fun v i wr => ∃ (k : Nat) (c : Int), i = .int .i64 k ∧ v = .int .i64 c ∧ k ≤ N4 ∧ 0 ≤ c ∧ c ≤ BD ∧ Hid (c ≤ 300 → (NT : Int) ≤ c + ((((e.binds.drop k).map (fun x => 1 + nodeK d x.2)).sum + ((e.args.map (nodeK d)).sum + (e.alts.map fun x => x.vars.length + nodeK d x.e).sum) : Nat) : Int)) ∧ Below W0.heap.size W0 wr) (fun v i _ => N4 - (intOf i).toNat)
    case atStart => exact ⟨0, c, rfl, rfl, Nat.zero_le _, hc0, hc1, Lib.hid (fun h => by have := HC1.out h; rw [List.drop_zero]; exact this), hB⟩
    case round =>
      clear hB
      obtain ⟨k, c, rfl, rfl, hk, hc0, hc1, HC1, hB⟩ := hrel
      obtain ⟨x0, x1, x2, x3, x4, x5, x6⟩ := HC.out wr hB
      by_cases hlt : k < N4
      · have hlt2 : decide ((k : Int) < (N4 : Int)) = true := by simp; omega
        have hlt3 : decide (k < N4) = true := by simp; omega
        have hi0 : (0 : Int) ≤ (k : Int) := by omega
        by_cases hc : c ≤ 300
        · have hc2 : decide (c ≤ 300) = true := by simp; omega
          have hkt : k < e.binds.length := by rw [HN4.out]; exact hlt
          obtain ⟨p, o', hq, hp, hat⟩ := H2.out.2 (by omega)
          subst hq
          obtain ⟨x, hx⟩ : ∃ x, e.binds[k]? = some x := ⟨_, List.getElem?_eq_getElem hkt⟩
          obtain ⟨hnm, hex⟩ := hat k x hx
          have hbx := HBD.out.2.2.1.2 x (List.mem_of_getElem? hx)
          have hC2 : c ≤ 300 → (NT : Int) ≤ c + ((1 + nodeK d x.2 + (((e.binds.drop (k + 1)).map (fun x => 1 + nodeK d x.2)).sum + ((e.args.map (nodeK d)).sum + (e.alts.map fun x => x.vars.length + nodeK d x.e).sum)) : Nat) : Int) := fun h => by have := HC1.out h; rw [drop_sum _ hx, Nat.add_assoc] at this; exact this
          obtain ⟨y0, y1, y2, y3, y4, y5, y6, z3, x3', z4, x4', z5, x5', z6, x6', hyc, hyv⟩ := ex_val hex
          have KO := Lib.hid (fun W (hW : Below w.heap.size w W) => HCU.out x.2 _ W (ExIs.below hW d _ x.2 hyv) hbx.2)
          unfold exV at KO
          obtain ⟨xn, hxn⟩ : ∃ xn, x.1 = xn := ⟨_, rfl⟩
          obtain ⟨ND, hND⟩ : ∃ ND, nodeK d x.2 = ND := ⟨_, rfl⟩
          rw [hxn] at hnm hbx
          rw [hND] at KO hC2
          have hxb := hbx.1
          obtain ⟨XL, hXL⟩ : ∃ N, xn.size = N := ⟨_, rfl⟩
          rw [hXL] at hxb
          have txX := tdiv_in (n := XL) hxb
          obtain ⟨XQ, hXQ⟩ : ∃ Q, Int.tdiv (XL : Int) 64 = Q := ⟨_, rfl⟩
          rw [hXQ] at txX
          clear hxb
          have HC2 := Lib.hid hC2
          have HS9 := Lib.hid (show ∀ W, Below W0.heap.size W0 W → W.cell? ⟨b, 4, none⟩ = some (.slice (some ⟨p, o', none⟩) N4 pb2) ∧ W.cell? ⟨p, o' + k * 8, none⟩ = some (.string xn) ∧ W.cell? ⟨p, o' + k * 8 + 1, none⟩ = some (.int .i64 y0) ∧ W.cell? ⟨p, o' + k * 8 + 2, none⟩ = some (.string y1) ∧ W.cell? ⟨p, o' + k * 8 + 3, none⟩ = some (.int .i64 y2) ∧ W.cell? ⟨p, o' + k * 8 + 4, none⟩ = some (.slice y3 z3 x3') ∧ W.cell? ⟨p, o' + k * 8 + 5, none⟩ = some (.slice y4 z4 x4') ∧ W.cell? ⟨p, o' + k * 8 + 6, none⟩ = some (.slice y5 z5 x5') ∧ W.cell? ⟨p, o' + k * 8 + 7, none⟩ = some (.slice y6 z6 x6') from fun W hW => by
            have hWw := HWB.out W hW
            exact ⟨(HC.out W hW).2.2.2.2.1, (hWw.cell (p := ⟨p, o' + k * 8, none⟩) hp).trans hnm, hyc.below hWw hp 0 _ rfl, hyc.below hWw hp 1 _ rfl, hyc.below hWw hp 2 _ rfl, hyc.below hWw hp 3 _ rfl, hyc.below hWw hp 4 _ rfl, hyc.below hWw hp 5 _ rfl, hyc.below hWw hp 6 _ rfl⟩)
          have hwq : IntKind.i64.wrap XQ = XQ := IntWalk.i64_in _ (by omega)
          have hw1 : IntKind.i64.wrap (c + 1) = c + 1 := IntWalk.i64_in _ (by omega)
          have hw2 : IntKind.i64.wrap (c + 1 + XQ) = c + 1 + XQ := IntWalk.i64_in _ (by omega)
          have hBw := HWB.out wr hB
          have HB := Lib.hid hB
          have HBw := Lib.hid hBw
          clear hat hx hnm hex hbx hC2 hyc hyv hND hxn hBw
          go_upto_region 11 with fail
          have hS0 : wr.drew.cell? ⟨b, 4, none⟩ = some (.slice (some ⟨p, o', none⟩) N4 pb2) ∧ wr.drew.cell? ⟨p, o' + k * 8, none⟩ = some (.string xn) ∧ wr.drew.cell? ⟨p, o' + k * 8 + 1, none⟩ = some (.int .i64 y0) ∧ wr.drew.cell? ⟨p, o' + k * 8 + 2, none⟩ = some (.string y1) ∧ wr.drew.cell? ⟨p, o' + k * 8 + 3, none⟩ = some (.int .i64 y2) ∧ wr.drew.cell? ⟨p, o' + k * 8 + 4, none⟩ = some (.slice y3 z3 x3') ∧ wr.drew.cell? ⟨p, o' + k * 8 + 5, none⟩ = some (.slice y4 z4 x4') ∧ wr.drew.cell? ⟨p, o' + k * 8 + 6, none⟩ = some (.slice y5 z5 x5') ∧ wr.drew.cell? ⟨p, o' + k * 8 + 7, none⟩ = some (.slice y6 z6 x6') := HS9.out wr HB.out
          go_region_held3 (fun wx => wx.cell? ⟨b, 4, none⟩ = some (.slice (some ⟨p, o', none⟩) N4 pb2) ∧ wx.cell? ⟨p, o' + k * 8, none⟩ = some (.string xn) ∧ wx.cell? ⟨p, o' + k * 8 + 1, none⟩ = some (.int .i64 y0) ∧ wx.cell? ⟨p, o' + k * 8 + 2, none⟩ = some (.string y1) ∧ wx.cell? ⟨p, o' + k * 8 + 3, none⟩ = some (.int .i64 y2) ∧ wx.cell? ⟨p, o' + k * 8 + 4, none⟩ = some (.slice y3 z3 x3') ∧ wx.cell? ⟨p, o' + k * 8 + 5, none⟩ = some (.slice y4 z4 x4') ∧ wx.cell? ⟨p, o' + k * 8 + 6, none⟩ = some (.slice y5 z5 x5') ∧ wx.cell? ⟨p, o' + k * 8 + 7, none⟩ = some (.slice y6 z6 x6')) (assumption) ((go_at_call 23; with_reducible refine (KO.out _ HBw.out.drew).mono ?_; rintro r1 w1 ⟨r, rfl, ⟨hr0, hr1, hr2⟩, b1⟩; have q1 := below_of_drew b1; have B1 := chain HB.out q1; have hS1 := HS9.out w1 B1; have HR := Lib.hid hr2; have K1 := Lib.hid B1; have hw3 : IntKind.i64.wrap (c + 1 + XQ + r) = c + 1 + XQ + r := (IntWalk.i64_in _ (by omega)); clear hr2 B1 b1 q1))
          go_wp2
          go_roundw
          case measure => simp [intOf]; omega
          case rel => exact ⟨k + 1, c + 1 + XQ + r, by go_num, rfl, by omega, by omega, by omega, Lib.hid (fun h => by have h1 := HC2.out hc; have h2 := HR.out (by omega); push_cast at h1 ⊢; omega), K1.out⟩
        · have hc2 : decide (c ≤ 300) = false := by simp; omega
          go_wp2
          go_meet
          exact ⟨c, rfl, hc0, hc1, Lib.hid (fun h => by omega), hB⟩
      · have hlt2 : decide ((k : Int) < (N4 : Int)) = false := by simp; omega
        have hlt3 : decide (k < N4) = false := by simp; omega
        obtain rfl : N4 = k := by omega
        go_wp2
        go_meet
        exact ⟨c, rfl, hc0, hc1, Lib.hid (fun h => by have := HC1.out h; rw [drop_sum0 _ HN4.out, Nat.zero_add] at this; exact this), hB⟩
  case rest =>
  obtain ⟨c, rfl, hc0, hc1, HC1, hB⟩ := hcut
  go_upto_block 4 with fail
  go_cut [7] (fun s7 wx => ∃ c : Int, s7 = .int .i64 c ∧ 0 ≤ c ∧ c ≤ BD ∧ Hid (c ≤ 300 → (NT : Int) ≤ c + (((e.alts.map fun x => x.vars.length + nodeK d x.e).sum : Nat) : Int)) ∧ Below W0.heap.size W0 wx)
  case first =>
    
    go_wp2_with fail
    go_loopw [7, 10] (fun v i wr => ∃ (k : Nat) (c : Int), i = .int .i64 k ∧ v = .int .i64 c ∧ k ≤ N5 ∧ 0 ≤ c ∧ c ≤ BD ∧ Hid (c ≤ 300 → (NT : Int) ≤ c + ((((e.args.drop k).map (nodeK d)).sum + ((e.alts.map fun x => x.vars.length + nodeK d x.e).sum) : Nat) : Int)) ∧ Below W0.heap.size W0 wr) (fun v i _ => N5 - (intOf i).toNat)
    case atStart => exact ⟨0, c, rfl, rfl, Nat.zero_le _, hc0, hc1, Lib.hid (fun h => by have := HC1.out h; rw [List.drop_zero]; exact this), hB⟩
    case round =>
      clear hB
      obtain ⟨k, c, rfl, rfl, hk, hc0, hc1, HC1, hB⟩ := hrel
      obtain ⟨x0, x1, x2, x3, x4, x5, x6⟩ := HC.out wr hB
      by_cases hlt : k < N5
      · have hlt2 : decide ((k : Int) < (N5 : Int)) = true := by simp; omega
        have hlt3 : decide (k < N5) = true := by simp; omega
        have hi0 : (0 : Int) ≤ (k : Int) := by omega
        by_cases hc : c ≤ 300
        · have hc2 : decide (c ≤ 300) = true := by simp; omega
          have hkt : k < e.args.length := by rw [HN5.out]; exact hlt
          obtain ⟨p, o', hq, hp, hat⟩ := H3.out (by omega)
          subst hq
          obtain ⟨x, hx⟩ : ∃ x, e.args[k]? = some x := ⟨_, List.getElem?_eq_getElem hkt⟩
          have hex := hat k x hx
          have hbx := HBD.out.2.2.2.1.2 x (List.mem_of_getElem? hx)
          have hC2 : c ≤ 300 → (NT : Int) ≤ c + ((nodeK d x + (((e.args.drop (k + 1)).map (nodeK d)).sum + ((e.alts.map fun x => x.vars.length + nodeK d x.e).sum)) : Nat) : Int) := fun h => by have := HC1.out h; rw [drop_sum _ hx, Nat.add_assoc] at this; exact this
          obtain ⟨y0, y1, y2, y3, y4, y5, y6, z3, x3', z4, x4', z5, x5', z6, x6', hyc, hyv⟩ := ex_val hex
          have KO := Lib.hid (fun W (hW : Below w.heap.size w W) => HCU.out x _ W (ExIs.below hW d _ x hyv) hbx)
          unfold exV at KO
          obtain ⟨ND, hND⟩ : ∃ ND, nodeK d x = ND := ⟨_, rfl⟩
          rw [hND] at KO hC2
          have HC2 := Lib.hid hC2
          have hBw := HWB.out wr hB
          have vv := hyc.below hBw hp
          have v0 := vv 0 _ rfl
          have v1 := vv 1 _ rfl
          have v2 := vv 2 _ rfl
          have v3 := vv 3 _ rfl
          have v4 := vv 4 _ rfl
          have v5 := vv 5 _ rfl
          have v6 := vv 6 _ rfl
          rw [Nat.add_zero] at v0
          have HB := Lib.hid hB
          have HBw := Lib.hid hBw
          clear hat hx hex hbx hC2 hyc hyv hND hBw vv
          go_wp2_with (go_at_call 23; refine (KO.out _ HBw.out).mono ?_; rintro r1 w1 ⟨r, rfl, ⟨hr0, hr1, hr2⟩, b1⟩; have K1 := Lib.hid (chain HB.out b1); have HR := Lib.hid hr2; have hw3 : IntKind.i64.wrap (c + r) = c + r := (IntWalk.i64_in _ (by omega)); clear hr2 b1)
          go_roundw
          case measure => simp [intOf]; omega
          case rel => exact ⟨k + 1, c + r, by go_num, rfl, by omega, by omega, by omega, Lib.hid (fun h => by have h1 := HC2.out hc; have h2 := HR.out (by omega); push_cast at h1 ⊢; omega), K1.out⟩
        · have hc2 : decide (c ≤ 300) = false := by simp; omega
          go_wp2
          go_meet
          exact ⟨c, rfl, hc0, hc1, Lib.hid (fun h => by omega), hB⟩
      · have hlt2 : decide ((k : Int) < (N5 : Int)) = false := by simp; omega
        have hlt3 : decide (k < N5) = false := by simp; omega
        obtain rfl : N5 = k := by omega
        go_wp2
        go_meet
        exact ⟨c, rfl, hc0, hc1, Lib.hid (fun h => by have := HC1.out h; rw [drop_sum0 _ HN5.out, Nat.zero_add] at this; exact this), hB⟩
  case rest =>
  obtain ⟨c, rfl, hc0, hc1, HC1, hB⟩ := hcut
  go_upto_block 6 with fail
  go_cut [7] (fun s7 wx => ∃ c : Int, s7 = .int .i64 c ∧ 0 ≤ c ∧ c ≤ BD ∧ Hid (c ≤ 300 → (NT : Int) ≤ c + ((0 : Nat) : Int)) ∧ Below W0.heap.size W0 wx)
  case first =>
    
    go_wp2_with fail
    go_loopw [7, 11, 12] (fun v i _ wr => ∃ (k : Nat) (c : Int), i = .int .i64 k ∧ v = .int .i64 c ∧ k ≤ N6 ∧ 0 ≤ c ∧ c ≤ BD ∧ Hid (c ≤ 300 → (NT : Int) ≤ c + ((((e.alts.drop k).map (fun x => x.vars.length + nodeK d x.e)).sum + (0) : Nat) : Int)) ∧ Below W0.heap.size W0 wr) (fun v i _ _ => N6 - (intOf i).toNat)
    case atStart => exact ⟨0, c, rfl, rfl, Nat.zero_le _, hc0, hc1, Lib.hid (fun h => by have := HC1.out h; rw [List.drop_zero]; exact this), hB⟩
    case round =>
      clear hB
      obtain ⟨k, c, rfl, rfl, hk, hc0, hc1, HC1, hB⟩ := hrel
      obtain ⟨x0, x1, x2, x3, x4, x5, x6⟩ := HC.out wr hB
      by_cases hlt : k < N6
      · have hlt2 : decide ((k : Int) < (N6 : Int)) = true := by simp; omega
        have hlt3 : decide (k < N6) = true := by simp; omega
        have hi0 : (0 : Int) ≤ (k : Int) := by omega
        by_cases hc : c ≤ 300
        · have hc2 : decide (c ≤ 300) = true := by simp; omega
          have hkt : k < e.alts.length := by rw [HN6.out]; exact hlt
          obtain ⟨p, o', hq, hp, hat⟩ := H4.out (by omega)
          subst hq
          obtain ⟨x, hx⟩ : ∃ x, e.alts[k]? = some x := ⟨_, List.getElem?_eq_getElem hkt⟩
          obtain ⟨vs, hcs, ⟨aw, cw, rfl, htx⟩, hex⟩ := hat k x hx
          have hbx := HBD.out.2.2.2.2.2 x (List.mem_of_getElem? hx)
          have hC2 : c ≤ 300 → (NT : Int) ≤ c + ((x.vars.length + nodeK d x.e + (((e.alts.drop (k + 1)).map (fun x => x.vars.length + nodeK d x.e)).sum + 0) : Nat) : Int) := fun h => by have := HC1.out h; rw [drop_sum _ hx, Nat.add_assoc] at this; exact this
          obtain ⟨y0, y1, y2, y3, y4, y5, y6, z3, x3', z4, x4', z5, x5', z6, x6', hyc, hyv⟩ := ex_val hex
          have KO := Lib.hid (fun W (hW : Below w.heap.size w W) => HCU.out x.e _ W (ExIs.below hW d _ x.e hyv) hbx.2.2)
          unfold exV at KO
          obtain ⟨xn, hxn⟩ : ∃ xn, x.name = xn := ⟨_, rfl⟩
          obtain ⟨ND, hND⟩ : ∃ ND, nodeK d x.e = ND := ⟨_, rfl⟩
          obtain ⟨M, hM⟩ : ∃ M, x.vars.length = M := ⟨_, rfl⟩
          have hM13 : M ≤ 10000000000000 := hM ▸ hbx.2.1.1
          have HTB := Lib.hid hbx.2.1.2
          have hcn := hcs 1 _ rfl
          have hcv := hcs 3 _ rfl
          rw [hxn] at hcn hbx
          rw [hM] at hcv hC2
          rw [hND] at KO hC2
          have HM := Lib.hid hM
          have HTX := Lib.hid htx
          have hxb := hbx.1
          obtain ⟨XL, hXL⟩ : ∃ N, xn.size = N := ⟨_, rfl⟩
          rw [hXL] at hxb
          have txX := tdiv_in (n := XL) hxb
          obtain ⟨XQ, hXQ⟩ : ∃ Q, Int.tdiv (XL : Int) 64 = Q := ⟨_, rfl⟩
          rw [hXQ] at txX
          clear hxb
          have HC2 := Lib.hid hC2
          have HS9 := Lib.hid (show ∀ W, Below W0.heap.size W0 W → W.cell? ⟨b, 6, none⟩ = some (.slice (some ⟨p, o', none⟩) N6 pd2) ∧ W.cell? ⟨p, o' + k * 11 + 3, none⟩ = some (.slice aw M cw) ∧ W.cell? ⟨p, o' + k * 11 + 1, none⟩ = some (.string xn) ∧ W.cell? ⟨p, o' + k * 11 + 4, none⟩ = some (.int .i64 y0) ∧ W.cell? ⟨p, o' + k * 11 + 5, none⟩ = some (.string y1) ∧ W.cell? ⟨p, o' + k * 11 + 6, none⟩ = some (.int .i64 y2) ∧ W.cell? ⟨p, o' + k * 11 + 7, none⟩ = some (.slice y3 z3 x3') ∧ W.cell? ⟨p, o' + k * 11 + 8, none⟩ = some (.slice y4 z4 x4') ∧ W.cell? ⟨p, o' + k * 11 + 9, none⟩ = some (.slice y5 z5 x5') ∧ W.cell? ⟨p, o' + k * 11 + 10, none⟩ = some (.slice y6 z6 x6') from fun W hW => by
            have hWw := HWB.out W hW
            have g := hyc.below hWw hp
            exact ⟨(HC.out W hW).2.2.2.2.2.2, (hWw.cell (p := ⟨p, o' + k * 11 + 3, none⟩) hp).trans hcv, (hWw.cell (p := ⟨p, o' + k * 11 + 1, none⟩) hp).trans hcn, g 0 _ rfl, g 1 _ rfl, g 2 _ rfl, g 3 _ rfl, g 4 _ rfl, g 5 _ rfl, g 6 _ rfl⟩)
          have hwq : IntKind.i64.wrap XQ = XQ := IntWalk.i64_in _ (by omega)
          have hw1 : IntKind.i64.wrap (c + (M : Int)) = c + (M : Int) := IntWalk.i64_in _ (by omega)
          have hw2 : IntKind.i64.wrap (c + (M : Int) + XQ) = c + (M : Int) + XQ := IntWalk.i64_in _ (by omega)
          have HB := Lib.hid hB
          have HBw := Lib.hid (HWB.out wr hB)
          clear hat hx hcs hcn hcv htx hex hbx hC2 hyc hyv hND hxn hM
          go_upto_region 19 with fail
          have hS0 : wr.drew.cell? ⟨b, 6, none⟩ = some (.slice (some ⟨p, o', none⟩) N6 pd2) ∧ wr.drew.cell? ⟨p, o' + k * 11 + 3, none⟩ = some (.slice aw M cw) ∧ wr.drew.cell? ⟨p, o' + k * 11 + 1, none⟩ = some (.string xn) ∧ wr.drew.cell? ⟨p, o' + k * 11 + 4, none⟩ = some (.int .i64 y0) ∧ wr.drew.cell? ⟨p, o' + k * 11 + 5, none⟩ = some (.string y1) ∧ wr.drew.cell? ⟨p, o' + k * 11 + 6, none⟩ = some (.int .i64 y2) ∧ wr.drew.cell? ⟨p, o' + k * 11 + 7, none⟩ = some (.slice y3 z3 x3') ∧ wr.drew.cell? ⟨p, o' + k * 11 + 8, none⟩ = some (.slice y4 z4 x4') ∧ wr.drew.cell? ⟨p, o' + k * 11 + 9, none⟩ = some (.slice y5 z5 x5') ∧ wr.drew.cell? ⟨p, o' + k * 11 + 10, none⟩ = some (.slice y6 z6 x6') := HS9.out wr HB.out
          go_region_held3 (fun wx => wx.cell? ⟨b, 6, none⟩ = some (.slice (some ⟨p, o', none⟩) N6 pd2) ∧ wx.cell? ⟨p, o' + k * 11 + 3, none⟩ = some (.slice aw M cw) ∧ wx.cell? ⟨p, o' + k * 11 + 1, none⟩ = some (.string xn) ∧ wx.cell? ⟨p, o' + k * 11 + 4, none⟩ = some (.int .i64 y0) ∧ wx.cell? ⟨p, o' + k * 11 + 5, none⟩ = some (.string y1) ∧ wx.cell? ⟨p, o' + k * 11 + 6, none⟩ = some (.int .i64 y2) ∧ wx.cell? ⟨p, o' + k * 11 + 7, none⟩ = some (.slice y3 z3 x3') ∧ wx.cell? ⟨p, o' + k * 11 + 8, none⟩ = some (.slice y4 z4 x4') ∧ wx.cell? ⟨p, o' + k * 11 + 9, none⟩ = some (.slice y5 z5 x5') ∧ wx.cell? ⟨p, o' + k * 11 + 10, none⟩ = some (.slice y6 z6 x6')) (assumption) ((go_at_call 23; with_reducible refine (KO.out _ HBw.out.drew).mono ?_; rintro r1 w1 ⟨r, rfl, ⟨hr0, hr1, hr2⟩, b1⟩; have q1 := below_of_drew b1; have B1 := chain HB.out q1; have hS1 := HS9.out w1 B1; have HR := Lib.hid hr2; have K1 := Lib.hid B1; have hw3 : IntKind.i64.wrap (c + (M : Int) + XQ + r) = c + (M : Int) + XQ + r := (IntWalk.i64_in _ (by omega)); clear hr2 B1 b1 q1))
          have HC3 := Lib.hid (show c + (M : Int) + XQ + r ≤ 300 → (NT : Int) ≤ (c + (M : Int) + XQ + r) + (((((e.alts.drop (k + 1)).map (fun x => x.vars.length + nodeK d x.e)).sum + 0) : Nat) : Int) from fun h => by have h1 := HC2.out hc; have h2 := HR.out (by omega); push_cast at h1 ⊢; omega)
          have hcA : 0 ≤ c + (M : Int) + XQ + r ∧ c + (M : Int) + XQ + r ≤ BD := by omega

          generalize c + (M : Int) + XQ + r = cA at HC3 hcA ⊢
          clear hwq hw1 hw2 hw3 hS0 hS1 x0 x1 x2 x3 x4 x5 x6 hc hc2 hc0 hc1 HC1 HC2 HR hr0 hr1
          go_wp2_with fail
          go_loopw [7, 12] (fun v i wr => ∃ (j : Nat) (c : Int), i = .int .i64 j ∧ v = .int .i64 c ∧ j ≤ M ∧ 0 ≤ c ∧ c ≤ BD ∧ Hid (c ≤ 300 → (NT : Int) ≤ c + (((((e.alts.drop (k + 1)).map (fun x => x.vars.length + nodeK d x.e)).sum + 0) : Nat) : Int)) ∧ Below W0.heap.size W0 wr) (fun _ i _ => M - (intOf i).toNat)
          case atStart => exact ⟨0, cA, rfl, rfl, Nat.zero_le _, hcA.1, hcA.2, HC3, K1.out⟩
          case round =>
            clear hcA HC3 K1 hB HB HBw KO
            obtain ⟨j, c, rfl, rfl, hj, hc0, hc1, HC1, hB⟩ := hrel
            obtain ⟨g6, ga, gn, g0, -⟩ := HS9.out wr hB
            by_cases hlt' : j < M
            · have hlt2 : decide ((j : Int) < (M : Int)) = true := by simp; omega
              have hlt3 : decide (j < M) = true := by simp; omega
              have hi0 : (0 : Int) ≤ (j : Int) := by omega
              by_cases hc : c ≤ 300
              · have hc2 : decide (c ≤ 300) = true := by simp; omega
                have hjt : j < x.vars.length := by rw [HM.out]; exact hlt'
                obtain ⟨p', o2, hq, hp', hat⟩ := HTX.out (by omega)
                subst hq
                obtain ⟨y, hy⟩ : ∃ y, x.vars[j]? = some y := ⟨_, List.getElem?_eq_getElem hjt⟩
                have cy := ((HWB.out wr hB).cell (p := ⟨p', o2 + j * 1, none⟩) hp').trans (hat j y hy)
                rw [Nat.mul_one] at cy
                have hyb := HTB.out y (List.mem_of_getElem? hy)
                obtain ⟨YL, hYL⟩ : ∃ N, y.size = N := ⟨_, rfl⟩
                rw [hYL] at hyb
                have ty := tdiv_in (n := YL) hyb
                obtain ⟨YQ, hYQ⟩ : ∃ Q, Int.tdiv (YL : Int) 64 = Q := ⟨_, rfl⟩
                rw [hYQ] at ty
                have hyb2 : YL ≤ 140737488351232 := hyb
                clear hat hy hyb
                go_wp2
                go_roundw
                case measure => simp [intOf]; omega
                case rel => exact ⟨j + 1, c + YQ, by go_num, rfl, by omega, by omega, by omega, Lib.hid (fun h => by have := HC1.out (by omega); omega), hB⟩
              · have hc2 : decide (c ≤ 300) = false := by simp; omega
                go_wp2
                go_roundw
                case measure => simp [intOf]; omega
                case rel => exact ⟨k + 1, c, by go_num, rfl, by omega, hc0, hc1, HC1, hB⟩
            · have hlt2 : decide ((j : Int) < (M : Int)) = false := by simp; omega
              have hlt3 : decide (j < M) = false := by simp; omega
              obtain rfl : M = j := by omega
              go_wp2
              go_roundw
              case measure => simp [intOf]; omega
              case rel => exact ⟨k + 1, c, by go_num, rfl, by omega, hc0, hc1, HC1, hB⟩
        · have hc2 : decide (c ≤ 300) = false := by simp; omega
          go_wp2
          go_meet
          exact ⟨c, rfl, hc0, hc1, Lib.hid (fun h => by omega), hB⟩
      · have hlt2 : decide ((k : Int) < (N6 : Int)) = false := by simp; omega
        have hlt3 : decide (k < N6) = false := by simp; omega
        obtain rfl : N6 = k := by omega
        go_wp2
        go_meet
        exact ⟨c, rfl, hc0, hc1, Lib.hid (fun h => by have := HC1.out h; rw [drop_sum0 _ HN6.out, Nat.zero_add] at this; exact this), hB⟩
  case rest =>
  obtain ⟨c, rfl, hc0, hc1, HC1, hB⟩ := hcut
  go_wp2
  go_ret
  exact ⟨c, rfl, ⟨hc0, hc1, fun h => by have := HC1.out h; simpa using this⟩, by rw [← hbq]; exact HWB.out _ hB⟩
theorem cexprs_any : ∀ (d : Nat) (x : Ex d) (v : Value) (W : World) (q : Nat), ExIs W d v x → Bd d x → q ≤ 120 → Calls Try.prog 23 #[v, .int .i64 300, .int .i64 (q : Int)] W fun r W' => ∃ c : Int, r = .returned (.int .i64 c) ∧ (0 ≤ c ∧ c ≤ ((q : Int) + 1) * 1000000000000000 ∧ (c ≤ 300 → (nodeK d x : Int) ≤ c)) ∧ Below W.heap.size W W'
  | 0, x, _, _, _, _, _, _ => nomatch (x : Empty)
  | d + 1, x, v, W, q, h, hb, hq => cexprs_step d (cexprs_any d) v x W q h hb hq
end Go.Proofs.Ytkcgchpflppmnaa
