/- The reference's Parts, walked. -/
import Derived.Test.YtkcgchpflppmnaaOcV
namespace Go.Proofs.Ytkcgchpflppmnaa
open Go.RowKit
set_option linter.unusedSimpArgs false
set_option linter.unusedVariables false

set_option maxRecDepth 100000 in
set_option maxHeartbeats 8000000 in
theorem parts_any (d : Nat) (v : Value) (e : ExN (Ex d)) (w wi : World) (h : ExIs w (d + 1) v e) (hw : Below w.heap.size w wi) (hs : Sm (d + 1) e) (hn : (partsK e).length ≤ 10000000) :
    Calls Try.prog 85 #[v] wi fun r W' => ∃ v' cur, r = .returned v' ∧ EOwn w W' wi.heap.size d v' cur ∧ cur.map (·.2) = partsK e ∧ Below wi.heap.size wi W' := by
  obtain ⟨T, hT⟩ : ∃ T, partsK e = T := ⟨_, rfl⟩
  rw [hT] at hn ⊢
  have HTl := Lib.hid hn
  have HT := Lib.hid (show ([] : List (List Value × Ex d)).map (·.2) ++ _ = T from hT)
  clear hn hT
  obtain ⟨l0, rfl, hp⟩ := h
  obtain ⟨pa, pb, pc, pd, pa2, pb2, pc2, pd2, rfl⟩ := parts_form hp
  have R0 := Blk.new wi #[.int .i64 e.kind, .string e.name, .int .i64 e.num, .slice pa e.params.length pa2, .slice pb e.binds.length pb2, .slice pc e.args.length pc2, .slice pd e.alts.length pd2] 29
  have hB0 : Below wi.heap.size wi (wi.alloc (.cells #[.int .i64 e.kind, .string e.name, .int .i64 e.num, .slice pa e.params.length pa2, .slice pb e.binds.length pb2, .slice pc e.args.length pc2, .slice pd e.alts.length pd2] 29)) := (Below.refl _ wi).alloc (Nat.le_refl _) _
  obtain ⟨ps, bs, es, ls, hq, h1, ⟨xb, yb, hqb, h2⟩, ⟨xc, yc, hqc, h3⟩, ⟨xd, yd, hqd, h4⟩⟩ := hp
  simp only [exV, List.cons.injEq] at hq
  obtain ⟨-, -, -, -, rfl, rfl, rfl, -⟩ := hq
  simp only [Value.slice.injEq] at hqb hqc hqd
  obtain ⟨rfl, -, rfl⟩ := hqb
  obtain ⟨rfl, -, rfl⟩ := hqc
  obtain ⟨rfl, -, rfl⟩ := hqd
  have HS := Lib.hid hs
  obtain ⟨N4, hN4⟩ : ∃ N, e.binds.length = N := ⟨_, rfl⟩
  obtain ⟨N5, hN5⟩ : ∃ N, e.args.length = N := ⟨_, rfl⟩
  obtain ⟨N6, hN6⟩ : ∃ N, e.alts.length = N := ⟨_, rfl⟩
  have m4 : N4 ≤ 10000000 := hN4 ▸ hs.2.1.1
  have m5 : N5 ≤ 10000000 := hN5 ▸ hs.2.2.1.1
  have m6 : N6 ≤ 10000000 := hN6 ▸ hs.2.2.2.1
  unfold exV
  rw [hN4, hN5, hN6] at R0 hB0 ⊢
  have HN4 := Lib.hid hN4
  have HN5 := Lib.hid hN5
  have HN6 := Lib.hid hN6
  have H2 := Lib.hid (show True ∧ _ from ⟨trivial, h2⟩)
  have H3 := Lib.hid h3
  have H4 := Lib.hid h4
  have HW := Lib.hid hw
  have hwl := hw.size
  generalize e.kind = kd at R0 hB0 ⊢
  generalize e.name = nm at R0 hB0 ⊢
  generalize e.num = nu at R0 hB0 ⊢
  generalize e.params.length = n3 at R0 hB0 ⊢
  clear hs h1 h2 h3 h4 hN4 hN5 hN6 hw
  go_enter Try.func85, Try.ntmps85
  go_upto_region 2 with fail
  generalize wi.alloc (.cells #[.int .i64 kd, .string nm, .int .i64 nu, .slice pa n3 pa2, .slice pb N4 pb2, .slice pc N5 pc2, .slice pd N6 pd2] 29) = W0 at R0 hB0 ⊢
  have HB0 := Lib.hid hB0
  have HR0 := Lib.hid R0
  generalize hbq : wi.heap.size = b at R0 HR0 ⊢
  have x0 : W0.cell? ⟨b, 0, none⟩ = _ := R0.cell 0
  have x1 : W0.cell? ⟨b, 1, none⟩ = _ := R0.cell 1
  have x2 : W0.cell? ⟨b, 2, none⟩ = _ := R0.cell 2
  have x3 : W0.cell? ⟨b, 3, none⟩ = _ := R0.cell 3
  have x4 : W0.cell? ⟨b, 4, none⟩ = _ := R0.cell 4
  have x5 : W0.cell? ⟨b, 5, none⟩ = _ := R0.cell 5
  have x6 : W0.cell? ⟨b, 6, none⟩ = _ := R0.cell 6
  simp only [List.getElem?_toArray, List.getElem?_cons_zero, List.getElem?_cons_succ] at x0 x1 x2 x3 x4 x5 x6
  have hb := R0.lt
  clear R0 hB0
  have HC := Lib.hid (show ∀ W, Below W0.heap.size W0 W → W.cell? ⟨b, 0, none⟩ = some (.int .i64 kd) ∧ W.cell? ⟨b, 1, none⟩ = some (.string nm) ∧ W.cell? ⟨b, 2, none⟩ = some (.int .i64 nu) ∧ W.cell? ⟨b, 3, none⟩ = some (.slice pa n3 pa2) ∧ W.cell? ⟨b, 4, none⟩ = some (.slice pb N4 pb2) ∧ W.cell? ⟨b, 5, none⟩ = some (.slice pc N5 pc2) ∧ W.cell? ⟨b, 6, none⟩ = some (.slice pd N6 pd2) from fun W hW => by
    have R2 := HR0.out.below hW HR0.out.lt
    exact ⟨R2.cell 0, R2.cell 1, R2.cell 2, R2.cell 3, R2.cell 4, R2.cell 5, R2.cell 6⟩)
  have hs0 := HB0.out.size
  have HWB := Lib.hid (show ∀ W, Below W0.heap.size W0 W → Below w.heap.size w W from fun W hW => HW.out.trans ((HB0.out.trans (hW.mono HB0.out.size)).mono hwl))
  clear x0 x1 x2 x3 x4 x5 x6
  have HBQ := Lib.hid hbq
  go_wp2
  go_loopw [3, 4] (fun v i wr => ∃ (k : Nat) (cur : List (List Value × Ex d)), i = .int .i64 k ∧ k ≤ N4 ∧ Hid (EOwn w wr W0.heap.size d v cur) ∧ Hid (cur.map (·.2) ++ ((e.binds.drop k).flatMap (fun x => [x.2]) ++ (e.args.flatMap (fun x => [x]) ++ (e.alts.flatMap (fun x => [x.e]) ++ []))) = T) ∧ Below W0.heap.size W0 wr) (fun _ i _ => N4 - (intOf i).toNat)
  case atStart => exact ⟨0, [], rfl, Nat.zero_le _, Lib.hid ⟨ROwn.nil _ _ _ _, fun y hy => by cases hy⟩, HT, Below.refl _ _⟩
  case round =>
    clear HT
    obtain ⟨k, cur, rfl, hk, HO, HF, hB⟩ := hrel
    obtain ⟨x0, x1, x2, x3, x4, x5, x6⟩ := HC.out wr hB
    have hBw := HWB.out wr hB
    by_cases hlt : k < N4
    · have hlt2 : decide ((k : Int) < (N4 : Int)) = true := by simp; omega
      have hlt3 : decide (k < N4) = true := by simp; omega
      have hi0 : (0 : Int) ≤ (k : Int) := by omega
      have hkt : k < e.binds.length := by rw [HN4.out]; exact hlt
      obtain ⟨p, o', hq, hp, hat⟩ := H2.out.2 (by omega)
      subst hq
      obtain ⟨x, hx⟩ : ∃ x, e.binds[k]? = some x := ⟨_, List.getElem?_eq_getElem hkt⟩
      obtain ⟨y0, y1, y2, y3, y4, y5, y6, z3, x3', z4, x4', z5, x5', z6, x6', hyc, hyv⟩ := ex_val (hat k x hx).2
      have vv := hyc.below hBw hp
      have v0 := vv 0 _ rfl
      have v1 := vv 1 _ rfl
      have v2' := vv 2 _ rfl
      have v3 := vv 3 _ rfl
      have v4 := vv 4 _ rfl
      have v5 := vv 5 _ rfl
      have v6 := vv 6 _ rfl
      rw [Nat.add_zero] at v0
      have hlen := Nat.le_trans (step_len _ hx HF.out) HTl.out
      simp only [List.length_singleton, List.length_map] at hlen
      have hsz := hB.size
      obtain ⟨v2, W2, hrun, o2, k2⟩ := HO.out.one (exV y0 y1 y2 y3 y4 y5 y6 z3 x3' z4 x4' z5 x5' z6 x6', x.2) ⟨_, _, _, _, _, _, _, _, _, _, _, _, _, _, _, rfl, hyv⟩ (by omega) (by omega)
      unfold exV at hrun
      have O2 := Lib.hid o2
      have K2 := Lib.hid (hB.trans k2)
      have HF2 := Lib.hid (show (cur ++ [(exV y0 y1 y2 y3 y4 y5 y6 z3 x3' z4 x4' z5 x5' z6 x6', x.2)]).map (·.2) ++ _ = T by rw [List.map_append]; exact step_next _ hx HF.out)
      clear hat hx HF hyc hyv vv o2 k2 hBw
      go_wp2_with (at_builtin; refine wpList_append_run rfl _ _ _ _ rfl _ _ _ _ rfl rfl hrun ?_)
      go_roundw
      case measure => simp [intOf]; omega
      case rel => exact ⟨k + 1, _, by go_num, by omega, O2, HF2, K2.out⟩
    · have hlt2 : decide ((k : Int) < (N4 : Int)) = false := by simp; omega
      have hlt3 : decide (k < N4) = false := by simp; omega
      obtain rfl : N4 = k := by omega
      have hF1 := step_end _ HN4.out HF.out
      have hszr := hB.size
      have hlen : cur.length + e.args.length ≤ 10000000 := Nat.le_trans (by rw [← hF1]; simp only [List.length_append, List.length_map, ← List.map_eq_flatMap]; omega) HTl.out
      have hadd : ∃ v2 W2 cur2, (Builtin.append_ #[26, 26] 26 #[u3, .slice pc N5 pc2]).run Try.prog wr = .ok v2 W2 ∧ EOwn w W2 W0.heap.size d v2 cur2 ∧ Below W0.heap.size wr W2 ∧ cur2.map (·.2) = cur.map (·.2) ++ e.args := by
        rcases Nat.eq_zero_or_pos N5 with h0 | h0
        · obtain ⟨i0, hi, -⟩ := info_parts infoX
          have e0 : e.args = [] := List.eq_nil_of_length_eq_zero (HN5.out.trans h0)
          exact ⟨u3, wr, cur, by rw [h0]; exact append_empty Try.underlying26 hi HO.out.own pc pc2, HO.out, Below.refl _ _, by rw [e0, List.append_nil]⟩
        · obtain ⟨p, o', hq, hp, hat⟩ := H3.out (by have := HN5.out; omega)
          obtain ⟨new, n1, n2, n3⟩ := rows_of hp hBw hat
          have hnl : new.length = N5 := by rw [← HN5.out, ← n1, List.length_map]
          obtain ⟨v2, W2, k1, k2, k3⟩ := HO.out.many p o' pc2 new n2 n3 (by rw [hnl, ← HN5.out]; omega) hszr
          exact ⟨v2, W2, _, by rw [hq, ← hnl]; exact k1, k2, k3, by rw [List.map_append, n1]⟩
      obtain ⟨v2, W2, cur2, hrun, o2, k2, e2⟩ := hadd
      have O2 := Lib.hid o2
      have K2 := hB.trans k2
      have hFa : cur2.map (·.2) ++ ((e.alts.drop 0).flatMap (fun x => [x.e]) ++ []) = T := by rw [e2, ← hF1, List.drop_zero, ← List.map_eq_flatMap (l := e.args), List.map_id', List.append_assoc]
      have HF2 := Lib.hid hFa
      clear hF1 HF hlt hlt2 hlt3 hk hBw o2 k2 e2 hFa hlen
      obtain ⟨x0', x1', x2', x3', x4', x5', x6'⟩ := HC.out W2 K2
      go_upto_region 8 with (at_builtin; refine wpList_append_run rfl _ _ _ _ rfl _ _ _ _ rfl rfl hrun ?_)
      clear x0 x1 x2 x3 x4 x5 x6 hrun HO hB hszr x0' x1' x2' x3' x4' x5' x6'
      go_loopw [3, 5] (fun v i wr => ∃ (k : Nat) (cur : List (List Value × Ex d)), i = .int .i64 k ∧ k ≤ N6 ∧ Hid (EOwn w wr W0.heap.size d v cur) ∧ Hid (cur.map (·.2) ++ ((e.alts.drop k).flatMap (fun x => [x.e]) ++ []) = T) ∧ Below W0.heap.size W0 wr) (fun _ i _ => N6 - (intOf i).toNat)
      case atStart => exact ⟨0, _, rfl, Nat.zero_le _, O2, HF2, K2⟩
      case round =>
        clear O2 HF2 K2
        obtain ⟨k, cur, rfl, hk, HO, HF, hB⟩ := hrel
        obtain ⟨x0, x1, x2, x3, x4, x5, x6⟩ := HC.out wr hB
        have hBw := HWB.out wr hB
        by_cases hlt : k < N6
        · have hlt2 : decide ((k : Int) < (N6 : Int)) = true := by simp; omega
          have hlt3 : decide (k < N6) = true := by simp; omega
          have hi0 : (0 : Int) ≤ (k : Int) := by omega
          have hkt : k < e.alts.length := by rw [HN6.out]; exact hlt
          obtain ⟨p, o', hq, hp, hat⟩ := H4.out (by omega)
          subst hq
          obtain ⟨x, hx⟩ : ∃ x, e.alts[k]? = some x := ⟨_, List.getElem?_eq_getElem hkt⟩
          obtain ⟨y0, y1, y2, y3, y4, y5, y6, z3, x3', z4, x4', z5, x5', z6, x6', hyc, hyv⟩ := ex_val (show ExAt w d p (o' + k * 11 + 4) x.e from by obtain ⟨_, _, _, hz⟩ := hat k x hx; exact hz)
          have vv := hyc.below hBw hp
          have v0 := vv 0 _ rfl
          have v1 := vv 1 _ rfl
          have v2' := vv 2 _ rfl
          have v3 := vv 3 _ rfl
          have v4 := vv 4 _ rfl
          have v5 := vv 5 _ rfl
          have v6 := vv 6 _ rfl
          rw [Nat.add_zero] at v0
          have hlen := Nat.le_trans (step_len _ hx HF.out) HTl.out
          simp only [List.length_singleton, List.length_map] at hlen
          have hsz := hB.size
          obtain ⟨v2, W2, hrun, o2, k2⟩ := HO.out.one (exV y0 y1 y2 y3 y4 y5 y6 z3 x3' z4 x4' z5 x5' z6 x6', x.e) ⟨_, _, _, _, _, _, _, _, _, _, _, _, _, _, _, rfl, hyv⟩ (by omega) (by omega)
          unfold exV at hrun
          have O2 := Lib.hid o2
          have K2 := Lib.hid (hB.trans k2)
          have HF2 := Lib.hid (show (cur ++ [(exV y0 y1 y2 y3 y4 y5 y6 z3 x3' z4 x4' z5 x5' z6 x6', x.e)]).map (·.2) ++ _ = T by rw [List.map_append]; exact step_next _ hx HF.out)
          clear hat hx HF hyc hyv vv o2 k2 hBw
          go_wp2_with (at_builtin; refine wpList_append_run rfl _ _ _ _ rfl _ _ _ _ rfl rfl hrun ?_)
          go_roundw
          case measure => simp [intOf]; omega
          case rel => exact ⟨k + 1, _, by go_num, by omega, O2, HF2, K2.out⟩
        · have hlt2 : decide ((k : Int) < (N6 : Int)) = false := by simp; omega
          have hlt3 : decide (k < N6) = false := by simp; omega
          obtain rfl : N6 = k := by omega
          have hF1 := step_end _ HN6.out HF.out
          rw [List.append_nil] at hF1
          have HF1 := Lib.hid hF1
          clear HF hlt2 hlt3 hF1
          go_wp2
          go_ret
          exact ⟨_, cur, rfl, ⟨own_low HO.out.own hs0, HO.out.good⟩, HF1.out, HB0.out.trans (hB.mono hs0)⟩
end Go.Proofs.Ytkcgchpflppmnaa
