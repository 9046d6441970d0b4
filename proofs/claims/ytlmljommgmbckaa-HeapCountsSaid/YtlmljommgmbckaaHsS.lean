/- The law HeapCounts: its main walk. -/
import Derived.Test.YtlmljommgmbckaaHsR
import Derived.Test.YtlmljommgmbckaaHpK
namespace Go.Proofs.Ytlmljommgmbckaa
open Go.RowKit
set_option linter.unusedSimpArgs false

theorem gglobals' {w : World} {b : Nat} {L : HL} {gb : Nat} {H : HS} {gl : List Wd} (G : GHeap w b L gb H gl) : Calls Try.prog 31 #[.pointer (some ⟨b, 0, none⟩)] w fun e w' => e = .returned (.int .i64 (gl.length : Int)) ∧ w' = w := by
  have kn := none_any b L H w G.inv
  have c := G.inv.blk.cell
  unfold HL.cells at c
  rw [G.ga.vg] at c
  obtain ⟨N, hN⟩ : ∃ N, gl.length = N := ⟨_, rfl⟩
  obtain ⟨N2, hN2⟩ : ∃ N, H.ws.length = N := ⟨_, rfl⟩
  rw [hN, hN2] at c
  rw [hN]
  have KN := Lib.hid kn
  clear kn hN hN2 G
  go_enter Try.func31, Try.ntmps31
  go_wp2_with (go_at_call 38; with_reducible refine (KN.out).mono ?_; rintro e w1 ⟨rfl, rfl⟩)
  go_ret
  exact ⟨rfl, rfl⟩
theorem wat_lowC {w : World} {pa : Option Addr} {la ca : Nat} {ls : List Wd} (h : WAt w (.slice pa la ca) ls) (hl : ls.length = la) (hp : 0 < la) (g : Nat) (hg : (Value.slice pa la ca).ownBlock = some g) : g < w.heap.size :=
  wat_lt h (by omega) g hg

set_option maxRecDepth 100000 in
set_option maxHeartbeats 8000000 in
theorem counts_main (p : Option Addr) (mr cr : Nat) (rs : List Wd) (v : Value) (xs : List ActH) (nur old ng : Nat) (w : World) (hrw : WAt w (.slice p mr cr) rs) (hrl : rs.length = mr) (hrr : Ranged rs) (hv : p = none → cr = 0) (hm100 : mr ≤ 100) (h : ActsH w v xs) (hs : smallH xs = true) (hl : xs.length ≤ 1000000000000000) (n1 : 64 ≤ nur) (n2 : nur ≤ 2000) (n3 : 64 ≤ old) (n4 : old ≤ 2000) (n5 : ng ≤ 2000) :
    Calls Try.prog 7 #[.int .i64 nur, .int .i64 old, .int .i64 ng, v, .slice p mr cr] w fun e w' => e = .returned (.bool true) ∧ Below w.heap.size w w' := by
  have hsm : xs.length ≤ 120 ∧ ∀ x ∈ xs, x.us.length ≤ 100 := by
    unfold smallH at hs
    simp only [Bool.and_eq_true, decide_eq_true_eq, List.all_eq_true] at hs
    exact ⟨hs.2, hs.1⟩
  have k1 := fun W (hW : Below w.heap.size w W) => small_any v xs W (h.below hW) hl
  rw [hs] at k1
  have k2 := fun W => hnew_g nur old ng W n1 n2 n3 n4 n5
  have K1 := Lib.hid k1; have K2 := Lib.hid k2
  obtain ⟨a, cap, rfl, hc, ho⟩ := h
  obtain ⟨N, hN⟩ : ∃ n, xs.length = n := ⟨_, rfl⟩
  have HN := Lib.hid hN
  have hN120 := hsm.1
  rw [hN] at hc hN120 K1 ⊢
  have Hc := Lib.hid hc; have Ho := Lib.hid ho; have Hsm := Lib.hid hsm.2
  have d1 : decide ((2000 : Int) < (nur : Int)) = false := by simp; omega
  have d2 : decide ((2000 : Int) < (old : Int)) = false := by simp; omega
  have d3 : decide ((2000 : Int) < (ng : Int)) = false := by simp; omega
  have d4 : decide (2000 < nur) = false := by simp; omega
  have d5 : decide (2000 < old) = false := by simp; omega
  have d6 : decide (2000 < ng) = false := by simp; omega
  have d7 : decide ((100 : Int) < (mr : Int)) = false := by simp; omega
  have d8 : decide (100 < mr) = false := by simp; omega
  have HRw := Lib.hid hrw; have HRl := Lib.hid hrl; have HRr := Lib.hid hrr; have HV := Lib.hid hv
  clear hc ho hN k1 k2 hs hsm hl hrw hrl hrr hv
  go_enter Try.func7, Try.ntmps7
  go_wp2_with (first | (go_at_call 9; refine (lives_true _).mono ?_; rintro e w0 ⟨rfl, hb0⟩) | (go_at_call 12; refine (K1.out _ hb0).mono ?_; rintro e w1 ⟨rfl, hb1⟩; have l1 := hb0.trans (hb1.mono hb0.size)) | (go_at_call 13; refine (K2.out w1).mono ?_; rintro e w2 ⟨b, L, gb, rfl, I2, A2, hfo, hb2⟩))
  have l2 := l1.trans (hb2.mono l1.size)
  have hfoot : ∀ k, GFoot b L gb k → w.heap.size ≤ k := fun k hk => Nat.le_trans l1.size (hfo k hk)
  have g2 : GHeap w2 b L gb ⟨nur, old, 0, List.replicate (nur + 2 * old) (0, 0), ng, []⟩ (List.replicate ng (0, 0)) := ⟨I2, A2, new_sound nur old ng⟩
  have HFo := Lib.hid hfoot
  clear hfo hb0 hb1 hb2 l1 hfoot I2 A2
  go_loopw [13] (fun i wr => ∃ (k : Nat) (H : HS) (gl : List Wd), i = .int .i64 k ∧ k ≤ N ∧ GHeap wr b L gb H gl ∧ H.ng = ng ∧ Below w.heap.size w wr) (fun i _ => N - (intOf i).toNat)
  case atStart => exact ⟨0, _, _, rfl, Nat.zero_le _, g2, rfl, l2⟩
  case round =>
    obtain ⟨k, H, gl, rfl, hk, G, hng, hb⟩ := hrel
    clear g2 l2
    by_cases hlt : k < N
    · obtain ⟨bl, ol, rfl, s1, q1⟩ := Hc.out (by omega)
      have hkx : k < xs.length := by rw [HN.out]; exact hlt
      obtain ⟨x, hx⟩ : ∃ x, xs[k]? = some x := ⟨xs[k], List.getElem?_eq_getElem _⟩
      have hxm : x ∈ xs := List.mem_of_getElem? hx
      have hok := Ho.out x hxm
      have hus := Hsm.out x hxm
      have q := q1 k x hx
      clear q1 hx hxm hkx
      obtain ⟨x0, xo, xi, xa, wk, wn, vw, us, raw⟩ := x
      obtain ⟨hOw, hRa, hA, hWn, _⟩ := hok
      dsimp only at hOw hRa hA hWn hus
      have hOw' := hOw
      obtain ⟨aw, cw, e1, _⟩ := hOw'
      subst e1
      have hltI : (k : Int) < (N : Int) := by omega
      have cl := fun j c hj => (hb.cell (p := ⟨bl, ol + k * 8 + j, none⟩) s1).trans (q j c hj)
      have r0 := cl 0 _ rfl
      rw [Nat.add_zero] at r0
      have r1 := cl 1 _ rfl
      have r2 := cl 2 _ rfl
      have r3 := cl 3 _ rfl
      have r4 := cl 4 _ rfl
      have r5 := cl 5 _ rfl
      have r6 := cl 6 _ rfl
      have r7 := cl 7 _ rfl
      obtain ⟨m, hm⟩ : ∃ m, us.length = m := ⟨_, rfl⟩
      dsimp only at r6
      rw [hm] at r6 hus
      have HOw := Lib.hid hOw; have HRa := Lib.hid hRa; have HA := Lib.hid hA; have HWn := Lib.hid hWn; have Hm := Lib.hid hm
      have HG := Lib.hid G; have HB := Lib.hid hb; have HNg := Lib.hid hng
      clear cl q hOw hRa hA hWn hm G hb hng
      go_upto_region 12 with fail
      generalize hW0 : wr.alloc (Obj.cells #[.int .i64 x0, .int .i64 xo, .int .i64 xi, .int .i64 xa, .int .i64 wk, .int .i64 wn, .slice aw m cw, .bool raw] 35) = W0
      have A0 : Blk W0 wr.heap.size #[.int .i64 x0, .int .i64 xo, .int .i64 xi, .int .i64 xa, .int .i64 wk, .int .i64 wn, .slice aw m cw, .bool raw] := by rw [← hW0]; exact Blk.new wr _ _
      have k0 : Below wr.heap.size wr W0 := by rw [← hW0]; exact (Below.refl _ _).alloc (Nat.le_refl _) _
      have a0 := A0.cell
      have HA0 := Lib.hid A0; have HK0 := Lib.hid k0
      clear hW0 r0 r1 r2 r3 r4 r5 r6 r7 A0 k0
      have hfin : ∀ (W : World) (H2 : HS) (gl2 : List Wd), Below wr.heap.size wr W ∨ Off (GFoot b L gb) wr W → Below w.heap.size w W := fun W H2 gl2 hW => by
        rcases hW with hW | hW
        · exact HB.out.trans (hW.mono HB.out.size)
        · exact HB.out.trans (hW.below HB.out.size HFo.out)
      have HFin := Lib.hid hfin
      clear hfin
      go_upto_region 14 with (go_at_call 17; with_reducible refine (pick4 _ _).mono ?_; rintro e w1 ⟨⟨q, rfl⟩, hb1⟩)
      have k1 : Below wr.heap.size wr w1 := HK0.out.trans (hb1.mono HK0.out.size)
      have A1 := HA0.out.below hb1 HA0.out.lt
      have a1 := A1.cell
      have G1 := HG.out.below k1
      have hngb : H.ng ≤ 1000000 := by have := HNg.out; omega
      have HK1 := Lib.hid k1; have HA1 := Lib.hid A1; have HG1 := Lib.hid G1
      clear k1 A1 G1 a0 hb1
      by_cases q0 : q = 0
      · subst q0
        have kww : Below w.heap.size w w1 := HB.out.trans (HK1.out.mono HB.out.size)
        have hlow : WAt w (.slice aw m cw) us := by have := HOw.out; rw [Hm.out] at this; exact this
        have hOw1 : WAt w1 (.slice aw m cw) us := hlow.below kww (Nat.le_refl _)
        have hmm := Hm.out
        have kh := galloc HG1.out xo xi aw m cw us hmm hus hOw1 HRa.out (fun hp g hg hf => by
          have h1 := wat_lowC hlow hmm hp g hg
          have h2 := HFo.out g (.inl hf)
          omega)
        have KH := Lib.hid kh
        clear kh hOw1 kww hlow hmm
        go_wp2_with (go_at_call 18; with_reducible refine KH.out.mono ?_; rintro e w2 ⟨x, y, H2, rfl, G2, ng2, off2, D2⟩; have HG2 := Lib.hid G2; have HO2 := Lib.hid off2; have Hn2 := Lib.hid ng2; clear G2 off2 ng2 D2)
        go_roundw
        case rel => exact ⟨k + 1, H2, gl, by go_num, by omega, HG2.out, Hn2.out.trans HNg.out, HFin.out w2 H2 gl (.inr ((Off.of_below HK1.out).trans HO2.out (fun _ h => h) (fun _ h => .inl h)))⟩
        case measure => simp [intOf]; omega
      · have d0 : (q == 0) = false := by simpa using q0
        by_cases q1 : q = 1
        · subst q1
          have kh := ghole HG1.out xa HA.out.1 HA.out.2
          have KH := Lib.hid kh
          clear kh
          go_wp2_with (go_at_call 19; with_reducible refine KH.out.mono ?_; rintro e w2 ⟨c2, H2, rfl, G2, ng2, off2⟩; have HG2 := Lib.hid G2; have HO2 := Lib.hid off2; have Hn2 := Lib.hid ng2; clear G2 off2 ng2)
          go_roundw
          case rel => exact ⟨k + 1, H2, gl, by go_num, by omega, HG2.out, Hn2.out.trans HNg.out, HFin.out w2 H2 gl (.inr ((Off.of_below HK1.out).trans HO2.out (fun _ h => h) (fun _ h => .inl h)))⟩
          case measure => simp [intOf]; omega
        · have d1 : (q == 1) = false := by simpa using q1
          by_cases q2 : q = 2
          · subst q2
            have kh := gput HG1.out xa HA.out.1 HA.out.2 wk wn HWn.out.1 HWn.out.2
            have KH := Lib.hid kh
            clear kh
            go_wp2_with (go_at_call 20; with_reducible refine KH.out.mono ?_; rintro e w2 ⟨c2, H2, rfl, G2, ng2, off2, D2⟩; have HG2 := Lib.hid G2; have HO2 := Lib.hid off2; have Hn2 := Lib.hid ng2; clear G2 off2 ng2 D2)
            go_roundw
            case rel => exact ⟨k + 1, H2, gl, by go_num, by omega, HG2.out, Hn2.out.trans HNg.out, HFin.out w2 H2 gl (.inr ((Off.of_below HK1.out).trans HO2.out (fun _ h => h) (fun _ h => .inl h)))⟩
            case measure => simp [intOf]; omega
          · have d2 : (q == 2) = false := by simpa using q2
            have kh := gset HG1.out xi wk wn HWn.out.1 HWn.out.2
            have KH := Lib.hid kh
            clear kh
            go_wp2_with (go_at_call 23; with_reducible refine KH.out.mono ?_; rintro e w2 ⟨c2, gl2, rfl, G2, ng2, off2⟩; have HG2 := Lib.hid G2; have HO2 := Lib.hid off2; clear G2 off2 ng2)
            go_roundw
            case rel => exact ⟨k + 1, H, gl2, by go_num, by omega, HG2.out, HNg.out, HFin.out w2 H gl2 (.inr ((Off.of_below HK1.out).trans HO2.out (fun _ h => h) (fun _ h => .inl h)))⟩
            case measure => simp [intOf]; omega
    · have HB := Lib.hid hb
      have hwr := HRw.out.below hb (Nat.le_refl _)
      have hngb : H.ng ≤ 1000000 := by omega
      have ks := shape_u G p mr cr rs HRl.out hwr HRr.out HV.out (by omega) hngb
      have kr := fun W (hW : Below wr.heap.size wr W) => reach_u (G.below hW) p mr cr rs HRl.out (hwr.below hW (Nat.le_refl _)) HRr.out HV.out (by omega) hngb
      have KS := Lib.hid ks; have KR := Lib.hid kr; have HG := Lib.hid G
      clear ks kr hwr G
      go_upto_region 22 with (first | (go_at_call 27; with_reducible refine KS.out.mono ?_; rintro e w2 ⟨p2, n2', c2, r2, rfl, hb2, D2⟩; have HB2 := Lib.hid hb2; have HD2 := Lib.hid D2; clear hb2 D2) | (go_at_call 28; with_reducible refine (KR.out w2 HB2.out).mono ?_; rintro e w3 ⟨k3, r3, rfl, hb3, D3⟩))
      have kw3 : Below w.heap.size w w3 := HB.out.trans ((HB2.out.trans (hb3.mono HB2.out.size)).mono HB.out.size)
      have HKw3 := Lib.hid kw3
      rcases HD2.out with ⟨rfl, rfl, hf⟩ | ⟨rfl, hst, ys, N2, rfl, O, hys, hN2⟩
      · obtain ⟨rfl, rfl⟩ : r3 = 13 ∧ k3 = 0 := by
          rcases D3 with ⟨q1, q2, _⟩ | ⟨_, q2, _⟩
          · exact ⟨q1, q2⟩
          · rw [List.all_eq_true.2 q2] at hf; cases hf
        clear D3 hf hb3 kw3
        go_wp2
        go_ret
        exact ⟨rfl, HKw3.out⟩
      · obtain ⟨rfl, hk3⟩ : r3 = 0 ∧ k3 = cntO ((ys.map Prod.fst).drop 1) := by
          rcases D3 with ⟨_, _, hf⟩ | ⟨q1, _, N3, q3, q4⟩
          · rw [List.all_eq_true.2 hst] at hf; cases hf
          · refine ⟨q1, ?_⟩
            rw [q3, hys, bfs_uniq H (rs ++ gl) q4 hN2]
        have hG := HG.out
        have hrs : ∀ x ∈ rs ++ gl, standsK H x.1 x.2 = true := fun x hx => by
          rcases List.mem_append.1 hx with q | q
          · exact hst x q
          · exact hG.snd.gs x q
        have htl := hG.inv.len; have htp := hG.inv.top; have hnr := hG.inv.nur; have hol := hG.inv.old; have hgn := hG.snd.gn
        have hNt : N2 ≤ H.top := by
          have := fine_len hG.snd (bfs_fine hG.snd (by omega) hrs N2)
          omega
        have hlx : ys.length = N2 + 1 := by
          have h1 : ys.length = (bfsN H (rs ++ gl) N2).2.length := by rw [← hys, List.length_map]
          rw [h1]
          rcases bfs_count H (rs ++ gl) N2 with q | q
          · exact q
          · omega
        have hkn := bfs_kinds hG.snd (by omega) hrs N2
        have hnm := bfs_nums H (rs ++ gl) N2
        have hwl := bfs_wlen H (rs ++ gl) 12582912 (by rw [List.length_append, HRl.out]; omega) (by omega) N2
        rw [hN2] at hnm
        obtain ⟨r0, hr0⟩ := bfs_out H (rs ++ gl) N2
        have hfirst : ∀ x, ys[0]? = some x → x.1.ws.length = mr + gl.length := fun x hx => by
          have h1 : (ys.map Prod.fst)[0]? = some x.1 := by rw [List.getElem?_map, hx]; rfl
          rw [hys, hr0] at h1
          simp only [List.getElem?_cons_zero, Option.some.injEq] at h1
          rw [← h1]
          simp only [allS_len, List.length_append, HRl.out]
        obtain ⟨M, hM⟩ : ∃ M, ys.length = M := ⟨_, rfl⟩
        have hcap := O.cap.2
        have O3 := O.below hb3
        rw [hM] at hlx O3 hcap ⊢
        have hy0 : 0 < ys.length := by omega
        obtain ⟨y0, hy0'⟩ : ∃ x, ys[0]? = some x := ⟨ys[0], List.getElem?_eq_getElem hy0⟩
        obtain ⟨bo, oo, rfl, _⟩ := O3.get 0 y0 hy0'
        have hG3 := hG.below (HB2.out.trans (hb3.mono HB2.out.size))
        obtain ⟨ngl, hngl⟩ : ∃ n, gl.length = n := ⟨_, rfl⟩
        rw [hngl] at hfirst
        have hngb2 : ngl ≤ 1000000 := by omega
        have HO := Lib.hid O3; have HYs := Lib.hid hys; have HKn := Lib.hid hkn; have HNm := Lib.hid hnm; have HWl := Lib.hid hwl; have HF := Lib.hid hfirst; have HM := Lib.hid hM; have HLx := Lib.hid hlx; have HG3 := Lib.hid hG3; have HK3 := Lib.hid hk3; have HNg := Lib.hid hngl
        have hMb : M ≤ 4194305 := by omega
        have hM0 : 0 < M := by omega
        have hw7 : IntKind.i64.wrap ((mr : Int) + (ngl : Int)) = (mr : Int) + (ngl : Int) := IntWalk.i64_in _ (by omega)
        have hblt := hG3.inv.blk.lt
        clear O O3 hys hkn hnm hwl hfirst hM hlx hk3 D3 hst hrs htl htp hnr hol hgn hNt hN2 hr0 hy0 hy0' hG hG3 hb3 kw3 hcap hngl
        go_wp2
        go_loopw [18, 19] (fun s i wx => ∃ j : Nat, i = .int .i64 j ∧ j ≤ M ∧ s = .int .i64 (cntO (((ys.map Prod.fst).drop 1).take (j - 1))) ∧ Below w3.heap.size w3 wx) (fun _ i _ => M - (intOf i).toNat)
        case atStart => exact ⟨0, rfl, Nat.zero_le _, by simp [cntO], Below.refl _ _⟩
        case round =>
          obtain ⟨j, rfl, hj, rfl, hbx⟩ := hrel
          have HBx := Lib.hid hbx
          by_cases hlj : j < M
          · have hjx : j < ys.length := by rw [HM.out]; exact hlj
            obtain ⟨x, hx⟩ : ∃ x, ys[j]? = some x := ⟨ys[j], List.getElem?_eq_getElem hjx⟩
            obtain ⟨bo', oo', e, u0, _, pw0, cw0, u2, _⟩ := (HO.out.below hbx).get j x hx
            simp only [Option.some.injEq, Addr.mk.injEq, and_true] at e
            obtain ⟨rfl, rfl⟩ := e
            have hxm : x.1 ∈ (bfsN H (rs ++ gl) N2).2 := by rw [← HYs.out]; exact List.mem_map_of_mem (List.mem_of_getElem? hx)
            have hk7 := HKn.out x.1 hxm
            have hwlx := HWl.out x.1 hxm
            have HX := Lib.hid hx
            obtain ⟨lw, hlw⟩ : ∃ l, x.1.ws.length = l := ⟨_, rfl⟩
            rw [hlw] at u2 hwlx
            have HLw := Lib.hid hlw
            have e7 : (x.1.k == 7) = false := by simpa using hk7
            have e7' : decide (x.1.k = 7) = false := by simpa using hk7
            have hjI : (j : Int) < (M : Int) := by omega
            have hbnd : ∀ t, 0 ≤ cntO (((ys.map Prod.fst).drop 1).take t) ∧ cntO (((ys.map Prod.fst).drop 1).take t) ≤ 4194306 * 12582913 := fun t => by
              have h1 := cntO_bound 12582912 (((ys.map Prod.fst).drop 1).take t) (fun o ho => by
                have := List.mem_of_mem_drop (List.mem_of_mem_take ho)
                rw [HYs.out] at this
                exact HWl.out o this)
              have h2 : ((((ys.map Prod.fst).drop 1).take t).length * (12582912 + 1) : Nat) ≤ 4194306 * 12582913 := Nat.mul_le_mul_right _ (by rw [List.length_take, List.length_drop, List.length_map, HM.out]; omega)
              exact ⟨h1.1, by omega⟩
            have HBd := Lib.hid hbnd
            clear hx hxm hlw hk7 hbnd hbx
            by_cases j0 : j = 0
            · subst j0
              have hl0 := HF.out x HX.out
              rw [HLw.out] at hl0
              have hw8 : decide ((lw : Int) = (mr : Int) + (ngl : Int)) = true := by simp; omega
              have hw9 : ((lw : Int) != (mr : Int) + (ngl : Int)) = false := by simp; omega
              have kgl := fun n => gglobals' (w := wr.drewN n) ((HG3.out.below HBx.out).below (belowN wr n))
              rw [HNg.out] at kgl
              have KGl := Lib.hid kgl
              rw [Nat.zero_mul, Nat.add_zero] at u0 u2
              clear kgl hl0
              go_upto_region 30 with fail
              go_quiet ((go_at_call 31; exact Calls.quiet_of_same (KGl.out _)))
              go_wp2
              go_loopw [20] (fun t wz => ∃ q : Nat, t = .int .i64 q ∧ q ≤ lw ∧ Below w3.heap.size w3 wz) (fun t _ => lw - (intOf t).toNat)
              case atStart => exact ⟨0, rfl, Nat.zero_le _, HBx.out.trans (below_drewN' _ _ HBx.out.size)⟩
              case round =>
                obtain ⟨q, rfl, hq, hbz⟩ := hrel
                obtain ⟨bo', oo', e, v0, _, pw, cw, v2, hwx⟩ := (HO.out.below hbz).get 0 x HX.out
                simp only [Option.some.injEq, Addr.mk.injEq, and_true] at e
                obtain ⟨rfl, rfl⟩ := e
                have HBz := Lib.hid hbz
                rw [HLw.out] at v2 hwx
                by_cases hlq : q < lw
                · have hqx : q < x.1.ws.length := by rw [HLw.out]; exact hlq
                  obtain ⟨bl, ol, rfl, z0, z1⟩ := hwx.word q hqx
                  obtain ⟨y, hy⟩ : ∃ y, x.1.ws[q] = y := ⟨_, rfl⟩
                  have hyn := fun h5 => HNm.out x.1 (by rw [← HYs.out]; exact List.mem_map_of_mem (List.mem_of_getElem? HX.out)) y (by rw [← hy]; exact List.getElem_mem _) h5
                  rw [hy] at z0 z1
                  have HYn := Lib.hid hyn
                  have hqI : (q : Int) < (lw : Int) := by omega
                  clear hy hyn hbz hwx
                  go_upto_region 36 with fail
                  generalize hW4 : wr.alloc (Obj.cells #[.int .i64 y.1, .int .i64 y.2] 32) = W4
                  have B4 : Blk W4 wr.heap.size #[.int .i64 y.1, .int .i64 y.2] := by rw [← hW4]; exact Blk.new wr _ _
                  have k4 : Below w3.heap.size w3 W4 := by rw [← hW4]; exact HBz.out.alloc HBz.out.size _
                  have b4 := B4.cell
                  have HK4 := Lib.hid k4
                  clear hW4 k4 B4 v0 v2 z0 z1
                  by_cases y5 : y.1 = 5
                  · obtain ⟨g1, g2⟩ := HYn.out y5
                    have e5 : (y.1 == 5) = true := by simpa using y5
                    have e5' : decide (y.1 = 5) = true := by simpa using y5
                    have f1 : decide (y.2 < 1) = false := by simp; omega
                    have f2 : decide ((M : Int) ≤ y.2) = false := by have := HLx.out; simp; omega
                    clear g1 g2 y5
                    go_wp2
                    go_roundw
                    case rel => exact ⟨q + 1, by go_num, by omega, HK4.out⟩
                    case measure => simp [intOf]; omega
                  · have e5 : (y.1 == 5) = false := by simpa using y5
                    have e5' : decide (y.1 = 5) = false := by simpa using y5
                    clear y5
                    go_wp2
                    go_roundw
                    case rel => exact ⟨q + 1, by go_num, by omega, HK4.out⟩
                    case measure => simp [intOf]; omega
                · have hql : q = lw := by omega
                  clear hbz hwx
                  subst hql
                  go_wp2
                  go_roundw
                  case rel => exact ⟨0 + 1, by go_num, by omega, rfl, HBz.out⟩
                  case measure => simp [intOf]; omega
            · have d0 : decide ((0 : Int) < (j : Int)) = true := by simp; omega
              have d1 : decide (0 < j) = true := by simp; omega
              have i0 : decide ((j : Int) = 0) = false := by simp; omega
              have i0' : ((j : Int) == 0) = false := by simp; omega
              have i0b : (j == 0) = false := by simp; omega
              have i0c : decide (j = 0) = false := by simp; omega
              have htk : ((ys.map Prod.fst).drop 1).take j = ((ys.map Prod.fst).drop 1).take (j - 1) ++ [x.1] := by
                have h1 : j - 1 < ((ys.map Prod.fst).drop 1).length := by rw [List.length_drop, List.length_map]; omega
                have h3 := List.take_succ_eq_append_getElem h1
                rw [show j - 1 + 1 = j by omega] at h3
                rw [h3]
                congr 1
                have h2 : ((ys.map Prod.fst).drop 1)[j - 1]? = some x.1 := by rw [List.getElem?_drop, List.getElem?_map, show 1 + (j - 1) = j by omega, HX.out]; rfl
                rw [List.getElem?_eq_getElem h1] at h2
                simpa using h2
              have hb0 := HBd.out (j - 1)
              obtain ⟨C, hC⟩ : ∃ C, cntO (((ys.map Prod.fst).drop 1).take (j - 1)) = C := ⟨_, rfl⟩
              have hcnt : cntO (((ys.map Prod.fst).drop 1).take (j + 1 - 1)) = C + 1 + (lw : Int) := by
                rw [show j + 1 - 1 = j by omega, htk, cntO_snoc, hC, HLw.out]; omega
              rw [hC] at hb0 ⊢
              have HCn := Lib.hid hcnt
              obtain ⟨hb01, hb02⟩ := hb0
              have hwA : IntKind.i64.wrap (C + 1) = C + 1 := IntWalk.i64_in _ (by omega)
              have hwB : IntKind.i64.wrap (C + 1 + (lw : Int)) = C + 1 + (lw : Int) := IntWalk.i64_in _ (by omega)
              clear htk hC hcnt hb01 hb02 j0
              go_upto_region 30 with fail
              go_quiet (fail)
              go_wp2
              go_loopw [20] (fun t wz => ∃ q : Nat, t = .int .i64 q ∧ q ≤ lw ∧ Below w3.heap.size w3 wz) (fun t _ => lw - (intOf t).toNat)
              case atStart => exact ⟨0, rfl, Nat.zero_le _, HBx.out.trans (below_drewN' _ _ HBx.out.size)⟩
              case round =>
                obtain ⟨q, rfl, hq, hbz⟩ := hrel
                obtain ⟨bo', oo', e, v0, _, pw, cw, v2, hwx⟩ := (HO.out.below hbz).get j x HX.out
                simp only [Option.some.injEq, Addr.mk.injEq, and_true] at e
                obtain ⟨rfl, rfl⟩ := e
                have HBz := Lib.hid hbz
                rw [HLw.out] at v2 hwx
                by_cases hlq : q < lw
                · have hqx : q < x.1.ws.length := by rw [HLw.out]; exact hlq
                  obtain ⟨bl, ol, rfl, z0, z1⟩ := hwx.word q hqx
                  obtain ⟨y, hy⟩ : ∃ y, x.1.ws[q] = y := ⟨_, rfl⟩
                  have hyn := fun h5 => HNm.out x.1 (by rw [← HYs.out]; exact List.mem_map_of_mem (List.mem_of_getElem? HX.out)) y (by rw [← hy]; exact List.getElem_mem _) h5
                  rw [hy] at z0 z1
                  have HYn := Lib.hid hyn
                  have hqI : (q : Int) < (lw : Int) := by omega
                  clear hy hyn hbz hwx
                  go_upto_region 36 with fail
                  generalize hW4 : wr.alloc (Obj.cells #[.int .i64 y.1, .int .i64 y.2] 32) = W4
                  have B4 : Blk W4 wr.heap.size #[.int .i64 y.1, .int .i64 y.2] := by rw [← hW4]; exact Blk.new wr _ _
                  have k4 : Below w3.heap.size w3 W4 := by rw [← hW4]; exact HBz.out.alloc HBz.out.size _
                  have b4 := B4.cell
                  have HK4 := Lib.hid k4
                  clear hW4 k4 B4 v0 v2 z0 z1
                  by_cases y5 : y.1 = 5
                  · obtain ⟨g1, g2⟩ := HYn.out y5
                    have e5 : (y.1 == 5) = true := by simpa using y5
                    have e5' : decide (y.1 = 5) = true := by simpa using y5
                    have f1 : decide (y.2 < 1) = false := by simp; omega
                    have f2 : decide ((M : Int) ≤ y.2) = false := by have := HLx.out; simp; omega
                    clear g1 g2 y5
                    go_wp2
                    go_roundw
                    case rel => exact ⟨q + 1, by go_num, by omega, HK4.out⟩
                    case measure => simp [intOf]; omega
                  · have e5 : (y.1 == 5) = false := by simpa using y5
                    have e5' : decide (y.1 = 5) = false := by simpa using y5
                    clear y5
                    go_wp2
                    go_roundw
                    case rel => exact ⟨q + 1, by go_num, by omega, HK4.out⟩
                    case measure => simp [intOf]; omega
                · have hql : q = lw := by omega
                  clear hbz hwx
                  subst hql
                  go_wp2
                  go_roundw
                  case rel => exact ⟨j + 1, by go_num, by omega, by rw [HCn.out], HBz.out⟩
                  case measure => simp [intOf]; omega
          · have hjM : j = M := by omega
            subst hjM
            have hk3 : k3 = cntO (((ys.map Prod.fst).drop 1).take (j - 1)) := by
              rw [HK3.out, List.take_of_length_le (by rw [List.length_drop, List.length_map, HM.out]; omega)]
            have hd0 : decide ((0 : Int) < (j : Int)) = true := by simp; omega
            have hd1 : decide (0 < j) = true := by simp; omega
            rw [← hk3]
            clear hbx hk3
            go_wp2
            go_ret
            exact ⟨rfl, HKw3.out.trans (HBx.out.mono HKw3.out.size)⟩

end Go.Proofs.Ytlmljommgmbckaa
