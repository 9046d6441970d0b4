/- The law HeapPuts: its walk where there is a heap. -/
import Derived.Test.YtlmljommgmbckaaHpL
namespace Go.Proofs.Ytlmljommgmbckaa
open Go.RowKit
set_option linter.unusedSimpArgs false

theorem Off.own {S : Nat → Prop} {W W' : World} (h : Off S W W') {base : Nat} {e : TypeId} {size : Nat} {v : Value} {n : Nat} {xs : List Value} (ho : W.ownsRow base e size v n xs) (hn : ∀ g, v.ownBlock = some g → ¬ S g) : W'.ownsRow base e size v n xs := by
  refine ⟨ho.1, ?_⟩
  rcases ho.2 with h2 | ⟨g, cap, cur, rfl, hg, hh, r⟩
  · exact .inl h2
  · exact .inr ⟨g, cap, cur, rfl, hg, (h.block g (Array.getElem?_eq_some_iff.1 hh).1 (hn g rfl)).trans hh, r⟩
theorem keep5 {w wx wy : World} {b : Nat} {c0 c1 c2 c3 c4 : Value} (hb : b < w.heap.size) (h : wx.cell? ⟨b, 0, none⟩ = some c0 ∧ wx.cell? ⟨b, 1, none⟩ = some c1 ∧ wx.cell? ⟨b, 2, none⟩ = some c2 ∧ wx.cell? ⟨b, 3, none⟩ = some c3 ∧ wx.cell? ⟨b, 4, none⟩ = some c4 ∧ Below w.heap.size w wx) (hy : Below wx.heap.size wx wy) :
    wy.cell? ⟨b, 0, none⟩ = some c0 ∧ wy.cell? ⟨b, 1, none⟩ = some c1 ∧ wy.cell? ⟨b, 2, none⟩ = some c2 ∧ wy.cell? ⟨b, 3, none⟩ = some c3 ∧ wy.cell? ⟨b, 4, none⟩ = some c4 ∧ Below w.heap.size w wy := by
  obtain ⟨h0, h1, h2, h3, h4, hB⟩ := h
  have hlt : b < wx.heap.size := Nat.lt_of_lt_of_le hb hB.size
  have c := fun j => hy.cell (p := ⟨b, j, none⟩) hlt
  exact ⟨(c 0).trans h0, (c 1).trans h1, (c 2).trans h2, (c 3).trans h3, (c 4).trans h4, hB.trans (hy.mono hB.size)⟩
theorem blk5 {w : World} {b : Nat} {c0 c1 c2 c3 c4 : Value} (h : Blk w b #[c0, c1, c2, c3, c4]) : w.drew.cell? ⟨b, 0, none⟩ = some c0 ∧ w.drew.cell? ⟨b, 1, none⟩ = some c1 ∧ w.drew.cell? ⟨b, 2, none⟩ = some c2 ∧ w.drew.cell? ⟨b, 3, none⟩ = some c3 ∧ w.drew.cell? ⟨b, 4, none⟩ = some c4 ∧ Below w.heap.size w w.drew :=
  ⟨h.drew.cell 0, h.drew.cell 1, h.drew.cell 2, h.drew.cell 3, h.drew.cell 4, (Below.refl _ _).drew⟩
theorem below_drewN'' {B : Nat} {w wx : World} (h : Below B w wx) (n : Nat) : Below B w (wx.drewN n) := by
  induction n with
  | zero => exact h
  | succ n ih => exact ih.drew
theorem wat_low {w : World} {pa : Option Addr} {la ca : Nat} {ls : List Wd} (h : WAt w (.slice pa la ca) ls) (hl : ls.length = la) (hp : 0 < la) (g : Nat) (hg : (Value.slice pa la ca).ownBlock = some g) : g < w.heap.size := by
  obtain ⟨a, cap, e, hc⟩ := h
  cases e
  obtain ⟨b, o, rfl, hb, _⟩ := hc (by omega)
  cases hg
  exact hb

set_option maxRecDepth 100000 in
set_option maxHeartbeats 8000000 in
theorem puts_main (v : Value) (xs : List ActH) (nur old ng : Nat) (w : World) (h : ActsH w v xs) (hs : smallH xs = true) (hl : xs.length ≤ 1000000000000000) (n1 : 64 ≤ nur) (n2 : nur ≤ 2000) (n3 : 64 ≤ old) (n4 : old ≤ 2000) (n5 : ng ≤ 2000) :
    Calls Try.prog 4 #[.int .i64 nur, .int .i64 old, .int .i64 ng, v] w fun e w' => e = .returned (.bool true) ∧ Below w.heap.size w w' := by
  have hsm : xs.length ≤ 120 ∧ ∀ x ∈ xs, x.us.length ≤ 100 := by
    unfold smallH at hs
    simp only [Bool.and_eq_true, decide_eq_true_eq, List.all_eq_true] at hs
    exact ⟨hs.2, hs.1⟩
  have k1 := fun W (hW : Below w.heap.size w W) => small_any v xs W (h.below hW) hl
  rw [hs] at k1
  have k2 := fun W => hnew_ok nur old ng W n1 n2 n3 n4 n5
  have K1 := Lib.hid k1; have K2 := Lib.hid k2
  obtain ⟨a, cap, rfl, hc, ho⟩ := h
  obtain ⟨N, hN⟩ : ∃ n, xs.length = n := ⟨_, rfl⟩
  have HN := Lib.hid hN
  have hN120 := hsm.1
  rw [hN] at hc hN120 K1 ⊢
  have Hc := Lib.hid hc; have Ho := Lib.hid ho; have Hsm := Lib.hid hsm.2
  have d1 : decide ((2000 : Int) < (nur : Int)) = false := by simp; omega
  have d2 : decide ((2000 : Int) < (old : Int)) = false := by simp; omega
  have d3 : decide ((2000 : Int) < (ng : Int)) = false := by simp; omega
  have d4 : decide (2000 < nur) = false := by simp; omega
  have d5 : decide (2000 < old) = false := by simp; omega
  have d6 : decide (2000 < ng) = false := by simp; omega
  clear hc ho hN k1 k2 hs hsm hl
  go_enter Try.func4, Try.ntmps4
  go_wp2_with (first | (go_at_call 9; refine (lives_true _).mono ?_; rintro e w0 ⟨rfl, hb0⟩) | (go_at_call 12; refine (K1.out _ hb0).mono ?_; rintro e w1 ⟨rfl, hb1⟩; have l1 := hb0.trans (hb1.mono hb0.size)) | (go_at_call 13; refine (K2.out w1).mono ?_; rintro e w2 ⟨b, L, rfl, I2, hfo, hb2⟩))
  have l2 := l1.trans (hb2.mono l1.size)
  have hfoot : ∀ k, HFoot b L k → w.heap.size ≤ k := fun k hk => Nat.le_trans l1.size (hfo k hk)
  have g2 : HGood ⟨nur, old, 0, List.replicate (nur + 2 * old) (0, 0), ng, []⟩ := ⟨fun a ha => by simp at ha, fun a ha => by simp at ha⟩
  have HFo := Lib.hid hfoot
  clear hfo hb0 hb1 hb2 l1 hfoot
  go_loopw [11] (fun i wr => ∃ (k : Nat) (H : HS), i = .int .i64 k ∧ k ≤ N ∧ HInv wr b L H ∧ HGood H ∧ Below w.heap.size w wr) (fun i _ => N - (intOf i).toNat)
  case atStart => exact ⟨0, _, rfl, Nat.zero_le _, I2, g2, l2⟩
  case round =>
    obtain ⟨k, H, rfl, hk, I, G, hb⟩ := hrel
    clear I2 g2 l2
    by_cases hlt : k < N
    · obtain ⟨bl, ol, rfl, s1, q1⟩ := Hc.out (by omega)
      obtain ⟨x, hx⟩ : ∃ x, xs[k]? = some x := ⟨xs[k]'(by rw [HN.out]; exact hlt), List.getElem?_eq_getElem _⟩
      have hxm : x ∈ xs := List.mem_of_getElem? hx
      have hok := Ho.out x hxm
      have hus := Hsm.out x hxm
      have q := q1 k x hx
      clear q1 hx hxm
      obtain ⟨x0, xo, xi, xa, wk, wn, vw, us, raw⟩ := x
      obtain ⟨hOw, hRa, hA, hWn, _⟩ := hok
      dsimp only at hOw hRa hA hWn hus
      have hOw' := hOw
      obtain ⟨aw, cw, e1, _⟩ := hOw'
      subst e1
      have hltI : (k : Int) < (N : Int) := by omega
      have cl := fun j c hj => (hb.cell (p := ⟨bl, ol + k * 8 + j, none⟩) s1).trans (q j c hj)
      have r0 := cl 0 _ rfl
      rw [Nat.add_zero] at r0
      have r1 := cl 1 _ rfl
      have r2 := cl 2 _ rfl
      have r3 := cl 3 _ rfl
      have r4 := cl 4 _ rfl
      have r5 := cl 5 _ rfl
      have r6 := cl 6 _ rfl
      have r7 := cl 7 _ rfl
      obtain ⟨m, hm⟩ : ∃ m, us.length = m := ⟨_, rfl⟩
      dsimp only at r6
      rw [hm] at r6 hus
      have HOw := Lib.hid hOw; have HRa := Lib.hid hRa; have HA := Lib.hid hA; have HWn := Lib.hid hWn; have Hm := Lib.hid hm
      have HI := Lib.hid I; have HG := Lib.hid G; have HB := Lib.hid hb
      clear cl q hOw hRa hA hWn hm I G hb
      go_upto_region 12 with fail
      have hA8 : #[Value.int .i64 x0, .int .i64 xo, .int .i64 xi, .int .i64 xa, .int .i64 wk, .int .i64 wn, .slice aw m cw, .bool raw].size = 8 := rfl
      generalize hW0 : wr.alloc (Obj.cells #[.int .i64 x0, .int .i64 xo, .int .i64 xi, .int .i64 xa, .int .i64 wk, .int .i64 wn, .slice aw m cw, .bool raw] 35) = W0
      have A0 : Blk W0 wr.heap.size #[.int .i64 x0, .int .i64 xo, .int .i64 xi, .int .i64 xa, .int .i64 wk, .int .i64 wn, .slice aw m cw, .bool raw] := by rw [← hW0]; exact Blk.new wr _ _
      have k0 : Below wr.heap.size wr W0 := by rw [← hW0]; ((repeat (first | exact Below.refl _ _ | (refine Below.alloc ?_ (by first | (simp [World.setCell]; done) | (simp [World.setCell]; omega)) _) | (refine Below.setCell ?_ (by first | (simp [World.setCell]; done) | (simp [World.setCell]; omega)) _) | refine Below.drew ?_)))
      have I0 := HI.out.below k0
      obtain ⟨M, hM⟩ : ∃ M, H.ws.length = M := ⟨_, rfl⟩
      have kp := places_any b L H W0 I0
      rw [hM] at kp
      have HM := Lib.hid hM
      have kl := fun W hW => layout_any b L H W (I0.below hW)
      have KP := Lib.hid kp; have KL := Lib.hid kl; have HI0 := Lib.hid I0
      have hlw := HI.out.lt
      have hrb : ∀ i, HFoot b L i → i ≠ wr.heap.size := fun i hi e => by have := hlw i hi; omega
      have HRb := Lib.hid hrb; have HLw := Lib.hid hlw
      clear hW0 r0 r1 r2 r3 r4 r5 r6 r7 kp kl I0 hrb hlw hA8 hM
      go_upto_region 13 with (first | (go_at_call 14; with_reducible refine KP.out.mono ?_; rintro e w2 ⟨p1, c1, rfl, o1, hb2⟩) | (go_at_call 15; with_reducible refine (KL.out w2 hb2).mono ?_; rintro e w3 ⟨rfl, hb3⟩))
      generalize hW3 : w3.alloc (Obj.cells #[.int .i64 H.nur, .int .i64 H.old, .int .i64 0, .int .i64 H.top, .int .i64 0] 38) = W3
      have A3 : Blk W3 w3.heap.size #[.int .i64 H.nur, .int .i64 H.old, .int .i64 0, .int .i64 H.top, .int .i64 0] := by rw [← hW3]; exact Blk.new w3 _ _
      have k3 : Below w2.heap.size w2 W3 := by rw [← hW3]; exact hb3.alloc hb3.size _
      have k03 : Below W0.heap.size W0 W3 := hb2.trans (k3.mono hb2.size)
      have o3 := own_on o1 k3 (own_lt o1)
      have I3 := HI0.out.below k03
      have B3 := A0.below k03 A0.lt
      have hw3s : W0.heap.size ≤ w3.heap.size := Nat.le_trans hb2.size hb3.size
      obtain ⟨S, hS⟩ : ∃ S, sizeH H xa = S := ⟨_, rfl⟩
      have kg := get_u b L H W3 I3 HG.out xa HA.out.1 HA.out.2 S hS
      have KG := Lib.hid kg; have HSz := Lib.hid hS; have HO3 := Lib.hid o3; have HI3 := Lib.hid I3
      have b3 := B3.cell
      clear hW3 o1 o3 I3 kg hS
      go_upto_region 15 with (go_at_call 16; with_reducible refine KG.out.mono ?_; rintro e w4 ⟨gk, gi, gp, gn, gc, gr, rfl, hb4, hgn, hgr⟩)
      generalize hW4 : w4.alloc (Obj.cells #[.int .i64 gk, .int .i64 gi, .slice gp gn gc] 41) = W4
      have A4 : Blk W4 w4.heap.size #[.int .i64 gk, .int .i64 gi, .slice gp gn gc] := by rw [← hW4]; exact Blk.new w4 _ _
      have k4 : Below W3.heap.size W3 W4 := by rw [← hW4]; exact hb4.alloc hb4.size _
      have B4 := B3.below k4 B3.lt
      have C4 := A3.below k4 A3.lt
      have a4 := A4.cell
      clear hW4 b3
      go_upto_if 71 with fail
      go_cut [15] (fun s15 wx => s15 = .int .i64 S ∧ wx = W4)
      case first =>
        have hw1 : IntKind.i64.wrap ((gn : Int) + 1) = (gn : Int) + 1 := IntWalk.i64_in _ (by omega)
        rcases hgr with ⟨e0, eS⟩ | ⟨e0, eS⟩
        · subst e0
          subst eS
          go_wp2
          go_meet
          exact ⟨rfl, rfl⟩
        · have e1 : (gr == 0) = false := by simpa using e0
          have e2 : decide (gr = 0) = false := by simpa using e0
          subst eS
          go_wp2
          go_meet
          exact ⟨rfl, rfl⟩
      case rest =>
        obtain ⟨rfl, rfl⟩ := hcut
        clear a4 A4
        have b4 := B4.cell
        go_upto_block 2 with (go_at_call 17; with_reducible refine (pick_any _ _).mono ?_; rintro e w5 ⟨⟨q, rfl⟩, hb5⟩)
        have k5 := k4.trans (hb5.mono k4.size)
        have I5 := HI3.out.below k5
        have B5 := B4.below hb5 B4.lt
        have C5 := C4.below hb5 C4.lt
        have o5 := own_on HO3.out k5 (own_lt HO3.out)
        have k05 := k03.trans (k5.mono k03.size)
        have kr5 := k0.trans (k05.mono k0.size)
        have bw := HB.out.trans (kr5.mono HB.out.size)
        have b5 := B5.cell
        have HI5 := Lib.hid I5; have HO5 := Lib.hid o5; have HBw := Lib.hid bw
        clear b4 B4 C4 I5 o5 bw
        go_cut [17] (fun s17 wx => ∃ (e1 : Int) (H2 : HS), s17 = .int .i64 e1 ∧ HInv wx b L H2 ∧ HGood H2 ∧ Kept H H2 e1 xa S ∧ Off (HFoot b L) w5 wx)
        case first =>
          by_cases q0 : q = 0
          · subst q0
            have hu := HOw.out.below HBw.out (Nat.le_refl _)
            have hu0 := HOw.out
            rw [Hm.out] at hu hu0
            have ka := alloc_any b L H w5 HI5.out HG.out xo xi aw m cw us Hm.out hus hu HRa.out (fun hp g hg hf => by have := wat_low hu0 Hm.out hp g hg; have := HFo.out g hf; omega)
            have KA := Lib.hid ka
            clear ka hu hu0
            go_wp2_with (go_at_call 18; with_reducible refine KA.out.mono ?_; rintro e w6 ⟨y1, y2, H2, rfl, al⟩)
            go_roundw
            case rel => exact ⟨k + 1, H2, by go_num, by omega, al.inv, al.good, HBw.out.trans (al.off.below HBw.out.size HFo.out)⟩
            case measure => simp [intOf]; omega
          · have q0d : (q == 0) = false := by simpa using q0
            by_cases q1 : q = 1
            · subst q1
              have ka := hole_u b L H w5 HI5.out HG.out xa HA.out.1 HA.out.2 S HSz.out
              have KA := Lib.hid ka
              clear ka
              go_wp2_with (go_at_call 19; with_reducible refine KA.out.mono ?_; rintro e w6 ⟨y1, H2, rfl, I6, G6, K6, O6⟩)
              go_meet
              exact ⟨y1, H2, rfl, I6, G6, K6, O6⟩
            · have q1d : (q == 1) = false := by simpa using q1
              have ka := put_u b L H w5 HI5.out HG.out xa HA.out.1 HA.out.2 wk wn HWn.out.1 HWn.out.2 S HSz.out
              have KA := Lib.hid ka
              clear ka
              go_wp2_with (go_at_call 20; with_reducible refine KA.out.mono ?_; rintro e w6 ⟨y1, H2, rfl, I6, G6, K6, O6⟩)
              go_meet
              exact ⟨y1, H2, rfl, I6, G6, K6, O6⟩
        case rest =>
          obtain ⟨e1, H2, rfl, I6, G6, K6, O6⟩ := hcut
          have hf6 : ∀ i, HFoot b L i → i < wr.heap.size := HLw.out
          have hr0 := k0.size
          have bw6 := HBw.out.trans (O6.below HBw.out.size HFo.out)
          have B6 := O6.blk B5 (fun hf => HRb.out _ hf rfl)
          have C6 := O6.blk C5 (fun hf => by have := hf6 _ hf; omega)
          have o6 := O6.own HO5.out (fun g hg hf => by have := own_from HO5.out g hg; have := hf6 g hf; omega)
          have hM := HM.out
          have kp := places_any b L H2 wc I6
          rw [K6.len, hM] at kp
          have kl := fun W hW => layout_any b L H2 W (I6.below hW)
          rw [K6.nur, K6.old, K6.top] at kl
          rw [hM] at o6
          have hM1 := I6.len
          rw [K6.len, hM] at hM1
          have hMn := I6.nur; have hMo := I6.old
          have hMb : M ≤ 12582912 := by omega
          have KP2 := Lib.hid kp; have KL2 := Lib.hid kl; have HO6 := Lib.hid o6; have HI6 := Lib.hid I6; have HG6 := Lib.hid G6; have HK6 := Lib.hid K6; have HBw6 := Lib.hid bw6
          clear kp kl o6 I6 G6 K6 hM bw6 hM1 hMn hMo b5 O6 B5 C5
          have b6 := B6.cell
          go_upto_region 24 with (go_at_call 14; with_reducible refine KP2.out.mono ?_; rintro e w7 ⟨p2, c2, rfl, o7, hb7⟩)
          have B7 := B6.below hb7 B6.lt
          have C7 := C6.below hb7 C6.lt
          have O67 := own_on HO6.out hb7 (own_lt HO6.out)
          have HO7 := Lib.hid o7; have HO67 := Lib.hid O67
          have hC7 := C7.lt
          have s0 := blk5 C7
          clear b6 o7 O67
          go_region_held3 (fun wx => wx.cell? ⟨w3.heap.size, 0, none⟩ = some (.int .i64 H.nur) ∧ wx.cell? ⟨w3.heap.size, 1, none⟩ = some (.int .i64 H.old) ∧ wx.cell? ⟨w3.heap.size, 2, none⟩ = some (.int .i64 0) ∧ wx.cell? ⟨w3.heap.size, 3, none⟩ = some (.int .i64 H.top) ∧ wx.cell? ⟨w3.heap.size, 4, none⟩ = some (.int .i64 0) ∧ Below w7.heap.size w7 wx) (assumption) ((go_at_call 15; with_reducible refine (KL2.out _ (hb7.trans (Below.mono (Below.drew (Below.refl _ _)) hb7.size))).mono ?_; rintro e w8 ⟨rfl, hb8⟩; have s8 := keep5 hC7 s0 hb8))
          all_goals
            have kB8 := s8.2.2.2.2.2
            have B8 := B7.below kB8 B7.lt
            have o8 := own_on HO67.out kB8 (own_lt HO67.out)
            have p8 := own_on HO7.out kB8 (own_lt HO7.out)
            have wa8 : WAt w8 (.slice p1 M c1) H.ws := WOwn.at (base := W0.heap.size) (by show World.ownsRow _ _ _ _ _ _ _; rw [HM.out]; exact o8)
            have wb8 : WAt w8 (.slice p2 M c2) H2.ws := WOwn.at p8
            have bw8 := HBw6.out.trans (((hb7.trans (kB8.mono hb7.size))).mono HBw6.out.size)
            have HB8 := Lib.hid B8; have HWa := Lib.hid wa8; have HWb := Lib.hid wb8; have HBw8 := Lib.hid bw8
            have hI8 := HI6.out.below (hb7.trans (kB8.mono hb7.size))
            have HI8 := Lib.hid hI8
            clear o8 p8 wa8 wb8 bw8 hI8 B8
            go_wp2
            go_loopw [19] (fun i wx => ∃ j : Nat, i = .int .i64 j ∧ j ≤ M ∧ Below w8.heap.size w8 wx) (fun i _ => M - (intOf i).toNat)
            case atStart => exact ⟨0, rfl, Nat.zero_le _, Below.refl _ _⟩
            case round =>
              obtain ⟨j, rfl, hj, hbx⟩ := hrel
              by_cases hjl : j < M
              · have B9 := HB8.out.below hbx HB8.out.lt
                have b9 := B9.cell
                have hjM : j < H.ws.length := by rw [HM.out]; exact hjl
                have hjM2 : j < H2.ws.length := by rw [HK6.out.len]; exact hjM
                have hjI : (j : Int) < (M : Int) := by omega
                have hword := HK6.out.word j hjM
                have hzero := HK6.out.zero
                have htop := HI.out.top
                have hnur := HI.out.nur
                have HBx := Lib.hid hbx
                have htopZ : (H.top : Int) ≤ 4194304 := by omega
                by_cases h1 : e1 = 0 ∧ xa ≤ (j : Int) ∧ (j : Int) < xa + S
                · obtain ⟨rfl, h2, h3⟩ := h1
                  obtain ⟨z1, z2, z3⟩ := hzero rfl
                  have hw : IntKind.i64.wrap (xa + S) = xa + S := IntWalk.i64_in _ (by omega)
                  have t2 : decide (xa ≤ (j : Int)) = true := by simpa using h2
                  have t3 : decide ((j : Int) < xa + S) = true := by simpa using h3
                  clear hword hzero hbx
                  go_upto_region 30 with fail
                  go_quiet (fail)
                  go_wp2
                  go_roundw
                  case rel => exact ⟨j + 1, by go_num, by omega, below_drewN'' HBx.out _⟩
                  case measure => simp [intOf]; omega
                · have heq : H2.word j = H.word j := hword.resolve_left h1
                  obtain ⟨y, hy⟩ : ∃ y, H.word j = y := ⟨_, rfl⟩
                  rw [hy] at heq
                  have g1 : H.ws[j] = y := by
                    unfold HS.word at hy
                    rw [List.getD_eq_getElem?_getD, List.getElem?_eq_getElem hjM] at hy
                    simpa using hy
                  have g2 : H2.ws[j] = y := by
                    unfold HS.word at heq
                    rw [List.getD_eq_getElem?_getD, List.getElem?_eq_getElem hjM2] at heq
                    simpa using heq
                  obtain ⟨b1, o1', e1', u0, u1⟩ := (HWa.out.below hbx (Nat.le_refl _)).word j hjM
                  obtain ⟨b2', o2', e2', v0, v1⟩ := (HWb.out.below hbx (Nat.le_refl _)).word j hjM2
                  rw [g1] at u0 u1
                  rw [g2] at v0 v1
                  have HP1 := Lib.hid e1'; have HP2 := Lib.hid e2'
                  subst e1'
                  subst e2'
                  clear heq hy g1 g2 hword
                  by_cases z : e1 = 0
                  · subst z
                    obtain ⟨z1, z2, z3⟩ := hzero rfl
                    have hw : IntKind.i64.wrap (xa + S) = xa + S := IntWalk.i64_in _ (by omega)
                    by_cases h2 : xa ≤ (j : Int)
                    · have h3 : ¬ (j : Int) < xa + S := fun q => h1 ⟨rfl, h2, q⟩
                      have t2 : decide (xa ≤ (j : Int)) = true := by simpa using h2
                      have t3 : decide ((j : Int) < xa + S) = false := by simpa using h3
                      clear hzero hbx h1
                      go_upto_region 30 with fail
                      go_quiet (fail)
                      go_wp2
                      go_roundw
                      case rel => exact ⟨j + 1, by go_num, by omega, below_drewN'' HBx.out _⟩
                      case measure => simp [intOf]; omega
                    · have t2 : decide (xa ≤ (j : Int)) = false := by simpa using h2
                      clear hzero hbx h1
                      go_upto_region 30 with fail
                      go_quiet (fail)
                      go_wp2
                      go_roundw
                      case rel => exact ⟨j + 1, by go_num, by omega, below_drewN'' HBx.out _⟩
                      case measure => simp [intOf]; omega
                  · have zc : (e1 == 0) = false := by simpa using z
                    clear hzero hbx h1
                    go_upto_region 30 with fail
                    go_quiet (fail)
                    go_wp2
                    go_roundw
                    case rel => exact ⟨j + 1, by go_num, by omega, below_drewN'' HBx.out _⟩
                    case measure => simp [intOf]; omega
              · have HBx := Lib.hid hbx
                go_wp2
                go_roundw
                case rel => exact ⟨k + 1, H2, by go_num, by omega, HI8.out.below HBx.out, HG6.out, HBw8.out.trans (HBx.out.mono HBw8.out.size)⟩
                case measure => simp [intOf]; omega
    · have HB := Lib.hid hb
      clear I G
      go_wp2
      go_ret
      exact ⟨rfl, HB.out⟩

end Go.Proofs.Ytlmljommgmbckaa
