/- The law FramesScript: its walk where there is a stack. -/
import Derived.Test.YtmnadlgglmhfhaaScriptU
import Derived.Deep.RegionHeld3
namespace Go.Proofs.Ytmnadlgglmhfhaa
open Go.RowKit
set_option linter.unusedSimpArgs false

theorem keep_cells {W0 wx wy : World} {b : Nat} {c1 c2 c3 c4 c5 c6 : Value} (hb : b < W0.heap.size) (h : wx.cell? ⟨b, 1, none⟩ = some c1 ∧ wx.cell? ⟨b, 2, none⟩ = some c2 ∧ wx.cell? ⟨b, 3, none⟩ = some c3 ∧ wx.cell? ⟨b, 4, none⟩ = some c4 ∧ wx.cell? ⟨b, 5, none⟩ = some c5 ∧ wx.cell? ⟨b, 6, none⟩ = some c6 ∧ Below W0.heap.size W0 wx) (hy : Below wx.heap.size wx wy) :
    wy.cell? ⟨b, 1, none⟩ = some c1 ∧ wy.cell? ⟨b, 2, none⟩ = some c2 ∧ wy.cell? ⟨b, 3, none⟩ = some c3 ∧ wy.cell? ⟨b, 4, none⟩ = some c4 ∧ wy.cell? ⟨b, 5, none⟩ = some c5 ∧ wy.cell? ⟨b, 6, none⟩ = some c6 ∧ Below W0.heap.size W0 wy := by
  obtain ⟨h1, h2, h3, h4, h5, h6, hB⟩ := h
  have hlt : b < wx.heap.size := Nat.lt_of_lt_of_le hb hB.size
  have c := fun j => hy.cell (p := ⟨b, j, none⟩) hlt
  exact ⟨(c 1).trans h1, (c 2).trans h2, (c 3).trans h3, (c 4).trans h4, (c 5).trans h5, (c 6).trans h6, hB.trans (hy.mono hB.size)⟩


theorem blk7 {w : World} {b : Nat} {c0 c1 c2 c3 c4 c5 c6 c7 : Value} (h : Blk w b #[c0, c1, c2, c3, c4, c5, c6, c7]) : w.cell? ⟨b, 7, none⟩ = some c7 := h.cell 7
theorem blk6 {w : World} {b : Nat} {c0 c1 c2 c3 c4 c5 c6 c7 : Value} (h : Blk w b #[c0, c1, c2, c3, c4, c5, c6, c7]) : w.cell? ⟨b, 1, none⟩ = some c1 ∧ w.cell? ⟨b, 2, none⟩ = some c2 ∧ w.cell? ⟨b, 3, none⟩ = some c3 ∧ w.cell? ⟨b, 4, none⟩ = some c4 ∧ w.cell? ⟨b, 5, none⟩ = some c5 ∧ w.cell? ⟨b, 6, none⟩ = some c6 := ⟨h.cell 1, h.cell 2, h.cell 3, h.cell 4, h.cell 5, h.cell 6⟩

theorem wat_low {w : World} {pa : Option Addr} {la ca : Nat} {ls : List Wd} (h : WAt w (.slice pa la ca) ls) (hl : ls.length = la) (hp : 0 < la) (g : Nat) (hg : (Value.slice pa la ca).ownBlock = some g) : g < w.heap.size := by
  obtain ⟨a, cap, e, hc⟩ := h
  cases e
  obtain ⟨b, o, rfl, hb, _⟩ := hc (by omega)
  cases hg
  exact hb

set_option maxRecDepth 100000 in
set_option maxHeartbeats 8000000 in
theorem script_main (v : Value) (xs : List ActD) (lim : Nat) (w : World) (h : ActsAt w v xs) (hxw : ∀ x ∈ xs, ∃ p c ls, x.va = .slice p x.la c ∧ x.la ≤ c ∧ ls.length = x.la ∧ WAt w x.va ls) (hs : smallL xs = true) (hlim : lim ≤ 4194304) :
    Calls Try.prog 6 #[.int .i64 lim, v] w fun e w' => e = .returned (.bool true) ∧ Below w.heap.size w w' := by
  have hN100 : xs.length ≤ 100 := by
    unfold smallL at hs
    simp only [Bool.and_eq_true, decide_eq_true_eq] at hs
    exact hs.2
  have hsm : ∀ x ∈ xs, smallA x = true := by
    unfold smallL at hs
    simp only [Bool.and_eq_true, decide_eq_true_eq, List.all_eq_true] at hs
    exact hs.1
  have k1 := fun W (hW : Below w.heap.size w W) => small_any v xs W (h.below hW) (by omega)
  rw [hs] at k1
  have K1 := Lib.hid k1
  obtain ⟨a, cap, rfl, hc, ho⟩ := h
  obtain ⟨N, hN⟩ : ∃ n, xs.length = n := ⟨_, rfl⟩
  have HN := Lib.hid hN
  rw [hN] at hc hN100 K1 ⊢
  have Hc := Lib.hid hc; have Ho := Lib.hid ho; have Hsm := Lib.hid hsm; have HX := Lib.hid hxw
  clear hc ho hN k1 hs hsm hxw
  have k2 := fun W => new_any lim W (by omega)
  have k3 := fun W => rnew_any lim W (by omega)
  have K2 := Lib.hid k2; have K3 := Lib.hid k3
  clear k2 k3
  go_enter Try.func6, Try.ntmps6
  go_wp2_with (first | (go_at_call 8; refine (lives_true _).mono ?_; rintro e w0 ⟨rfl, hb0⟩) | (go_at_call 9; refine (K1.out _ hb0).mono ?_; rintro e w1 ⟨rfl, hb1⟩) | (go_at_call 10; refine (K2.out _).mono ?_; rintro e w2 ⟨b, rfl, hB, hbl, hb2⟩) | (go_at_call 24; refine (K3.out _).mono ?_; rintro e w3 ⟨r, rfl, hR, hrl, hb3⟩))
  have l1 := hb0.trans (hb1.mono hb0.size)
  have l2 := l1.trans (hb2.mono l1.size)
  have l3 := l2.trans (hb3.mono l2.size)
  have hbt := hB.lt
  have bt0 : Both w w3 b r lim [] [] (.slice none 0 0) (.slice none 0 0) := ⟨(SInv.start hB hlim).below hb3, RInv.start hR hlim, fun i h1 h2 => by
    rcases h1 with rfl | h1 | h1
    · rcases h2 with h2 | h2 | h2
      · omega
      · simp [Value.ownBlock] at h2
      · simp [blksOf, wordsOf] at h2
    · simp [Value.ownBlock] at h1
    · simp [blksOf, wordsOf] at h1, l3, Nat.le_trans l1.size hbl, Nat.le_trans l2.size hrl⟩
  clear hB hR hb0 hb1 hb2 hb3 hbl hrl l1 l2 l3 hbt
  go_loopw [9] (fun i wr => ∃ (k : Nat) (us vs : List Row) (vl vr : Value), i = .int .i64 k ∧ k ≤ N ∧ Both w wr b r lim us vs vl vr ∧ us.map Row.f = vs.map Row.f) (fun i _ => N - (intOf i).toNat)
  case atStart => exact ⟨0, [], [], _, _, rfl, Nat.zero_le _, bt0, rfl⟩
  case round =>
    obtain ⟨k, us, vs, vl, vr, rfl, hk, bt, hsame⟩ := hrel
    by_cases hlt : k < N
    · obtain ⟨bl, ol, rfl, s1, q1⟩ := Hc.out (by omega)
      obtain ⟨x, hx⟩ : ∃ x, xs[k]? = some x := ⟨xs[k]'(by rw [HN.out]; exact hlt), List.getElem?_eq_getElem _⟩
      have hxm : x ∈ xs := List.mem_of_getElem? hx
      have hok := Ho.out x hxm
      have hsa := Hsm.out x hxm
      have hxv := HX.out x hxm
      have q := q1 k x hx
      clear q1 hx hxm
      have HQ := Lib.hid q; have Hok := Lib.hid hok; have Hsa := Lib.hid hsa
      obtain ⟨x0, f, vw, vd, va, la⟩ := x
      obtain ⟨hOw, hOd, _, nw, nd, ns, sw, sd⟩ := hok
      have hOw' := hOw; have hOd' := hOd
      obtain ⟨aw, cw, e1, _⟩ := hOw'
      obtain ⟨ad, cd, e2, _⟩ := hOd'
      obtain ⟨pa, ca, ls, e3, hlc, hll, hwl⟩ := hxv
      dsimp only at e1 e2 e3 nw nd ns sw sd hlc hll hwl hOw hOd
      subst e1; subst e2; subst e3
      have HWl := Lib.hid hwl; have HLl := Lib.hid hll; have HLc := Lib.hid hlc; have HSw := Lib.hid sw; have HSd := Lib.hid sd; have HOw := Lib.hid hOw; have HOd := Lib.hid hOd
      clear hsa hwl hll hlc sw sd hOw hOd
      have hltI : (k : Int) < (N : Int) := by omega
      have cl := fun j c hj => (bt.bel.cell (p := ⟨bl, ol + k * 8 + j, none⟩) s1).trans (HQ.out j c hj)
      have r0 := cl 0 _ rfl
      rw [Nat.add_zero] at r0
      have r1 := cl 1 _ rfl
      have r2 := cl 2 _ rfl
      have r3 := cl 3 _ rfl
      have r4 := cl 4 _ rfl
      have r5 := cl 5 _ rfl
      have r6 := cl 6 _ rfl
      have r7 := cl 7 _ rfl
      clear cl q
      have hsz : f.ws.length + f.ds.length ≤ 200 ∧ f.s.size ≤ 5000 := by
        have := Hsa.out
        unfold smallA at this
        simp at this
        omega
      clear nw nd ns
      go_upto_region 15 with fail
      generalize hW0 : wr.alloc (Obj.cells #[.int .i64 x0, .int .i64 f.k, .int .i64 f.o, .int .i64 f.n, .string f.s, .slice aw f.ws.length cw, .slice ad f.ds.length cd, .slice pa la ca] 34) = W0
      have A0 : Blk W0 wr.heap.size #[.int .i64 x0, .int .i64 f.k, .int .i64 f.o, .int .i64 f.n, .string f.s, .slice aw f.ws.length cw, .slice ad f.ds.length cd, .slice pa la ca] := by rw [← hW0]; exact Blk.new wr _ _
      have k0 : Below wr.heap.size wr W0 := by rw [← hW0]; ((repeat (first | exact Below.refl _ _ | (refine Below.alloc ?_ (by first | (simp [World.setCell]; done) | (simp [World.setCell]; omega)) _) | (refine Below.setCell ?_ (by first | (simp [World.setCell]; done) | (simp [World.setCell]; omega)) _) | refine Below.drew ?_)))
      have FSt := Lib.hid bt.s; have FT := Lib.hid bt.t
      have bt1 := bt.on k0
      clear hW0 r0 r1 r2 r3 r4 r5 r6 r7 bt
      have a0 := A0.cell
      go_cut [71] (fun s71 wx => s71 = .bool false ∧ Below W0.heap.size W0 wx)
      case first =>
        obtain ⟨z, hz⟩ : ∃ z : Int, (if chkK f.k f.o f.n f.s f.ws.length f.ds.length then (0 : Int) else 2) = z := ⟨_, rfl⟩
        have hltA := A0.lt
        have s0 := keep_cells (wx := W0) hltA ⟨a0 1, a0 2, a0 3, a0 4, a0 5, a0 6, Below.refl _ _⟩ (Below.refl _ _).drew
        have kc := fun W => check_any f.k f.o f.n f.s aw ad f.ws.length f.ds.length cw cd W
        have kr := fun W => rcheck_any f.k f.o f.n f.s aw ad f.ws.length f.ds.length cw cd W
        rw [hz] at kc kr
        have KC := Lib.hid kc; have KR := Lib.hid kr
        obtain ⟨K, hK⟩ : ∃ K : Nat, 1 + f.ws.length + f.ds.length + (f.s.size + 7) / 8 = K := ⟨_, rfl⟩
        have kt := fun W => takes_any f.k f.o f.n f.s aw ad f.ws.length f.ds.length cw cd W (by omega) (by omega) (by omega)
        have ks := fun W => rtakes_any f.k f.o f.n f.s aw ad f.ws.length f.ds.length cw cd W (by omega) (by omega) (by omega)
        rw [hK] at kt ks
        have KT := Lib.hid kt; have KS := Lib.hid ks
        clear kc kr kt ks hz hK
        go_region_held3 (fun wx => wx.cell? ⟨wr.heap.size, 1, none⟩ = some (.int .i64 f.k) ∧ wx.cell? ⟨wr.heap.size, 2, none⟩ = some (.int .i64 f.o) ∧ wx.cell? ⟨wr.heap.size, 3, none⟩ = some (.int .i64 f.n) ∧ wx.cell? ⟨wr.heap.size, 4, none⟩ = some (.string f.s) ∧ wx.cell? ⟨wr.heap.size, 5, none⟩ = some (.slice aw f.ws.length cw) ∧ wx.cell? ⟨wr.heap.size, 6, none⟩ = some (.slice ad f.ds.length cd) ∧ Below W0.heap.size W0 wx) (first | (exact keep_cells (by assumption) (by assumption) (by assumption)) | (exact keep_cells (by assumption) ⟨by assumption, by assumption, by assumption, by assumption, by assumption, by assumption, by assumption⟩ (by assumption)) | assumption) (first | (go_at_call 25; with_reducible refine (KC.out _).mono ?_; rintro e w1 ⟨rfl, hb1⟩) | (go_at_call 26; with_reducible refine (KR.out _).mono ?_; rintro e w2 ⟨rfl, hb2⟩) | (go_at_call 12; with_reducible refine (KT.out _).mono ?_; rintro e w3 ⟨rfl, hb3⟩) | (go_at_call 27; with_reducible refine (KS.out _).mono ?_; rintro e w4 ⟨rfl, hb4⟩))
        all_goals
          go_wp2
          go_meet
          rename_i hS
          exact ⟨rfl, hS.2.2.2.2.2.2⟩
      case rest =>
        obtain ⟨rfl, hb2⟩ := hcut
        have bt2 := bt1.on hb2
        have A2 := A0.below hb2 A0.lt
        have a2 := A2.cell
        have frm : ∀ i, (Foot b vl us i ∨ Foot r vr vs i) → i = wr.heap.size → False := by
          intro i hi hir
          rcases hi with hi | hi
          · have := (FSt.out.foot_lt i hi).1; omega
          · have := (FT.out.foot_lt i hi).1; omega
        have Frm := Lib.hid frm
        clear a0 frm
        go_upto_block 2 with (go_at_call 28; with_reducible refine (pick_any _ _).mono ?_; rintro e w3 ⟨⟨q, rfl⟩, hb3⟩)
        have bt3 := bt2.on hb3
        have A3 := A2.below hb3 A2.lt
        have a3 := A3.cell
        clear a2
        go_cut [9] (fun s9 wx => s9 = .int .i64 k ∧ ∃ us' vs' vl' vr', Both w wx b r lim us' vs' vl' vr' ∧ us'.map Row.f = vs'.map Row.f)
        case first =>
          by_cases q2 : q = 2
          · subst q2
            obtain ⟨f2, hf2⟩ : ∃ f2, lastF us = f2 := ⟨_, rfl⟩
            obtain ⟨s2, hs2⟩ : ∃ s2, someL us = s2 := ⟨_, rfl⟩
            have hg2 := lastF_map hsame
            rw [hf2] at hg2
            have ht2 := someL_map hsame
            rw [hs2] at ht2
            have hls := last_small bt3.s.tk hlim
            rw [hf2] at hls
            have kp := pop_u b (b + 1) lim us vl w3 bt3.s f2 hf2 s2 hs2
            have KP := Lib.hid kp
            have hr3 := (bt3.t.foot_lt r (.inl rfl)).1
            have HG2 := Lib.hid hg2; have HT2 := Lib.hid ht2
            clear kp hf2 hs2 hg2 ht2
            go_upto_region 22 with (go_at_call 15; with_reducible refine KP.out.mono ?_; rintro e w4 ⟨p1, y1, p2, y2, vl1, rfl, o1, o2, I4, F4, off4⟩)
            generalize hW4 : w4.alloc (Obj.cells #[.int .i64 f2.k, .int .i64 f2.o, .int .i64 f2.n, .string f2.s, .slice p1 f2.ws.length y1, .slice p2 f2.ds.length y2] 32) = W4
            have P4 : Blk W4 w4.heap.size #[.int .i64 f2.k, .int .i64 f2.o, .int .i64 f2.n, .string f2.s, .slice p1 f2.ws.length y1, .slice p2 f2.ds.length y2] := by rw [← hW4]; exact Blk.new w4 _ _
            have k4 : Below w4.heap.size w4 W4 := by rw [← hW4]; ((repeat (first | exact Below.refl _ _ | (refine Below.alloc ?_ (by first | (simp [World.setCell]; done) | (simp [World.setCell]; omega)) _) | (refine Below.setCell ?_ (by first | (simp [World.setCell]; done) | (simp [World.setCell]; omega)) _) | refine Below.drew ?_)))
            have bt4 := (bt3.popS I4 F4 off4).on k4
            have O1 := own_on o1 k4 (own_lt o1)
            have O2 := own_on o2 k4 (own_lt o2)
            have hr4 := off4.size
            have kq := rpop_u r (r + 1) lim vs vr W4 bt4.t f2 HG2.out.symm s2 HT2.out.symm
            have KQ := Lib.hid kq
            clear kq hW4 o1 o2 I4 F4 off4
            go_upto_region 23 with (go_at_call 29; with_reducible refine KQ.out.mono ?_; rintro e w5 ⟨p3, y3, p4, y4, vr1, rfl, o3, o4, I5, F5, off5⟩)

            generalize hW5 : w5.alloc (Obj.cells #[.int .i64 f2.k, .int .i64 f2.o, .int .i64 f2.n, .string f2.s, .slice p3 f2.ws.length y3, .slice p4 f2.ds.length y4] 32) = W5
            have P5 : Blk W5 w5.heap.size #[.int .i64 f2.k, .int .i64 f2.o, .int .i64 f2.n, .string f2.s, .slice p3 f2.ws.length y3, .slice p4 f2.ds.length y4] := by rw [← hW5]; exact Blk.new w5 _ _
            have k5 : Below w5.heap.size w5 W5 := by rw [← hW5]; ((repeat (first | exact Below.refl _ _ | (refine Below.alloc ?_ (by first | (simp [World.setCell]; done) | (simp [World.setCell]; omega)) _) | (refine Below.setCell ?_ (by first | (simp [World.setCell]; done) | (simp [World.setCell]; omega)) _) | refine Below.drew ?_)))
            have bt5 := (bt4.popT I5 F5 off5).on k5
            have Q4 := (off5.blk P4 (fun e => by omega)).below k5 (Nat.lt_of_lt_of_le P4.lt off5.size)
            have X1 := off5.own O1 (fun g hg e => by have := own_from O1 g hg; omega)
            have X2 := off5.own O2 (fun g hg e => by have := own_from O2 g hg; omega)
            have Z1 := WOwn.at (own_on X1 k5 (own_lt X1))
            have Z2 := WOwn.at (own_on X2 k5 (own_lt X2))
            have Z3 := WOwn.at (own_on o3 k5 (own_lt o3))
            have Z4 := WOwn.at (own_on o4 k5 (own_lt o4))
            have HZ1 := Lib.hid Z1; have HZ2 := Lib.hid Z2; have HZ3 := Lib.hid Z3; have HZ4 := Lib.hid Z4
            have p4 := Q4.cell
            have p5 := P5.cell
            clear hW5 o3 o4 I5 F5 off5 Z1 Z2 Z3 Z4 X1 X2 O1 O2 a3
            go_wp2_with (go_at_call 16; with_reducible refine (sameFrame_yes f2.k f2.o f2.n f2.s _ _ _ _ f2.ws f2.ds W5 HZ1.out HZ3.out HZ2.out HZ4.out hls.1 hls.2).mono ?_; rintro e w6 ⟨rfl, hb6⟩)
            go_meet
            exact ⟨rfl, _, _, _, _, bt5.on hb6, drop_map hsame⟩
          · have btd := bt3.on (Below.refl _ _).drew
            have A3d := A3.drew
            by_cases q3 : q = 3
            · subst q3
              obtain ⟨n3, hn3⟩ : ∃ n, turnN us ls = n := ⟨_, rfl⟩
              have hm3 := turnN_map ls hsame
              rw [hn3] at hm3
              have apS : 0 < la → ∀ g, (Value.slice pa la ca).ownBlock = some g → g ∉ blksOf us := fun hp g hg hm => by
                have h1 := wat_low HWl.out HLl.out hp g hg
                have h2 := foot_from btd.s w.heap.size btd.lows g (foot_blks hm)
                omega
              have apT : 0 < la → ∀ g, (Value.slice pa la ca).ownBlock = some g → g ∉ blksOf vs := fun hp g hg hm => by
                have h1 := wat_low HWl.out HLl.out hp g hg
                have h2 := RInv.foot_from btd.t w.heap.size btd.lowt g (foot_blks hm)
                omega
              have kt := turn_u b (b + 1) lim us vl w3.drew btd.s pa la ca ls HLl.out HLc.out (HWl.out.below btd.bel (Nat.le_refl _)) apS n3 hn3
              have KT := Lib.hid kt; have HAT := Lib.hid apT; have HM3 := Lib.hid hm3
              have c3 : w3.drew.cell? ⟨wr.heap.size, 7, none⟩ = some (.slice pa la ca) := A3d.cell 7
              clear kt apS apT hm3 hn3
              go_upto_region 26 with fail
              go_region_held3 (fun wx => wx.cell? ⟨wr.heap.size, 7, none⟩ = some (.slice pa la ca)) (assumption) (first | (go_at_call 19; with_reducible refine KT.out.mono ?_; rintro e w4 ⟨rfl, I4, F4, off4⟩; have bt4 := btd.onS I4 (fun k hk => .inl (F4 k hk)) off4; have A4 := off4.blk A3d (fun hs => Frm.out _ (.inl hs) rfl); have c4 : w4.cell? ⟨wr.heap.size, 7, none⟩ = some (.slice pa la ca) := blk7 A4) | (go_at_call 30; with_reducible refine (rturn_u r (r + 1) lim vs vr w4 bt4.t pa la ca ls HLl.out (HWl.out.below bt4.bel (Nat.le_refl _)) HAT.out n3 HM3.out.symm).mono ?_; rintro e w5 ⟨rfl, I5, F5, off5⟩; have bt5 := bt4.onT I5 (fun k hk => .inl (F5 k hk)) off5; have c5 : w5.cell? ⟨wr.heap.size, 7, none⟩ = some (.slice pa la ca) := blk7 (off5.blk A4 (fun hs => Frm.out _ (.inr hs) rfl))))
              all_goals
                go_wp2
                go_meet
                exact ⟨rfl, _, _, _, _, bt5, turnL_map ls hsame⟩
            · obtain ⟨n3, hn3⟩ : ∃ n, pushN lim us f = n := ⟨_, rfl⟩
              obtain ⟨fs, hfs⟩ : ∃ n, pushL lim us f = n := ⟨_, rfl⟩
              have hm3 := pushN_map (lim := lim) f hsame
              have hm4 := pushL_map (lim := lim) f hsame
              rw [hn3] at hm3
              rw [hfs] at hm4
              have hw3 : WAt w (.slice aw f.ws.length cw) f.ws := HOw.out
              have hd3 : WAt w (.slice ad f.ds.length cd) f.ds := HOd.out
              have HW3 := Lib.hid hw3; have HD3 := Lib.hid hd3
              have kt := push_u f (.slice aw f.ws.length cw) (.slice ad f.ds.length cd) b (b + 1) lim us vl w3.drew btd.s (hw3.below btd.bel (Nat.le_refl _)) (hd3.below btd.bel (Nat.le_refl _)) (by omega) (by omega) (by omega) n3 hn3 fs hfs
              have ku := fun W vr' (h : RInv W r (r + 1) lim vs vr') (hW : Below w.heap.size w W) => rpush_u f (.slice aw f.ws.length cw) (.slice ad f.ds.length cd) r (r + 1) lim vs vr' W h (hw3.below hW (Nat.le_refl _)) (hd3.below hW (Nat.le_refl _)) HSw.out HSd.out (by omega) (by omega) (by omega) n3 hm3.symm fs hm4.symm
              have KT := Lib.hid kt; have KU := Lib.hid ku
              have c3 : w3.drew.cell? ⟨wr.heap.size, 1, none⟩ = some (.int .i64 f.k) ∧ w3.drew.cell? ⟨wr.heap.size, 2, none⟩ = some (.int .i64 f.o) ∧ w3.drew.cell? ⟨wr.heap.size, 3, none⟩ = some (.int .i64 f.n) ∧ w3.drew.cell? ⟨wr.heap.size, 4, none⟩ = some (.string f.s) ∧ w3.drew.cell? ⟨wr.heap.size, 5, none⟩ = some (.slice aw f.ws.length cw) ∧ w3.drew.cell? ⟨wr.heap.size, 6, none⟩ = some (.slice ad f.ds.length cd) := blk6 A3d
              clear kt ku hm3 hm4 hn3 hfs hw3 hd3
              go_upto_region 18 with fail
              go_region_held3 (fun wx => wx.cell? ⟨wr.heap.size, 1, none⟩ = some (.int .i64 f.k) ∧ wx.cell? ⟨wr.heap.size, 2, none⟩ = some (.int .i64 f.o) ∧ wx.cell? ⟨wr.heap.size, 3, none⟩ = some (.int .i64 f.n) ∧ wx.cell? ⟨wr.heap.size, 4, none⟩ = some (.string f.s) ∧ wx.cell? ⟨wr.heap.size, 5, none⟩ = some (.slice aw f.ws.length cw) ∧ wx.cell? ⟨wr.heap.size, 6, none⟩ = some (.slice ad f.ds.length cd)) (assumption) (first | (go_at_call 11; with_reducible refine KT.out.mono ?_; rintro e w4 ⟨rfl, us4, vl4, I4, M4, F4, off4⟩; have bt4 := btd.onS I4 F4 off4; have A4 := off4.blk A3d (fun hs => Frm.out _ (.inl hs) rfl); have c4 : w4.cell? ⟨wr.heap.size, 1, none⟩ = some (.int .i64 f.k) ∧ w4.cell? ⟨wr.heap.size, 2, none⟩ = some (.int .i64 f.o) ∧ w4.cell? ⟨wr.heap.size, 3, none⟩ = some (.int .i64 f.n) ∧ w4.cell? ⟨wr.heap.size, 4, none⟩ = some (.string f.s) ∧ w4.cell? ⟨wr.heap.size, 5, none⟩ = some (.slice aw f.ws.length cw) ∧ w4.cell? ⟨wr.heap.size, 6, none⟩ = some (.slice ad f.ds.length cd) := blk6 A4) | (go_at_call 31; with_reducible refine (KU.out w4 vr bt4.t bt4.bel).mono ?_; rintro e w5 ⟨rfl, vs5, vr5, I5, M5, F5, off5⟩; have bt5 := bt4.onT I5 F5 off5; have A5 := off5.blk A4 (fun hs => Frm.out _ (.inr hs) rfl); have c5 : w5.cell? ⟨wr.heap.size, 1, none⟩ = some (.int .i64 f.k) ∧ w5.cell? ⟨wr.heap.size, 2, none⟩ = some (.int .i64 f.o) ∧ w5.cell? ⟨wr.heap.size, 3, none⟩ = some (.int .i64 f.n) ∧ w5.cell? ⟨wr.heap.size, 4, none⟩ = some (.string f.s) ∧ w5.cell? ⟨wr.heap.size, 5, none⟩ = some (.slice aw f.ws.length cw) ∧ w5.cell? ⟨wr.heap.size, 6, none⟩ = some (.slice ad f.ds.length cd) := blk6 A5))
              all_goals
                go_wp2
                go_meet
                exact ⟨rfl, _, _, _, _, bt5, M4.trans M5.symm⟩
        case rest =>
          obtain ⟨rfl, us', vs', vl', vr', bt4, hsame'⟩ := hcut
          clear bt0 bt1 bt2 bt3 hsame FSt FT Frm A2 A3 a3 A0 k0 hb2 hb3
          obtain ⟨f2, hf2⟩ : ∃ f2, lastF us' = f2 := ⟨_, rfl⟩
          obtain ⟨s2, hs2⟩ : ∃ s2, someL us' = s2 := ⟨_, rfl⟩
          have hg2 := lastF_map hsame'
          rw [hf2] at hg2
          have ht2 := someL_map hsame'
          rw [hs2] at ht2
          have hls := last_small bt4.s.tk hlim
          rw [hf2] at hls
          have kp := top_u b (b + 1) lim us' vl' wc bt4.s f2 hf2 s2 hs2
          have KP := Lib.hid kp
          have HG2 := Lib.hid hg2; have HT2 := Lib.hid ht2
          have HSm := Lib.hid hsame'
          clear kp hf2 hs2 hg2 ht2 hsame'
          go_upto_region 29 with (go_at_call 20; with_reducible refine KP.out.mono ?_; rintro e w5 ⟨p1, y1, p2, y2, rfl, o1, o2, hb5⟩)
          generalize hW5 : w5.alloc (Obj.cells #[.int .i64 f2.k, .int .i64 f2.o, .int .i64 f2.n, .string f2.s, .slice p1 f2.ws.length y1, .slice p2 f2.ds.length y2] 32) = W5
          have P5 : Blk W5 w5.heap.size #[.int .i64 f2.k, .int .i64 f2.o, .int .i64 f2.n, .string f2.s, .slice p1 f2.ws.length y1, .slice p2 f2.ds.length y2] := by rw [← hW5]; exact Blk.new w5 _ _
          have k5 : Below w5.heap.size w5 W5 := by rw [← hW5]; ((repeat (first | exact Below.refl _ _ | (refine Below.alloc ?_ (by first | (simp [World.setCell]; done) | (simp [World.setCell]; omega)) _) | (refine Below.setCell ?_ (by first | (simp [World.setCell]; done) | (simp [World.setCell]; omega)) _) | refine Below.drew ?_)))
          have bt5 := (bt4.on hb5).on k5
          have O1 := own_on o1 k5 (own_lt o1)
          have O2 := own_on o2 k5 (own_lt o2)
          have kq := rtop_u r (r + 1) lim vs' vr' W5 bt5.t f2 HG2.out.symm s2 HT2.out.symm
          have KQ := Lib.hid kq
          clear kq hW5 o1 o2
          go_upto_region 30 with (go_at_call 32; with_reducible refine KQ.out.mono ?_; rintro e w6 ⟨p3, y3, p4, y4, rfl, o3, o4, hb6⟩)
          generalize hW6 : w6.alloc (Obj.cells #[.int .i64 f2.k, .int .i64 f2.o, .int .i64 f2.n, .string f2.s, .slice p3 f2.ws.length y3, .slice p4 f2.ds.length y4] 32) = W6
          have P6 : Blk W6 w6.heap.size #[.int .i64 f2.k, .int .i64 f2.o, .int .i64 f2.n, .string f2.s, .slice p3 f2.ws.length y3, .slice p4 f2.ds.length y4] := by rw [← hW6]; exact Blk.new w6 _ _
          have k6 : Below w6.heap.size w6 W6 := by rw [← hW6]; ((repeat (first | exact Below.refl _ _ | (refine Below.alloc ?_ (by first | (simp [World.setCell]; done) | (simp [World.setCell]; omega)) _) | (refine Below.setCell ?_ (by first | (simp [World.setCell]; done) | (simp [World.setCell]; omega)) _) | refine Below.drew ?_)))
          have b56 := hb6.trans (k6.mono hb6.size)
          have bt6 := (bt5.on hb6).on k6
          have Q5 := P5.below b56 P5.lt
          have Z1 := WOwn.at (own_on O1 b56 (own_lt O1))
          have Z2 := WOwn.at (own_on O2 b56 (own_lt O2))
          have Z3 := WOwn.at (own_on o3 k6 (own_lt o3))
          have Z4 := WOwn.at (own_on o4 k6 (own_lt o4))
          have HZ1 := Lib.hid Z1; have HZ2 := Lib.hid Z2; have HZ3 := Lib.hid Z3; have HZ4 := Lib.hid Z4
          have p5 := Q5.cell
          have p6 := P6.cell
          obtain ⟨n1, hn1⟩ : ∃ n, us'.length = n := ⟨_, rfl⟩
          obtain ⟨n2, hn2⟩ : ∃ n, takenOf us' = n := ⟨_, rfl⟩
          have hm1 := same_len HSm.out
          rw [hn1] at hm1
          have hm2 := same_taken HSm.out
          rw [hn2] at hm2
          have k1 := fun W (h : Both w W b r lim us' vs' vl' vr') => len_any b (b + 1) lim us' vl' W h.s
          have k2 := fun W (h : Both w W b r lim us' vs' vl' vr') => rlen_any r (r + 1) lim vs' vr' W h.t
          rw [hn1] at k1
          rw [← hm1] at k2
          have k3 := fun W (h : Both w W b r lim us' vs' vl' vr') => taken_any b (b + 1) lim us' vl' W h.s
          have k4 := fun W (h : Both w W b r lim us' vs' vl' vr') => rtaken_any r (r + 1) lim vs' vr' W h.t
          rw [hn2] at k3
          rw [← hm2] at k4
          have k7 := fun W (h : Both w W b r lim us' vs' vl' vr') => limit_any b (b + 1) lim us' vl' W h.s
          have k8 := fun W (h : Both w W b r lim us' vs' vl' vr') => rlimit_any r (r + 1) lim vs' vr' W h.t
          have k9 := fun W (h : Both w W b r lim us' vs' vl' vr') => words_any b (b + 1) lim us' vl' W h.s
          have kA := fun W (h : Both w W b r lim us' vs' vl' vr') => rwords_any r (r + 1) lim vs' vr' W h.t
          rw [← same_words HSm.out] at kA
          have kB := fun W (h : Both w W b r lim us' vs' vl' vr') => all_any b (b + 1) lim us' vl' W h.s
          have kC := fun W (h : Both w W b r lim us' vs' vl' vr') => rall_any r (r + 1) lim vs' vr' W h.t
          have hwl : (wordsAll us').length ≤ 1000000000000 := by have := wordsAll_len us'; have := bt6.s.tk; omega
          have htl : takenOf us' ≤ 4194304 := by have := bt6.s.tk; omega
          have K1 := Lib.hid k1; have K2' := Lib.hid k2; have K3' := Lib.hid k3; have K4 := Lib.hid k4; have K7 := Lib.hid k7; have K8 := Lib.hid k8; have K9 := Lib.hid k9; have KA := Lib.hid kA; have KB := Lib.hid kB; have KC := Lib.hid kC
          have HWl := Lib.hid hwl; have HTl := Lib.hid htl
          clear hn1 hn2 hm1 hm2 k1 k2 k3 k4 k7 k8 k9 kA kB kC hwl htl Z1 Z2 Z3 Z4 o3 o4 O1 O2 hW6 KP KQ HG2 HT2
          go_wp2_with (first
            | (go_at_call 16; with_reducible refine (sameFrame_yes f2.k f2.o f2.n f2.s _ _ _ _ f2.ws f2.ds W6 HZ1.out HZ3.out HZ2.out HZ4.out hls.1 hls.2).mono ?_; rintro e w7 ⟨rfl, hb7⟩; have bt7 := bt6.on hb7)
            | (go_at_call 33; with_reducible refine (K1.out w7 bt7).mono ?_; rintro e w8 ⟨rfl, hb8⟩; have bt8 := bt7.on hb8)
            | (go_at_call 34; with_reducible refine (K2'.out w8 bt8).mono ?_; rintro e w9 ⟨rfl, hb9⟩; have bt9 := bt8.on hb9)
            | (go_at_call 14; with_reducible refine (K3'.out w9 bt9).mono ?_; rintro e w10 ⟨rfl, hb10⟩; have bt10 := bt9.on hb10)
            | (go_at_call 35; with_reducible refine (K4.out w10 bt10).mono ?_; rintro e w11 ⟨rfl, hb11⟩; have bt11 := bt10.on hb11)
            | (go_at_call 36; with_reducible refine (K7.out w11 bt11).mono ?_; rintro e w12 ⟨rfl, hb12⟩; have bt12 := bt11.on hb12)
            | (go_at_call 37; with_reducible refine (K8.out w12 bt12).mono ?_; rintro e w13 ⟨rfl, hb13⟩; have bt13 := bt12.on hb13)
            | (go_at_call 18; with_reducible refine (K9.out w13 bt13).mono ?_; rintro e w14 ⟨v14, rfl, o14, hb14⟩; have bt14 := bt13.on hb14)
            | (go_at_call 38; with_reducible refine (KA.out w14 bt14).mono ?_; rintro e w15 ⟨v15, rfl, o15, hb15⟩; have bt15 := bt14.on hb15)
            | (go_at_call 22; with_reducible refine (sameWords_yes v14 v15 (wordsAll us') w15 (WOwn.at (own_on o14 hb15 (own_lt o14))) (WOwn.at o15) HWl.out).mono ?_; rintro e w16 ⟨rfl, hb16⟩; have bt16 := bt15.on hb16)
            | (go_at_call 21; with_reducible refine (KB.out w16 bt16).mono ?_; rintro e w17 ⟨v17, us17, rfl, f17, m17, hb17⟩; have bt17 := bt16.on hb17; have M17 := Lib.hid m17; clear m17)
            | (go_at_call 39; with_reducible refine (KC.out w17 bt17).mono ?_; rintro e w18 ⟨v18, us18, rfl, f18, m18, hb18⟩; have bt18 := bt17.on hb18; have M18 := Lib.hid m18; clear m18)
            | (go_at_call 23; with_reducible refine (sameFrames_yes w16.heap.size w17.heap.size v17 v18 us17 us18 w18 (f17.below hb18) f18 (M17.out.trans (HSm.out.trans M18.out.symm)) (by rw [same_taken M17.out]; exact HTl.out)).mono ?_; rintro e w19 ⟨rfl, hb19⟩; have bt19 := bt18.on hb19))
          go_roundw
          case rel => exact ⟨k + 1, us', vs', vl', vr', by go_num, by omega, bt19, HSm.out⟩
          case measure => simp [intOf]; omega
    · go_wp2
      go_ret
      exact ⟨rfl, bt.bel⟩

end Go.Proofs.Ytmnadlgglmhfhaa
