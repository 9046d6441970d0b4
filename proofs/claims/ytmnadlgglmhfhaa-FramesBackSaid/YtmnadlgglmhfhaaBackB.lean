/- The law FramesBack: its walk. -/
import Derived.Test.YtmnadlgglmhfhaaBackA
namespace Go.Proofs.Ytmnadlgglmhfhaa
open Go.RowKit
set_option linter.unusedSimpArgs false

set_option maxRecDepth 100000 in
set_option maxHeartbeats 4000000 in
theorem back_main (v : Value) (xs : List ActD) (lim : Nat) (w : World) (h : ActsAt w v xs) (hs : smallL xs = true) (hlim : lim ≤ 4194304) :
    Calls Try.prog 3 #[.int .i64 lim, v] w fun e w' => e = .returned (.bool true) ∧ Below w.heap.size w w' := by
  have hN100 : xs.length ≤ 100 := by
    unfold smallL at hs
    simp only [Bool.and_eq_true, decide_eq_true_eq] at hs
    exact hs.2
  have hsm : ∀ x ∈ xs, smallA x = true := by
    unfold smallL at hs
    simp only [Bool.and_eq_true, decide_eq_true_eq, List.all_eq_true] at hs
    exact hs.1
  have k1 := fun W (hW : Below w.heap.size w W) => small_any v xs W (h.below hW) (by omega)
  rw [hs] at k1
  have K1 := Lib.hid k1
  obtain ⟨a, cap, rfl, hc, ho⟩ := h
  obtain ⟨N, hN⟩ : ∃ n, xs.length = n := ⟨_, rfl⟩
  have HN := Lib.hid hN
  rw [hN] at hc hN100 K1 ⊢
  have Hc := Lib.hid hc; have Ho := Lib.hid ho; have Hsm := Lib.hid hsm
  clear hc ho hN k1 hs hsm
  have k2 := fun W => new_any lim W (by omega)
  have K2 := Lib.hid k2
  clear k2
  go_enter Try.func3, Try.ntmps3
  go_wp2_with (first | (go_at_call 8; refine (lives_true _).mono ?_; rintro e w0 ⟨rfl, hb0⟩) | (go_at_call 9; refine (K1.out _ hb0).mono ?_; rintro e w1 ⟨rfl, hb1⟩) | (go_at_call 10; refine (K2.out _).mono ?_; rintro e w2 ⟨b, rfl, hB, hbl, hb2⟩))
  have l2 := (hb0.trans (hb1.mono hb0.size)).trans (hb2.mono (Nat.le_trans hb0.size hb1.size))
  have hlow : w.heap.size ≤ b := Nat.le_trans (Nat.le_trans hb0.size hb1.size) hbl
  have kp0 := Kept.start (SInv.start (lim := lim) hB hlim) l2 hlow
  clear hB hb0 hb1 hb2 hbl
  go_loopw [7, 8, 9] (fun vin tk i wr => ∃ (k : Nat) (rows us : List Row) (vl : Value), i = .int .i64 k ∧ k ≤ N ∧ rows.length ≤ k ∧ tk = .int .i64 (takenOf us : Nat) ∧ Kept w wr b lim rows us vl vin) (fun _ _ i _ => N - (intOf i).toNat)
  case atStart => exact ⟨0, [], [], _, rfl, Nat.zero_le _, Nat.zero_le _, rfl, kp0⟩
  case round =>
    obtain ⟨k, rows, us, vl, rfl, hk, hrk, rfl, kp⟩ := hrel
    by_cases hlt : k < N
    · obtain ⟨bl, ol, rfl, s1, q1⟩ := Hc.out (by omega)
      obtain ⟨x, hx⟩ : ∃ x, xs[k]? = some x := ⟨xs[k]'(by rw [HN.out]; exact hlt), List.getElem?_eq_getElem _⟩
      have hxm : x ∈ xs := List.mem_of_getElem? hx
      have hok := Ho.out x hxm
      have hsa := Hsm.out x hxm
      have q := q1 k x hx
      clear q1 hx hxm
      have HQ := Lib.hid q; have Hok := Lib.hid hok; have Hsa := Lib.hid hsa
      obtain ⟨x0, f, vw, vd, va, la⟩ := x
      obtain ⟨⟨aw, cw, e1, _⟩, ⟨ad, cd, e2, _⟩, ⟨pa, ca, e3⟩, nw, nd, ns, sw, sd⟩ := hok
      dsimp only at e1 e2 e3 nw nd ns sw sd
      subst e1; subst e2; subst e3
      clear hsa
      have hltI : (k : Int) < (N : Int) := by omega
      have cl := fun j c hj => (kp.bel.cell (p := ⟨bl, ol + k * 8 + j, none⟩) s1).trans (HQ.out j c hj)
      have r1 := cl 1 _ rfl
      have r2 := cl 2 _ rfl
      have r3 := cl 3 _ rfl
      have r4 := cl 4 _ rfl
      have r5 := cl 5 _ rfl
      have r6 := cl 6 _ rfl
      clear cl q
      have hsz : f.ws.length + f.ds.length ≤ 200 ∧ f.s.size ≤ 5000 := by
        have := Hsa.out
        unfold smallA at this
        simp at this
        omega
      clear nw nd ns
      obtain ⟨i0, hi, hz0, hz1, hz2⟩ := info_parts infoW
      go_upto_region 13 with fail
      go_cut [10] (fun s10 wx => s10 = .pointer (some ⟨wr.heap.size, 0, none⟩) ∧ Blk wx wr.heap.size #[.int .i64 f.k, .int .i64 f.o, .int .i64 f.n, .string f.s, .slice aw f.ws.length cw, .slice ad f.ds.length cd] ∧ Below wr.heap.size wr wx)
      case first =>
        go_wp2
        go_meet
        exact ⟨rfl, Blk.new _ _ _, by ((repeat (first | exact Below.refl _ _ | (refine Below.alloc ?_ (by first | (simp [World.setCell]; done) | (simp [World.setCell]; omega)) _) | (refine Below.setCell ?_ (by first | (simp [World.setCell]; done) | (simp [World.setCell]; omega)) _) | refine Below.drew ?_)))⟩
      case rest =>
        obtain ⟨rfl, B1, b1⟩ := hcut
        clear r1 r2 r3 r4 r5 r6
        have c1 := B1.cell
        have f1 := B1.free
        have t1 := B1.lt
        go_upto_region 14 with fail
        go_cut [] (fun wx => ∃ p c, WOwn wx (wr.heap.size + 1) (.slice p f.ws.length c) f.ws ∧ Blk wx wr.heap.size #[.int .i64 f.k, .int .i64 f.o, .int .i64 f.n, .string f.s, .slice p f.ws.length c, .slice ad f.ds.length cd] ∧ Below wr.heap.size wr wx)
        case first =>
          go_wp2_with (at_builtin; refine append_words rfl _ _ 30 rfl i0 Try.underlying30 hi hz0 hz1 hz2 wc.heap.size wc.heap.size rfl (World.ownsRow_made _ #[] 0 (Nat.le_refl _) (Nat.zero_le _) (by simp)) (by simp) _ rfl f.ws ?qw sw ?ql ?_)
          case qw => exact (Hok.out.w.below (kp.bel.trans (b1.mono kp.bel.size)) (Nat.le_refl _)).below (B := wc.heap.size) (by ((repeat (first | exact Below.refl _ _ | (refine Below.alloc ?_ (by first | (simp [World.setCell]; done) | (simp [World.setCell]; omega)) _) | (refine Below.setCell ?_ (by first | (simp [World.setCell]; done) | (simp [World.setCell]; omega)) _) | refine Below.drew ?_)))) (Nat.le_refl _)
          case ql => omega
          intro v' w2 o2 g2 p c e2
          subst e2
          have G2 := off_of_grown g2
          have B2 := G2.blk (B1.alloc _) (fun e => by simp at e; omega)
          have c2 := B2.cell
          have f2 := B2.free
          clear c1 f1
          go_wp2
          go_meet
          have E2 := off_set (W := w2) (b := wr.heap.size) (i := 4) (v := .slice p f.ws.length c)
          refine ⟨p, c, E2.own (own_low o2 t1) (fun g hg e => by have := own_from o2 g hg; omega), B2.set 4 _ (by simp), ?_⟩
          exact ((b1.alloc b1.size _).trans (G2.below (by simp; omega) (fun i e => by simp at e; omega))).trans (E2.below (by have := B2.lt; omega) (fun i e => by omega))
        case rest =>
          obtain ⟨p, c, o2, B2, b2⟩ := hcut
          clear c1 f1 t1 B1 b1
          have c2 := B2.cell
          have f2 := B2.free
          have t2 := B2.lt
          go_upto_region 15 with fail
          go_cut [] (fun wx => ∃ q e, WOwn wx (wr.heap.size + 1) (.slice p f.ws.length c) f.ws ∧ WOwn wx (wr.heap.size + 1) (.slice q f.ds.length e) f.ds ∧ Blk wx wr.heap.size #[.int .i64 f.k, .int .i64 f.o, .int .i64 f.n, .string f.s, .slice p f.ws.length c, .slice q f.ds.length e] ∧ Below wr.heap.size wr wx)
          case first =>
            go_wp2_with (at_builtin; refine append_words rfl _ _ 30 rfl i0 Try.underlying30 hi hz0 hz1 hz2 wc.heap.size wc.heap.size rfl (World.ownsRow_made _ #[] 0 (Nat.le_refl _) (Nat.zero_le _) (by simp)) (by simp) _ rfl f.ds ?qw sd ?ql ?_)
            case qw => exact (Hok.out.d.below (kp.bel.trans (b2.mono kp.bel.size)) (Nat.le_refl _)).below (B := wc.heap.size) (by ((repeat (first | exact Below.refl _ _ | (refine Below.alloc ?_ (by first | (simp [World.setCell]; done) | (simp [World.setCell]; omega)) _) | (refine Below.setCell ?_ (by first | (simp [World.setCell]; done) | (simp [World.setCell]; omega)) _) | refine Below.drew ?_)))) (Nat.le_refl _)
            case ql => omega
            intro v' w3 o3 g3 q e e3
            subst e3
            have G3 := off_of_grown g3
            have B3 := G3.blk (B2.alloc _) (fun e => by simp at e; omega)
            have c3 := B3.cell
            have f3 := B3.free
            clear c2 f2
            go_wp2
            go_meet
            have E3 := off_set (W := w3) (b := wr.heap.size) (i := 5) (v := .slice q f.ds.length e)
            refine ⟨q, e, E3.own (G3.own (o2.alloc _) (fun g hg e => by have := own_lt o2 g hg; simp at e; omega)) (fun g hg e => by have := own_from o2 g hg; omega), E3.own (own_low o3 t2) (fun g hg e => by have := own_from o3 g hg; omega), B3.set 5 _ (by simp), ?_⟩
            exact ((b2.alloc b2.size _).trans (G3.below (by simp; omega) (fun i e => by simp at e; omega))).trans (E3.below (by have := B3.lt; omega) (fun i e => by omega))
          case rest =>
            obtain ⟨q, e, o3, o4, B3, b3⟩ := hcut
            clear c2 f2 t2 B2 b2 o2
            have c3 := B3.cell
            have f3 := B3.free
            have t3 := B3.lt
            have kp3 := kp.on b3
            have hxw := o3.at
            have hxd := o4.at
            have htk := kp3.inv.tk
            by_cases hck : chkK f.k f.o f.n f.s f.ws.length f.ds.length = true
            · by_cases hfit : takenOf us + f.takes ≤ lim
              · have kpush := push_ok f _ _ b (b + 1) lim us vl wc kp3.inv hxw hxd hck hfit
                have KP := Lib.hid kpush
                clear kpush
                go_upto_region 16 with fail
                go_upto_region 18 with (go_at_call 11; with_reducible refine KP.out.mono ?_; rintro e' w4 ⟨rfl, vl', vw', vd', I4, F4, hoff4⟩)
                have bel4 := kp3.bel.trans (hoff4.below kp3.bel.size (foot_from kp3.inv w.heap.size hlow))
                have own4 := hoff4.own kp3.own kp3.apart
                have vlt := own_lt kp.own
                have flt := fun g hg => (kp.inv.foot_lt g hg).1
                have ap4 := fun g (hg : Value.ownBlock u7 = some g) (hF : Foot b vl' (us ++ [⟨f, vw', vd'⟩]) g) => (by rcases F4 g hF with q | q; exact kp3.apart g hg q; have := own_lt kp3.own g hg; omega : False)
                have o5 := hoff4.own o3 (fun g hg hF => by have := own_from o3 g hg; have := flt g hF; omega)
                have B4 := hoff4.blk B3 (fun hF => by have := flt _ hF; omega)
                have hlen := kp.len
                have hww : wr.heap.size ≤ w4.heap.size := Nat.le_trans b3.size hoff4.size
                have hgf : ∀ g, Value.ownBlock (.slice p f.ws.length c) = some g → wr.heap.size < g ∧ g < w4.heap.size ∧ ¬ Foot b vl' (us ++ [⟨f, vw', vd'⟩]) g := by
                  intro g hg
                  have h1 := own_from o3 g hg
                  have h2 := own_lt o3 g hg
                  refine ⟨h1, own_lt o5 g hg, fun hF => ?_⟩
                  rcases F4 g hF with h3 | h3
                  · have := flt g h3; omega
                  · omega
                have H3 := Lib.hid c3; have HF := Lib.hid F4; have HF4 := Lib.hid hgf; have HV := Lib.hid vlt; have HFl := Lib.hid flt; have HA := Lib.hid ap4
                clear c3 f3 hoff4 F4 hgf vlt flt ap4
                have cl := fun j c hj => (bel4.cell (p := ⟨bl, ol + k * 8 + j, none⟩) s1).trans (HQ.out j c hj)
                have r1 := cl 1 _ rfl
                have r2 := cl 2 _ rfl
                have r3 := cl 3 _ rfl
                have r4 := cl 4 _ rfl
                have r5 := cl 5 _ rfl
                have r6 := cl 6 _ rfl
                clear cl
                obtain ⟨i1, hj, hy0, hy1, hy2⟩ := info_parts infoF
                go_cut [7] (fun s7 wx => ∃ g7 c7, s7 = .slice (some ⟨g7, 0, none⟩) (rows.length + 1) c7 ∧ After w wx b lim (rows ++ [⟨f, .slice aw f.ws.length cw, .slice ad f.ds.length cd⟩]) (us ++ [⟨f, vw', vd'⟩]) vl' s7 wr.heap.size f.ws.length #[.int .i64 f.k, .int .i64 f.o, .int .i64 f.n, .string f.s, .slice p f.ws.length c, .slice q f.ds.length e] p)
                case first =>
                  go_wp2_with (at_builtin; refine wpList_append_lies _ rfl _ _ 29 rfl (b + 1) 32 i1 _ 6 88 Try.underlying29 hj hy0 hy1 hy2 rfl (by decide) u7 rows.length (flatF rows) rfl (own4.alloc _) ⟨w4.heap.size, 0, none⟩ 1 1 (Row.cells ⟨f, .slice aw f.ws.length cw, .slice ad f.ds.length cd⟩) rfl rfl (frame_news ⟨f, .slice aw f.ws.length cw, .slice ad f.ds.length cd⟩ w4) (by simp [Row.cells, Value.oneCell']) (by decide) (by unfold maxLen; omega) (by omega) (by have := I4.sz; simp; omega) _ rfl ?_; intro g7 c7 w5 hown hgrow hat hlt5)
                  go_wp2
                  go_meet
                  have G5 := off_of_grown hgrow
                  refine ⟨_, _, rfl, ⟨?_, ?_, ?_, ?_, ?_, ?_, ?_⟩, ?_, ?_, ?_⟩
                  · exact (I4.below (Below.alloc (Below.refl _ _) (Nat.le_refl _) _)).off G5 (fun k hk e => HA.out k e.symm hk)
                  · rw [List.length_append, flatF_append, flatF_one]; exact hown
                  · intro g hg hF
                    simp [Value.ownBlock] at hg
                    subst hg
                    rcases hat with h1 | h1
                    · exact HA.out _ h1 hF
                    · have := (I4.foot_lt _ hF).1
                      rw [h1] at this
                      simp at this
                      omega
                  · simp [kp.same]
                  · intro r hr
                    rcases List.mem_append.1 hr with hr | hr
                    · exact kp.at_ r hr
                    · rw [List.mem_singleton] at hr
                      subst hr
                      exact ⟨Hok.out.w, Hok.out.d⟩
                  · exact (bel4.alloc bel4.size _).trans (G5.below (by have := bel4.size; simp; omega) (fun i e => by have := own_from kp.own i e.symm; omega))
                  · exact hlow
                  · exact G5.blk (B4.alloc _) (fun e => by have := HV.out _ e.symm; omega)
                  · intro hl
                    obtain ⟨g, h1, h2, h3⟩ := Raw.of_own o5 hl
                    obtain ⟨h4, h5, h6⟩ := HF4.out g (by rw [h1]; rfl)
                    refine ⟨g, h1, ?_, h4, h6, ?_⟩
                    · exact (h2.below (Below.alloc (Below.refl _ _) (Nat.le_refl _) _) h2.lt).of_same (G5.block g (by simp; omega) (fun e => by have := HV.out _ e.symm; omega)) G5.size
                    · intro e
                      simp [Value.ownBlock] at e
                      subst e
                      rcases hat with h7 | h7
                      · have := HV.out _ h7; omega
                      · simp at h7; omega
                  · exact kp.bel.size
                case rest =>
                  obtain ⟨g7, c7, rfl, af⟩ := hcut
                  clear r1 r2 r3 r4 r5 r6 o3 o4 o5 B4 B3 own4 kp3 I4 b3
                  have cl := fun j c hj => (af.kept.bel.cell (p := ⟨bl, ol + k * 8 + j, none⟩) s1).trans (HQ.out j c hj)
                  have r1 := cl 1 _ rfl
                  have r2 := cl 2 _ rfl
                  have r3 := cl 3 _ rfl
                  have r4 := cl 4 _ rfl
                  have r5 := cl 5 _ rfl
                  have r6 := cl 6 _ rfl
                  clear cl
                  have hwT : IntKind.i64.wrap ((takenOf us : Int) + ((1 + f.ws.length + f.ds.length + (f.s.size + 7) / 8 : Nat) : Int)) = ((takenOf (us ++ [⟨f, vw', vd'⟩]) : Nat) : Int) := by
                    rw [takenOf_append, takenOf_one, Int.natCast_add]
                    show IntKind.i64.wrap ((takenOf us : Int) + (FrD.takes f : Int)) = (takenOf us : Int) + (FrD.takes f : Int)
                    exact IntWalk.i64_in _ (by omega)
                  go_upto_region 20 with (go_at_call 12; with_reducible refine (takes_any f.k f.o f.n f.s aw ad f.ws.length f.ds.length cw cd _ (by omega) (by omega) (by omega)).mono ?_; rintro e' w6 ⟨rfl, hb6⟩; have af6 := af.on hb6)
                  have hsum : (takenOf us : Int) + (1 + (f.ws.length : Int) + (f.ds.length : Int) + ((f.s.size : Int) + 7) / 8) = ((takenOf (us ++ [⟨f, vw', vd'⟩]) : Nat) : Int) := by
                    rw [takenOf_append, takenOf_one]
                    show _ = ((takenOf us + FrD.takes f : Nat) : Int)
                    unfold FrD.takes
                    omega
                  rw [hsum]
                  clear r1 r2 r3 r4 r5 r6 hwT hsum af
                  have hNt := af6.kept.inv.tk
                  obtain ⟨lw, hlw⟩ : ∃ l, f.ws.length = l := ⟨_, rfl⟩
                  rw [hlw] at af6 ⊢
                  have Hlw := Lib.hid hlw
                  obtain ⟨us', hus⟩ : ∃ u, us ++ [⟨f, vw', vd'⟩] = u := ⟨_, rfl⟩
                  rw [hus] at af6 hNt ⊢
                  obtain ⟨rows', hro⟩ : ∃ u, rows ++ [⟨f, .slice aw f.ws.length cw, .slice ad f.ds.length cd⟩] = u := ⟨_, rfl⟩
                  rw [hlw] at hro
                  rw [hro] at af6
                  have hrl : rows'.length ≤ k + 1 := by rw [← hro]; simp; omega
                  have hlw2 : lw ≤ 200 := by omega
                  clear hro hus hlw
                  go_wp2
                  go_loopw [12] (fun i wx => ∃ j : Nat, i = .int .i64 j ∧ j ≤ lw ∧ After w wx b lim rows' us' vl' (.slice (some ⟨g7, 0, none⟩) (rows.length + 1) c7) wr.heap.size lw #[.int .i64 f.k, .int .i64 f.o, .int .i64 f.n, .string f.s, .slice p lw c, .slice q f.ds.length e] p) (fun i _ => lw - (intOf i).toNat)
                  case atStart => exact ⟨0, rfl, Nat.zero_le _, af6⟩
                  case round =>
                    obtain ⟨j, rfl, hj, af7⟩ := hrel
                    have B7 := af7.blk
                    have c7' := B7.cell
                    have t7 := B7.lt
                    by_cases hjl : j < lw
                    · obtain ⟨g, rfl, R7, _⟩ := af7.raw (by omega)
                      have hjI : (j : Int) < (lw : Int) := by omega
                      go_upto_region 23 with fail
                      go_region_with (go_at_call 13; with_reducible refine (num_any 77 _).mono ?_; rintro e' w8 ⟨rfl, hb8⟩; have q8 := below_of_drew hb8; have af8 := af7.on q8; have B8 := B7.below q8 B7.lt; have c8 := B8.cell; have t8 := B8.lt; have R8 := R7.below q8 R7.lt; obtain ⟨u0, hu0⟩ := R8.cell (j * 2) (by omega); obtain ⟨u1, hu1⟩ := R8.cell (j * 2 + 1) (by omega); have fr8 := R8.free)
                      all_goals
                        go_wp2
                        go_roundw
                        case rel => exact ⟨j + 1, by go_num, by omega, (af8.set (by omega) _ _).set (by omega) _ _⟩
                        case measure => simp [intOf]; omega
                    · have d9 : decide ((lim : Int) < (takenOf us' : Nat)) = false := by simp; omega
                      go_wp2_with (go_at_call 14; with_reducible refine (taken_any b (b + 1) lim us' vl' _ af7.kept.inv).mono ?_; rintro e' w9 ⟨rfl, hb9⟩)
                      go_roundw
                      case rel => exact ⟨k + 1, rows', us', vl', by go_num, by omega, hrl, rfl, af7.kept.on hb9⟩
                      case measure => simp [intOf]; omega
              · have kpush := push_full f _ _ b (b + 1) lim us vl wc kp3.inv hxw hxd (by omega) (by omega) (by omega) hck (by omega)
                have KP := Lib.hid kpush
                clear kpush
                have d1 : decide ((lim : Int) < (takenOf us : Nat)) = false := by simp; omega
                go_wp2_with (first | (go_at_call 11; with_reducible refine KP.out.mono ?_; rintro e' w4 ⟨rfl, hb4⟩; have I4 := kp3.inv.below hb4) | (go_at_call 14; with_reducible refine (taken_any b (b + 1) lim us vl w4 I4).mono ?_; rintro e' w5 ⟨rfl, hb5⟩))
                go_roundw
                case rel => exact ⟨k + 1, rows, us, vl, by go_num, by omega, by omega, rfl, (kp3.on hb4).on hb5⟩
                case measure => simp [intOf]; omega
            · have kpush := push_bad f _ _ b (b + 1) lim us vl wc kp3.inv hxw hxd (by simpa using hck)
              have KP := Lib.hid kpush
              clear kpush
              have d1 : decide ((lim : Int) < (takenOf us : Nat)) = false := by simp; omega
              go_wp2_with (first | (go_at_call 11; with_reducible refine KP.out.mono ?_; rintro e' w4 ⟨rfl, hb4⟩; have I4 := kp3.inv.below hb4) | (go_at_call 14; with_reducible refine (taken_any b (b + 1) lim us vl w4 I4).mono ?_; rintro e' w5 ⟨rfl, hb5⟩))
              go_roundw
              case rel => exact ⟨k + 1, rows, us, vl, by go_num, by omega, by omega, rfl, (kp3.on hb4).on hb5⟩
              case measure => simp [intOf]; omega
    · have pp := Popping.of_kept kp
      obtain ⟨pv, cv, rfl⟩ := own_shape kp.own
      have hrl : rows.length ≤ 100 := by omega
      have hrows : ∀ r ∈ rows, r.f.ws.length ≤ 1000000000000 ∧ r.f.ds.length ≤ 1000000000000 := by
        intro r hr
        have h1 := mem_takes hr
        have h2 := kp.taken
        have h3 := kp.inv.tk
        unfold FrD.takes at h1
        omega
      have HR := Lib.hid hrows
      clear hrows
      obtain ⟨n, hn⟩ : ∃ n, rows.length = n := ⟨_, rfl⟩
      rw [hn] at hrl pp ⊢
      have HNn := Lib.hid hn
      have hw0 : IntKind.i64.wrap ((n : Int) - 1) = (n : Int) - 1 := IntWalk.i64_in _ (by omega)
      clear kp hn
      go_wp2
      go_loopw [13] (fun i wx => ∃ (m : Nat) (z : Int) (us' : List Row) (vl' : Value), i = .int .i64 z ∧ z = (m : Int) - 1 ∧ m ≤ n ∧ Popping w wx b lim rows us' m vl' (.slice pv n cv)) (fun i _ => (intOf i + 1).toNat)
      case atStart => exact ⟨n, _, us, vl, rfl, rfl, Nat.le_refl _, pp⟩
      case round =>
        obtain ⟨m, z, us', vl', rfl, hz, hm, pp⟩ := hrel
        rcases m with _ | m
        · have hz0 : z = -1 := by omega
          subst hz0
          clear hz
          have hu := pp.nil
          subst hu
          go_wp2_with (first | (go_at_call 15; with_reducible refine (pop_none b (b + 1) lim vl' _ pp.inv).mono ?_; rintro e w3 ⟨rfl, hb3⟩; have pp3 := pp.on hb3) | (go_at_call 14; with_reducible refine (taken_any b (b + 1) lim [] vl' _ (pp3.inv.below (by ((repeat (first | exact Below.refl _ _ | (refine Below.alloc ?_ (by first | (simp [World.setCell]; done) | (simp [World.setCell]; omega)) _) | (refine Below.setCell ?_ (by first | (simp [World.setCell]; done) | (simp [World.setCell]; omega)) _) | refine Below.drew ?_)))))).mono ?_; rw [show takenOf [] = 0 from rfl]; rintro e w4 ⟨rfl, hb4⟩))
          go_ret
          exact ⟨rfl, (pp3.bel.alloc pp3.bel.size _).trans (hb4.mono (by have := pp3.bel.size; simp; omega))⟩
        · have hz0 : z = (m : Int) := by omega
          subst hz0
          clear hz
          have hmn : m < rows.length := by rw [HNn.out]; omega
          obtain ⟨us0, u, rfl, hu, hsm⟩ := pp.split hmn
          have hmem : rows[m] ∈ rows := List.getElem_mem _
          have hat := pp.at_ _ hmem
          have hlens := HR.out _ hmem
          have hown := pp.own
          rw [← HNn.out] at hown
          obtain ⟨r, hr⟩ : ∃ r, rows[m] = r := ⟨_, rfl⟩
          rw [hr] at hu hat hlens
          have Hr := Lib.hid hr
          clear hr hmem
          obtain ⟨uf, uvw, uvd⟩ := u
          obtain ⟨f, rvw, rvd⟩ := r
          dsimp only at hu hat hlens
          obtain rfl := hu.symm
          have A1 := fun W (hW : Below w.heap.size w W) => hat.1.below hW (Nat.le_refl _)
          have A2 := fun W (hW : Below w.heap.size w W) => hat.2.below hW (Nat.le_refl _)
          obtain ⟨aw, cw, rfl, _⟩ := hat.1
          obtain ⟨ad, cd, rfl, _⟩ := hat.2
          have HA1 := Lib.hid A1; have HA2 := Lib.hid A2
          have kpop := pop_some b (b + 1) lim us0 ⟨f, uvw, uvd⟩ vl' wr pp.inv
          have KP := Lib.hid kpop
          have hw1 : IntKind.i64.wrap ((m : Int) - 1) = (m : Int) - 1 := IntWalk.i64_in _ (by omega)
          have hmI : (m : Int) < (n : Int) := by omega
          clear A1 A2 kpop hat
          go_upto_region 30 with (go_at_call 15; with_reducible refine KP.out.mono ?_; rintro e w3 ⟨vw3, vd3, vl3, rfl, o1, o2, I3, F3, hoff3⟩; dsimp only at *; obtain ⟨p1, y1, rfl⟩ := own_shape o1; obtain ⟨p2, y2, rfl⟩ := own_shape o2)
          generalize hW4 : w3.alloc (Obj.cells #[.int .i64 f.k, .int .i64 f.o, .int .i64 f.n, .string f.s, .slice p1 f.ws.length y1, .slice p2 f.ds.length y2] 32) = W4
          have P4 : Blk W4 w3.heap.size #[.int .i64 f.k, .int .i64 f.o, .int .i64 f.n, .string f.s, .slice p1 f.ws.length y1, .slice p2 f.ds.length y2] := by rw [← hW4]; exact Blk.new w3 _ _
          have k4 : Below w3.heap.size w3 W4 := by rw [← hW4]; ((repeat (first | exact Below.refl _ _ | (refine Below.alloc ?_ (by first | (simp [World.setCell]; done) | (simp [World.setCell]; omega)) _) | (refine Below.setCell ?_ (by first | (simp [World.setCell]; done) | (simp [World.setCell]; omega)) _) | refine Below.drew ?_)))
          have l3 : Below w.heap.size w w3 := pp.bel.trans (hoff3.below pp.bel.size (fun i e => by have := pp.low; omega))
          have l4 := l3.trans (k4.mono l3.size)
          have own3 := hoff3.own hown (fun g hg e => by have := own_from hown g hg; omega)
          have own4 := own_on own3 k4 (own_lt own3)
          have pp4 : Popping w W4 b lim rows us0 m vl3 (.slice pv n cv) := ⟨I3.below k4, by rw [← HNn.out]; exact own4, hsm, pp.at_, l4, pp.low⟩
          have Q1 : ∀ W, Below w3.heap.size w3 W → WAt W (.slice p1 f.ws.length y1) f.ws := fun W h => o1.at.below h (Nat.le_refl _)
          have Q2 : ∀ W, Below w3.heap.size w3 W → WAt W (.slice p2 f.ds.length y2) f.ds := fun W h => o2.at.below h (Nat.le_refl _)
          have HQ1 := Lib.hid Q1; have HQ2 := Lib.hid Q2
          obtain ⟨g, rfl, hgl, hgc⟩ := own_row_cells own4 m hmn
          rw [Hr.out] at hgc
          have r0 := hgc 0 _ rfl
          have r1 := hgc 1 _ rfl
          have r2 := hgc 2 _ rfl
          have r3 := hgc 3 _ rfl
          have r4 := hgc 4 _ rfl
          have r5 := hgc 5 _ rfl
          rw [Nat.add_zero] at r0
          clear hW4 Q1 Q2 o1 o2 hgc own3 own4
          have p4 := P4.cell
          go_region_with (go_at_call 16; with_reducible refine (sameFrame_yes f.k f.o f.n f.s _ _ _ _ f.ws f.ds W4.drew (HQ1.out _ k4.drew) (HA1.out _ l4.drew) (HQ2.out _ k4.drew) (HA2.out _ l4.drew) hlens.1 hlens.2).mono ?_; rintro e w5 ⟨rfl, hb5⟩; have q5 := below_of_drew hb5; have pp5 := pp4.on q5)
          all_goals
            go_wp2
            go_roundw
            case rel => exact ⟨m, (m : Int) - 1, us0, vl3, by go_num, rfl, by omega, pp5⟩
            case measure => simp [intOf]

end Go.Proofs.Ytmnadlgglmhfhaa
