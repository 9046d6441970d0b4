/- The law FramesTurns: its walk. -/
import Derived.Test.YtmnadlgglmhfhaaTurnsA
namespace Go.Proofs.Ytmnadlgglmhfhaa
open Go.RowKit
set_option linter.unusedSimpArgs false

theorem two_new (W : World) (c1 c2 : Array Value) (t : TypeId) : Blk ((W.alloc (.cells c1 t)).alloc (.cells c2 t)).drew W.heap.size c1 ∧ Blk ((W.alloc (.cells c1 t)).alloc (.cells c2 t)).drew (W.heap.size + 1) c2 ∧ Below W.heap.size W ((W.alloc (.cells c1 t)).alloc (.cells c2 t)).drew := by
  have h := Blk.new (W.alloc (.cells c1 t)) c2 t
  rw [World.size_alloc] at h
  exact ⟨((Blk.new W c1 t).alloc _).drew, h.drew, by ((repeat (first | exact Below.refl _ _ | (refine Below.alloc ?_ (by first | (simp [World.setCell]; done) | (simp [World.setCell]; omega)) _) | (refine Below.setCell ?_ (by first | (simp [World.setCell]; done) | (simp [World.setCell]; omega)) _) | refine Below.drew ?_)))⟩

set_option maxHeartbeats 1000000 in
theorem turns_big (v : Value) (xs : List ActD) (n : Int) (w : World) (h : ActsAt w v xs) (hl : xs.length ≤ 1000000000000000) (hs : smallL xs = false) :
    Calls Try.prog 5 #[v, .int .i64 n] w fun e w' => e = .returned (.bool true) ∧ Below w.heap.size w w' := by
  have k1 := fun W (hW : Below w.heap.size w W) => small_any v xs W (h.below hW) hl
  rw [hs] at k1
  have K1 := Lib.hid k1
  obtain ⟨a, c, rfl, _⟩ := h
  clear k1
  go_enter Try.func5, Try.ntmps5
  go_wp2_with (first | (go_at_call 8; refine (lives_true _).mono ?_; rintro e w0 ⟨rfl, hb0⟩) | (go_at_call 9; refine (K1.out _ hb0).mono ?_; rintro e w1 ⟨rfl, hb1⟩))
  go_ret
  exact ⟨rfl, hb0.trans (hb1.mono hb0.size)⟩

set_option maxRecDepth 100000 in
set_option maxHeartbeats 8000000 in
theorem turns_main (v : Value) (xs : List ActD) (n : Int) (w : World) (h : ActsAt w v xs) (hs : smallL xs = true) :
    Calls Try.prog 5 #[v, .int .i64 n] w fun e w' => e = .returned (.bool true) ∧ Below w.heap.size w w' := by
  have hN100 : xs.length ≤ 100 := by
    unfold smallL at hs
    simp only [Bool.and_eq_true, decide_eq_true_eq] at hs
    exact hs.2
  have hsm : ∀ x ∈ xs, smallA x = true := by
    unfold smallL at hs
    simp only [Bool.and_eq_true, decide_eq_true_eq, List.all_eq_true] at hs
    exact hs.1
  have k1 := fun W (hW : Below w.heap.size w W) => small_any v xs W (h.below hW) (by omega)
  rw [hs] at k1
  have K1 := Lib.hid k1
  obtain ⟨a, cap, rfl, hc, ho⟩ := h
  obtain ⟨N, hN⟩ : ∃ n, xs.length = n := ⟨_, rfl⟩
  have HN := Lib.hid hN
  rw [hN] at hc hN100 K1 ⊢
  have Hc := Lib.hid hc; have Ho := Lib.hid ho; have Hsm := Lib.hid hsm
  clear hc ho hN k1 hs hsm
  have k2 := fun W => new_any 4194304 W (by omega)
  have K2 := Lib.hid k2
  clear k2
  go_enter Try.func5, Try.ntmps5
  go_wp2_with (first | (go_at_call 8; refine (lives_true _).mono ?_; rintro e w0 ⟨rfl, hb0⟩) | (go_at_call 9; refine (K1.out _ hb0).mono ?_; rintro e w1 ⟨rfl, hb1⟩) | (go_at_call 10; refine (K2.out _).mono ?_; rintro e w2 ⟨b, rfl, hB, hbl, hb2⟩))
  have l2 := (hb0.trans (hb1.mono hb0.size)).trans (hb2.mono (Nat.le_trans hb0.size hb1.size))
  have hlow : w.heap.size ≤ b := Nat.le_trans (Nat.le_trans hb0.size hb1.size) hbl
  have I2 := SInv.start (lim := 4194304) hB (Nat.le_refl _)
  clear hB hb0 hb1 hb2 hbl
  go_loopw [7] (fun i wr => ∃ (k : Nat) (us : List Row) (vl : Value), i = .int .i64 k ∧ k ≤ N ∧ SInv wr b (b + 1) 4194304 us vl ∧ Below w.heap.size w wr) (fun i _ => N - (intOf i).toNat)
  case atStart => exact ⟨0, [], _, rfl, Nat.zero_le _, I2, l2⟩
  case round =>
    obtain ⟨k, us, vl, rfl, hk, I, hb⟩ := hrel
    by_cases hlt : k < N
    · obtain ⟨bl, ol, rfl, s1, q1⟩ := Hc.out (by omega)
      obtain ⟨x, hx⟩ : ∃ x, xs[k]? = some x := ⟨xs[k]'(by rw [HN.out]; exact hlt), List.getElem?_eq_getElem _⟩
      have hxm : x ∈ xs := List.mem_of_getElem? hx
      have hok := Ho.out x hxm
      have hsa := Hsm.out x hxm
      have q := q1 k x hx
      clear q1 hx hxm
      have HQ := Lib.hid q; have Hok := Lib.hid hok; have Hsa := Lib.hid hsa
      obtain ⟨x0, f, vw, vd, va, la⟩ := x
      obtain ⟨⟨aw, cw, e1, _⟩, ⟨ad, cd, e2, _⟩, ⟨pa, ca, e3⟩, nw, nd, ns, sw, sd⟩ := hok
      dsimp only at e1 e2 e3 nw nd ns sw sd
      subst e1; subst e2; subst e3
      clear hsa
      have hltI : (k : Int) < (N : Int) := by omega
      have cl := fun j c hj => (hb.cell (p := ⟨bl, ol + k * 8 + j, none⟩) s1).trans (HQ.out j c hj)
      have r1 := cl 1 _ rfl
      have r2 := cl 2 _ rfl
      have r3 := cl 3 _ rfl
      have r4 := cl 4 _ rfl
      have r5 := cl 5 _ rfl
      have r6 := cl 6 _ rfl
      clear cl q
      have hsz : f.ws.length + f.ds.length ≤ 200 ∧ f.s.size ≤ 5000 := by
        have := Hsa.out
        unfold smallA at this
        simp at this
        omega
      clear nw nd ns
      have kpush := push_any f _ _ b (b + 1) 4194304 us vl wr I (Hok.out.w.below hb (Nat.le_refl _)) (Hok.out.d.below hb (Nat.le_refl _)) (by omega) (by omega) (by omega)
      have KP := Lib.hid kpush
      clear kpush
      go_wp2_with (go_at_call 11; with_reducible refine KP.out.mono ?_; rintro e' w4 ⟨z, us', vl', rfl, I4, hoff4⟩)
      go_roundw
      case rel => exact ⟨k + 1, us', vl', by go_num, by omega, I4, hb.trans (hoff4.below hb.size (foot_from I w.heap.size hlow))⟩
      case measure => simp [intOf]; omega
    · clear Hc Ho Hsm K1 K2 I2 l2
      have htk := I.tk
      have hwl := wordsAll_len us
      have hfl := fun i hi => (I.foot_lt i hi).1
      go_upto_region 13 with (first | (go_at_call 21; with_reducible refine (all_any b (b + 1) 4194304 us vl _ I).mono ?_; rintro e w3 ⟨vwas, us1, rfl, fs3, hus1, hb3⟩; have I3 := I.below hb3; have l3 := hb.trans (hb3.mono hb.size)) | (go_at_call 18; with_reducible refine (words_any b (b + 1) 4194304 us vl w3 I3).mono ?_; rintro e w4 ⟨vw4, rfl, o4, hb4⟩; have I4 := I3.below hb4; have fs4 := fs3.below hb4; have l4 := l3.trans (hb4.mono l3.size)) | (go_at_call 14; with_reducible refine (taken_any b (b + 1) 4194304 us vl w4 I4).mono ?_; rintro e w5 ⟨rfl, hb5⟩))
      have l5 := l4.trans (hb5.mono l4.size)
      obtain ⟨p8, c8, rfl⟩ := own_shape fs4.own
      obtain ⟨p9, c9, rfl⟩ := own_shape o4
      obtain ⟨B1, hB1⟩ : ∃ z, wr.heap.size = z := ⟨_, rfl⟩
      have hB1w : B1 ≤ w5.heap.size := by have := hb3.size; have := hb4.size; have := hb5.size; omega
      have T5 : Turning w w5 b B1 w5.heap.size us vl (.slice p8 us1.length c8) (.slice p9 (wordsAll us).length c9) (.slice none 0 0) us1 (wordsAll us) [] := by
        have fs5 := fs4.below hb5
        have o5 : WOwn w5 wr.heap.size (.slice p9 (wordsAll us).length c9) (wordsAll us) := own_on (own_low o4 hb3.size) hb5 (own_lt o4)
        rw [← hB1]
        exact ⟨I4.below hb5, hfl, fs5, o5, World.ownsRow_nil _ _ _ _, by omega, Nat.le_refl _, own_lt fs5.own, fun u hu g hg => by
          rcases hg with hg | hg
          · exact own_lt (fs5.wrd u hu).1 g hg
          · exact own_lt (fs5.wrd u hu).2 g hg, own_lt o5, l5, hlow⟩
      obtain ⟨B2, hB2⟩ : ∃ z, w5.heap.size = z := ⟨_, rfl⟩
      rw [hB2] at T5
      obtain ⟨M, hM⟩ : ∃ z, (wordsAll us).length = z := ⟨_, rfl⟩
      have HM := Lib.hid hM; have HU := Lib.hid hus1
      have hM2 : M ≤ 4194304 := by omega
      have hl1 : us1.length = us.length := by simpa using congrArg List.length hus1
      have HL1 := Lib.hid hl1
      obtain ⟨K, hK⟩ : ∃ z, us1.length = z := ⟨_, rfl⟩
      have HK := Lib.hid hK
      have hK2 : K ≤ 4194304 := by have := len_le_taken us; omega
      have hcw : M ≤ c9 := by rw [← hM]; exact own_cap o4
      rw [hM, hK] at T5
      rw [hM, hK]
      clear I I3 I4 fs3 fs4 o4 hb3 hb4 hb5 l3 l4 l5 hb hM hus1 hl1 hK hB1 hfl hB2 hB1w
      go_wp2
      go_loopw [11, 12] (fun oth i wr => ∃ (j : Nat) (p : Option Addr) (c : Nat) (ls : List Wd), i = .int .i64 j ∧ j ≤ M ∧ oth = .slice p j c ∧ ls.length = j ∧ Turning w wr b B1 B2 us vl (.slice p8 K c8) (.slice p9 M c9) oth us1 (wordsAll us) ls) (fun _ i _ => M - (intOf i).toNat)
      case atStart => exact ⟨0, none, 0, [], rfl, Nat.zero_le _, rfl, rfl, T5⟩
      case round =>
        obtain ⟨j, p, c, ls, rfl, hj, rfl, hls, T⟩ := hrel
        by_cases hjl : j < M
        · have hjI : (j : Int) < (M : Int) := by omega
          go_wp2_with (first | (go_at_call 13; with_reducible refine (num_any _ _).mono ?_; rintro e w6 ⟨rfl, hb6⟩; have T6 := T.on hb6) | (at_builtin; refine wpList_append_keep rfl _ _ 30 rfl Try.underlying30 B2 (.slice p j c) ls rfl (T6.oth.alloc _) ⟨w6.heap.size, 0, none⟩ (1, _) rfl (World.news_of_block (heap_alloc_new w6 _)) (by omega) (by have := T6.b2w; simp; omega) ?_; intro p7 c7 w7 o7 o7' g7))
          subst hls
          refine ⟨⟨ls.length + 1, p7, c7, _, by simp, by omega, rfl, by rw [List.length_append, List.length_singleton], (T6.on (Below.alloc (Below.refl _ _) (Nat.le_refl _) _)).grown (off_of_grown g7) (fun i e => own_from T.oth i e.symm) o7⟩, by simp [intOf]; omega⟩
        · have hjM : j = M := by omega
          subst hjM
          have hcp : j ≤ c := own_cap (n := j) (xs := flat ls) (by have h := T.oth; unfold WOwn at h; rw [hls] at h; exact h)
          have heq : ls.length = (wordsAll us).length := by rw [HM.out]; exact hls
          have htw := turn_words us ls heq
          have htt := turn_taken us ls heq
          have Heq := Lib.hid heq; have Htw := Lib.hid htw; have Htt := Lib.hid htt; have Hls := Lib.hid hls
          clear heq htw htt
          go_upto_region 20 with (first | (go_at_call 13; with_reducible refine (num_any _ _).mono ?_; rintro e w6 ⟨rfl, hb6⟩; have T6 := T.on hb6) | (at_builtin; refine wpList_append_keep rfl _ _ 30 rfl Try.underlying30 B2 (.slice p j c) ls rfl (T6.oth.alloc _) ⟨w6.heap.size, 0, none⟩ (1, _) rfl (World.news_of_block (heap_alloc_new w6 _)) (by omega) (by have := T6.b2w; simp; omega) ?_; intro p7 c7 w7 o7 o7' g7; have T7 := (T6.on (Below.alloc (Below.refl _ _) (Nat.le_refl _) _)).grown (off_of_grown g7) (fun i e => own_from T.oth i e.symm) o7') | (go_at_call 19; with_reducible refine (turn_bad b (b + 1) 4194304 us vl w7 T7.inv p7 (j + 1) c7 (by rw [HM.out]; omega)).mono ?_; rintro e w8 ⟨rfl, hb8⟩; have T8 := T7.on hb8) | (go_at_call 19; with_reducible refine (turn_ok b (b + 1) 4194304 us vl w8 T8.inv p j c ls Hls.out hcp (WOwn.at T8.oth) Heq.out T8.apartO).mono ?_; rintro e w9 ⟨rfl, I9, hoff9⟩; have T9 := T8.turned ls I9 hoff9) | (go_at_call 18; with_reducible refine (words_any b (b + 1) 4194304 _ vl w9 T9.inv).mono ?_; rw [Htw.out]; rintro e w10 ⟨v10, rfl, o10, hb10⟩; have T10 := T9.on hb10) | (go_at_call 22; with_reducible refine (sameWords_yes v10 (.slice p j c) ls w10 (WOwn.at o10) (WOwn.at T10.oth) (by have := Hls.out; omega)).mono ?_; rintro e w11 ⟨rfl, hb11⟩; have T11 := T10.on hb11) | (go_at_call 14; with_reducible refine (taken_any b (b + 1) 4194304 _ vl w11 T11.inv).mono ?_; rw [Htt.out]; rintro e w12 ⟨rfl, hb12⟩; have T12 := T11.on hb12))
          go_upto_region 21 with (go_at_call 21; with_reducible refine (all_any b (b + 1) 4194304 _ vl w12 T12.inv).mono ?_; rintro e w13 ⟨v13, us2, rfl, fs13, hus2, hb13⟩; have T13 := T12.on hb13)
          obtain ⟨p13, c13, rfl⟩ := own_shape fs13.own
          have hl2 : us2.length = K := by
            have h1 := congrArg List.length hus2
            simp only [List.length_map, turnRows_len] at h1
            have h2 := HL1.out
            have h3 := HK.out
            omega
          have hshape : us2.map (fun u => (u.f.k, u.f.o, u.f.n, u.f.s, u.f.ws.length, u.f.ds.length)) = us1.map (fun u => (u.f.k, u.f.o, u.f.n, u.f.s, u.f.ws.length, u.f.ds.length)) := by
            have h1 := turn_shape us ls Heq.out
            have e : ∀ l : List Row, l.map (fun u => (u.f.k, u.f.o, u.f.n, u.f.s, u.f.ws.length, u.f.ds.length)) = (l.map Row.f).map (fun f => (f.k, f.o, f.n, f.s, f.ws.length, f.ds.length)) := by
              intro l
              rw [List.map_map]
              rfl
            rw [e, hus2, ← e, h1, e, e, HU.out]
          obtain ⟨B3, hB3⟩ : ∃ z, w12.heap.size = z := ⟨_, rfl⟩
          rw [hB3] at fs13
          have HL2 := Lib.hid hl2; have HSh := Lib.hid hshape
          rw [hl2]
          rw [hl2] at fs13
          clear T T6 T7 T8 T9 T10 T11 T12 I9 o7 o7' o10 hus2 hshape hl2 hb6 hb8 hb10 hb11 hb12 hb13 hoff9 g7 hB3 T5
          go_wp2
          go_loopw [14] (fun i wr => ∃ m : Nat, i = .int .i64 m ∧ m ≤ K ∧ Turning w wr b B1 B2 (turnRows us ls) vl (.slice p8 K c8) (.slice p9 j c9) (.slice p j c) us1 (wordsAll us) ls ∧ Frs wr B3 (.slice p13 K c13) us2) (fun i _ => K - (intOf i).toNat)
          case atStart => exact ⟨0, rfl, Nat.zero_le _, T13, fs13⟩
          case round =>
            obtain ⟨m, rfl, hm, T, fs⟩ := hrel
            by_cases hmK : m < K
            · have hm1 : m < us1.length := by rw [HK.out]; exact hmK
              have hm2 : m < us2.length := by rw [HL2.out]; exact hmK
              have oa := T.was.own
              have ob := fs.own
              rw [← HK.out] at oa
              rw [← HL2.out] at ob
              obtain ⟨g1, rfl, hg1, hc1⟩ := own_row_cells oa m hm1
              obtain ⟨g2, rfl, hg2, hc2⟩ := own_row_cells ob m hm2
              have he : (us2[m].f.k, us2[m].f.o, us2[m].f.n, us2[m].f.s, us2[m].f.ws.length, us2[m].f.ds.length) = (us1[m].f.k, us1[m].f.o, us1[m].f.n, us1[m].f.s, us1[m].f.ws.length, us1[m].f.ds.length) := by
                have h1 : (us2.map (fun u => (u.f.k, u.f.o, u.f.n, u.f.s, u.f.ws.length, u.f.ds.length)))[m]? = (us1.map (fun u => (u.f.k, u.f.o, u.f.n, u.f.s, u.f.ws.length, u.f.ds.length)))[m]? := by rw [HSh.out]
                simpa [hm1, hm2] using h1
              have wa := T.was.wrd us1[m] (List.getElem_mem _)
              have wb := fs.wrd us2[m] (List.getElem_mem _)
              obtain ⟨u1, hu1⟩ : ∃ u, us1[m] = u := ⟨_, rfl⟩
              obtain ⟨u2, hu2⟩ : ∃ u, us2[m] = u := ⟨_, rfl⟩
              rw [hu1] at hc1 he wa
              rw [hu2] at hc2 he wb
              obtain ⟨⟨fk, fo, fn, fs', ws1, ds1⟩, a1, b1⟩ := u1
              obtain ⟨⟨fk2, fo2, fn2, fs2, ws2, ds2⟩, a2, b2⟩ := u2
              dsimp only at he wa wb
              simp only [Prod.mk.injEq] at he
              obtain ⟨rfl, rfl, rfl, rfl, hlw, hld⟩ := he
              obtain ⟨q1, x1, rfl⟩ := own_shape wa.1
              obtain ⟨q2, x2, rfl⟩ := own_shape wa.2
              obtain ⟨q3, x3, rfl⟩ := own_shape wb.1
              obtain ⟨q4, x4, rfl⟩ := own_shape wb.2
              have r0 := hc1 0 _ rfl
              have r1 := hc1 1 _ rfl
              have r2 := hc1 2 _ rfl
              have r3 := hc1 3 _ rfl
              have r4 := hc1 4 _ rfl
              have r5 := hc1 5 _ rfl
              rw [Nat.add_zero] at r0
              have t0 := hc2 0 _ rfl
              have t1 := hc2 1 _ rfl
              have t2 := hc2 2 _ rfl
              have t3 := hc2 3 _ rfl
              have t4 := hc2 4 _ rfl
              have t5 := hc2 5 _ rfl
              rw [Nat.add_zero] at t0
              rw [hlw] at t4
              rw [hld] at t5
              have hmI : (m : Int) < (K : Int) := by omega
              clear hc1 hc2 hu1 hu2 wa wb oa ob hlw hld
              go_upto_region 26 with fail
              go_cut [15, 16] (fun s15 s16 wx => ∃ n1 n2, s15 = .pointer (some ⟨n1, 0, none⟩) ∧ s16 = .pointer (some ⟨n2, 0, none⟩) ∧ Blk wx n1 #[.int .i64 fk2, .int .i64 fo2, .int .i64 fn2, .string fs2, .slice q1 ws1.length x1, .slice q2 ds1.length x2] ∧
                Blk wx n2 #[.int .i64 fk2, .int .i64 fo2, .int .i64 fn2, .string fs2, .slice q3 ws1.length x3, .slice q4 ds1.length x4] ∧ Below wr.heap.size wr wx)
              case first =>
                go_region_with fail
                all_goals
                  go_wp2
                  go_meet
                  first
                    | exact ⟨_, _, rfl, rfl, (two_new wr _ _ _).1, (two_new wr _ _ _).2.1, (two_new wr _ _ _).2.2⟩
                    | exact ⟨_, _, rfl, rfl, (two_new wr _ _ _).2.1, (two_new wr _ _ _).1, (two_new wr _ _ _).2.2⟩
              case rest =>
                obtain ⟨n1, n2, rfl, rfl, E1, E2, hbE⟩ := hcut
                have d1 := E1.cell
                have d2 := E2.cell
                clear r0 r1 r2 r3 r4 r5 t0 t1 t2 t3 t4 t5
                go_wp2
                go_roundw
                case rel => exact ⟨m + 1, by go_num, by omega, T.on hbE, fs.below hbE⟩
                case measure => simp [intOf]; omega
            · have hback : (turnRows (turnRows us ls) (wordsAll us)).map Row.f = us1.map Row.f := by rw [turn_back us ls Heq.out, HU.out]
              have HB := Lib.hid hback
              clear hback T13 fs13
              go_wp2_with (first | (go_at_call 19; with_reducible refine (turn_ok b (b + 1) 4194304 _ vl _ T.inv p9 j c9 (wordsAll us) HM.out hcw (WOwn.at T.wrd) (by rw [Htw.out, HM.out, Hls.out]) T.apartW).mono ?_; rintro e w14 ⟨rfl, I14, hoff14⟩; have T14 := T.turned (wordsAll us) I14 hoff14) | (go_at_call 21; with_reducible refine (all_any b (b + 1) 4194304 _ vl w14 T14.inv).mono ?_; rintro e w15 ⟨v15, us3, rfl, fs15, hus3, hb15⟩; have T15 := T14.on hb15; have HU3 : Hid (us3.map Row.f = us1.map Row.f) := Lib.hid (by rw [hus3, HB.out]); have HT3 : Hid (takenOf us3 ≤ 4194304) := Lib.hid (by rw [taken_map, HU3.out, HU.out, ← taken_map]; exact htk); clear hus3) | (go_at_call 23; with_reducible refine (sameFrames_yes _ _ v15 (.slice p8 K c8) us3 us1 w15 fs15 T15.was HU3.out HT3.out).mono ?_; rintro e w16 ⟨rfl, hb16⟩))
              go_ret
              exact ⟨rfl, T15.bel.trans (hb16.mono T15.bel.size)⟩

end Go.Proofs.Ytmnadlgglmhfhaa
