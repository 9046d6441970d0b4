/- LayoutPairs: the law's walk. -/
import Derived.Test.YtnidkdjapieinaaDoorLyO
import Derived.BigQuiet
namespace Go.Proofs.YtnidkdjapieinaaDoor
open Go.RowKit Go.Shelf
set_option linter.unusedSimpArgs false
set_option linter.unusedVariables false

theorem All_one (v : Value) (ts : List Tp) (e : Nat) (W : World) (hv : TRd W v ts) (hl : ts.length ≤ 4000) :
    Calls Tryd.prog 6 #[v, .int .i64 e] W fun ex w' => (∃ (out : Value) (x y : Int) (base : Nat) (xs : List Lxm) (q q' : List It) (bs bs' : List Nat), ex = .returned (.tuple #[out, .agg #[.int .i64 x, .int .i64 y]]) ∧ Runs e (itemsK true ts) xs q bs ∧
      ((nextK e q bs = (.over, q', bs') ∧ x = 0 ∧ y = 0 ∧ LOwn w' base out xs) ∨ (nextK e q bs = (.wrong, q', bs') ∧ x = 5 ∧ y = placeK e q ∧ out = .slice none 0 0))) ∧ Below W.heap.size W w' := by
  refine (All_lex v ts e W hv hl).mono ?_
  rintro ex w' ⟨⟨out, base, xs, q, q', bs, bs', h1, ⟨h2, rfl, h3⟩ | ⟨h2, rfl⟩⟩, hb⟩
  · exact ⟨⟨out, 0, 0, base, xs, q, q', bs, bs', rfl, h1, .inl ⟨h2, rfl, rfl, h3⟩⟩, hb⟩
  · exact ⟨⟨_, 5, _, base, xs, q, q', bs, bs', rfl, h1, .inr ⟨h2, rfl, rfl, rfl⟩⟩, hb⟩

set_option maxRecDepth 100000 in
set_option maxHeartbeats 8000000 in
theorem pairs_walk (s : ByteArray) (hs : s.size ≤ 9223372036854775807) (w : World) :
    Calls Tryd.prog 4 #[.string s] w fun e w' => e = .returned (.bool true) ∧ Below w.heap.size w w' := by
  have hsl : s.data.toList.length = s.size := rfl
  by_cases hbig : 1000 < s.size
  · have d0 : decide ((1000 : Int) < (s.size : Int)) = true := by simp; omega
    go_enter Tryd.func4, Tryd.ntmps4
    go_wp2_with (go_at_call 7; refine (lives_true _).mono ?_; rintro e w0 ⟨rfl, b0⟩)
    go_ret
    exact ⟨rfl, b0⟩
  · have d0 : decide ((1000 : Int) < (s.size : Int)) = false := by simp; omega
    rcases allF_sort s.data.toList with ⟨h1, h2, _⟩ | ⟨h1, h2⟩
    · obtain ⟨ts, hts⟩ : ∃ ts, (allF s.data.toList).2 = ts := ⟨_, rfl⟩
      rw [hts] at h2
      obtain ⟨ss, hlex, hpl⟩ := allK_ok _ _ h2
      have hplace := placed_places _ _ hlex 0 (1, 1) 0 s.size none (by rw [hsl]; omega) ⟨by decide, by decide⟩ rfl
      rw [← hpl] at hplace
      have hpl2 : ∀ t ∈ ts, t.at_ ≤ s.size := by
        intro t ht
        obtain ⟨k, hk, rfl⟩ := List.mem_iff_getElem.1 ht
        obtain ⟨_, _, p3, _, _⟩ := placeAt_of hplace k hk
        omega
      have hNl : ts.length ≤ 1000 := by rw [hpl]; exact Nat.le_trans (placed_len hlex _ _ _) (by omega)
      have HP := Lib.hid hpl2
      have HNl := Lib.hid hNl
      have K := Lib.hid (fun w => all_known s hs (0, 0) ts h1 hts w)
      have KA := Lib.hid (fun v W (hv : TRd W v ts) => All_one v ts s.size W hv (by omega))
      have KS := Lib.hid (fun a b W (ha : TRd W a ts) (hb : TRd W b ts) => same_toks a b _ W ha.gen hb.gen (by rw [List.length_map]; omega))
      have hs' : s.size ≤ 1000 := by omega
      clear h1 h2 hts hlex hpl hplace hpl2 hNl hbig
      go_enter Tryd.func4, Tryd.ntmps4
      go_upto_region 8 with (first | (go_at_call 7; refine (lives_true _).mono ?_; rintro e w0 ⟨rfl, b0⟩) | (go_at_call 5; refine (K.out _).mono ?_; rintro e w1 ⟨v, rfl, ⟨a, cap, rfl, hrd⟩, b1⟩))
      have B1 := (chain b0 b1).alloc (chain b0 b1).size (.cells #[.int .i64 0, .int .i64 0] 25)
      have R1 : TRd (w1.alloc (.cells #[.int .i64 0, .int .i64 0] 25)) (.slice a ts.length cap) ts := TRd.below ⟨a, cap, rfl, hrd⟩ ((Below.refl _ _).alloc (Nat.le_refl _) _)
      generalize w1.alloc (.cells #[.int .i64 0, .int .i64 0] 25) = W at B1 R1 ⊢
      have HR1 := Lib.hid R1
      clear hrd b0 b1 K R1
      go_cut [5, 6] (fun s5 s6 wx => ∃ (z6 : Nat) (out : Value) (x y : Int) (base : Nat) (xs : List Lxm) (q q' : List It) (bs bs' : List Nat), s5 = out ∧ s6 = .pointer (some ⟨z6, 0, none⟩) ∧ Blk wx z6 #[.int .i64 x, .int .i64 y] ∧ Runs s.size (itemsK true ts) xs q bs ∧
        ((nextK s.size q bs = (.over, q', bs') ∧ x = 0 ∧ y = 0 ∧ LOwn wx base out xs) ∨ (nextK s.size q bs = (.wrong, q', bs') ∧ x = 5 ∧ y = placeK s.size q ∧ out = .slice none 0 0)) ∧ Below w.heap.size w wx ∧ TRd wx (.slice a ts.length cap) ts)
      case first =>
        go_wp2_with (go_at_call 6; refine (KA.out _ _ HR1.out).mono ?_; rintro e w2 ⟨⟨out, x, y, base, xs, q, q', bs, bs', rfl, hrun, hc⟩, b2⟩)
        go_meet
        refine ⟨w2.heap.size, out, x, y, base, xs, q, q', bs, bs', rfl, rfl, Blk.new _ _ _, hrun, ?_, ?_, ?_⟩
        · rcases hc with ⟨c1, c2, c3, c4⟩ | hc
          · exact .inl ⟨c1, c2, c3, c4.alloc _⟩
          · exact .inr hc
        · have B2 := B1.trans (b2.mono B1.size)
          exact B2.alloc B2.size _
        · exact (HR1.out.below b2).below ((Below.refl _ _).alloc (Nat.le_refl _) _)
      case rest =>
        obtain ⟨z6, out, x, y, base, xs, q, q', bs, bs', rfl, rfl, BF, hrun, hc, B2, R2⟩ := hcut
        have f0 := BF.cell 0
        have f1 := BF.cell 1
        simp only [List.getElem?_toArray, List.getElem?_cons_zero, List.getElem?_cons_succ] at f0 f1
        rcases hc with ⟨hn, rfl, rfl, hown⟩ | ⟨hn, rfl, rfl, rfl⟩
        · obtain ⟨l1, l2, l3⟩ := runs_end hrun hn
          have hlen : xs.length ≤ 6003 := by have := HNl.out; omega
          obtain ⟨oa, ocap, rfl, hat⟩ := lx_at hown
          obtain ⟨M, hM⟩ : ∃ M, xs.length = M := ⟨_, rfl⟩
          have HM := Lib.hid hM
          have HAT := Lib.hid hat
          have HL1 := Lib.hid l1
          have HL2 := Lib.hid l2
          have HTR := Lib.hid R2
          have HB2 := Lib.hid B2
          have HKS := KS
          obtain ⟨iT, hiT, hzT0, hzT1, hzT2⟩ := info_parts infoT
          obtain ⟨iB, hiB, hzB0, hzB1, hzB2⟩ := info_parts infoB
          rw [hM] at hlen ⊢
          clear hrun hn hown l1 l2 l3 hat hM R2 B2 KA KS HP HR1 B1
          go_upto_region 11 with fail
          generalize wc = Wz at BF f0 f1 HAT HTR HB2 ⊢
          go_wp2
          clear BF f0 f1
          go_loopw [7, 8, 9] (fun vo vb i wr => ∃ (k : Nat) (o : List Bool), i = .int .i64 k ∧ k ≤ M ∧ PI Wz wr Wz.heap.size vo vb (ownK (xs.take k)) o ∧ Hid (lawGo (xs.take k) [] = some o)) (fun _ _ i _ => M - (intOf i).toNat)
          case atStart => exact ⟨0, [], rfl, Nat.zero_le _, ⟨World.ownsRow_nil _ _ _ _, World.ownsRow_nil _ _ _ _, Below.refl _ _, Nat.le_refl _, Nat.le_refl _⟩, Lib.hid rfl⟩
          case round =>
            obtain ⟨k, o, rfl, hk, hI, HG⟩ := hrel
            obtain ⟨po, co, hpo⟩ := own_shape hI.tk
            subst hpo
            obtain ⟨pb, cb, hpb⟩ := own_shape hI.ob
            subst hpb
            by_cases hlt : k < M
            · have e1 : decide ((k : Int) < (M : Int)) = true := by simp; omega
              have e2 : decide (k < M) = true := by simp; omega
              have hkt : k < xs.length := by rw [HM.out]; exact hlt
              obtain ⟨x, hx⟩ : ∃ x, xs[k]? = some x := ⟨_, List.getElem?_eq_getElem hkt⟩
              obtain ⟨b, of, rfl, hb, hc⟩ := HAT.out k x hx
              obtain ⟨o', hst, hg'⟩ := lawGo_at hx HG.out HL1.out
              have hot := own_take hx
              have HG' := Lib.hid hg'
              have hol : o.length ≤ 6003 := by have := lawGo_len _ _ _ HG.out; rw [List.length_take] at this; simp at this; omega
              have htl : (ownK (xs.take k)).length ≤ 6003 := by
                have : (ownK (xs.take k)).length ≤ (xs.take k).length := by unfold ownK; rw [List.length_map]; exact List.length_filter_le _ _
                rw [List.length_take] at this; omega
              have key := fun j c hj => (hI.bel.cell (p := ⟨b, of + k * 8 + j, none⟩) hb).trans (hc j c hj)
              obtain ⟨⟨⟨kd, tx, nu⟩, aa, ln, cl, ff⟩, im⟩ := x
              have d0 := key 0 _ rfl
              have d1 := key 1 _ rfl
              have d2 := key 2 _ rfl
              have d3 := key 3 _ rfl
              have d4 := key 4 _ rfl
              have d5 := key 5 _ rfl
              have d6 := key 6 _ rfl
              have d7 := key 7 _ rfl
              simp only [Nat.add_zero] at d0
              have hI0 := hI.below ((Below.refl _ _).alloc (Nat.le_refl _) (.cells #[.int .i64 kd, .string ⟨tx.toArray⟩, .int .i64 nu, .int .i64 aa, .int .i64 ln, .int .i64 cl, .bool ff] 35))
              have BT := Blk.new wr #[.int .i64 kd, .string ⟨tx.toArray⟩, .int .i64 nu, .int .i64 aa, .int .i64 ln, .int .i64 cl, .bool ff] 35
              have hfar : ∀ g, Value.ownBlock (.slice po (ownK (xs.take k)).length co) = some g → g < wr.heap.size := fun g hg => own_lt hI.tk g hg
              have hd7 := hc 7 _ rfl
              have hfar2 : ∀ g, Value.ownBlock (.slice pb o.length cb) = some g → g < wr.heap.size := fun g hg => own_lt hI.ob g hg
              clear hc key hx hg' hkt
              have hb2 : b < wr.heap.size := Nat.lt_of_lt_of_le hb hI.bel.size
              have hb3 : ¬ b = wr.heap.size := by omega
              go_upto_if 70 with fail
              clear hb2 hb3
              generalize wr.alloc (.cells #[.int .i64 kd, .string ⟨tx.toArray⟩, .int .i64 nu, .int .i64 aa, .int .i64 ln, .int .i64 cl, .bool ff] 35) = Wc at hI0 BT ⊢
              obtain ⟨T, hT⟩ : ∃ T, wr.heap.size = T := ⟨_, rfl⟩
              rw [hT] at hfar hfar2 BT
              have HOT := Lib.hid hot
              have HFAR := Lib.hid hfar
              have HFAR2 := Lib.hid hfar2
              rw [hT]
              clear hot hfar hfar2 hT
              go_cut [7] (fun s7 wx => ∃ p n c, s7 = .slice p n c ∧ PI Wz wx Wz.heap.size s7 (.slice pb o.length cb) (ownK (xs.take (k + 1))) o ∧ Blk wx T #[.int .i64 kd, .string ⟨tx.toArray⟩, .int .i64 nu, .int .i64 aa, .int .i64 ln, .int .i64 cl, .bool ff])
              case first =>
                cases im with
                | true =>
                  go_wp2
                  go_meet
                  exact ⟨po, _, co, rfl, by rw [HOT.out]; simpa using hI0, BT⟩
                | false =>
                  have x0 := BT.cell 0
                  have x1 := BT.cell 1
                  have x2 := BT.cell 2
                  have x3 := BT.cell 3
                  have x4 := BT.cell 4
                  have x5 := BT.cell 5
                  have x6 := BT.cell 6
                  simp only [List.getElem?_toArray, List.getElem?_cons_zero, List.getElem?_cons_succ] at x0 x1 x2 x3 x4 x5 x6
                  go_wp2_with (at_builtin; refine wpList_append_lies _ rfl _ _ 22 rfl Wz.heap.size 35 iT (.agg #[.int .i64 0, .string ⟨#[]⟩, .int .i64 0, .int .i64 0, .int .i64 0, .int .i64 0, .bool false]) 7 64 Tryd.underlying22 hiT hzT0 hzT1 hzT2 rfl (by decide) _ (ownK (xs.take k)).length (tflat (ownK (xs.take k))) rfl (hI0.tk.alloc _) ⟨Wc.heap.size, 0, none⟩ 1 1 [.int .i64 kd, .string ⟨tx.toArray⟩, .int .i64 nu, .int .i64 aa, .int .i64 ln, .int .i64 cl, .bool ff] rfl rfl (cells_new Wc #[.int .i64 kd, .string ⟨tx.toArray⟩, .int .i64 nu, .int .i64 aa, .int .i64 ln, .int .i64 cl, .bool ff] 35) (by simp [Value.oneCell']) (by decide) (by unfold maxLen; omega) (by omega) (by have := hI0.hi; simp; omega) _ rfl ?_)
                  intro g cap w5 hown hgrow hat hglt
                  have hI5 := (hI0.below ((Below.refl _ _).alloc (Nat.le_refl _) _)).tok (t := ⟨⟨kd, tx, nu⟩, aa, ln, cl, ff⟩) hgrow rfl hown
                  have BT5 := (BT.alloc _).grown hgrow (fun h => by have := HFAR.out _ h.symm; omega)
                  clear hown hgrow hat hglt
                  go_wp2
                  go_meet
                  exact ⟨_, _, _, rfl, by rw [HOT.out]; exact hI5, BT5⟩
              case rest =>
                obtain ⟨p7, n7, c7, rfl, hI1, BT1⟩ := hcut
                have y0 := BT1.cell 0
                have y1 := BT1.cell 1
                simp only [List.getElem?_toArray, List.getElem?_cons_zero, List.getElem?_cons_succ] at y0 y1
                have d7' := (hI1.bel.cell (p := ⟨b, of + k * 8 + 7, none⟩) hb).trans hd7
                clear d0 d1 d2 d3 d4 d5 d6 d7 hI hI0 BT hd7
                have HI1 := Lib.hid hI1
                by_cases hk8 : kd = 8
                · subst hk8
                  obtain ⟨u, hu⟩ : ∃ u : ByteArray, ⟨tx.toArray⟩ = u := ⟨_, rfl⟩
                  have hud : u.toList = tx := by rw [← hu, Lib.toList_data]
                  by_cases h3 : tx = [123]
                  · have e3 : (u.toList == [123]) = true := by rw [hud, h3]; rfl
                    have e4 : (u.toList == [125]) = false := by rw [hud, h3]; rfl
                    have ho : o' = im :: o := by unfold lawStep isMk at hst; simp [h3] at hst; exact hst.symm
                    have HO' := Lib.hid ho
                    have BTu := BT1
                    rw [hu] at y1 BTu
                    have hbh := HI1.out.ob
                    clear hst hud h3 hI1 BT1 ho hu
                    go_wp2_with (at_builtin; go_loud (refine wpList_append_lies _ rfl _ _ 33 rfl Wz.heap.size 4 iB (.bool false) 1 1 Tryd.underlying33 hiB hzB0 hzB1 hzB2 rfl (by decide) _ o.length (o.reverse.map Value.bool) rfl (hbh.alloc _) ⟨wc.heap.size, 0, none⟩ 1 1 [.bool im] rfl rfl (cells_new wc #[.bool im] 4) (by simp [Value.oneCell']) (by decide) (by unfold maxLen; omega) (by omega) (by have := HI1.out.hi; simp; omega) _ rfl ?_))
                    intro g cap w5 hown hgrow hat hglt
                    rw [← List.map_reverse] at hown
                    have hI5 := (HI1.out.below ((Below.refl _ _).alloc (Nat.le_refl _) _)).push hgrow rfl hown
                    have BT5 := (BTu.alloc _).grown hgrow (fun h => by have := HFAR2.out _ h.symm; omega)
                    have z1 := BT5.cell 1
                    simp only [List.getElem?_toArray, List.getElem?_cons_zero, List.getElem?_cons_succ] at z1
                    clear hown hgrow hat hglt BTu BT5 hbh
                    go_wp2
                    go_roundw
                    case rel => exact ⟨k + 1, im :: o, by go_num, by omega, hI5, by rw [← HO'.out]; exact HG'⟩
                    case measure => simp [intOf]; omega
                  · have e3 : (u.toList == [123]) = false := by rw [hud, beq_eq_false_iff_ne]; exact h3
                    by_cases h5 : tx = [125]
                    · have e4 : (u.toList == [125]) = true := by rw [hud, h5]; rfl
                      unfold lawStep isMk at hst
                      simp [h5] at hst
                      cases o with
                      | nil => simp at hst
                      | cons b0 o1 =>
                        simp at hst
                        obtain ⟨rfl, ho⟩ := hst
                        have HO' := Lib.hid ho
                        obtain ⟨gb, rfl, hcell, hcap⟩ := HI1.out.top rfl
                        rw [hu] at y1
                        simp only [List.length_cons] at hol ⊢
                        obtain ⟨L, hL⟩ : ∃ L, o1.length = L := ⟨_, rfl⟩
                        have HL := Lib.hid hL
                        rw [hL] at hcell hcap hol ⊢
                        have q0 : ((L : Int) + 1 == 0) = false := by rw [beq_eq_false_iff_ne]; omega
                        have q1 : (L : Int) + 1 - 1 = L := by omega
                        have q2 : IntKind.i64.wrap (L : Int) = L := IntWalk.i64_in _ (by omega)
                        have q3 : (b0 != b0) = false := by simp
                        clear hud h3 h5 hI1 BT1 ho hu hL
                        go_wp2
                        go_quiet (fail)
                        go_wp2
                        go_roundw
                        case rel => exact ⟨k + 1, o1, by go_num, by omega, by rw [← HL.out]; exact ((HI1.out.pop (n := o1.length) rfl).below (below_drewN (Below.refl _ _) _)), by rw [HO'.out]; exact HG'⟩
                        case measure => simp [intOf]; omega
                    · have e4 : (u.toList == [125]) = false := by rw [hud, beq_eq_false_iff_ne]; exact h5
                      have ho : o' = o := by unfold lawStep isMk at hst; simp [h3, h5] at hst; exact hst.symm
                      have HO' := Lib.hid ho
                      rw [hu] at y1
                      clear hst hud h3 h5 hI1 BT1 ho hu
                      go_wp2
                      go_roundw
                      case rel => exact ⟨k + 1, o, by go_num, by omega, HI1.out, by rw [← HO'.out]; exact HG'⟩
                      case measure => simp [intOf]; omega
                · have z0 : ((kd : Int) != 8) = true := by rw [bne_iff_ne]; omega
                  have ho : o' = o := by unfold lawStep isMk at hst; simp [hk8] at hst; exact hst.symm
                  have HO' := Lib.hid ho
                  clear hst hI1 BT1 ho
                  go_wp2
                  go_roundw
                  case rel => exact ⟨k + 1, o, by go_num, by omega, HI1.out, by rw [← HO'.out]; exact HG'⟩
                  case measure => simp [intOf]; omega
            · have e1 : decide ((k : Int) < (M : Int)) = false := by simp; omega
              have e2 : decide (k < M) = false := by simp; omega
              have hkM : k = M := by omega
              subst hkM
              have hT : xs.take k = xs := List.take_of_length_le (by rw [HM.out]; exact Nat.le_refl _)
              have hg := HG.out
              rw [hT, HL1.out] at hg
              cases hg
              rw [hT, HL2.out] at hI
              have hown := hI.tk.rd
              have HS := Lib.hid (HKS.out _ _ wr hown (HTR.out.below hI.bel))
              have hbl := hI.bel
              have HB := Lib.hid (HB2.out.trans (hI.bel.mono HB2.out.size))
              simp only [List.length_nil]
              rw [hT, HL2.out]
              clear hI hown hbl
              go_wp2_with (go_at_call 9; refine HS.out.mono ?_; rintro e w9 ⟨rfl, b9⟩)
              go_ret
              exact ⟨rfl, HB.out.trans (b9.mono HB.out.size)⟩
        · have hP := runs_place hrun HP.out
          obtain ⟨P, hPe⟩ : ∃ P, placeK s.size q = P := ⟨_, rfl⟩
          rw [hPe] at hP f1
          have g1 : decide ((0 : Int) ≤ (P : Int)) = true := decide_eq_true (by omega)
          have g2 : decide ((P : Int) ≤ (s.size : Int)) = true := decide_eq_true (by omega)
          clear hrun hn BF hPe R2 KA KS HP
          go_wp2
          go_ret
          exact ⟨rfl, B2⟩
    · obtain ⟨⟨x, y⟩, hx⟩ : ∃ x, (allF s.data.toList).1 = x := ⟨_, rfl⟩
      have K := Lib.hid (fun w => all_known s hs (x, y) [] hx h2 w)
      rw [hx] at h1
      have d1 : (x == 0) = false := by rw [beq_eq_false_iff_ne]; exact h1
      clear hx h2 h1
      go_enter Tryd.func4, Tryd.ntmps4
      go_wp2_with (first | (go_at_call 7; refine (lives_true _).mono ?_; rintro e w0 ⟨rfl, b0⟩) | (go_at_call 5; refine (K.out _).mono ?_; rintro e w1 ⟨v, rfl, ⟨a, cap, rfl, hrd⟩, b1⟩))
      go_ret
      exact ⟨rfl, (chain b0 b1).alloc (chain b0 b1).size _⟩
end Go.Proofs.YtnidkdjapieinaaDoor
