/- PlayerBack, walked. -/
import Derived.Test.YtbjlnllbcgghlaaDoorPyW
namespace Go.Proofs.YtbjlnllbcgghlaaDoor
open Go.RowKit Go.Shelf
set_option linter.unusedSimpArgs false
set_option linter.unusedVariables false

theorem plain_small {l : List PlD} (h : chkK l = 0) (hs : smallK l) : smallK (plainK l) := by
  obtain ⟨-, -, h3, h4, -⟩ := plain_all h
  exact ⟨Nat.le_trans h3 hs.1, Nat.le_trans h4 hs.2⟩
theorem text_size {l : List PlD} (h : chkK l = 0) (hs : smallK l) : (mkW (textK l)).size ≤ 1000000 := by
  have := small_text hs (chk_zero h).2
  show (textK l).toArray.size ≤ _
  rw [List.size_toArray]; omega
set_option maxRecDepth 100000 in
set_option maxHeartbeats 1200000 in
theorem back_walk (v : Value) (l : List PlD) (w : World) (h : Pls w v l) (hr : Room v) (hn : l.length ≤ 10000000000000) (hL : LayP w) :
    Calls Tryd.prog 5 #[v] w fun e w' => e = .returned (.bool true) ∧ Below w.heap.size w w' := by
  have HP := Lib.hid h
  go_enter Tryd.func5, Tryd.ntmps5
  go_upto_region 5 with (first | (go_at_call 6; refine (lives_any w hL).mono ?_; rintro e w1 ⟨rfl, b1⟩; have HB1 := Lib.hid b1; clear b1) | (go_at_call 13; refine (small_any v l w1 (HP.out.below HB1.out) hn).mono ?_; rintro e2 w2 ⟨bsm, rfl, hsm, b2⟩; have HSM := Lib.hid hsm; have HB2 := Lib.hid (chain HB1.out b2); clear hsm b2; rcases bsm with _ | _))
  · go_ret
    exact ⟨rfl, HB2.out⟩
  · have hs := HSM.out trivial
    have HS := Lib.hid hs
    obtain ⟨c, hc⟩ : ∃ c, chkK l = c := ⟨_, rfl⟩
    have HC := Lib.hid hc
    obtain ⟨s, hsx⟩ : ∃ s, mkW (textS l) = s := ⟨_, rfl⟩
    have HSX := Lib.hid hsx
    have KT := text_any v l w2 (HP.out.below HB2.out) hs (hL.on HB2.out)
    rw [hc, hsx] at KT
    clear hs hc hsx HSM
    go_upto_region 6 with (go_at_call 14; refine KT.mono ?_; rintro r3 w3 ⟨rfl, b3⟩; have HB3 := Lib.hid (chain HB2.out b3); clear b3)
    by_cases h0 : c = 0
    · subst h0
      have HST := Lib.hid (show mkW (textK l) = s by rw [← HSX.out]; unfold textS; rw [if_pos HC.out])
      have KP := parse_any s w3 (by rw [← HST.out]; exact text_size HC.out HS.out) (hL.on HB3.out)
      have hps := parse_text HC.out
      rw [HST.out] at hps
      have HPS := Lib.hid hps
      clear hps
      go_upto_region 9 with (go_at_call 7; refine KP.mono ?_; rintro r4 w4 ⟨v3, l3, er, at3, hpk, rfl, hp3, b4⟩; rw [HPS.out] at hpk; simp only [Prod.mk.injEq] at hpk; obtain ⟨rfl, rfl, rfl⟩ := hpk; have HP3 := Lib.hid hp3; have HB4 := Lib.hid (chain HB3.out b4); clear hp3 b4)
      have l5 : Below w4.heap.size w4 (w4.alloc (.cells #[.int .i64 0, .int .i64 0] 27)) := (Below.refl _ w4).alloc (Nat.le_refl _) _
      have R5 := Blk.new w4 #[.int .i64 0, .int .i64 0] 27
      have HB5 := Lib.hid (chain HB4.out l5)
      have HP5 := Lib.hid (HP3.out.below l5)
      clear l5
      generalize w4.alloc (.cells #[.int .i64 0, .int .i64 0] 27) = w5 at R5 HB5 HP5 ⊢
      generalize w4.heap.size = fb at R5 ⊢
      have HR5 := Lib.hid R5
      clear R5 HP3
      obtain ⟨q1, q2, q3, q4, q5, q6, q7, q8⟩ := plain_all HC.out
      have HQ := Lib.hid (And.intro q1 (And.intro q2 (And.intro q3 (And.intro q5 (And.intro q6 (And.intro q7 q8))))))
      have HPSM := Lib.hid (plain_small HC.out HS.out)
      clear q1 q2 q3 q4 q5 q6 q7 q8
      have K1 := plain_any v l w5 (HP.out.below HB5.out) HS.out
      go_upto_region 10 with (go_at_call 8; refine K1.mono ?_; rintro r6 w6 ⟨v4, rfl, hr4, hp4, b6⟩; rw [HC.out]; rw [if_pos HC.out] at hp4; have HP4 := Lib.hid hp4; have HB6 := Lib.hid (chain HB5.out b6); have HR6 := Lib.hid (HR5.out.below b6 HR5.out.lt); have HP36 := Lib.hid (HP5.out.below b6); have HRM := Lib.hid hr4; clear hp4 b6 hr4)
      obtain ⟨p, hp⟩ : ∃ p, plainK l = p := ⟨_, rfl⟩
      rw [hp] at HQ HPSM HP4
      have K2 := plain_any v4 p w6 HP4.out HPSM.out
      go_upto_region 11 with (go_at_call 8; refine K2.mono ?_; rintro r7 w7 ⟨v5, rfl, -, hp5, b7⟩; rw [HQ.out.1]; rw [if_pos HQ.out.1, HQ.out.2.1] at hp5; have HP57 := Lib.hid hp5; have HB7 := Lib.hid (chain HB6.out b7); have HR7 := Lib.hid (HR6.out.below b7 HR6.out.lt); have HP37 := Lib.hid (HP36.out.below b7); have HP47 := Lib.hid (HP4.out.below b7); clear hp5 b7)
      have d0 : w7.cell? ⟨fb, 0, none⟩ = _ := HR7.out.cell 0
      have d1 : w7.cell? ⟨fb, 1, none⟩ = _ := HR7.out.cell 1
      simp only [List.getElem?_toArray, List.getElem?_cons_zero, List.getElem?_cons_succ] at d0 d1
      obtain ⟨a4, c4, hv4, -⟩ := id HP47.out
      have hpl : decide ((4096 : Int) < (p.length : Int)) = false := by have := HQ.out.2.2.1; have := (chk_zero HC.out).1; simp; omega
      have hpl2 : decide (4096 < p.length) = false := by have := HQ.out.2.2.1; have := (chk_zero HC.out).1; simp; omega
      have HV4 := Lib.hid hv4
      subst hv4
      have KS1 : ∀ W, Below w7.heap.size w7 W → Calls Tryd.prog 11 #[v3, v] W fun e w' => e = .returned (.bool true) ∧ Below W.heap.size W w' := fun W hb => same_plays v3 v l W (HP37.out.below hb) (HP.out.below (chain HB7.out hb)) (by have := HS.out.1; omega)
      have KS2 : ∀ W, Below w7.heap.size w7 W → Calls Tryd.prog 11 #[.slice a4 p.length c4, v5] W fun e w' => e = .returned (.bool true) ∧ Below W.heap.size W w' := fun W hb => same_plays _ v5 p W (HP47.out.below hb) (HP57.out.below hb) (by have := HPSM.out.1; omega)
      have KT1 : ∀ W, Below w7.heap.size w7 W → Calls Tryd.prog 12 #[.slice a4 p.length c4] W fun e w' => e = .returned (.int .i64 (stepsK l)) ∧ Below W.heap.size W w' := fun W hb => by rw [← HQ.out.2.2.2.2.2.1]; exact steps_any _ p W (HP47.out.below hb) (by have := HPSM.out.1; omega)
      have KT2 : ∀ W, Below w7.heap.size w7 W → Calls Tryd.prog 12 #[v] W fun e w' => e = .returned (.int .i64 (stepsK l)) ∧ Below W.heap.size W w' := fun W hb => steps_any v l W (HP.out.below (chain HB7.out hb)) (by have := HS.out.1; omega)
      have HB77 := Lib.hid (Below.refl w7.heap.size w7)
      generalize stepsK l = st at KT1 KT2
      go_upto_region 13 with (first | (go_at_call 11; with_reducible (refine (KS1 _ HB77.out).mono ?_); rintro r8 w8 ⟨rfl, b8⟩; have HB8 := Lib.hid (chain HB77.out b8); clear b8 KS1) | (go_at_call 11; with_reducible (refine (KS2 _ HB8.out).mono ?_); rintro r9 w9 ⟨rfl, b9⟩; have HB9 := Lib.hid (chain HB8.out b9); clear b9 KS2) | (go_at_call 12; with_reducible (refine (KT1 _ HB9.out).mono ?_); rintro r10 w10 ⟨rfl, b10⟩; have HB10 := Lib.hid (chain HB9.out b10); clear b10 KT1) | (go_at_call 12; with_reducible (refine (KT2 _ HB10.out).mono ?_); rintro r11 w11 ⟨rfl, b11⟩; have HB11 := Lib.hid (chain HB10.out b11); clear b11 KT2))
      have HB12 := Lib.hid (chain HB7.out HB11.out)
      have HP411 := Lib.hid (HP47.out.below HB11.out)
      obtain ⟨a4', c4', e4, ha4⟩ := id HP411.out
      simp only [Value.slice.injEq, true_and] at e4
      obtain ⟨rfl, rfl⟩ := e4
      have Ha := Lib.hid ha4
      have hpb : p.length ≤ 5000 := HPSM.out.1
      obtain ⟨N, hN⟩ : ∃ N, p.length = N := ⟨_, rfl⟩
      have HN := Lib.hid hN
      have KI1 : ∀ W, Below w11.heap.size w11 W → Calls Tryd.prog 9 #[v] W fun e w' => ∃ v', e = .returned (.tuple #[v', .bool (endB l)]) ∧ Bts w' v' (inB l) ∧ Below W.heap.size W w' := fun W hb => input_any v l W (HP.out.below (chain HB12.out hb)) HS.out hr
      have KI2 : ∀ W, Below w11.heap.size w11 W → Calls Tryd.prog 9 #[.slice a4 N c4] W fun e w' => ∃ v', e = .returned (.tuple #[v', .bool (endB l)]) ∧ Bts w' v' (inB l) ∧ Below W.heap.size W w' := fun W hb => by
        have := input_any (.slice a4 p.length c4) p W (HP411.out.below hb) HPSM.out HRM.out
        rw [HQ.out.2.2.2.1, HQ.out.2.2.2.2.1, hN] at this
        exact this
      have HKS := Lib.hid (fun x hx => HQ.out.2.2.2.2.2.2 x hx)
      rw [hN] at hpb
      generalize endB l = en at KI1 KI2
      generalize inB l = ib at KI1 KI2
      rw [hN]
      clear hN ha4 d0 d1 hpl hpl2
      go_wp2
      go_loopw [11] (fun i wr => ∃ k : Nat, i = .int .i64 k ∧ k ≤ N ∧ Below w11.heap.size w11 wr) (fun i _ => N - (intOf i).toNat)
      case atStart => exact ⟨0, rfl, Nat.zero_le _, Below.refl _ _⟩
      case round =>
        obtain ⟨k, rfl, hk, hB⟩ := hrel
        by_cases hlt : k < N
        · have hlt2 : decide ((k : Int) < (N : Int)) = true := by simp; omega
          have hlt3 : decide (k < N) = true := by simp; omega
          have hi0 : (0 : Int) ≤ (k : Int) := by omega
          have hkt : k < p.length := by rw [HN.out]; exact hlt
          obtain ⟨pb, o, rfl, hpl, hat⟩ := Ha.out (by omega)
          obtain ⟨x, hx⟩ : ∃ x, p[k]? = some x := ⟨_, List.getElem?_eq_getElem hkt⟩
          obtain ⟨vs, hcs, -⟩ := hat k x hx
          have hxk := HKS.out x (List.mem_of_getElem? hx)
          obtain ⟨kd, hkd⟩ : ∃ m, x.kind = m := ⟨_, rfl⟩
          rw [hkd] at hcs hxk
          have c0 := (hB.cell (p := ⟨pb, o + k * 3 + 0, none⟩) hpl).trans (hcs 0 _ rfl)
          rw [Nat.add_zero] at c0
          have e4 : (kd == 4) = false := by simp; exact hxk.1
          have e5 : (kd == 5) = false := by simp; exact hxk.2
          clear hat hx hcs hkd
          go_wp2
          go_roundw
          case measure => simp [intOf]; omega
          case rel => exact ⟨k + 1, by go_num, by omega, hB⟩
        · have hlt2 : decide ((k : Int) < (N : Int)) = false := by simp; omega
          have hlt3 : decide (k < N) = false := by simp; omega
          obtain rfl : N = k := by omega
          have HBI := Lib.hid hB
          clear hB
          go_upto_region 20 with (first | (go_at_call 9; with_reducible (refine (KI1 _ HBI.out).mono ?_); rintro r12 w12 ⟨v6, rfl, hb6, b12⟩; have HV6 := Lib.hid hb6; have HBJ := Lib.hid (chain HBI.out b12); clear hb6 b12 KI1) | (go_at_call 9; with_reducible (refine (KI2 _ HBJ.out).mono ?_); rintro r13 w13 ⟨v7, rfl, hb7, b13⟩; have HV7 := Lib.hid hb7; have HBK := Lib.hid (chain HBJ.out b13); have HV67 := Lib.hid (HV6.out.below b13); clear hb7 b13 KI2))
          have k1 := bts_str HV67.out
          have k2 := bts_str HV7.out
          generalize mkW ib = sb at k1 k2
          have HBZ := Lib.hid (chain HB12.out HBK.out)
          cases en
          · go_wp2
            go_ret
            exact ⟨rfl, HBZ.out⟩
          · go_wp2
            go_ret
            exact ⟨rfl, HBZ.out⟩
    · have e1 : (c != 0) = true := by simp; exact h0
      obtain rfl : s = ⟨#[]⟩ := by rw [← HSX.out]; unfold textS; rw [if_neg (by rw [HC.out]; exact h0)]; rfl
      go_wp2
      go_ret
      exact ⟨rfl, HB3.out⟩
end Go.Proofs.YtbjlnllbcgghlaaDoor
