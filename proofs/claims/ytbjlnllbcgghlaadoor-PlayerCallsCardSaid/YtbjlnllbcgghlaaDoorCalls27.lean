/- 'PlayerCalls' holds: scripts are checked, told, read and made plain as the document says. No conditions beyond the given card's. -/
import Derived.Test.YtbjlnllbcgghlaaDoorPzB
import Derived.Test.YtbjlnllbcgghlaaDoorPyY
import Derived.Test.YtbjlnllbcgghlaaDoorCards
import Derived.Test.YtbjlnllbcgghlaaDoorTie
import Derived.ProofKit
import Derived.OpenShut
import Derived.ShutString
import Derived.Carry
import Derived.Lay
import Derived.LaidOnce
import Derived.LaidMore
import Derived.SevenTiedAt
namespace Go.Proofs.YtbjlnllbcgghlaaDoor
open Go.RowKit Go.Shelf
set_option linter.unusedSimpArgs false
set_option linter.unusedVariables false

theorem tri_eq {a a' : List PlD} {b b' c c' : Int} (h : (a, b, c) = (a', b', c')) : a = a' ∧ b = b' ∧ c = c' := by
  simp only [Prod.mk.injEq] at h
  exact h
theorem go_len : ∀ (n : Nat) (s : List UInt8) (at_ : Nat) (l : List PlD), (goK n s at_ l).1.length ≤ l.length + s.length
  | 0, s, at_, l => by simp [goK]
  | n + 1, s, at_, l => by
    unfold goK
    split
    · split <;> simp
    · next hs =>
      have hpos : 0 < s.length := List.length_pos_iff.2 hs
      split
      · simp
      · next o ho =>
        split
        · simp
        · next x hx =>
          have := go_len n (s.drop (o + 1)) (at_ + o + 1) (l ++ [x])
          rw [List.length_drop] at this
          simp only [List.length_append, List.length_cons, List.length_nil] at this
          omega
theorem parse_len (s : ByteArray) : (parseK s).1.length ≤ s.size := by
  have := go_len (s.size + 1) s.data.toList 0 []
  rw [dsz] at this
  simpa [parseK] using this
set_option maxRecDepth 100000 in
set_option maxHeartbeats 2000000 in
theorem calls_walk (v : Value) (l : List PlD) (s : ByteArray) (w : World) (h : Pls w v l) (hr : Room v) (hn : l.length ≤ 10000000000000) (hsz : s.size ≤ 1000000000000000) (hL : LayP w) :
    Calls Tryd.prog 4 #[v, .string s] w fun e w' => e = .returned (.bool true) ∧ Below w.heap.size w w' := by
  have HP := Lib.hid h
  go_enter Tryd.func4, Tryd.ntmps4
  by_cases hs : 20000 < s.size
  · have d0 : decide ((20000 : Int) < (s.size : Int)) = true := by simp; omega
    go_wp2_with (first | (go_at_call 6; refine (lives_any w hL).mono ?_; rintro e w1 ⟨rfl, b1⟩; have HB1 := Lib.hid b1; clear b1) | (go_at_call 13; refine (small_any v l w1 (HP.out.below HB1.out) hn).mono ?_; rintro e2 w2 ⟨bsm, rfl, -, b2⟩; have HB2 := Lib.hid (chain HB1.out b2); clear b2; rcases bsm with _ | _))
    · go_ret
      exact ⟨rfl, HB2.out⟩
    · go_wp2
      go_ret
      exact ⟨rfl, HB2.out⟩
  have d0 : decide ((20000 : Int) < (s.size : Int)) = false := by simp; omega
  go_upto_region 5 with (first | (go_at_call 6; refine (lives_any w hL).mono ?_; rintro e w1 ⟨rfl, b1⟩; have HB1 := Lib.hid b1; clear b1) | (go_at_call 13; refine (small_any v l w1 (HP.out.below HB1.out) hn).mono ?_; rintro e2 w2 ⟨bsm, rfl, hsm, b2⟩; have HSM := Lib.hid hsm; have HB2 := Lib.hid (chain HB1.out b2); clear hsm b2; rcases bsm with _ | _))
  · go_ret
    exact ⟨rfl, HB2.out⟩
  · have hsk := HSM.out trivial
    have HS := Lib.hid hsk
    obtain ⟨c, hc⟩ : ∃ c, chkK l = c := ⟨_, rfl⟩
    have HC := Lib.hid hc
    have KT1 := text_any v l w2 (HP.out.below HB2.out) hsk (hL.on HB2.out)
    have KT2 := fun W (hb : Below w2.heap.size w2 W) => rtext_any v l W (HP.out.below (chain HB2.out hb)) hsk
    rw [hc] at KT1
    simp only [hc] at KT2
    obtain ⟨st, hst⟩ : ∃ st, mkW (textS l) = st := ⟨_, rfl⟩
    rw [hst] at KT1
    simp only [hst] at KT2
    clear hsk hc HSM hst
    go_upto_region 6 with (go_at_call 14; (with_reducible (refine KT1.mono ?_)); rintro r3 w3 ⟨rfl, b3⟩; have K2 := KT2 w3 b3; have HB3 := Lib.hid (chain HB2.out b3); clear b3)
    clear KT2
    go_upto_region 7 with (go_at_call 15; (with_reducible (refine K2.mono ?_)); rintro r4 w4 ⟨rfl, b4⟩; have HB4 := Lib.hid (chain HB3.out b4); clear b4)
    obtain ⟨pl, per, pat, hpk⟩ : ∃ pl per pat, parseK s = (pl, per, pat) := ⟨_, _, _, rfl⟩
    have HPL := Lib.hid (show pl.length ≤ 20000 by have := parse_len s; rw [hpk] at this; simp only at this; omega)
    have HPK := Lib.hid hpk
    clear hpk
    have KP := parse_any s w4 (by omega) (hL.on HB4.out)
    go_upto_region 8 with (go_at_call 7; (with_reducible (refine KP.mono ?_)); rintro r5 w5 ⟨v5, l5, er, at5, hk5, rfl, hp5, b5⟩; obtain ⟨g1, g2, g3⟩ := tri_eq (HPK.out.symm.trans hk5); subst g1; subst g2; subst g3; have HP5 := Lib.hid hp5; have HB5 := Lib.hid (chain HB4.out b5); clear hp5 b5)
    have l6 : Below w5.heap.size w5 (w5.alloc (.cells #[.int .i64 per, .int .i64 pat] 27)) := (Below.refl _ w5).alloc (Nat.le_refl _) _
    have R6 := Blk.new w5 #[.int .i64 per, .int .i64 pat] 27
    have HB6 := Lib.hid (chain HB5.out l6)
    have HP56 := Lib.hid (HP5.out.below l6)
    clear l6
    generalize w5.alloc (.cells #[.int .i64 per, .int .i64 pat] 27) = w6 at R6 HB6 HP56 ⊢
    generalize w5.heap.size = f1 at R6 ⊢
    have HR6 := Lib.hid R6
    clear R6 HP5
    have KQ := rparse_any s w6 (by omega)
    go_upto_region 9 with (go_at_call 16; (with_reducible (refine KQ.mono ?_)); rintro r7 w7 ⟨v7, l7, er7, at7, hk7, rfl, hp7, b7⟩; obtain ⟨g1, g2, g3⟩ := tri_eq (HPK.out.symm.trans hk7); subst g1; subst g2; subst g3; have HP7 := Lib.hid hp7; have HB7 := Lib.hid (chain HB6.out b7); have HR7 := Lib.hid (HR6.out.below b7 HR6.out.lt); have HP57 := Lib.hid (HP56.out.below b7); clear hp7 b7)
    have l8 : Below w7.heap.size w7 (w7.alloc (.cells #[.int .i64 per, .int .i64 pat] 27)) := (Below.refl _ w7).alloc (Nat.le_refl _) _
    have R8 := Blk.new w7 #[.int .i64 per, .int .i64 pat] 27
    have HB8 := Lib.hid (chain HB7.out l8)
    have HR68 := Lib.hid (HR7.out.below l8 HR7.out.lt)
    have HP58 := Lib.hid (HP57.out.below l8)
    have HP78 := Lib.hid (HP7.out.below l8)
    clear l8
    generalize w7.alloc (.cells #[.int .i64 per, .int .i64 pat] 27) = w8 at R8 HB8 HR68 HP58 HP78 ⊢
    generalize w7.heap.size = f2 at R8 ⊢
    have HR8 := Lib.hid R8
    clear R8 HR7 HR6 HP7 HP57 HP56
    have K9 := plain_any v l w8 (HP.out.below HB8.out) HS.out
    go_upto_region 10 with (go_at_call 8; (with_reducible (refine K9.mono ?_)); rintro r9 w9 ⟨v9, rfl, -, hp9, b9⟩; rw [HC.out]; have HP9 := Lib.hid hp9; have HB9 := Lib.hid b9; clear hp9 b9)
    have K10 := rplain_any v l w9 (HP.out.below (chain HB8.out HB9.out)) HS.out
    go_upto_region 11 with (go_at_call 17; (with_reducible (refine K10.mono ?_)); rintro r10 w10 ⟨v10, rfl, -, hp10, b10⟩; rw [HC.out]; have HP10 := Lib.hid hp10; have HP910 := Lib.hid (HP9.out.below b10); have HB10 := Lib.hid (chain HB9.out b10); clear hp10 b10)
    have K11 := input_any v l w10 (HP.out.below (chain HB8.out HB10.out)) HS.out hr
    have K12 := fun W (hb : Below w10.heap.size w10 W) => rinput_any v l W (HP.out.below (chain HB8.out (chain HB10.out hb))) HS.out
    generalize endB l = en at K11 K12
    obtain ⟨ib, hib⟩ : ∃ ib, inB l = ib := ⟨_, rfl⟩
    rw [hib] at K11
    simp only [hib] at K12
    clear hib
    go_upto_region 12 with (go_at_call 9; (with_reducible (refine K11.mono ?_)); rintro r11 w11 ⟨v11, rfl, hb11, b11⟩; have HV11 := Lib.hid hb11; have K12' := K12 w11 b11; have HT11 := Lib.hid b11; have HB11 := Lib.hid (chain HB10.out b11); clear hb11 b11)
    clear K12
    go_upto_region 13 with (go_at_call 18; (with_reducible (refine K12'.mono ?_)); rintro r12 w12 ⟨v12, rfl, hb12, b12⟩; have HV12 := Lib.hid hb12; have HV112 := Lib.hid (HV11.out.below b12); have HBT := Lib.hid (chain HT11.out b12); have HB12 := Lib.hid (chain HB11.out b12); clear hb12 b12)
    have HPv := Lib.hid (fun W (hb : Below w12.heap.size w12 W) => HP.out.below (chain HB8.out (chain HB12.out hb)))
    have KA1 : ∀ W, Below w12.heap.size w12 W → Calls Tryd.prog 19 #[v] W fun e w' => e = .returned (.int .i64 c) ∧ Below W.heap.size W w' := fun W hb => by rw [← HC.out]; exact check_any v l W (HPv.out W hb)
    have KA2 : ∀ W, Below w12.heap.size w12 W → Calls Tryd.prog 20 #[v] W fun e w' => e = .returned (.int .i64 c) ∧ Below W.heap.size W w' := fun W hb => by rw [← HC.out]; exact rcheck_any v l W (HPv.out W hb)
    have KS1 : ∀ W, Below w12.heap.size w12 W → Calls Tryd.prog 11 #[v5, v7] W fun e w' => e = .returned (.bool true) ∧ Below W.heap.size W w' := fun W hb => same_plays v5 v7 pl W (HP58.out.below (chain HB12.out hb)) (HP78.out.below (chain HB12.out hb)) (by have := HPL.out; omega)
    have HPP := Lib.hid (show (if chkK l = 0 then plainK l else []).length ≤ 100000000 by
      split
      · next e => have := plain_small e HS.out; have := this.1; omega
      · simp)
    have KS2 : ∀ W, Below w12.heap.size w12 W → Calls Tryd.prog 11 #[v9, v10] W fun e w' => e = .returned (.bool true) ∧ Below W.heap.size W w' := fun W hb => same_plays v9 v10 _ W (HP910.out.below (chain HBT.out hb)) (HP10.out.below (chain HBT.out hb)) HPP.out
    have KU1 : ∀ W, Below w12.heap.size w12 W → Calls Tryd.prog 12 #[v] W fun e w' => e = .returned (.int .i64 (stepsK l)) ∧ Below W.heap.size W w' := fun W hb => steps_any v l W (HPv.out W hb) (by have := HS.out.1; omega)
    have KU2 : ∀ W, Below w12.heap.size w12 W → Calls Tryd.prog 21 #[v] W fun e w' => e = .returned (.int .i64 (stepsK l)) ∧ Below W.heap.size W w' := fun W hb => rsteps_any v l W (HPv.out W hb) (by have := HS.out.1; omega)
    generalize stepsK l = sp at KU1 KU2
    have HX12 := Lib.hid (Below.refl w12.heap.size w12)
    have HB812 := Lib.hid (chain HB8.out HB12.out)
    have HR6812 := Lib.hid (HR68.out.below HB12.out HR68.out.lt)
    have HR812 := Lib.hid (HR8.out.below HB12.out HR8.out.lt)
    by_cases h0 : c = 0
    · subst h0
      cases en
      all_goals
        go_wp2_with (first | (go_at_call 19; (with_reducible (refine (KA1 _ HX12.out).mono ?_)); rintro r13 w13 ⟨rfl, b13⟩; have HX13 := Lib.hid (chain HX12.out b13); clear b13 KA1) | (go_at_call 20; (with_reducible (refine (KA2 _ HX13.out).mono ?_)); rintro r14 w14 ⟨rfl, b14⟩; have HX14 := Lib.hid (chain HX13.out b14); clear b14 KA2) | (go_at_call 11; (with_reducible (refine (KS1 _ HX14.out).mono ?_)); rintro r15 w15 ⟨rfl, b15⟩; have HX15 := Lib.hid (chain HX14.out b15); clear b15 KS1; have e0 : w15.cell? ⟨f1, 0, none⟩ = _ := (HR6812.out.below HX15.out HR6812.out.lt).cell 0; have e1 : w15.cell? ⟨f1, 1, none⟩ = _ := (HR6812.out.below HX15.out HR6812.out.lt).cell 1; have e2 : w15.cell? ⟨f2, 0, none⟩ = _ := (HR812.out.below HX15.out HR812.out.lt).cell 0; have e3 : w15.cell? ⟨f2, 1, none⟩ = _ := (HR812.out.below HX15.out HR812.out.lt).cell 1; simp only [List.getElem?_toArray, List.getElem?_cons_zero, List.getElem?_cons_succ] at e0 e1 e2 e3) | (go_at_call 11; (with_reducible (refine (KS2 _ HX15.out).mono ?_)); rintro r16 w16 ⟨rfl, b16⟩; have HX16 := Lib.hid (chain HX15.out b16); clear b16 KS2; have k1 := bts_str (HV112.out.below HX16.out); have k2 := bts_str (HV12.out.below HX16.out); generalize mkW ib = sb at k1 k2) | (go_at_call 12; (with_reducible (refine (KU1 _ HX16.out).mono ?_)); rintro r17 w17 ⟨rfl, b17⟩; have HX17 := Lib.hid (chain HX16.out b17); clear b17 KU1) | (go_at_call 21; (with_reducible (refine (KU2 _ HX17.out).mono ?_)); rintro r18 w18 ⟨rfl, b18⟩; have HX18 := Lib.hid (chain HX17.out b18); clear b18 KU2))
        go_ret
        exact ⟨rfl, chain HB812.out HX18.out⟩
    · have e1 : (c != 0) = true := by simp; exact h0
      clear KU1 KU2
      cases en
      all_goals
        go_wp2_with (first | (go_at_call 19; (with_reducible (refine (KA1 _ HX12.out).mono ?_)); rintro r13 w13 ⟨rfl, b13⟩; have HX13 := Lib.hid (chain HX12.out b13); clear b13 KA1) | (go_at_call 20; (with_reducible (refine (KA2 _ HX13.out).mono ?_)); rintro r14 w14 ⟨rfl, b14⟩; have HX14 := Lib.hid (chain HX13.out b14); clear b14 KA2) | (go_at_call 11; (with_reducible (refine (KS1 _ HX14.out).mono ?_)); rintro r15 w15 ⟨rfl, b15⟩; have HX15 := Lib.hid (chain HX14.out b15); clear b15 KS1; have e0 : w15.cell? ⟨f1, 0, none⟩ = _ := (HR6812.out.below HX15.out HR6812.out.lt).cell 0; have e1 : w15.cell? ⟨f1, 1, none⟩ = _ := (HR6812.out.below HX15.out HR6812.out.lt).cell 1; have e2 : w15.cell? ⟨f2, 0, none⟩ = _ := (HR812.out.below HX15.out HR812.out.lt).cell 0; have e3 : w15.cell? ⟨f2, 1, none⟩ = _ := (HR812.out.below HX15.out HR812.out.lt).cell 1; simp only [List.getElem?_toArray, List.getElem?_cons_zero, List.getElem?_cons_succ] at e0 e1 e2 e3) | (go_at_call 11; (with_reducible (refine (KS2 _ HX15.out).mono ?_)); rintro r16 w16 ⟨rfl, b16⟩; have HX16 := Lib.hid (chain HX15.out b16); clear b16 KS2; have k1 := bts_str (HV112.out.below HX16.out); have k2 := bts_str (HV12.out.below HX16.out); generalize mkW ib = sb at k1 k2))
        go_ret
        exact ⟨rfl, chain HB812.out HX16.out⟩
end Go.Proofs.YtbjlnllbcgghlaaDoor
namespace Go.Proofs.YtbjlnllbcgghlaaDoor.playerCalls
open Go.ChangeShapes Go.WideShapes Go.ChangeAt Go.RowKit
open Go.ChangeMaps (open_string shut_string)
set_option linter.unusedVariables false

theorem laid : laidOutB Tryd.prog = true := by kernel_rfl

theorem own : ownKnob Tryd.prog.godebug = none := by kernel_rfl

set_option maxRecDepth 100000 in
theorem lifted (os : Os) (started : os.Started) (H : Type) (enc : TypeId × Value → H) :
    ReturnsInHanded {} Tryd.checked os 4 .any (fun w args => (Rows.playerCallsSpec.pre enc Tryd.prog Tryd.f4 [] false w args ∧ laidMetH Tryd.prog Rows.playerCallsRow.laid w) ∧ sizedMet enc Tryd.prog Tryd.f4 (OpenSpec.ofChange Rows.playerCallsSpec) false w args)
      (Rows.playerCallsSpec.post enc Tryd.prog Tryd.f4 false true false false) := by
  refine handed_both (C := Tryd.checked) (X := fun w _ => laidMetH Tryd.prog Rows.playerCallsRow.laid w) (fun _ _ _ hh h => h.of_heap hh) own started (by kernel_rfl) Tryd.func4
    (ChangeSpec.witness_shaped (enc := enc) (C := Tryd.checked) (os := os) (X := fun w _ => laidMetH Tryd.prog Rows.playerCallsRow.laid w) false (World.laidAll Tryd.prog os Rows.playerCallsRow.laid) #[.slice none 0 0, .string ByteArray.empty] 8 (World.laidAll_os _ _ _)
      (World.shaped_of_ZipB (by kernel_rfl) (by kernel_rfl)) (by kernel_rfl) (by kernel_rfl) (by kernel_rfl)
      (by rw [MakeChecks.laidMetH_plain _ _ _ (by kernel_rfl)]; exact laidMet_laidAll _ (by kernel_rfl) (by kernel_rfl))) ?_
  intro W base args ds gs before hval0 hW _ hsz0 hL hshape
  have hval : ∀ (j : Nat) t v, Tryd.f4.params[j]? = some t → args[j]? = some v → Value.okWide Tryd.prog W .any base t v := hval0
  have hW' := hW
  obtain ⟨p, q, hA0, hV, rfl, hfz, hnd⟩ := hW
  have hA : DataW.TrodAll enc Tryd.prog W 0 (fun _ => true) true Tryd.f4.params.toList args.toList ds p := hA0
  have hsz : (DataW.weightsEach Tryd.prog (Tryd.f4.params.toList ++ Rows.playerCallsSpec.plain.varTypes Tryd.prog) (ds ++ gs)).all (· ≤ reachBytes) = true := hsz0
  rw [Tryd.params4] at hA hval hsz
  obtain ⟨v0, vs0, d0, ds0, p0, q0, hargs, rfl, rfl, h0, r0⟩ := trodAll_cons hA
  obtain ⟨v1, vs1, d1, ds1, p1, q1, rfl, rfl, rfl, h1, r1⟩ := trodAll_cons r0
  obtain ⟨rfl, rfl, rfl⟩ := trodAll_nil r1
  obtain rfl : args = #[v0, v1] := by cases args; simp_all
  obtain ⟨rfl, rfl⟩ := trodVars_none hV
  obtain ⟨a0, len0, cap0, rfl⟩ := okWide_slice Tryd.underlying24 (hval 0 24 v0 rfl rfl)
  have k0 := h0
  have lt0 : ∀ x ∈ p0, x.block < W.heap.size := by obtain ⟨m, hm⟩ := k0; exact DataW.trod_lt m _ _ _ hm
  obtain ⟨a1, rfl, rfl, rfl, w1⟩ := open_string Tryd.underlying9 (hval 1 9 v1 rfl rfl) h1
  obtain ⟨xs, hxs, hxl, hxr⟩ : ∃ l, Pls W (.slice a0 len0 cap0) l ∧ l.length ≤ 10000000000000 ∧ Room (.slice a0 len0 cap0) := by
    obtain ⟨m, hm⟩ := h0
    exact plays_of_trod hm (fun k hk => of_decide_eq_true (List.all_eq_true.1 hsz k (DataW.weights_mem_each (j := 0) (t := 24) (d := d0) rfl rfl k hk)))
  have hs1 : a1.size ≤ 1000000000000000 := by
    have := of_decide_eq_true (List.all_eq_true.1 hsz _ (DataW.weights_mem_each (j := 1) (t := 9) (d := .lit (.string a1.data.toList)) rfl rfl a1.data.toList.length (by simp [DataW.weights])))
    have h2 : reachBytes = 140737488351232 := by decide
    rw [h2] at this
    have h3 : a1.data.toList.length = a1.size := rfl
    omega
  clear hA0 hval0 hsz0
  simp only [List.append_nil] at hW' ⊢
  refine (calls_walk _ xs a1 W hxs hxr hxl hs1 (lay_of W (by rw [MakeChecks.laidMetH_plain _ _ _ (by kernel_rfl)] at hL; exact hL) hshape)).mono fun e W' ⟨he, bel⟩ => ?_
  subst he
  exact ⟨_, rfl, _, _, _, [], _, [], hW', trodAll_mk1 (shut_bool Tryd.underlying4 _), (trodAll_cons_mk (Below.trod laid (by kernel_rfl) (of_decide_eq_true (by kernel_rfl)) k0 bel lt0) (trodAll_cons_mk (shut_string Tryd.underlying9 w1) trodAll_mk0)), rfl, bel.frame _, fun h => by cases h⟩

theorem over : Rows.playerCallsRow.holds Tryd.pinned (OpenSpec.ofChange Rows.playerCallsSpec) :=
  OpenClaim.holds_of_wide 4 Tryd.f4 rfl rfl rfl rfl rfl rfl rfl ⟨rfl, rfl, rfl, rfl, rfl⟩ rfl rfl rfl rfl rfl (by kernel_rfl) Tryd.func4 (by kernel_rfl)
    (of_decide_eq_true (by kernel_rfl)) (by unfold Func.isWrapper; rw [if_neg (by decide +kernel)]; exact ⟨rfl, rfl⟩)
    (fun os started H enc _ => lifted os started H enc)

theorem proved : Rows.PlayerCallsCardSaid :=
  Claim7.holds_tied_plain_at .later [] [.data, .data, .data, .data, .sentinel, .sentinel, .pinned] true (true, "e83288f78cf45740773e053293255ffc54ffa915d3b70bb90529541cfd491dd4") true
    over (fun _ h => by cases h) (by kernel_rfl) (fun _ h => by cases h) playerCalls_row_tie rfl ⟨rfl, rfl⟩ (by kernel_rfl) rfl
    (fun f fn hf hfn => by
      obtain rfl : f = 4 := Option.some.inj ((show Tryd.prog.funcNamed Tryd.f4.name = some 4 by kernel_rfl).symm.trans hf) |>.symm
      obtain rfl : fn = Tryd.f4 := (Option.some.inj (Tryd.func4.symm.trans hfn)).symm
      exact ⟨by kernel_rfl, fun j t ht => by
        rw [Tryd.params4] at ht
        have hm : t ∈ [24, 9] := by simpa using Array.mem_of_getElem? ht
        have hall : ([24, 9].all fun u => !Tryd.prog.wantsStandIn u) = true := by kernel_rfl
        exact (show Tryd.prog.wantsStandIn t = false by simpa using List.all_eq_true.1 hall t hm)⟩)
    (by kernel_rfl)

end Go.Proofs.YtbjlnllbcgghlaaDoor.playerCalls
