/- The contract of puts: true of every sound heap, which stays sound. -/
import Derived.Test.YtlmljommgmbckaaHsM
namespace Go.Proofs.Ytlmljommgmbckaa
open Go.RowKit
set_option linter.unusedSimpArgs false

theorem one_word {W : World} {g : Nat} {k n : Int} (h : Blk W g #[.int .i64 k, .int .i64 n]) : WAt W (.slice (some ⟨g, 0, none⟩) 1 1) [(k, n)] := by
  refine ⟨_, 1, rfl, fun _ => ⟨g, 0, rfl, h.lt, fun j c hj => ?_⟩⟩
  rw [Nat.zero_add, h.cell, ← hj]
  simp [flat]
theorem value_deref {H : HS} {x : Wd} (h : valueK H x.1 x.2 = true) : derefS H x = x := by
  unfold derefS
  refine if_neg fun ⟨k5, k7⟩ => ?_
  rw [k5] at h
  have := (value_low h).2
  omega

set_option maxRecDepth 100000 in
set_option maxHeartbeats 8000000 in
theorem puts_any {w : World} {b : Nat} {L : HL} {gb : Nat} {H : HS} {gl : List Wd} (G : GHeap w b L gb H gl) (hng : H.ng ≤ 1000000) (xk xo xi xa wk wn : Int) (p : Option Addr) (m c : Nat) (raw : Bool) (h1 : -9223372036854775808 ≤ xa) (h2 : xa ≤ 9223372036854775807) (h3 : -9223372036854775808 ≤ wn) (h4 : wn ≤ 9223372036854775807) :
    Calls Try.prog 22 #[.pointer (some ⟨b, 0, none⟩), .agg #[.int .i64 xk, .int .i64 xo, .int .i64 xi, .int .i64 xa, .int .i64 wk, .int .i64 wn, .slice p m c, .bool raw]] w fun e w' => e = .returned (.bool true) ∧ ∃ H2, GHeap w' b L gb H2 gl ∧ H2.ng = H.ng ∧ Off (GFoot b L gb) w w' := by
  have HG := Lib.hid G
  have hft := G.lt
  clear G
  go_enter Try.func22, Try.ntmps22
  go_upto_region 1 with fail
  generalize hW0 : w.alloc (Obj.cells #[.int .i64 xk, .int .i64 xo, .int .i64 xi, .int .i64 xa, .int .i64 wk, .int .i64 wn, .slice p m c, .bool raw] 35) = W0
  have B0 : Blk W0 w.heap.size #[.int .i64 xk, .int .i64 xo, .int .i64 xi, .int .i64 xa, .int .i64 wk, .int .i64 wn, .slice p m c, .bool raw] := by rw [← hW0]; exact Blk.new w _ _
  have k0 : Below w.heap.size w W0 := by rw [← hW0]; exact (Below.refl _ _).alloc (Nat.le_refl _) _
  have b0 := B0.cell
  have HB0 := Lib.hid B0; have HK0 := Lib.hid k0
  clear hW0 B0 k0
  have hr1 : Ranged [(wk, wn)] := fun x hx => by rw [List.mem_singleton] at hx; subst hx; exact ⟨h3, h4⟩
  have ks1 := shape_u (HG.out.below (HK0.out.alloc HK0.out.size (.cells #[.int .i64 wk, .int .i64 wn] 32))) (some ⟨W0.heap.size, 0, none⟩) 1 1 [(wk, wn)] rfl (one_word (Blk.new W0 _ 32)) hr1 (fun h => by cases h) (by omega) hng
  rw [show (W0.alloc (.cells #[.int .i64 wk, .int .i64 wn] 32)).heap.size = W0.heap.size + 1 from by simp] at ks1
  have KS1 := Lib.hid ks1
  clear ks1 hr1
  go_upto_region 2 with (go_at_call 27; with_reducible refine KS1.out.mono ?_; rintro e w1 ⟨p1, n1, c1, r1, rfl, hb1, D1⟩)
  have k1 : Below W0.heap.size W0 w1 := ((Below.refl _ _).alloc (Nat.le_refl _) _).trans (by simpa using hb1.mono (by simp))
  have kw1 : Below w.heap.size w w1 := HK0.out.trans (k1.mono HK0.out.size)
  have B1 := HB0.out.below k1 HB0.out.lt
  have b1 := B1.cell
  have kp := gput (HG.out.below kw1) xa h1 h2 wk wn h3 h4
  have HD1 := Lib.hid D1; have HKw1 := Lib.hid kw1; have HB1 := Lib.hid B1; have KP := Lib.hid kp
  clear hb1 D1 k1 kw1 B1 kp b0
  go_upto_region 3 with (go_at_call 20; with_reducible refine KP.out.mono ?_; rintro e w2 ⟨c2, H2, rfl, G2, ng2, off2, D2⟩)
  have offw : Off (GFoot b L gb) w w2 := (Off.of_below HKw1.out).trans off2 (fun _ h => h) (fun _ h => .inl h)
  rcases D2 with ⟨hc2, rfl⟩ | ⟨rfl, ha2, k7, hwd, hv1, hv2⟩
  · have d2 : (c2 != 0) = true := by simpa using hc2
    have HG2 := Lib.hid G2; have HOw := Lib.hid offw
    clear G2 offw off2 hc2
    go_wp2
    go_ret
    exact ⟨rfl, _, HG2.out, rfl, HOw.out⟩
  · obtain ⟨rfl, hst1, xs1, N1, rfl, O1, hm1, _⟩ : r1 = 0 ∧ (∀ x ∈ [(wk, wn)], standsK H x.1 x.2 = true) ∧ ∃ xs n, n1 = xs.length ∧ ObjsAt w1 (W0.heap.size + 1) (.slice p1 n1 c1) xs ∧ xs.map Prod.fst = (bfsN H ([(wk, wn)] ++ gl) n).2 ∧ (bfsN H ([(wk, wn)] ++ gl) n).1.length = n := by
      rcases HD1.out with ⟨_, _, hf⟩ | ⟨q1, q2, xs, n, q3, q4, q5, q6⟩
      · exfalso
        have := value_stands hv1
        simp [this] at hf
      · exact ⟨q1, q2, xs, n, q3, by simpa using q4, q5, q6⟩
    have B2 : Blk w2 w.heap.size #[.int .i64 xk, .int .i64 xo, .int .i64 xi, .int .i64 xa, .int .i64 wk, .int .i64 wn, .slice p m c, .bool raw] := off2.blk HB1.out (fun hf => by have := hft _ hf; omega)
    have O2 : ObjsAt w2 (W0.heap.size + 1) (.slice p1 xs1.length c1) xs1 := O1.off off2 (fun k hk => by have := hft k hk; have := HK0.out.size; omega)
    obtain ⟨i, rfl⟩ := Int.eq_ofNat_of_zero_le (G2.snd.good.at_ xa ha2).1
    have hat := G2.snd.good.at_ i ha2
    rw [Int.toNat_natCast] at hwd
    have hpo := parts_ok (n := (H2.word i).2) (by rw [(head_ok hat.2.2.1).2]; exact hat.2.2.1)
    rw [(head_ok hat.2.2.1).2] at hpo
    obtain ⟨s, hs⟩ := Int.eq_ofNat_of_zero_le (show 0 ≤ (headOf H2 i).s by omega)
    have hs1 : 1 ≤ s := by omega
    have hstp : standsK H2 5 (i : Int) = true := by unfold standsK; simpa using hat.2.2.1
    have hderef : derefS H2 (5, (i : Int)) = (wk, wn) := by
      unfold derefS
      rw [if_pos ⟨rfl, k7⟩, Int.toNat_natCast]
      exact hwd
    obtain ⟨P, hP⟩ : ∃ P, headOf H2 (i : Int) = P := ⟨_, rfl⟩
    have kg := fun W (hb : Below w2.heap.size w2 W) => get_some b L H2 W (G2.inv.below hb) G2.snd.good i ha2 P hP s (by rw [← hP]; exact hs)
    rw [hP] at k7
    rw [k7] at kg
    have hlen2 := G2.inv.len; have htop2 := G2.inv.top; have hnur2 := G2.inv.nur; have hold2 := G2.inv.old
    have hwl : ((H2.ws.drop (i + 1)).take s)[0]? = some (wk, wn) := by
      rw [List.getElem?_take, if_pos (by omega), List.getElem?_drop]
      unfold HS.word at hwd
      rw [List.getD_eq_getElem?_getD, List.getElem?_eq_getElem (by omega)] at hwd
      rw [show i + 1 + 0 = i + 1 by omega, List.getElem?_eq_getElem (by omega)]
      simpa using hwd
    have hderef1 := value_deref (H := H) (x := (wk, wn)) hv1
    have b2 := B2.cell
    have HG2 := Lib.hid G2; have HOw := Lib.hid offw; have HB2 := Lib.hid B2; have HO2 := Lib.hid O2; have HM1 := Lib.hid hm1; have KG := Lib.hid kg; have HWl := Lib.hid hwl; have HDe := Lib.hid hderef; have HSt := Lib.hid hstp; have Hng2 := Lib.hid ng2; have HDe1 := Lib.hid hderef1
    have hng2 : H2.ng ≤ 1000000 := by omega
    have hls : ((H2.ws.drop (i + 1)).take s).length = s := by rw [List.length_take, List.length_drop]; omega
    have HLs := Lib.hid hls
    clear G2 offw off2 B2 O2 hm1 kg hwl hderef hstp O1 hst1 hat hpo hs hP k7 hwd hv1 hv2 ha2 hlen2 htop2 hnur2 hold2 ng2 hderef1 b1 hls
    have ks2 : ∀ w3, Below w2.heap.size w2 w3 → _ := fun w3 (hb : Below w2.heap.size w2 w3) => shape_u (HG2.out.below (hb.alloc hb.size (.cells #[.int .i64 5, .int .i64 (i : Int)] 32))) (some ⟨w3.heap.size, 0, none⟩) 1 1 [(5, (i : Int))] rfl (one_word (Blk.new w3 _ 32)) (fun x hx => by rw [List.mem_singleton] at hx; subst hx; exact ⟨by omega, h2⟩) (fun h => by cases h) (by omega) hng2
    have KS2 := Lib.hid ks2
    clear ks2
    go_upto_region 6 with (first | (go_at_call 26; with_reducible refine (ptr_any _ _).mono ?_; rintro e w3 ⟨rfl, hb3⟩; have HK3 := Lib.hid hb3; clear hb3) | (go_at_call 27; with_reducible refine (KS2.out _ HK3.out).mono ?_; rintro e w4 ⟨p4, n4, c4, r4, rfl, hb4, D4⟩))
    have kA4 : Below w3.heap.size w3 w4 := ((Below.refl w3.heap.size w3).alloc (Nat.le_refl _) _).trans (hb4.mono (by simp))
    have kw4 : Below w2.heap.size w2 w4 := HK3.out.trans (kA4.mono HK3.out.size)
    obtain ⟨rfl, xs4, N4, rfl, O4, hm4⟩ : r4 = 0 ∧ ∃ xs n, n4 = xs.length ∧ ObjsAt w4 (w3.heap.size + 1) (.slice p4 n4 c4) xs ∧ xs.map Prod.fst = (bfsN H2 ([(5, (i : Int))] ++ gl) n).2 := by
      rcases D4 with ⟨_, _, hf⟩ | ⟨q1, q2, xs, n, q3, q4, q5, q6⟩
      · exfalso
        have := HSt.out
        simp [this] at hf
      · exact ⟨q1, xs, n, q3, by simpa using q4, q5⟩
    have kg := KG.out w4 kw4
    have B4 := HB2.out.below kw4 HB2.out.lt
    have b4 := B4.cell
    have KGg := Lib.hid kg; have HO4 := Lib.hid O4; have HM4 := Lib.hid hm4; have HKw4 := Lib.hid kw4; have HB4 := Lib.hid B4
    clear kg O4 hm4 kw4 B4 kA4 hb4 b2
    go_upto_region 7 with (go_at_call 16; with_reducible refine KGg.out.mono ?_; rintro e w5 ⟨pg, cg, rfl, og, hb5⟩)
    generalize hW6 : w5.alloc (Obj.cells #[.int .i64 7, .int .i64 P.i, .slice pg s cg] 41) = W6
    have B6 : Blk W6 w5.heap.size #[.int .i64 7, .int .i64 P.i, .slice pg s cg] := by rw [← hW6]; exact Blk.new w5 _ _
    have k56 : Below w5.heap.size w5 W6 := by rw [← hW6]; exact (Below.refl _ _).alloc (Nat.le_refl _) _
    have k46 : Below w4.heap.size w4 W6 := hb5.trans (k56.mono hb5.size)
    have k26 : Below w2.heap.size w2 W6 := HKw4.out.trans (k46.mono HKw4.out.size)
    obtain ⟨hn1, ba, oa, bwa, owa, nwa, cwa, rfl, f1, hnwa, f2⟩ := first_word (HO2.out.below k26) rfl HM1.out
    obtain ⟨hn4, bb, ob, bwb, owb, nwb, cwb, rfl, g1, hnwb, g2⟩ := first_word (HO4.out.below k46) rfl HM4.out
    rw [HDe1.out] at f2
    rw [HDe.out] at g2
    obtain ⟨bo, oo, rfl, _, hgc⟩ : ∃ bo oo, pg = some ⟨bo, oo, none⟩ ∧ bo < W6.heap.size ∧ ∀ j c, (flat ((H2.ws.drop (i + 1)).take s))[j]? = some c → W6.cell? ⟨bo, oo + j, none⟩ = some c := by
      have hat : WAt W6 (.slice pg s cg) ((H2.ws.drop (i + 1)).take s) := (WOwn.at og).below k56 (Nat.le_refl _)
      obtain ⟨a, cap, e, hc⟩ := hat
      obtain ⟨b', o', ea, q1, q2⟩ := hc (by rw [HLs.out]; omega)
      simp only [Value.slice.injEq] at e
      obtain ⟨rfl, _, _⟩ := e
      exact ⟨b', o', ea, q1, q2⟩
    have hfl : ∃ r, flat ((H2.ws.drop (i + 1)).take s) = .int .i64 wk :: .int .i64 wn :: r := by
      have := HWl.out
      cases hh : (H2.ws.drop (i + 1)).take s with
      | nil => rw [hh] at this; simp at this
      | cons y ys =>
        rw [hh] at this
        simp at this
        subst this
        exact ⟨_, flat_cons _ _⟩
    obtain ⟨rf, hfl⟩ := hfl
    have g01 := hgc 0 (.int .i64 wk) (by rw [hfl]; rfl)
    have g02 := hgc 1 (.int .i64 wn) (by rw [hfl]; rfl)
    rw [Nat.add_zero] at g01
    have b6 := B6.cell
    have bx6 := (HB4.out.below k46 HB4.out.lt).cell
    have i1 : (0 : Int) < (xs1.length : Int) := by omega
    have i2 : (0 : Int) < (xs4.length : Int) := by omega
    have i3 : (0 : Int) < (s : Int) := by omega
    have i4 : (0 : Int) < (nwa : Int) := by omega
    have i5 : (0 : Int) < (nwb : Int) := by omega
    have j1 : decide ((0 : Int) < (xs1.length : Int)) = true := by simpa using i1
    have j2 : decide ((0 : Int) < (xs4.length : Int)) = true := by simpa using i2
    have HK26 := Lib.hid k26
    obtain ⟨na, hna⟩ : ∃ n, xs1.length = n := ⟨_, rfl⟩
    obtain ⟨nb, hnb⟩ : ∃ n, xs4.length = n := ⟨_, rfl⟩
    rw [hna] at i1 j1 hn1
    rw [hnb] at i2 j2 hn4
    rw [hna, hnb]
    have j1' : decide (0 < na) = true := by simpa using hn1
    have j2' : decide (0 < nb) = true := by simpa using hn4
    clear hW6 B6 k56 k46 k26 hgc hfl og hb5 b4 hna hnb
    go_quiet (fail)
    go_wp2
    go_ret
    have q := HK26.out.trans (below_drewN' W6 nq HK26.out.size)
    exact ⟨rfl, H2, HG2.out.below q, Hng2.out, HOw.out.trans (Off.of_below (S := GFoot b L gb) q) (fun _ h => h) (fun _ h => .inl h)⟩

end Go.Proofs.Ytlmljommgmbckaa
