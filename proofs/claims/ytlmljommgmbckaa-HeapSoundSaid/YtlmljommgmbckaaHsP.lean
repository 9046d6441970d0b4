/- The law HeapSound: its main walk. -/
import Derived.Test.YtlmljommgmbckaaHsN
import Derived.Test.YtlmljommgmbckaaHpN
namespace Go.Proofs.Ytlmljommgmbckaa
open Go.RowKit
set_option linter.unusedSimpArgs false

theorem alloc_obj {H : HS} {kind info : Int} {us : List Wd} (ht : H.top + 1 + us.length ≤ H.ws.length) : ((H.alloc kind info us).ws.drop (H.top + 1)).take us.length = us := by
  unfold HS.alloc spl
  dsimp only
  have hl : (List.take (H.top + 1) (H.ws.set H.top (6, headK kind us.length info))).length = H.top + 1 := by rw [List.length_take, List.length_set]; omega
  rw [List.append_assoc, List.drop_append, hl, Nat.sub_self, List.drop_zero, List.drop_eq_nil_of_le (by omega), List.nil_append, List.take_append_of_le_length (Nat.le_refl _), List.take_length]
theorem check_nil {w : World} {b : Nat} {L : HL} {gb : Nat} {H : HS} {gl : List Wd} (G : GHeap w b L gb H gl) (hng : H.ng ≤ 1000000) : Calls Try.prog 24 #[.pointer (some ⟨b, 0, none⟩), .slice none 0 0] w fun e w' => e = .returned (.int .i64 0) ∧ Below w.heap.size w w' :=
  check_any b L gb H gl w G none 0 0 [] rfl ⟨none, 0, rfl, fun h => by simp at h⟩ (fun x hx => by simp at hx) (fun _ => rfl) (by omega) (by omega)

set_option maxRecDepth 100000 in
set_option maxHeartbeats 8000000 in
theorem sound_main (v : Value) (xs : List ActH) (nur old ng : Nat) (w : World) (h : ActsH w v xs) (hs : smallH xs = true) (hl : xs.length ≤ 1000000000000000) (n1 : 64 ≤ nur) (n2 : nur ≤ 2000) (n3 : 64 ≤ old) (n4 : old ≤ 2000) (n5 : ng ≤ 2000) :
    Calls Try.prog 5 #[.int .i64 nur, .int .i64 old, .int .i64 ng, v] w fun e w' => e = .returned (.bool true) ∧ Below w.heap.size w w' := by
  have hsm : xs.length ≤ 120 ∧ ∀ x ∈ xs, x.us.length ≤ 100 := by
    unfold smallH at hs
    simp only [Bool.and_eq_true, decide_eq_true_eq, List.all_eq_true] at hs
    exact ⟨hs.2, hs.1⟩
  have k1 := fun W (hW : Below w.heap.size w W) => small_any v xs W (h.below hW) hl
  rw [hs] at k1
  have k2 := fun W => hnew_g nur old ng W n1 n2 n3 n4 n5
  have K1 := Lib.hid k1; have K2 := Lib.hid k2
  obtain ⟨a, cap, rfl, hc, ho⟩ := h
  obtain ⟨N, hN⟩ : ∃ n, xs.length = n := ⟨_, rfl⟩
  have HN := Lib.hid hN
  have hN120 := hsm.1
  rw [hN] at hc hN120 K1 ⊢
  have Hc := Lib.hid hc; have Ho := Lib.hid ho; have Hsm := Lib.hid hsm.2
  have d1 : decide ((2000 : Int) < (nur : Int)) = false := by simp; omega
  have d2 : decide ((2000 : Int) < (old : Int)) = false := by simp; omega
  have d3 : decide ((2000 : Int) < (ng : Int)) = false := by simp; omega
  have d4 : decide (2000 < nur) = false := by simp; omega
  have d5 : decide (2000 < old) = false := by simp; omega
  have d6 : decide (2000 < ng) = false := by simp; omega
  clear hc ho hN k1 k2 hs hsm hl
  go_enter Try.func5, Try.ntmps5
  go_wp2_with (first | (go_at_call 9; refine (lives_true _).mono ?_; rintro e w0 ⟨rfl, hb0⟩) | (go_at_call 12; refine (K1.out _ hb0).mono ?_; rintro e w1 ⟨rfl, hb1⟩; have l1 := hb0.trans (hb1.mono hb0.size)) | (go_at_call 13; refine (K2.out w1).mono ?_; rintro e w2 ⟨b, L, gb, rfl, I2, A2, hfo, hb2⟩))
  have l2 := l1.trans (hb2.mono l1.size)
  have hfoot : ∀ k, GFoot b L gb k → w.heap.size ≤ k := fun k hk => Nat.le_trans l1.size (hfo k hk)
  have g2 : GHeap w2 b L gb ⟨nur, old, 0, List.replicate (nur + 2 * old) (0, 0), ng, []⟩ (List.replicate ng (0, 0)) := ⟨I2, A2, new_sound nur old ng⟩
  have HFo := Lib.hid hfoot
  clear hfo hb0 hb1 hb2 l1 hfoot I2 A2
  go_loopw [11] (fun i wr => ∃ (k : Nat) (H : HS) (gl : List Wd), i = .int .i64 k ∧ k ≤ N ∧ GHeap wr b L gb H gl ∧ H.ng = ng ∧ Below w.heap.size w wr) (fun i _ => N - (intOf i).toNat)
  case atStart => exact ⟨0, _, _, rfl, Nat.zero_le _, g2, rfl, l2⟩
  case round =>
    obtain ⟨k, H, gl, rfl, hk, G, hng, hb⟩ := hrel
    clear g2 l2
    by_cases hlt : k < N
    · obtain ⟨bl, ol, rfl, s1, q1⟩ := Hc.out (by omega)
      have hkx : k < xs.length := by rw [HN.out]; exact hlt
      obtain ⟨x, hx⟩ : ∃ x, xs[k]? = some x := ⟨xs[k], List.getElem?_eq_getElem _⟩
      have hxm : x ∈ xs := List.mem_of_getElem? hx
      have hok := Ho.out x hxm
      have hus := Hsm.out x hxm
      have q := q1 k x hx
      clear q1 hx hxm hkx
      obtain ⟨x0, xo, xi, xa, wk, wn, vw, us, raw⟩ := x
      obtain ⟨hOw, hRa, hA, hWn, _⟩ := hok
      dsimp only at hOw hRa hA hWn hus
      have hOw' := hOw
      obtain ⟨aw, cw, e1, _⟩ := hOw'
      subst e1
      have hltI : (k : Int) < (N : Int) := by omega
      have cl := fun j c hj => (hb.cell (p := ⟨bl, ol + k * 8 + j, none⟩) s1).trans (q j c hj)
      have r0 := cl 0 _ rfl
      rw [Nat.add_zero] at r0
      have r1 := cl 1 _ rfl
      have r2 := cl 2 _ rfl
      have r3 := cl 3 _ rfl
      have r4 := cl 4 _ rfl
      have r5 := cl 5 _ rfl
      have r6 := cl 6 _ rfl
      have r7 := cl 7 _ rfl
      obtain ⟨m, hm⟩ : ∃ m, us.length = m := ⟨_, rfl⟩
      dsimp only at r6
      rw [hm] at r6 hus
      have HOw := Lib.hid hOw; have HRa := Lib.hid hRa; have HA := Lib.hid hA; have HWn := Lib.hid hWn; have Hm := Lib.hid hm
      have HG := Lib.hid G; have HB := Lib.hid hb; have HNg := Lib.hid hng
      clear cl q hOw hRa hA hWn hm G hb hng
      go_upto_region 12 with fail
      generalize hW0 : wr.alloc (Obj.cells #[.int .i64 x0, .int .i64 xo, .int .i64 xi, .int .i64 xa, .int .i64 wk, .int .i64 wn, .slice aw m cw, .bool raw] 35) = W0
      have A0 : Blk W0 wr.heap.size #[.int .i64 x0, .int .i64 xo, .int .i64 xi, .int .i64 xa, .int .i64 wk, .int .i64 wn, .slice aw m cw, .bool raw] := by rw [← hW0]; exact Blk.new wr _ _
      have k0 : Below wr.heap.size wr W0 := by rw [← hW0]; exact (Below.refl _ _).alloc (Nat.le_refl _) _
      have a0 := A0.cell
      have HA0 := Lib.hid A0; have HK0 := Lib.hid k0
      clear hW0 r0 r1 r2 r3 r4 r5 r6 r7 A0 k0
      have hfin : ∀ (W : World) (H2 : HS) (gl2 : List Wd), Below wr.heap.size wr W ∨ Off (GFoot b L gb) wr W → Below w.heap.size w W := fun W H2 gl2 hW => by
        rcases hW with hW | hW
        · exact HB.out.trans (hW.mono HB.out.size)
        · exact HB.out.trans (hW.below HB.out.size HFo.out)
      have HFin := Lib.hid hfin
      clear hfin
      go_upto_region 14 with (go_at_call 17; with_reducible refine (pick4 _ _).mono ?_; rintro e w1 ⟨⟨q, rfl⟩, hb1⟩)
      have k1 : Below wr.heap.size wr w1 := HK0.out.trans (hb1.mono HK0.out.size)
      have A1 := HA0.out.below hb1 HA0.out.lt
      have a1 := A1.cell
      have G1 := HG.out.below k1
      have hngb : H.ng ≤ 1000000 := by have := HNg.out; omega
      have HK1 := Lib.hid k1; have HA1 := Lib.hid A1; have HG1 := Lib.hid G1
      clear k1 A1 G1 a0 hb1
      by_cases q0 : q = 0
      · subst q0
        have kww : Below w.heap.size w w1 := HB.out.trans (HK1.out.mono HB.out.size)
        have hlow : WAt w (.slice aw m cw) us := by have := HOw.out; rw [Hm.out] at this; exact this
        have HLow := Lib.hid hlow
        have hOw1 : WAt w1 (.slice aw m cw) us := hlow.below kww (Nat.le_refl _)
        have hmm := Hm.out
        have kh := galloc HG1.out xo xi aw m cw us hmm hus hOw1 HRa.out (fun hp g hg hf => by
          have h1 := wat_low hlow hmm hp g hg
          have h2 := HFo.out g (.inl hf)
          omega)
        have KH := Lib.hid kh; have HOw1 := Lib.hid hOw1; have HKw := Lib.hid kww
        clear kh hOw1 kww hlow hmm
        go_upto_region 16 with (go_at_call 18; with_reducible refine KH.out.mono ?_; rintro e w2 ⟨x, y, H2, rfl, G2, ng2, off2, D2⟩)
        have A2 := off2.blk HA1.out (fun hf => by have := HG.out.lt _ hf; omega)
        have a2 := A2.cell
        have offr : Off (GFoot b L gb) wr w2 := (Off.of_below HK1.out).trans off2 (fun _ h => h) (fun _ h => .inl h)
        have hngb2 : H2.ng ≤ 1000000 := by omega
        have hO2 : WAt w2 (.slice aw m cw) us := HOw1.out.off0 off2 (fun hl g hg hf => by
          have h1 := wat_low HLow.out Hm.out (by rw [← Hm.out]; exact hl) g hg
          have h2 := HFo.out g hf
          omega)
        have HG2 := Lib.hid G2; have HOr := Lib.hid offr; have Hn2 := Lib.hid ng2; have HA2 := Lib.hid A2; have HO2 := Lib.hid hO2
        have KC := Lib.hid (fun W (hW : Below w2.heap.size w2 W) => check_nil (G2.below hW) hngb2)
        have HFin2 := Lib.hid (fun (W : World) (hW : Below w2.heap.size w2 W) => HFin.out W H2 gl (.inr (offr.trans (Off.of_below (S := GFoot b L gb) hW) (fun _ h => h) (fun _ h => .inl h))))
        clear off2 A2 offr hO2 a1
        rcases D2 with ⟨rfl, rfl, hy⟩ | ⟨us3, rfl, rfl, rfl, hus3, hst, t1, t2, t3, t4, t5, t6, t7⟩
        · have dy : (y == 0) = false := by simpa using hy
          have dy' : decide (y = 0) = false := by simpa using hy
          obtain ⟨S, hS⟩ : ∃ S, sizeH H2 0 = S := ⟨_, rfl⟩
          have kg := get_u b L H2 w2 G2.inv G2.snd.good 0 (by omega) (by omega) S hS
          have KG := Lib.hid kg
          clear kg hS G2 ng2 hy
          go_upto_region 17 with (go_at_call 16; with_reducible refine KG.out.mono ?_; rintro e w3 ⟨gk, gi, gp, gn, gc, gr, rfl, hb3, _, _⟩)
          generalize hW4 : w3.alloc (Obj.cells #[.int .i64 gk, .int .i64 gi, .slice gp gn gc] 41) = W4
          have k4 : Below w2.heap.size w2 W4 := by rw [← hW4]; exact hb3.alloc hb3.size _
          have HK4 := Lib.hid k4
          clear hW4 hb3 k4 a2
          go_wp2_with (go_at_call 24; with_reducible refine ((KC.out W4 HK4.out)).mono ?_; rintro e w5 ⟨rfl, hb5⟩)
          go_roundw
          case rel => exact ⟨k + 1, H2, gl, by go_num, by omega, HG2.out.below (HK4.out.trans (hb5.mono HK4.out.size)), HNg.out, HFin2.out w5 (HK4.out.trans (hb5.mono HK4.out.size))⟩
          case measure => simp [intOf]; omega
        · have htl := HG1.out.inv.len; have hold := HG1.out.inv.old
          have hnew := head_new (H := H) (kind := xo) (info := xi) (us := us3) (by omega) t1 t2 (by omega) t3 t4 t5
          have kg := get_some b L (H.alloc xo xi us3) w2 G2.inv G2.snd.good H.top (by show (H.top : Int) ∈ H.st ++ [(H.top : Int)]; simp) _ hnew us3.length rfl
          rw [alloc_obj (by omega)] at kg
          obtain ⟨s, hs⟩ : ∃ s, us3.length = s := ⟨_, rfl⟩
          rw [hs] at kg
          have KG := Lib.hid kg; have HS3 := Lib.hid hs; have HU3 := Lib.hid hus3
          have hsb : s ≤ 100 := by omega
          clear kg hnew G2 ng2 hst t1 t2 t3 t4 t5 t7 hs t6 htl hold hus3
          go_upto_region 17 with (go_at_call 16; with_reducible refine KG.out.mono ?_; rintro e w3 ⟨gp, gc, rfl, og, hb3⟩)
          generalize hW4 : w3.alloc (Obj.cells #[.int .i64 xo, .int .i64 xi, .slice gp s gc] 41) = W4
          have B4 : Blk W4 w3.heap.size #[.int .i64 xo, .int .i64 xi, .slice gp s gc] := by rw [← hW4]; exact Blk.new w3 _ _
          have k34 : Below w3.heap.size w3 W4 := by rw [← hW4]; exact (Below.refl _ _).alloc (Nat.le_refl _) _
          have k4 : Below w2.heap.size w2 W4 := hb3.trans (k34.mono hb3.size)
          have b4 := B4.cell
          have a4 := (HA2.out.below k4 HA2.out.lt).cell
          have ks := starts_true gp aw s gc m cw us3 us W4 (by have := (WOwn.at og).below k34 (Nat.le_refl _); exact this) (HO2.out.below k4 (Nat.le_refl _)) HS3.out Hm.out (by omega) (by
            rcases HU3.out with q | ⟨q1, q2⟩
            · exact .inl q
            · exact .inr ⟨q1, q2⟩)
          have KS := Lib.hid ks; have HK4 := Lib.hid k4
          clear hW4 hb3 k4 a2 ks B4 k34 og
          go_wp2_with (first | (go_at_call 21; with_reducible refine (KS.out).mono ?_; rintro e w5 ⟨rfl, hb5⟩) | (go_at_call 24; with_reducible refine ((KC.out w5 (HK4.out.trans (hb5.mono HK4.out.size)))).mono ?_; rintro e w6 ⟨rfl, hb6⟩))
          go_roundw
          case rel =>
            have k5 := HK4.out.trans (hb5.mono HK4.out.size)
            have k6 := k5.trans (hb6.mono k5.size)
            exact ⟨k + 1, _, gl, by go_num, by omega, HG2.out.below k6, Hn2.out.trans HNg.out, HFin2.out w6 k6⟩
          case measure => simp [intOf]; omega
      · have d0 : (q == 0) = false := by simpa using q0
        by_cases q1 : q = 1
        · subst q1
          have kh := ghole HG1.out xa HA.out.1 HA.out.2
          have KH := Lib.hid kh
          clear kh
          go_wp2_with (first | (go_at_call 19; with_reducible refine KH.out.mono ?_; rintro e w2 ⟨c2, H2, rfl, G2, ng2, off2⟩; have KC := Lib.hid (check_nil G2 (by omega)); have HG2 := Lib.hid G2; have HO2 := Lib.hid off2; have Hn2 := Lib.hid ng2; clear G2 off2 ng2) | (go_at_call 24; with_reducible refine KC.out.mono ?_; rintro e w3 ⟨rfl, hb3⟩))
          go_roundw
          case rel => exact ⟨k + 1, H2, gl, by go_num, by omega, HG2.out.below hb3, Hn2.out.trans HNg.out, HFin.out w3 H2 gl (.inr (((Off.of_below HK1.out).trans HO2.out (fun _ h => h) (fun _ h => .inl h)).trans (Off.of_below (S := GFoot b L gb) hb3) (fun _ h => h) (fun _ h => .inl h)))⟩
          case measure => simp [intOf]; omega
        · have d1 : (q == 1) = false := by simpa using q1
          by_cases q2 : q = 2
          · subst q2
            have kh := puts_any HG1.out hngb x0 xo xi xa wk wn aw m cw raw HA.out.1 HA.out.2 HWn.out.1 HWn.out.2
            have KH := Lib.hid kh
            clear kh
            go_wp2_with (first | (go_at_call 22; with_reducible refine KH.out.mono ?_; rintro e w2 ⟨rfl, H2, G2, ng2, off2⟩; have KC := Lib.hid (check_nil G2 (by omega)); have HG2 := Lib.hid G2; have HO2 := Lib.hid off2; have Hn2 := Lib.hid ng2; clear G2 off2 ng2) | (go_at_call 24; with_reducible refine KC.out.mono ?_; rintro e w3 ⟨rfl, hb3⟩))
            go_roundw
            case rel => exact ⟨k + 1, H2, gl, by go_num, by omega, HG2.out.below hb3, Hn2.out.trans HNg.out, HFin.out w3 H2 gl (.inr (((Off.of_below HK1.out).trans HO2.out (fun _ h => h) (fun _ h => .inl h)).trans (Off.of_below (S := GFoot b L gb) hb3) (fun _ h => h) (fun _ h => .inl h)))⟩
            case measure => simp [intOf]; omega
          · have d2 : (q == 2) = false := by simpa using q2
            have kh := gset HG1.out xi wk wn HWn.out.1 HWn.out.2
            have KH := Lib.hid kh
            clear kh
            go_wp2_with (first | (go_at_call 23; with_reducible refine KH.out.mono ?_; rintro e w2 ⟨c2, gl2, rfl, G2, ng2, off2⟩; have KC := Lib.hid (check_nil G2 hngb); have HG2 := Lib.hid G2; have HO2 := Lib.hid off2; clear G2 off2 ng2) | (go_at_call 24; with_reducible refine KC.out.mono ?_; rintro e w3 ⟨rfl, hb3⟩))
            go_roundw
            case rel => exact ⟨k + 1, H, gl2, by go_num, by omega, HG2.out.below hb3, HNg.out, HFin.out w3 H gl (.inr (((Off.of_below HK1.out).trans HO2.out (fun _ h => h) (fun _ h => .inl h)).trans (Off.of_below (S := GFoot b L gb) hb3) (fun _ h => h) (fun _ h => .inl h)))⟩
            case measure => simp [intOf]; omega
    · have HB := Lib.hid hb
      clear G
      go_wp2
      go_ret
      exact ⟨rfl, HB.out⟩

end Go.Proofs.Ytlmljommgmbckaa
