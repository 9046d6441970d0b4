/- The walk of LexCalls. -/
import Derived.Test.YtiflklmjmdhfoaaDoorLcE
import Derived.Test.YtiflklmjmdhfoaaDoorLrA
import Derived.Test.YtiflklmjmdhfoaaDoorLcA
import Derived.Deep.Cut
namespace Go.Proofs.YtiflklmjmdhfoaaDoor
open Go.RowKit Go.Shelf
set_option linter.unusedSimpArgs false
set_option linter.unusedVariables false

theorem wp_region_class {P : Program} {id : Nat} {Q : Exit → Act → World → Prop} {a : Act} {w : World} {l : List Oper} (C : World → Prop) (hm : P.follows .mixedOrders = true) (hB : Region.lexB .any l.toArray = true) (hC : C w.drew)
    (h : wpQuiet P l.toArray C (fun a' => ∀ w', C w' → Q .normal a' w') l a) : (Code.region id l.toArray true).wp P Q a w :=
  wp_region_quiet (C := C) hm hB hC (by simpa using h)
theorem txtI_len (kind num : Int) (l : List UInt8) (hn : num ≤ 9223372036854775807) : (txtI kind num l).length ≤ 24 * l.length + 26 := by
  unfold txtI
  split
  · have := dec_len (max 0 num).toNat (by omega); omega
  · split
    · have := shL_len 39 [] (by simp) [UInt8.ofNat (min 255 (max 0 num)).toNat]
      simp at this ⊢; omega
    · split
      · have := shL_len 34 [92, 38] (by simp) l
        simp; omega
      · split
        · omega
        · simp

set_option maxRecDepth 100000 in
set_option maxHeartbeats 8000000 in
theorem calls_walk (v : Value) (gs : List GT) (s : ByteArray) (c : UInt8) (w : World) (h : GRd w v gs) (hv : v = .slice none 0 0 ∨ ∃ p n c, v = .slice (some p) n c) (hok : ∀ x ∈ gs, x.ok) (hl : gs.length ≤ 10000000000000) (hs : s.size ≤ 140737488355328) (ht : Tab w) :
    Calls Tryd.prog 7 #[v, .string s, .int .u8 c.toNat] w fun e w' => e = .returned (.bool true) ∧ Below w.heap.size w w' := by
  obtain ⟨N, hN⟩ : ∃ N, gs.length = N := ⟨_, rfl⟩
  have Hv := Lib.hid hv
  have H0 := Lib.hid h
  obtain ⟨a, cap, rfl, hc⟩ := h
  have HN := Lib.hid hN
  have Hc := Lib.hid hc
  have Hok := Lib.hid hok
  have Htb := Lib.hid ht
  rw [hN] at hl Hv H0 ⊢
  clear hc hok ht hv
  by_cases hbig : 300 < N
  · have d0 : decide ((300 : Int) < (N : Int)) = true := by simp; omega
    clear hN
    go_enter Tryd.func7, Tryd.ntmps7
    go_wp2_with (go_at_call 9; refine (lives_true _).mono ?_; rintro e w0 ⟨rfl, b0⟩)
    go_ret
    exact ⟨rfl, b0⟩
  · have d0 : decide ((300 : Int) < (N : Int)) = false := by simp; omega
    clear hN
    go_enter Tryd.func7, Tryd.ntmps7
    go_wp2_with (go_at_call 9; refine (lives_true _).mono ?_; rintro e w0 ⟨rfl, b0⟩)
    go_loopw [7, 8] (fun n i wr => ∃ k m : Nat, n = .int .i64 m ∧ i = .int .i64 k ∧ k ≤ N ∧ s.size ≤ m ∧ m ≤ s.size + 4000 * k ∧ (∀ x ∈ gs.take k, x.text.size ≤ 4000) ∧ Below w.heap.size w wr) (fun _ i _ => N - (intOf i).toNat)
    case atStart => exact ⟨0, s.size, rfl, rfl, Nat.zero_le _, Nat.le_refl _, by omega, by simp, b0⟩
    case round =>
      obtain ⟨k, m, rfl, rfl, hk, hm1, hm2, hall, hB⟩ := hrel
      have Hall := Lib.hid hall
      clear hall
      by_cases hlt : k < N
      · have hlt2 : decide ((k : Int) < (N : Int)) = true := by simp; omega
        have hlt3 : decide (k < N) = true := by simp; omega
        have hkl : k < gs.length := by rw [HN.out]; exact hlt
        obtain ⟨b, o, rfl, hbl, hat⟩ := Hc.out (by omega)
        have key : ∀ o, wr.cell? ⟨b, o, none⟩ = w.cell? ⟨b, o, none⟩ := fun o => hB.cell (p := ⟨b, o, none⟩) hbl
        obtain ⟨u2, _⟩ := Hok.out gs[k] (List.getElem_mem hkl)
        have hX := List.getElem?_eq_getElem hkl
        obtain ⟨c0, c1, c2, c3, c4, c5, c6⟩ := gat hat key gs[k] hX
        have hnx : gs.take (k + 1) = gs.take k ++ [gs[k]] := List.take_succ_eq_append_getElem hkl
        generalize gs[k] = x at c0 c1 c2 c3 c4 c5 c6 u2 hX hnx
        by_cases hbt : 4000 < x.text.size
        · have e1 : decide ((4000 : Int) < (x.text.size : Int)) = true := by simp; omega
          have e2 : decide (4000 < x.text.size) = true := by simp; omega
          clear hat key hnx hX
          go_wp2
          go_ret
          exact ⟨rfl, hB⟩
        · have e1 : decide ((4000 : Int) < (x.text.size : Int)) = false := by simp; omega
          have e2 : decide (4000 < x.text.size) = false := by simp; omega
          have hnext : ∀ y ∈ gs.take (k + 1), y.text.size ≤ 4000 := fun y hy => by
            rw [hnx] at hy
            rcases List.mem_append.1 hy with hy | hy
            · exact Hall.out y hy
            · obtain rfl := List.mem_singleton.1 hy; omega
          have Hnext := Lib.hid hnext
          have Hat := Lib.hid (fun W (hW : Below w.heap.size w W) => gat (W' := W) hat (fun o => hW.cell (p := ⟨b, o, none⟩) hbl) _ hX)
          obtain ⟨tk, tt, tn, pa, pl, pc, pf⟩ := x
          simp only at c0 c1 c2 c3 c4 c5 c6 u2 e1 e2 hbt
          obtain ⟨r, hr⟩ : ∃ r, txtI tk tn tt.data.toList = r := ⟨_, rfl⟩
          have Kt := fun w ht => text_known tk tn tt pa pl pc pf r hr w (by omega) u2 ht
          have Kr := fun w => rtext_known tk tn tt pa pl pc pf r hr w (by omega) u2
          obtain ⟨u, hu⟩ : ∃ u : ByteArray, ⟨r.toArray⟩ = u := ⟨_, rfl⟩
          rw [hu] at Kt Kr
          have Kt := Lib.hid Kt
          have Kr := Lib.hid Kr
          have hwm : IntKind.i64.wrap ((m : Int) + (tt.size : Int)) = (m : Int) + (tt.size : Int) := IntWalk.i64_in _ (by omega)
          have hB8 := hB.size
          have hi0 : (0 : Int) ≤ (k : Int) := by omega
          clear hat key hnx hX hnext hr hu
          go_upto_region 12 with fail
          have s0 : wr.drew.cell? ⟨b, o + k * 7, none⟩ = some (.int .i64 tk) ∧ wr.drew.cell? ⟨b, o + k * 7 + 1, none⟩ = some (.string tt) ∧ wr.drew.cell? ⟨b, o + k * 7 + 2, none⟩ = some (.int .i64 tn) ∧ wr.drew.cell? ⟨b, o + k * 7 + 3, none⟩ = some (.int .i64 pa) ∧ wr.drew.cell? ⟨b, o + k * 7 + 4, none⟩ = some (.int .i64 pl) ∧ wr.drew.cell? ⟨b, o + k * 7 + 5, none⟩ = some (.int .i64 pc) ∧ wr.drew.cell? ⟨b, o + k * 7 + 6, none⟩ = some (.bool pf) ∧ Below w.heap.size w wr.drew := ⟨c0, c1, c2, c3, c4, c5, c6, hB.drew⟩
          refine wp_region_class (fun wx => wx.cell? ⟨b, o + k * 7, none⟩ = some (.int .i64 tk) ∧ wx.cell? ⟨b, o + k * 7 + 1, none⟩ = some (.string tt) ∧ wx.cell? ⟨b, o + k * 7 + 2, none⟩ = some (.int .i64 tn) ∧ wx.cell? ⟨b, o + k * 7 + 3, none⟩ = some (.int .i64 pa) ∧ wx.cell? ⟨b, o + k * 7 + 4, none⟩ = some (.int .i64 pl) ∧ wx.cell? ⟨b, o + k * 7 + 5, none⟩ = some (.int .i64 pc) ∧ wx.cell? ⟨b, o + k * 7 + 6, none⟩ = some (.bool pf) ∧ Below w.heap.size w wx) (by kernel_rfl) (by kernel_rfl) (by assumption) ?_
          repeat (first | go_big_quiet_skip | (go_big_quiet_want; first | (go_big_quiet_op; go_big_quiet_on) | (apply Exists.intro; refine ⟨fun wx hC => ?_, ?_⟩; (focus (obtain ⟨g0, g1, g2, g3, g4, g5, g6, g7⟩ := hC; unfold Oper.quietAt; go_simp; all_goals exact rfl)); go_simp; go_big_quiet_on) | (apply Exists.intro; refine ⟨fun wx hC => ?_, ?_⟩; (focus (unfold Oper.quietAt; go_simp; (first | (refine (Kt.out _ (Tab.on Htb.out hC.2.2.2.2.2.2.2)).mono ?_; rintro e8 w8 ⟨rfl, hb8⟩; obtain ⟨g0, g1, g2, g3, g4, g5, g6⟩ := Hat.out _ (chain hC.2.2.2.2.2.2.2 hb8); exact ⟨rfl, g0, g1, g2, g3, g4, g5, g6, chain hC.2.2.2.2.2.2.2 hb8⟩) | (refine (Kr.out _).mono ?_; rintro e8 w8 ⟨rfl, hb8⟩; obtain ⟨g0, g1, g2, g3, g4, g5, g6⟩ := Hat.out _ (chain hC.2.2.2.2.2.2.2 hb8); exact ⟨rfl, g0, g1, g2, g3, g4, g5, g6, chain hC.2.2.2.2.2.2.2 hb8⟩)))); go_simp; go_big_quiet_on)))
          refine wpQuiet_nil ?_
          intro wz hCz
          have k8 := hCz.2.2.2.2.2.2.2
          go_wp2
          go_roundw
          case rel => exact ⟨k + 1, m + tt.size, by go_num, by go_num, by omega, by omega, by omega, Hnext.out, k8⟩
          case measure => simp [intOf]; omega
      · have hlt2 : decide ((k : Int) < (N : Int)) = false := by simp; omega
        have hlt3 : decide (k < N) = false := by simp; omega
        by_cases hbm : 4000 < m
        · have e1 : decide ((4000 : Int) < (m : Int)) = true := by simp; omega
          have e2 : decide (4000 < m) = true := by simp; omega
          go_wp2
          go_ret
          exact ⟨rfl, hB⟩
        · have e1 : decide ((4000 : Int) < (m : Int)) = false := by simp; omega
          have e2 : decide (4000 < m) = false := by simp; omega
          have hall : gs.take k = gs := List.take_of_length_le (by rw [HN.out]; omega)
          have hsm := Hall.out
          rw [hall] at hsm
          have hgl : ∀ x ∈ gs, (gtx x).length ≤ 200000 := fun x hx => by
            have h1 := txtI_len x.kind x.num x.text.data.toList (Hok.out x hx).1
            have h2 : x.text.data.toList.length = x.text.size := rfl
            have h3 := hsm x hx
            show (txtI x.kind x.num x.text.data.toList).length ≤ _
            omega
          have hjl := joinL_le 200000 (gs.map gtx) (fun y hy => by obtain ⟨x, hx, rfl⟩ := List.mem_map.1 hy; exact hgl x hx)
          rw [List.length_map, HN.out] at hjl
          have hjl2 : (joinL (gs.map gtx)).length ≤ 1000000000000 := Nat.le_trans hjl (Nat.le_trans (Nat.mul_le_mul_right _ (show N ≤ 300 by omega)) (by omega))
          have KT := Lib.hid (fun v W (hg : GRd W v gs) hv => tokens_any v gs W hg hv (by rw [HN.out]; omega))
          have KJ := Lib.hid (fun v W (hg : GRd W v gs) ht => gjoin_any v gs W hg (by rw [HN.out]; omega) (fun x hx => ⟨by have := hsm x hx; omega, (Hok.out x hx).1⟩) hjl2 ht)
          have KR := Lib.hid (fun v W (hg : GRd W v gs) => rjoin_any v gs W hg (by rw [HN.out]; omega) (fun x hx => ⟨hsm x hx, (Hok.out x hx).1, hgl x hx⟩))
          have KS := Lib.hid (fun a b W (ha : GRd W a gs) (hb : GRd W b gs) => same_toks a b gs W ha hb (by rw [HN.out]; omega))
          obtain ⟨r, hr⟩ : ∃ r : ByteArray, ⟨(joinL (gs.map gtx)).toArray⟩ = r := ⟨_, rfl⟩
          rw [hr] at KJ KR
          have hg1 := H0.out.below hB
          clear hall hsm hgl hjl hjl2 hr
          go_wp2_with (first | (go_at_call 18; refine (KT.out _ _ hg1 Hv.out).mono ?_; rintro e w1 ⟨v1, rfl, own1, b1⟩; have B1 := chain hB b1; have g1 := hg1.below b1) | (go_at_call 19; refine (KJ.out _ _ own1 (Tab.on Htb.out B1)).mono ?_; rintro e w2 ⟨rfl, b2⟩; have B2 := chain B1 b2; have g2 := g1.below b2; have own2 := own1.below b2) | (go_at_call 20; refine (KR.out _ _ g2).mono ?_; rintro e w3 ⟨rfl, b3⟩; have B3 := chain B2 b3; have g3 := g2.below b3; have own3 := own2.below b3) | (go_at_call 15; refine (KS.out _ _ _ own3 g3).mono ?_; rintro e w4 ⟨rfl, b4⟩; have B4 := chain B3 b4) | (go_at_call 21; refine (Word_any s _).mono ?_; rintro e w5 ⟨rfl, b5⟩; have B5 := chain B4 b5) | (go_at_call 22; refine (rWord_any s _).mono ?_; rintro e w6 ⟨rfl, b6⟩; have B6 := chain B5 b6) | (go_at_call 23; refine (Sign_any s _).mono ?_; rintro e w7 ⟨rfl, b7⟩; have B7 := chain B6 b7) | (go_at_call 24; refine (rSign_any s _).mono ?_; rintro e w8 ⟨rfl, b8⟩; have B8 := chain B7 b8) | (go_at_call 25; refine (symbol_any c _).mono ?_; rintro e w9 ⟨rfl, b9⟩; have B9 := chain B8 b9) | (go_at_call 26; refine (rsymbol_any c _).mono ?_; rintro e w10 ⟨rfl, b10⟩; have B10 := chain B9 b10))
          go_ret
          exact ⟨rfl, B10⟩
end Go.Proofs.YtiflklmjmdhfoaaDoor
