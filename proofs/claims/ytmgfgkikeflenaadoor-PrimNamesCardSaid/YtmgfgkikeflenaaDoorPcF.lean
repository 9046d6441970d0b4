/- The document's Apply. -/
import Derived.Test.YtmgfgkikeflenaaDoorPcE
namespace Go.Proofs.YtmgfgkikeflenaaDoor
open Go.RowKit Go.Shelf
open Ev (AV Mem V VL MR)
set_option linter.unusedSimpArgs false
set_option linter.unusedVariables false

theorem wp_region_class {P : Program} {id : Nat} {Q : Exit → Act → World → Prop} {a : Act} {w : World} {l : List Oper} (C : World → Prop) (hm : P.follows .mixedOrders = true) (hB : Region.lexB .any l.toArray = true) (hC : C w.drew)
    (h : wpQuiet P l.toArray C (fun a' => ∀ w', C w' → Q .normal a' w') l a) : (Code.region id l.toArray true).wp P Q a w :=
  wp_region_quiet (C := C) hm hB hC (by simpa using h)
set_option maxRecDepth 1000000 in
theorem rnumber_any (n : Int) (w : World) : Calls Tryd.prog 31 #[.int .i64 n] w fun e w' => e = .returned (.agg #[.int .i64 1, .int .i64 n, .string ⟨#[]⟩]) ∧ Below w.heap.size w w' :=
  valued (ν := fun _ => .int .i64 n) (r := .agg [.int .i64 1, .opq 0, .str []]) (args := [.opq 0]) (show ansV _ (Ev.calls Tryd.prog Ev.noFacts 100000 60 _ _ Mem.start) = true by kernel_rfl) (vl_opq _ 0 rfl rfl (vl_nil _)) (is_primq rfl) w
set_option maxRecDepth 1000000 in
theorem rfail_chr (w : World) : Calls Tryd.prog 32 #[.string ⟨#[99, 104, 114, 32, 111, 117, 116, 32, 111, 102, 32, 114, 97, 110, 103, 101]⟩] w fun e w' => e = .returned (.agg #[.int .i64 4, .int .i64 0, .string (Ev.bytes chrT)]) ∧ Below w.heap.size w w' :=
  valued (ν := ν0) (r := .agg [.int .i64 4, .int .i64 0, .str chrT]) (args := [.str chrT]) (show ansV _ (Ev.calls Tryd.prog Ev.noFacts 100000 60 _ _ Mem.start) = true by kernel_rfl) (by simp only [VL, V]; exact ⟨_, _, rfl, ⟨rfl, by decide⟩, rfl⟩) is_prim w

theorem arity_ar (k : Nat) (hk : k < 15) : arityK k = (arN k : Int) :=
  match k, hk with
  | 0, _ => rfl | 1, _ => rfl | 2, _ => rfl | 3, _ => rfl | 4, _ => rfl | 5, _ => rfl | 6, _ => rfl | 7, _ => rfl | 8, _ => rfl | 9, _ => rfl | 10, _ => rfl | 11, _ => rfl | 12, _ => rfl | 13, _ => rfl | 14, _ => rfl
set_option maxRecDepth 100000 in
set_option maxHeartbeats 8000000 in
theorem rapply_no (s : ByteArray) (smp : Bool) (ar : Int) (hS : ∀ w, Calls Tryd.prog 14 #[.string s] w fun e w' => e = .returned (.bool smp) ∧ Below w.heap.size w w')
    (hA : smp = true → ∀ w, Calls Tryd.prog 30 #[.string s] w fun e w' => e = .returned (.int .i64 ar) ∧ Below w.heap.size w w') (v : Value) (ps : List PT) (w : World) (h : PRd w v ps) (hn : ps.length ≤ 10) (hno : smp = true → (ps.length : Int) ≠ ar) :
    Calls Tryd.prog 12 #[.string s, v] w fun e w' => e = .returned (.tuple #[pV 0 0 [], .int .i64 2]) ∧ Below w.heap.size w w' := by
  obtain ⟨a, cap, rfl, _⟩ := h
  obtain ⟨N, hN⟩ : ∃ N, ps.length = N := ⟨_, rfl⟩
  rw [hN] at hno ⊢
  have B0 := Blk.new w zeroP 26
  have l0 : Below w.heap.size w (w.alloc (.cells zeroP 26)) := (Below.refl _ w).alloc (Nat.le_refl _) _
  cases smp with
  | false =>
    have HS := Lib.hid hS
    clear hS hA hno
    go_enter Tryd.func12, Tryd.ntmps12
    go_wp2_with (go_at_call 14; refine (HS.out _).mono ?_; rintro e w1 ⟨rfl, b1⟩; have hR := B0.below b1 B0.lt; have hB := chain l0 b1; have c0 := hR.cell 0; have c1 := hR.cell 1; have c2 := hR.cell 2; have g := hR.free; simp only [zeroP, List.getElem?_toArray, List.getElem?_cons_zero, List.getElem?_cons_succ] at c0 c1 c2)
    have hR2 := stored hR 0 0 ⟨#[]⟩
    have hb := stored_below hB (Nat.le_refl _) (.int .i64 0) (.int .i64 0) (.string ⟨#[]⟩)
    generalize ((w1.setCell ⟨w.heap.size, 0, none⟩ (.int .i64 0)).setCell ⟨w.heap.size, 1, none⟩ (.int .i64 0)).setCell ⟨w.heap.size, 2, none⟩ (.string ⟨#[]⟩) = W2 at hR2 hb ⊢
    have f0 := hR2.cell 0
    have f1 := hR2.cell 1
    have f2 := hR2.cell 2
    simp only [List.getElem?_toArray, List.getElem?_cons_zero, List.getElem?_cons_succ] at f0 f1 f2
    refine bodyPost_ret (v := .tuple #[.agg #[.int .i64 0, .int .i64 0, .string ⟨#[]⟩], .int .i64 2]) (by simp [results, Tryd.results12, go_sem, f0, f1, f2]) rfl ?_
    exact ⟨rfl, hb⟩
  | true =>
    have HS := Lib.hid hS
    have HA := Lib.hid (hA rfl)
    have e1 : ((N : Int) != ar) = true := by rw [bne_iff_ne]; exact hno rfl
    clear hS hA hno
    go_enter Tryd.func12, Tryd.ntmps12
    go_wp2_with (first | (go_at_call 14; refine (HS.out _).mono ?_; rintro e w1 ⟨rfl, b1⟩; have hR := B0.below b1 B0.lt; have hB := chain l0 b1) | (go_at_call 30; refine (HA.out _).mono ?_; rintro e w2 ⟨rfl, b2⟩; have hR1 := hR.below b2 hR.lt; have hB1 := chain hB b2; have c0 := hR1.cell 0; have c1 := hR1.cell 1; have c2 := hR1.cell 2; have g := hR1.free; simp only [zeroP, List.getElem?_toArray, List.getElem?_cons_zero, List.getElem?_cons_succ] at c0 c1 c2))
    have hR2 := stored hR1 0 0 ⟨#[]⟩
    have hb := stored_below hB1 (Nat.le_refl _) (.int .i64 0) (.int .i64 0) (.string ⟨#[]⟩)
    generalize ((w2.setCell ⟨w.heap.size, 0, none⟩ (.int .i64 0)).setCell ⟨w.heap.size, 1, none⟩ (.int .i64 0)).setCell ⟨w.heap.size, 2, none⟩ (.string ⟨#[]⟩) = W2 at hR2 hb ⊢
    have f0 := hR2.cell 0
    have f1 := hR2.cell 1
    have f2 := hR2.cell 2
    simp only [List.getElem?_toArray, List.getElem?_cons_zero, List.getElem?_cons_succ] at f0 f1 f2
    refine bodyPost_ret (v := .tuple #[.agg #[.int .i64 0, .int .i64 0, .string ⟨#[]⟩], .int .i64 2]) (by simp [results, Tryd.results12, go_sem, f0, f1, f2]) rfl ?_
    exact ⟨rfl, hb⟩

theorem ord_eq (k : Nat) (hk : k < 15) : ((nameB k).toList == [111, 114, 100]) = decide (k = 13) := by
  rw [ByteArray.toList_eq]
  exact match k, hk with
  | 0, _ => rfl | 1, _ => rfl | 2, _ => rfl | 3, _ => rfl | 4, _ => rfl | 5, _ => rfl | 6, _ => rfl | 7, _ => rfl | 8, _ => rfl | 9, _ => rfl | 10, _ => rfl | 11, _ => rfl | 12, _ => rfl | 13, _ => rfl | 14, _ => rfl
theorem chr_eq (k : Nat) (hk : k < 15) : ((nameB k).toList == [99, 104, 114]) = decide (k = 14) := by
  rw [ByteArray.toList_eq]
  exact match k, hk with
  | 0, _ => rfl | 1, _ => rfl | 2, _ => rfl | 3, _ => rfl | 4, _ => rfl | 5, _ => rfl | 6, _ => rfl | 7, _ => rfl | 8, _ => rfl | 9, _ => rfl | 10, _ => rfl | 11, _ => rfl | 12, _ => rfl | 13, _ => rfl | 14, _ => rfl

set_option maxRecDepth 100000 in
set_option maxHeartbeats 8000000 in
theorem rapply_right (k : Nat) (hk : k < 15) (v : Value) (ps : List PT) (w : World) (h : PRd w v ps) (hl : ps.length = arN k) :
    Calls Tryd.prog 12 #[.string (nameB k), v] w fun e w' => e = .returned (.tuple #[(applyV k ps).1, .int .i64 (applyV k ps).2]) ∧ Below w.heap.size w w' := by
  obtain ⟨a, cap, rfl, hat0⟩ := h
  have Hat := Lib.hid hat0
  obtain ⟨ar, har⟩ : ∃ ar, arN k = ar := ⟨_, rfl⟩
  have hl' : ps.length = ar := hl.trans har
  have HL := Lib.hid hl'
  rw [hl']
  have har2 : ar = 1 ∨ ar = 2 := by rw [← har]; exact arN_two k
  have e1 : ((ar : Int) != (ar : Int)) = false := by simp
  have B0 := Blk.new w zeroP 26
  have l0 : Below w.heap.size w (w.alloc (.cells zeroP 26)) := (Below.refl _ w).alloc (Nat.le_refl _) _
  have Hbad := Lib.hid (show (∃ p ∈ ps, badK k p = true) → applyV k ps = (pV 0 0 [], 2) from fun ⟨p, hp, hb⟩ => by
    unfold applyV
    rw [if_neg]
    rintro ⟨_, h⟩
    rw [List.all_eq_true] at h
    have := h p hp
    rw [hb] at this
    cases this)
  have Hgood := Lib.hid (show (∀ p ∈ ps.take ar, badK k p = false) → applyV k ps = (doesV k (numAt ps 0) (numAt ps 1), 0) from fun h => by
    unfold applyV
    rw [if_pos]
    refine ⟨hl, ?_⟩
    rw [List.all_eq_true]
    intro p hp
    rw [h p (by rw [List.take_of_length_le (by omega)]; exact hp)]
    rfl)
  obtain ⟨kd, hkd⟩ : ∃ kd, kdN k = kd := ⟨_, rfl⟩
  have HS := Lib.hid (fun w => rSimple_at k (by omega) w)
  have hsk : simpK k = true := Ev.blt_iff.2 hk
  rw [hsk] at HS
  have HA := Lib.hid (fun w => rArity_at k (by omega) w)
  have hak : arityK k = (ar : Int) := by rw [← har]; exact arity_ar k hk
  rw [hak] at HA
  have HK := Lib.hid (show ∀ j : Nat, j < ar → ∀ w, Calls Tryd.prog 17 #[.string (nameB k), .int .i64 j] w fun e w' => e = .returned (.int .i64 kd) ∧ Below w.heap.size w w' from fun j hj w => by
    have := rTakes_at k (by omega) j w
    rw [show takesK k j = kd by unfold takesK; rw [if_pos ⟨hk, by omega, by rw [har]; omega⟩, hkd]] at this
    exact this)
  have H2 := Lib.hid (fun (h : k < 13) a b w => two_at k h a b w)
  clear hat0 hl hl' hsk hak
  generalize hsb : nameB k = s at HS HA HK H2 ⊢
  go_enter Tryd.func12, Tryd.ntmps12
  go_wp2_with (first | (go_at_call 14; refine (HS.out _).mono ?_; rintro e w1 ⟨rfl, b1⟩; have hR := B0.below b1 B0.lt; have hB := chain l0 b1) | (go_at_call 30; refine (HA.out _).mono ?_; rintro e w2 ⟨rfl, b2⟩; have hR0 := hR.below b2 hR.lt; have hB0 := chain hB b2))
  clear hR hB B0 l0 b1 b2
  go_loopw [6] (fun i wr => ∃ j : Nat, i = .int .i64 j ∧ j ≤ ar ∧ Hid (∀ p ∈ ps.take j, badK k p = false) ∧ Blk wr w.heap.size zeroP ∧ Below w.heap.size w wr) (fun i _ => ar - (intOf i).toNat)
  case atStart => exact ⟨0, rfl, Nat.zero_le _, Lib.hid (by simp), hR0, hB0⟩
  case round =>
    clear hR0 hB0
    obtain ⟨j, rfl, hj, Hg, hR, hB⟩ := hrel
    by_cases hlt : j < ar
    · have hlt2 : decide ((j : Int) < (ar : Int)) = true := by simp; omega
      have hlt3 : decide (j < ar) = true := by simp; omega
      have hkl : j < ps.length := by rw [HL.out]; exact hlt
      obtain ⟨b', o', rfl, hbl, hat⟩ := Hat.out (by omega)
      have key : ∀ o, wr.cell? ⟨b', o, none⟩ = w.cell? ⟨b', o, none⟩ := fun o => hB.cell (p := ⟨b', o, none⟩) hbl
      have hX := List.getElem?_eq_getElem hkl
      obtain ⟨c0, c1, c2⟩ := pat hat key ps[j] hX
      have hnx : ps.take (j + 1) = ps.take j ++ [ps[j]] := List.take_succ_eq_append_getElem hkl
      have hmem : ps[j] ∈ ps := List.getElem_mem hkl
      have hfk := fork k ps[j]
      generalize ps[j] = p at c0 c1 c2 hnx hmem hfk
      have hi0 : (0 : Int) ≤ (j : Int) := by omega
      have KT := Lib.hid (HK.out j hlt)
      clear hat key hX
      go_upto_region 7 with fail
      have hT := Blk.new wr #[.int .i64 p.kind, .int .i64 p.num, .string p.text] 26
      have hR1 := hR.alloc (.cells #[.int .i64 p.kind, .int .i64 p.num, .string p.text] 26)
      have hB1 := hB.alloc hB.size (.cells #[.int .i64 p.kind, .int .i64 p.num, .string p.text] 26)
      have htl := hT.lt
      generalize wr.alloc (.cells #[.int .i64 p.kind, .int .i64 p.num, .string p.text] 26) = W1 at hT hR1 hB1 htl ⊢
      clear hR hB c0 c1 c2
      generalize wr.heap.size = tb at hT htl ⊢
      have q0 := hT.cell 0
      have q1 := hT.cell 1
      have q2 := hT.cell 2
      simp only [List.getElem?_toArray, List.getElem?_cons_zero, List.getElem?_cons_succ] at q0 q1 q2
      have s0 : W1.drew.cell? ⟨tb, 0, none⟩ = some (.int .i64 p.kind) ∧ W1.drew.cell? ⟨tb, 1, none⟩ = some (.int .i64 p.num) ∧ W1.drew.cell? ⟨tb, 2, none⟩ = some (.string p.text) ∧ Below W1.heap.size W1 W1.drew := ⟨q0, q1, q2, (Below.refl _ _).drew⟩
      have HQ := Lib.hid (show ∀ wx, Below W1.heap.size W1 wx → wx.cell? ⟨tb, 0, none⟩ = some (.int .i64 p.kind) ∧ wx.cell? ⟨tb, 1, none⟩ = some (.int .i64 p.num) ∧ wx.cell? ⟨tb, 2, none⟩ = some (.string p.text) from fun wx h => ⟨(h.cell (p := ⟨tb, 0, none⟩) htl).trans q0, (h.cell (p := ⟨tb, 1, none⟩) htl).trans q1, (h.cell (p := ⟨tb, 2, none⟩) htl).trans q2⟩)
      clear q0 q1 q2
      rw [hkd] at hfk
      rcases hfk with ⟨hb1, hcase⟩ | ⟨hb0, hcase⟩
      · have Hv := Lib.hid (Hbad.out ⟨p, hmem, hb1⟩)
        clear hnx hmem hb1
        rcases hcase with f1 | ⟨f1, f2⟩ | ⟨f1, f2, f3, f4⟩ | ⟨f1, f2, f3, f4, f5⟩
        all_goals
          refine wp_region_class (fun wx => wx.cell? ⟨tb, 0, none⟩ = some (.int .i64 p.kind) ∧ wx.cell? ⟨tb, 1, none⟩ = some (.int .i64 p.num) ∧ wx.cell? ⟨tb, 2, none⟩ = some (.string p.text) ∧ Below W1.heap.size W1 wx) (by kernel_rfl) (by kernel_rfl) (by assumption) ?_
          repeat (first | go_big_quiet_skip | (go_big_quiet_want; first | (go_big_quiet_op; go_big_quiet_on) | (apply Exists.intro; refine ⟨fun wx hC => ?_, ?_⟩; (focus (obtain ⟨g0, g1, g2, g3⟩ := hC; unfold Oper.quietAt; go_simp; all_goals exact rfl)); go_simp; go_big_quiet_on) | (apply Exists.intro; refine ⟨fun wx hC => ?_, ?_⟩; (focus (unfold Oper.quietAt; go_simp; (refine (KT.out _).mono ?_; rintro e8 w8 ⟨rfl, hb8⟩; obtain ⟨g0, g1, g2⟩ := HQ.out _ (chain hC.2.2.2 hb8); exact ⟨rfl, g0, g1, g2, chain hC.2.2.2 hb8⟩))); go_simp; go_big_quiet_on)))
          refine wpQuiet_nil ?_
          intro wz hCz
          have hR2 := hR1.below hCz.2.2.2 hR1.lt
          have hB2 := chain hB1 hCz.2.2.2
          have r0 := hR2.cell 0
          have r1 := hR2.cell 1
          have r2 := hR2.cell 2
          have rf := hR2.free
          simp only [zeroP, List.getElem?_toArray, List.getElem?_cons_zero, List.getElem?_cons_succ] at r0 r1 r2
          clear hT hR1 hB1 hCz s0
          go_wp2
          have hR3 := stored hR2 0 0 ⟨#[]⟩
          have hb := stored_below hB2 (Nat.le_refl _) (.int .i64 0) (.int .i64 0) (.string ⟨#[]⟩)
          generalize ((wz.setCell ⟨w.heap.size, 0, none⟩ (.int .i64 0)).setCell ⟨w.heap.size, 1, none⟩ (.int .i64 0)).setCell ⟨w.heap.size, 2, none⟩ (.string ⟨#[]⟩) = W3 at hR3 hb ⊢
          have f0 := hR3.cell 0
          have f1 := hR3.cell 1
          have f2 := hR3.cell 2
          simp only [List.getElem?_toArray, List.getElem?_cons_zero, List.getElem?_cons_succ] at f0 f1 f2
          refine bodyPost_ret (v := .tuple #[.agg #[.int .i64 0, .int .i64 0, .string ⟨#[]⟩], .int .i64 2]) (by simp [results, Tryd.results12, go_sem, f0, f1, f2]) rfl ?_
          rw [Hv.out]
          exact ⟨rfl, hb⟩
      · have Hg2 := Lib.hid (show ∀ q ∈ ps.take (j + 1), badK k q = false from fun q hq => by
          rw [hnx] at hq
          rcases List.mem_append.1 hq with hq | hq
          · exact Hg.out q hq
          · obtain rfl := List.mem_singleton.1 hq; exact hb0)
        clear hnx hmem hb0
        rcases hcase with ⟨f1, f2, f3⟩ | ⟨f1, f2, f3, f4, f5⟩
        all_goals
          refine wp_region_class (fun wx => wx.cell? ⟨tb, 0, none⟩ = some (.int .i64 p.kind) ∧ wx.cell? ⟨tb, 1, none⟩ = some (.int .i64 p.num) ∧ wx.cell? ⟨tb, 2, none⟩ = some (.string p.text) ∧ Below W1.heap.size W1 wx) (by kernel_rfl) (by kernel_rfl) (by assumption) ?_
          repeat (first | go_big_quiet_skip | (go_big_quiet_want; first | (go_big_quiet_op; go_big_quiet_on) | (apply Exists.intro; refine ⟨fun wx hC => ?_, ?_⟩; (focus (obtain ⟨g0, g1, g2, g3⟩ := hC; unfold Oper.quietAt; go_simp; all_goals exact rfl)); go_simp; go_big_quiet_on) | (apply Exists.intro; refine ⟨fun wx hC => ?_, ?_⟩; (focus (unfold Oper.quietAt; go_simp; (refine (KT.out _).mono ?_; rintro e8 w8 ⟨rfl, hb8⟩; obtain ⟨g0, g1, g2⟩ := HQ.out _ (chain hC.2.2.2 hb8); exact ⟨rfl, g0, g1, g2, chain hC.2.2.2 hb8⟩))); go_simp; go_big_quiet_on)))
          refine wpQuiet_nil ?_
          intro wz hCz
          have hR2 := hR1.below hCz.2.2.2 hR1.lt
          have hB2 := chain hB1 hCz.2.2.2
          clear hT hR1 hB1 hCz s0
          go_wp2
          go_roundw
          case rel => exact ⟨j + 1, by go_num, by omega, Hg2, hR2, hB2⟩
          case measure => simp [intOf]; omega
    · have hlt2 : decide ((j : Int) < (ar : Int)) = false := by simp; omega
      have hlt3 : decide (j < ar) = false := by simp; omega
      obtain rfl : j = ar := by omega
      have Hv := Lib.hid (Hgood.out Hg.out)
      obtain ⟨b', o', rfl, hbl, hat⟩ := Hat.out (by rw [HL.out]; omega)
      have key : ∀ o, wr.cell? ⟨b', o, none⟩ = w.cell? ⟨b', o, none⟩ := fun o => hB.cell (p := ⟨b', o, none⟩) hbl
      have h0l : 0 < ps.length := by rw [HL.out]; omega
      obtain ⟨_, c1, _⟩ := pat hat key ps[0] (List.getElem?_eq_getElem h0l)
      rw [Nat.zero_mul, Nat.add_zero] at c1
      have hn0 : (ps[0]).num = numAt ps 0 := by unfold numAt; rw [List.getElem?_eq_getElem h0l]
      rw [hn0] at c1
      have hj0 : (0 : Int) < (j : Int) := by omega
      have hj0' : 0 < j := by omega
      have hO := ord_eq k hk
      have hC := chr_eq k hk
      rw [hsb] at hO hC
      obtain ⟨a0, ha0⟩ : ∃ a0, numAt ps 0 = a0 := ⟨_, rfl⟩
      rw [ha0] at c1 Hv
      by_cases k13 : k = 13
      · rw [decide_eq_true k13] at hO
        have KN := Lib.hid (fun w => rnumber_any a0 w)
        have hd : doesV k a0 (numAt ps 1) = .agg #[.int .i64 1, .int .i64 a0, .string ⟨#[]⟩] := by rw [k13]; rfl
        rw [hd] at Hv
        clear hC key hd
        go_wp2_with (go_at_call 31; refine (KN.out _).mono ?_; rintro e w2 ⟨rfl, b2⟩; have hR2 := hR.below b2 hR.lt; have r0 := hR2.cell 0; have r1 := hR2.cell 1; have r2 := hR2.cell 2; have rf := hR2.free; simp only [zeroP, List.getElem?_toArray, List.getElem?_cons_zero, List.getElem?_cons_succ] at r0 r1 r2)
        have hR3 := stored hR2 1 a0 ⟨#[]⟩
        have hb := stored_below (chain hB b2) (Nat.le_refl _) (.int .i64 1) (.int .i64 a0) (.string ⟨#[]⟩)
        generalize ((w2.setCell ⟨w.heap.size, 0, none⟩ (.int .i64 1)).setCell ⟨w.heap.size, 1, none⟩ (.int .i64 a0)).setCell ⟨w.heap.size, 2, none⟩ (.string ⟨#[]⟩) = W3 at hR3 hb ⊢
        have f0 := hR3.cell 0
        have f1 := hR3.cell 1
        have f2 := hR3.cell 2
        simp only [List.getElem?_toArray, List.getElem?_cons_zero, List.getElem?_cons_succ] at f0 f1 f2
        refine bodyPost_ret (v := .tuple #[.agg #[.int .i64 1, .int .i64 a0, .string ⟨#[]⟩], .int .i64 0]) (by simp [results, Tryd.results12, go_sem, f0, f1, f2]) rfl ?_
        rw [Hv.out]
        exact ⟨rfl, hb⟩
      · rw [decide_eq_false k13] at hO
        by_cases k14 : k = 14
        · rw [decide_eq_true k14] at hC
          have hfk : (((decide (a0 < 0) = true) ∨ (decide (a0 < 0) = false ∧ decide (255 < a0) = true)) ∧ doesV k a0 (numAt ps 1) = .agg #[.int .i64 4, .int .i64 0, .string (Ev.bytes chrT)]) ∨ ((decide (a0 < 0) = false ∧ decide (255 < a0) = false) ∧ doesV k a0 (numAt ps 1) = .agg #[.int .i64 2, .int .i64 a0, .string ⟨#[]⟩]) := by
            rw [k14]
            show (_ ∧ (if a0 < 0 ∨ 255 < a0 then pV 4 0 chrT else pV 2 a0 []) = _) ∨ (_ ∧ (if a0 < 0 ∨ 255 < a0 then pV 4 0 chrT else pV 2 a0 []) = _)
            by_cases h0 : a0 < 0
            · exact .inl ⟨.inl (decide_eq_true h0), if_pos (.inl h0)⟩
            · by_cases h1 : 255 < a0
              · exact .inl ⟨.inr ⟨decide_eq_false h0, decide_eq_true h1⟩, if_pos (.inr h1)⟩
              · exact .inr ⟨⟨decide_eq_false h0, decide_eq_false h1⟩, if_neg (by omega)⟩
          have KF := fun w => rfail_chr w
          generalize Ev.bytes chrT = U at KF hfk
          have KF := Lib.hid KF
          have r0 := hR.cell 0
          have r1 := hR.cell 1
          have r2 := hR.cell 2
          have rf := hR.free
          simp only [zeroP, List.getElem?_toArray, List.getElem?_cons_zero, List.getElem?_cons_succ] at r0 r1 r2
          clear key
          rcases hfk with ⟨hcs, hd⟩ | ⟨⟨g1, g2⟩, hd⟩
          · rw [hd] at Hv
            clear hd r0 r1 r2 rf
            rcases hcs with g1 | ⟨g1, g2⟩
            all_goals
              go_wp2_with (go_at_call 32; refine (KF.out _).mono ?_; rintro e w2 ⟨rfl, b2⟩; have hR2 := hR.below b2 hR.lt; have r0 := hR2.cell 0; have r1 := hR2.cell 1; have r2 := hR2.cell 2; have rf := hR2.free; simp only [zeroP, List.getElem?_toArray, List.getElem?_cons_zero, List.getElem?_cons_succ] at r0 r1 r2)
              have hR3 := stored hR2 4 0 U
              have hb := stored_below (chain hB b2) (Nat.le_refl _) (.int .i64 4) (.int .i64 0) (.string U)
              generalize ((w2.setCell ⟨w.heap.size, 0, none⟩ (.int .i64 4)).setCell ⟨w.heap.size, 1, none⟩ (.int .i64 0)).setCell ⟨w.heap.size, 2, none⟩ (.string U) = W3 at hR3 hb ⊢
              have f0 := hR3.cell 0
              have f1 := hR3.cell 1
              have f2 := hR3.cell 2
              simp only [List.getElem?_toArray, List.getElem?_cons_zero, List.getElem?_cons_succ] at f0 f1 f2
              refine bodyPost_ret (v := .tuple #[.agg #[.int .i64 4, .int .i64 0, .string U], .int .i64 0]) (by simp [results, Tryd.results12, go_sem, f0, f1, f2]) rfl ?_
              rw [Hv.out]
              exact ⟨rfl, hb⟩
          · rw [hd] at Hv
            clear hd
            go_wp2
            have hR3 := stored hR 2 a0 ⟨#[]⟩
            have hb := stored_below hB (Nat.le_refl _) (.int .i64 2) (.int .i64 a0) (.string ⟨#[]⟩)
            generalize ((wr.setCell ⟨w.heap.size, 0, none⟩ (.int .i64 2)).setCell ⟨w.heap.size, 1, none⟩ (.int .i64 a0)).setCell ⟨w.heap.size, 2, none⟩ (.string ⟨#[]⟩) = W3 at hR3 hb ⊢
            have f0 := hR3.cell 0
            have f1 := hR3.cell 1
            have f2 := hR3.cell 2
            simp only [List.getElem?_toArray, List.getElem?_cons_zero, List.getElem?_cons_succ] at f0 f1 f2
            refine bodyPost_ret (v := .tuple #[.agg #[.int .i64 2, .int .i64 a0, .string ⟨#[]⟩], .int .i64 0]) (by simp [results, Tryd.results12, go_sem, f0, f1, f2]) rfl ?_
            rw [Hv.out]
            exact ⟨rfl, hb⟩
        · rw [decide_eq_false k14] at hC
          have hj2 : j = 2 := by
            rw [← har]
            unfold arN
            have : Nat.ble 13 k = false := by rw [← Bool.not_eq_true, Nat.ble_eq]; omega
            rw [this]
          subst hj2
          have h1l : 1 < ps.length := by rw [HL.out]; omega
          obtain ⟨_, d1, _⟩ := pat hat key ps[1] (List.getElem?_eq_getElem h1l)
          have hn1 : (ps[1]).num = numAt ps 1 := by unfold numAt; rw [List.getElem?_eq_getElem h1l]
          rw [hn1] at d1
          have d2 : wr.cell? ⟨b', o' + 3 + 1, none⟩ = some (.int .i64 (numAt ps 1)) := d1
          have d3 : wr.cell? ⟨b', o' + 4, none⟩ = some (.int .i64 (numAt ps 1)) := d1
          obtain ⟨a1, ha1⟩ : ∃ a1, numAt ps 1 = a1 := ⟨_, rfl⟩
          rw [ha1] at Hv d2 d3
          obtain ⟨X, Y, U, hd⟩ := doesV_shape k a0 a1
          have KD := Lib.hid (H2.out (by omega) a0 a1)
          rw [hd] at KD Hv
          clear key hd d1
          go_wp2_with (go_at_call 33; refine (KD.out _).mono ?_; rintro e w2 ⟨rfl, b2⟩; have hR2 := hR.below b2 hR.lt; have r0 := hR2.cell 0; have r1 := hR2.cell 1; have r2 := hR2.cell 2; have rf := hR2.free; simp only [zeroP, List.getElem?_toArray, List.getElem?_cons_zero, List.getElem?_cons_succ] at r0 r1 r2)
          have hR3 := stored hR2 X Y U
          have hb := stored_below (chain hB b2) (Nat.le_refl _) (.int .i64 X) (.int .i64 Y) (.string U)
          generalize ((w2.setCell ⟨w.heap.size, 0, none⟩ (.int .i64 X)).setCell ⟨w.heap.size, 1, none⟩ (.int .i64 Y)).setCell ⟨w.heap.size, 2, none⟩ (.string U) = W3 at hR3 hb ⊢
          have f0 := hR3.cell 0
          have f1 := hR3.cell 1
          have f2 := hR3.cell 2
          simp only [List.getElem?_toArray, List.getElem?_cons_zero, List.getElem?_cons_succ] at f0 f1 f2
          refine bodyPost_ret (v := .tuple #[.agg #[.int .i64 X, .int .i64 Y, .string U], .int .i64 0]) (by simp [results, Tryd.results12, go_sem, f0, f1, f2]) rfl ?_
          rw [Hv.out]
          exact ⟨rfl, hb⟩
end Go.Proofs.YtmgfgkikeflenaaDoor
