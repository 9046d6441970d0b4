/- Check of the program and of the reference. -/
import Derived.Test.YtbjlnllbcgghlaaDoorPyA
namespace Go.Proofs.YtbjlnllbcgghlaaDoor
open Go.RowKit
set_option linter.unusedSimpArgs false
set_option linter.unusedVariables false

theorem all_next {l : List PlD} {k : Nat} {x : PlD} (hx : l[k]? = some x) (h : (l.take k).all fineK = true) (hf : fineK x = true) : (l.take (k + 1)).all fineK = true := by
  rw [List.take_add_one, hx, List.all_append, h]; simp [hf]
theorem all_bad {l : List PlD} {k : Nat} {x : PlD} (hx : l[k]? = some x) (hf : fineK x = false) : l.all fineK = false := by
  rcases h : l.all fineK with _ | _
  · rfl
  · have := List.all_eq_true.1 h x (List.mem_of_getElem? hx)
    rw [hf] at this
    cases this
theorem empty_len (l : List UInt8) : l.isEmpty = decide (l.length = 0) := by cases l <;> simp
set_option maxRecDepth 100000 in
set_option maxHeartbeats 8000000 in
theorem check_any (v : Value) (l : List PlD) (w : World) (h : Pls w v l) :
    Calls Tryd.prog 19 #[v] w fun e w' => e = .returned (.int .i64 (chkK l)) ∧ Below w.heap.size w w' := by
  obtain ⟨a, ca, rfl, ha⟩ := h
  obtain ⟨N, hN⟩ : ∃ N, l.length = N := ⟨_, rfl⟩
  have HN := Lib.hid hN
  have Ha := Lib.hid ha
  by_cases hbig : 4096 < N
  · have hR := Lib.hid (show chkK l = 3 by unfold chkK; rw [if_pos (by omega)])
    rw [hN]
    have t1 : decide ((4096 : Int) < (N : Int)) = true := by simp; omega
    clear ha hN
    go_enter Tryd.func19, Tryd.ntmps19
    go_wp2
    go_ret
    exact ⟨by rw [hR.out]; rfl, Below.refl _ _⟩
  have hR := Lib.hid (show chkK l = if l.all fineK then 0 else 2 by unfold chkK; rw [if_neg (by omega)])
  rw [hN]
  have t1 : decide ((4096 : Int) < (N : Int)) = false := by simp; omega
  clear ha hN
  go_enter Tryd.func19, Tryd.ntmps19
  go_wp2
  go_loopw [4, 5, 11] (fun _ _ i wr => ∃ k : Nat, i = .int .i64 k ∧ k ≤ N ∧ Hid ((l.take k).all fineK = true) ∧ Below w.heap.size w wr) (fun _ _ i _ => N - (intOf i).toNat)
  case atStart => exact ⟨0, rfl, Nat.zero_le _, Lib.hid rfl, Below.refl _ _⟩
  case round =>
    obtain ⟨k, rfl, hk, HA, hB⟩ := hrel
    by_cases hlt : k < N
    · have hlt2 : decide ((k : Int) < (N : Int)) = true := by simp; omega
      have hlt3 : decide (k < N) = true := by simp; omega
      have hi0 : (0 : Int) ≤ (k : Int) := by omega
      have hkt : k < l.length := by rw [HN.out]; exact hlt
      obtain ⟨p, o, rfl, hp, hat⟩ := Ha.out (by omega)
      obtain ⟨x, hx⟩ : ∃ x, l[k]? = some x := ⟨_, List.getElem?_eq_getElem hkt⟩
      obtain ⟨vs, hcs, ⟨ab, cb, rfl, -⟩⟩ := hat k x hx
      obtain ⟨m, hm⟩ : ∃ m, x.bytes.length = m := ⟨_, rfl⟩
      obtain ⟨kd, hkd⟩ : ∃ m, x.kind = m := ⟨_, rfl⟩
      obtain ⟨nn, hnn⟩ : ∃ m, x.n = m := ⟨_, rfl⟩
      have hfn : fineK x = (decide (1 ≤ kd) && decide (kd ≤ 5) && (decide (kd = 1) || decide (m = 0)) && (if kd = 3 then decide (0 ≤ nn) && decide (nn ≤ 1048576) else decide (nn = 0))) := by unfold fineK; rw [empty_len, hm, hkd, hnn]
      rw [hm, hkd, hnn] at hcs
      have c0 := (hB.cell (p := ⟨p, o + k * 3 + 0, none⟩) hp).trans (hcs 0 _ rfl)
      have c1 := (hB.cell (p := ⟨p, o + k * 3 + 1, none⟩) hp).trans (hcs 1 _ rfl)
      have c2 := (hB.cell (p := ⟨p, o + k * 3 + 2, none⟩) hp).trans (hcs 2 _ rfl)
      rw [Nat.add_zero] at c0
      have HX := Lib.hid hx
      have hsz := hB.size
      have HB2 := Lib.hid (show Below w.heap.size w (wr.alloc (.cells #[.int .i64 kd, .int .i64 nn, .slice ab m cb] 34)) from hB.alloc hsz _)
      have HFN := Lib.hid hfn
      clear hat hx hcs hm hkd hnn hfn
      go_upto_region 6 with fail
      have R := Blk.new wr #[.int .i64 kd, .int .i64 nn, .slice ab m cb] 34
      generalize wr.alloc (.cells #[.int .i64 kd, .int .i64 nn, .slice ab m cb] 34) = W2 at R HB2 ⊢
      generalize wr.heap.size = r2 at R ⊢
      have d0 : W2.cell? ⟨r2, 0, none⟩ = _ := R.cell 0
      have d1 : W2.cell? ⟨r2, 1, none⟩ = _ := R.cell 1
      have d2 : W2.cell? ⟨r2, 2, none⟩ = _ := R.cell 2
      simp only [List.getElem?_toArray, List.getElem?_cons_zero, List.getElem?_cons_succ] at d0 d1 d2
      clear c0 c1 c2 R hB hsz
      by_cases h1 : kd < (1 : Int)
      · have fk1 : decide ((1 : Int) ≤ kd) = false := by simp; omega
        have hR2 := Lib.hid (show chkK l = 2 by rw [hR.out, all_bad HX.out (by rw [HFN.out]; split <;> (rw [← Bool.not_eq_true]; simp only [Bool.and_eq_true, Bool.or_eq_true, decide_eq_true_eq]; omega))]; rfl)
        clear HFN
        go_wp2
        go_ret
        exact ⟨by rw [hR2.out]; rfl, HB2.out⟩
      · by_cases h2 : (5 : Int) < kd
        · have fk1 : decide ((1 : Int) ≤ kd) = true := by simp; omega
          have fk5 : decide (kd ≤ (5 : Int)) = false := by simp; omega
          have hR2 := Lib.hid (show chkK l = 2 by rw [hR.out, all_bad HX.out (by rw [HFN.out]; split <;> (rw [← Bool.not_eq_true]; simp only [Bool.and_eq_true, Bool.or_eq_true, decide_eq_true_eq]; omega))]; rfl)
          clear HFN
          go_wp2
          go_ret
          exact ⟨by rw [hR2.out]; rfl, HB2.out⟩
        · by_cases h3 : kd = 1
          · by_cases h0 : nn = 0
            · have fk1 : decide ((1 : Int) ≤ kd) = true := by simp; omega
              have fk5 : decide (kd ≤ (5 : Int)) = true := by simp; omega
              have fe1 : (kd == 1) = true := by simp; omega
              have fe3 : (kd == 3) = false := by simp; omega
              have fx3 : (kd != 3) = true := by simp; omega
              have fn0 : (nn != 0) = false := by simp; omega
              have fnl : decide (nn < 0) = false := by simp; omega
              have fng : decide ((1048576 : Int) < nn) = false := by simp; omega
              have hgood := Lib.hid (show fineK x = true by rw [HFN.out]; split <;> (simp only [Bool.and_eq_true, Bool.or_eq_true, decide_eq_true_eq]; omega))
              clear HFN
              go_wp2
              go_roundw
              case measure => simp [intOf]; omega
              case rel => exact ⟨k + 1, by go_num, by omega, Lib.hid (all_next HX.out HA.out hgood.out), HB2.out⟩
            · by_cases h4 : nn < 0
              · have fk1 : decide ((1 : Int) ≤ kd) = true := by simp; omega
                have fk5 : decide (kd ≤ (5 : Int)) = true := by simp; omega
                have fe1 : (kd == 1) = true := by simp; omega
                have fe3 : (kd == 3) = false := by simp; omega
                have fx3 : (kd != 3) = true := by simp; omega
                have fn0 : (nn != 0) = true := by simp; omega
                have fnl : decide (nn < 0) = true := by simp; omega
                have fng : decide ((1048576 : Int) < nn) = false := by simp; omega
                have hR2 := Lib.hid (show chkK l = 2 by rw [hR.out, all_bad HX.out (by rw [HFN.out]; split <;> (rw [← Bool.not_eq_true]; simp only [Bool.and_eq_true, Bool.or_eq_true, decide_eq_true_eq]; omega))]; rfl)
                clear HFN
                go_wp2
                go_ret
                exact ⟨by rw [hR2.out]; rfl, HB2.out⟩
              · by_cases h5 : (1048576 : Int) < nn
                · have fk1 : decide ((1 : Int) ≤ kd) = true := by simp; omega
                  have fk5 : decide (kd ≤ (5 : Int)) = true := by simp; omega
                  have fe1 : (kd == 1) = true := by simp; omega
                  have fe3 : (kd == 3) = false := by simp; omega
                  have fx3 : (kd != 3) = true := by simp; omega
                  have fn0 : (nn != 0) = true := by simp; omega
                  have fnl : decide (nn < 0) = false := by simp; omega
                  have fng : decide ((1048576 : Int) < nn) = true := by simp; omega
                  have hR2 := Lib.hid (show chkK l = 2 by rw [hR.out, all_bad HX.out (by rw [HFN.out]; split <;> (rw [← Bool.not_eq_true]; simp only [Bool.and_eq_true, Bool.or_eq_true, decide_eq_true_eq]; omega))]; rfl)
                  clear HFN
                  go_wp2
                  go_ret
                  exact ⟨by rw [hR2.out]; rfl, HB2.out⟩
                · have fk1 : decide ((1 : Int) ≤ kd) = true := by simp; omega
                  have fk5 : decide (kd ≤ (5 : Int)) = true := by simp; omega
                  have fe1 : (kd == 1) = true := by simp; omega
                  have fe3 : (kd == 3) = false := by simp; omega
                  have fx3 : (kd != 3) = true := by simp; omega
                  have fn0 : (nn != 0) = true := by simp; omega
                  have fnl : decide (nn < 0) = false := by simp; omega
                  have fng : decide ((1048576 : Int) < nn) = false := by simp; omega
                  have hR2 := Lib.hid (show chkK l = 2 by rw [hR.out, all_bad HX.out (by rw [HFN.out]; split <;> (rw [← Bool.not_eq_true]; simp only [Bool.and_eq_true, Bool.or_eq_true, decide_eq_true_eq]; omega))]; rfl)
                  clear HFN
                  go_wp2
                  go_ret
                  exact ⟨by rw [hR2.out]; rfl, HB2.out⟩
          · by_cases h6 : kd = 3
            · by_cases hz : (m : Int) = 0
              · by_cases h4 : nn < 0
                · have fk1 : decide ((1 : Int) ≤ kd) = true := by simp; omega
                  have fk5 : decide (kd ≤ (5 : Int)) = true := by simp; omega
                  have fe1 : (kd == 1) = false := by simp; omega
                  have fe3 : (kd == 3) = true := by simp; omega
                  have fx3 : (kd != 3) = false := by simp; omega
                  have fz : ((m : Int) == 0) = true := by simp; omega
                  have fnl : decide (nn < 0) = true := by simp; omega
                  have fng : decide ((1048576 : Int) < nn) = false := by simp; omega
                  have fn0 : (nn != 0) = true := by simp; omega
                  have hR2 := Lib.hid (show chkK l = 2 by rw [hR.out, all_bad HX.out (by rw [HFN.out]; split <;> (rw [← Bool.not_eq_true]; simp only [Bool.and_eq_true, Bool.or_eq_true, decide_eq_true_eq]; omega))]; rfl)
                  clear HFN
                  go_wp2
                  go_ret
                  exact ⟨by rw [hR2.out]; rfl, HB2.out⟩
                · by_cases h5 : (1048576 : Int) < nn
                  · have fk1 : decide ((1 : Int) ≤ kd) = true := by simp; omega
                    have fk5 : decide (kd ≤ (5 : Int)) = true := by simp; omega
                    have fe1 : (kd == 1) = false := by simp; omega
                    have fe3 : (kd == 3) = true := by simp; omega
                    have fx3 : (kd != 3) = false := by simp; omega
                    have fz : ((m : Int) == 0) = true := by simp; omega
                    have fnl : decide (nn < 0) = false := by simp; omega
                    have fng : decide ((1048576 : Int) < nn) = true := by simp; omega
                    have fn0 : (nn != 0) = true := by simp; omega
                    have hR2 := Lib.hid (show chkK l = 2 by rw [hR.out, all_bad HX.out (by rw [HFN.out]; split <;> (rw [← Bool.not_eq_true]; simp only [Bool.and_eq_true, Bool.or_eq_true, decide_eq_true_eq]; omega))]; rfl)
                    clear HFN
                    go_wp2
                    go_ret
                    exact ⟨by rw [hR2.out]; rfl, HB2.out⟩
                  · have fk1 : decide ((1 : Int) ≤ kd) = true := by simp; omega
                    have fk5 : decide (kd ≤ (5 : Int)) = true := by simp; omega
                    have fe1 : (kd == 1) = false := by simp; omega
                    have fe3 : (kd == 3) = true := by simp; omega
                    have fx3 : (kd != 3) = false := by simp; omega
                    have fz : ((m : Int) == 0) = true := by simp; omega
                    have fnl : decide (nn < 0) = false := by simp; omega
                    have fng : decide ((1048576 : Int) < nn) = false := by simp; omega
                    have hgood := Lib.hid (show fineK x = true by rw [HFN.out]; split <;> (simp only [Bool.and_eq_true, Bool.or_eq_true, decide_eq_true_eq]; omega))
                    clear HFN
                    go_wp2
                    go_roundw
                    case measure => simp [intOf]; omega
                    case rel => exact ⟨k + 1, by go_num, by omega, Lib.hid (all_next HX.out HA.out hgood.out), HB2.out⟩
              · by_cases h4 : nn < 0
                · have fk1 : decide ((1 : Int) ≤ kd) = true := by simp; omega
                  have fk5 : decide (kd ≤ (5 : Int)) = true := by simp; omega
                  have fe1 : (kd == 1) = false := by simp; omega
                  have fe3 : (kd == 3) = true := by simp; omega
                  have fx3 : (kd != 3) = false := by simp; omega
                  have fz : ((m : Int) == 0) = false := by simp; omega
                  have fnl : decide (nn < 0) = true := by simp; omega
                  have fng : decide ((1048576 : Int) < nn) = false := by simp; omega
                  have hR2 := Lib.hid (show chkK l = 2 by rw [hR.out, all_bad HX.out (by rw [HFN.out]; split <;> (rw [← Bool.not_eq_true]; simp only [Bool.and_eq_true, Bool.or_eq_true, decide_eq_true_eq]; omega))]; rfl)
                  clear HFN
                  go_wp2
                  go_ret
                  exact ⟨by rw [hR2.out]; rfl, HB2.out⟩
                · by_cases h5 : (1048576 : Int) < nn
                  · have fk1 : decide ((1 : Int) ≤ kd) = true := by simp; omega
                    have fk5 : decide (kd ≤ (5 : Int)) = true := by simp; omega
                    have fe1 : (kd == 1) = false := by simp; omega
                    have fe3 : (kd == 3) = true := by simp; omega
                    have fx3 : (kd != 3) = false := by simp; omega
                    have fz : ((m : Int) == 0) = false := by simp; omega
                    have fnl : decide (nn < 0) = false := by simp; omega
                    have fng : decide ((1048576 : Int) < nn) = true := by simp; omega
                    have hR2 := Lib.hid (show chkK l = 2 by rw [hR.out, all_bad HX.out (by rw [HFN.out]; split <;> (rw [← Bool.not_eq_true]; simp only [Bool.and_eq_true, Bool.or_eq_true, decide_eq_true_eq]; omega))]; rfl)
                    clear HFN
                    go_wp2
                    go_ret
                    exact ⟨by rw [hR2.out]; rfl, HB2.out⟩
                  · have fk1 : decide ((1 : Int) ≤ kd) = true := by simp; omega
                    have fk5 : decide (kd ≤ (5 : Int)) = true := by simp; omega
                    have fe1 : (kd == 1) = false := by simp; omega
                    have fe3 : (kd == 3) = true := by simp; omega
                    have fx3 : (kd != 3) = false := by simp; omega
                    have fz : ((m : Int) == 0) = false := by simp; omega
                    have fnl : decide (nn < 0) = false := by simp; omega
                    have fng : decide ((1048576 : Int) < nn) = false := by simp; omega
                    have hR2 := Lib.hid (show chkK l = 2 by rw [hR.out, all_bad HX.out (by rw [HFN.out]; split <;> (rw [← Bool.not_eq_true]; simp only [Bool.and_eq_true, Bool.or_eq_true, decide_eq_true_eq]; omega))]; rfl)
                    clear HFN
                    go_wp2
                    go_ret
                    exact ⟨by rw [hR2.out]; rfl, HB2.out⟩
            · by_cases hz : (m : Int) = 0
              · by_cases h0 : nn = 0
                · have fk1 : decide ((1 : Int) ≤ kd) = true := by simp; omega
                  have fk5 : decide (kd ≤ (5 : Int)) = true := by simp; omega
                  have fe1 : (kd == 1) = false := by simp; omega
                  have fe3 : (kd == 3) = false := by simp; omega
                  have fx3 : (kd != 3) = true := by simp; omega
                  have fz : ((m : Int) == 0) = true := by simp; omega
                  have fn0 : (nn != 0) = false := by simp; omega
                  have fnl : decide (nn < 0) = false := by simp; omega
                  have fng : decide ((1048576 : Int) < nn) = false := by simp; omega
                  have hgood := Lib.hid (show fineK x = true by rw [HFN.out]; split <;> (simp only [Bool.and_eq_true, Bool.or_eq_true, decide_eq_true_eq]; omega))
                  clear HFN
                  go_wp2
                  go_roundw
                  case measure => simp [intOf]; omega
                  case rel => exact ⟨k + 1, by go_num, by omega, Lib.hid (all_next HX.out HA.out hgood.out), HB2.out⟩
                · by_cases h4 : nn < 0
                  · have fk1 : decide ((1 : Int) ≤ kd) = true := by simp; omega
                    have fk5 : decide (kd ≤ (5 : Int)) = true := by simp; omega
                    have fe1 : (kd == 1) = false := by simp; omega
                    have fe3 : (kd == 3) = false := by simp; omega
                    have fx3 : (kd != 3) = true := by simp; omega
                    have fz : ((m : Int) == 0) = true := by simp; omega
                    have fn0 : (nn != 0) = true := by simp; omega
                    have fnl : decide (nn < 0) = true := by simp; omega
                    have fng : decide ((1048576 : Int) < nn) = false := by simp; omega
                    have hR2 := Lib.hid (show chkK l = 2 by rw [hR.out, all_bad HX.out (by rw [HFN.out]; split <;> (rw [← Bool.not_eq_true]; simp only [Bool.and_eq_true, Bool.or_eq_true, decide_eq_true_eq]; omega))]; rfl)
                    clear HFN
                    go_wp2
                    go_ret
                    exact ⟨by rw [hR2.out]; rfl, HB2.out⟩
                  · by_cases h5 : (1048576 : Int) < nn
                    · have fk1 : decide ((1 : Int) ≤ kd) = true := by simp; omega
                      have fk5 : decide (kd ≤ (5 : Int)) = true := by simp; omega
                      have fe1 : (kd == 1) = false := by simp; omega
                      have fe3 : (kd == 3) = false := by simp; omega
                      have fx3 : (kd != 3) = true := by simp; omega
                      have fz : ((m : Int) == 0) = true := by simp; omega
                      have fn0 : (nn != 0) = true := by simp; omega
                      have fnl : decide (nn < 0) = false := by simp; omega
                      have fng : decide ((1048576 : Int) < nn) = true := by simp; omega
                      have hR2 := Lib.hid (show chkK l = 2 by rw [hR.out, all_bad HX.out (by rw [HFN.out]; split <;> (rw [← Bool.not_eq_true]; simp only [Bool.and_eq_true, Bool.or_eq_true, decide_eq_true_eq]; omega))]; rfl)
                      clear HFN
                      go_wp2
                      go_ret
                      exact ⟨by rw [hR2.out]; rfl, HB2.out⟩
                    · have fk1 : decide ((1 : Int) ≤ kd) = true := by simp; omega
                      have fk5 : decide (kd ≤ (5 : Int)) = true := by simp; omega
                      have fe1 : (kd == 1) = false := by simp; omega
                      have fe3 : (kd == 3) = false := by simp; omega
                      have fx3 : (kd != 3) = true := by simp; omega
                      have fz : ((m : Int) == 0) = true := by simp; omega
                      have fn0 : (nn != 0) = true := by simp; omega
                      have fnl : decide (nn < 0) = false := by simp; omega
                      have fng : decide ((1048576 : Int) < nn) = false := by simp; omega
                      have hR2 := Lib.hid (show chkK l = 2 by rw [hR.out, all_bad HX.out (by rw [HFN.out]; split <;> (rw [← Bool.not_eq_true]; simp only [Bool.and_eq_true, Bool.or_eq_true, decide_eq_true_eq]; omega))]; rfl)
                      clear HFN
                      go_wp2
                      go_ret
                      exact ⟨by rw [hR2.out]; rfl, HB2.out⟩
              · by_cases h0 : nn = 0
                · have fk1 : decide ((1 : Int) ≤ kd) = true := by simp; omega
                  have fk5 : decide (kd ≤ (5 : Int)) = true := by simp; omega
                  have fe1 : (kd == 1) = false := by simp; omega
                  have fe3 : (kd == 3) = false := by simp; omega
                  have fx3 : (kd != 3) = true := by simp; omega
                  have fz : ((m : Int) == 0) = false := by simp; omega
                  have fn0 : (nn != 0) = false := by simp; omega
                  have fnl : decide (nn < 0) = false := by simp; omega
                  have fng : decide ((1048576 : Int) < nn) = false := by simp; omega
                  have hR2 := Lib.hid (show chkK l = 2 by rw [hR.out, all_bad HX.out (by rw [HFN.out]; split <;> (rw [← Bool.not_eq_true]; simp only [Bool.and_eq_true, Bool.or_eq_true, decide_eq_true_eq]; omega))]; rfl)
                  clear HFN
                  go_wp2
                  go_ret
                  exact ⟨by rw [hR2.out]; rfl, HB2.out⟩
                · by_cases h4 : nn < 0
                  · have fk1 : decide ((1 : Int) ≤ kd) = true := by simp; omega
                    have fk5 : decide (kd ≤ (5 : Int)) = true := by simp; omega
                    have fe1 : (kd == 1) = false := by simp; omega
                    have fe3 : (kd == 3) = false := by simp; omega
                    have fx3 : (kd != 3) = true := by simp; omega
                    have fz : ((m : Int) == 0) = false := by simp; omega
                    have fn0 : (nn != 0) = true := by simp; omega
                    have fnl : decide (nn < 0) = true := by simp; omega
                    have fng : decide ((1048576 : Int) < nn) = false := by simp; omega
                    have hR2 := Lib.hid (show chkK l = 2 by rw [hR.out, all_bad HX.out (by rw [HFN.out]; split <;> (rw [← Bool.not_eq_true]; simp only [Bool.and_eq_true, Bool.or_eq_true, decide_eq_true_eq]; omega))]; rfl)
                    clear HFN
                    go_wp2
                    go_ret
                    exact ⟨by rw [hR2.out]; rfl, HB2.out⟩
                  · by_cases h5 : (1048576 : Int) < nn
                    · have fk1 : decide ((1 : Int) ≤ kd) = true := by simp; omega
                      have fk5 : decide (kd ≤ (5 : Int)) = true := by simp; omega
                      have fe1 : (kd == 1) = false := by simp; omega
                      have fe3 : (kd == 3) = false := by simp; omega
                      have fx3 : (kd != 3) = true := by simp; omega
                      have fz : ((m : Int) == 0) = false := by simp; omega
                      have fn0 : (nn != 0) = true := by simp; omega
                      have fnl : decide (nn < 0) = false := by simp; omega
                      have fng : decide ((1048576 : Int) < nn) = true := by simp; omega
                      have hR2 := Lib.hid (show chkK l = 2 by rw [hR.out, all_bad HX.out (by rw [HFN.out]; split <;> (rw [← Bool.not_eq_true]; simp only [Bool.and_eq_true, Bool.or_eq_true, decide_eq_true_eq]; omega))]; rfl)
                      clear HFN
                      go_wp2
                      go_ret
                      exact ⟨by rw [hR2.out]; rfl, HB2.out⟩
                    · have fk1 : decide ((1 : Int) ≤ kd) = true := by simp; omega
                      have fk5 : decide (kd ≤ (5 : Int)) = true := by simp; omega
                      have fe1 : (kd == 1) = false := by simp; omega
                      have fe3 : (kd == 3) = false := by simp; omega
                      have fx3 : (kd != 3) = true := by simp; omega
                      have fz : ((m : Int) == 0) = false := by simp; omega
                      have fn0 : (nn != 0) = true := by simp; omega
                      have fnl : decide (nn < 0) = false := by simp; omega
                      have fng : decide ((1048576 : Int) < nn) = false := by simp; omega
                      have hR2 := Lib.hid (show chkK l = 2 by rw [hR.out, all_bad HX.out (by rw [HFN.out]; split <;> (rw [← Bool.not_eq_true]; simp only [Bool.and_eq_true, Bool.or_eq_true, decide_eq_true_eq]; omega))]; rfl)
                      clear HFN
                      go_wp2
                      go_ret
                      exact ⟨by rw [hR2.out]; rfl, HB2.out⟩
    · have hlt2 : decide ((k : Int) < (N : Int)) = false := by simp; omega
      have hlt3 : decide (k < N) = false := by simp; omega
      obtain rfl : N = k := by omega
      have hal : l.all fineK = true := by have := HA.out; rwa [← HN.out, List.take_length] at this
      have hR2 := Lib.hid (show chkK l = 0 by rw [hR.out, if_pos hal])
      clear hal hlt hlt2 hlt3
      go_wp2
      go_ret
      exact ⟨by rw [hR2.out]; rfl, hB⟩
set_option maxRecDepth 100000 in
set_option maxHeartbeats 8000000 in
theorem rcheck_any (v : Value) (l : List PlD) (w : World) (h : Pls w v l) :
    Calls Tryd.prog 20 #[v] w fun e w' => e = .returned (.int .i64 (chkK l)) ∧ Below w.heap.size w w' := by
  obtain ⟨a, ca, rfl, ha⟩ := h
  obtain ⟨N, hN⟩ : ∃ N, l.length = N := ⟨_, rfl⟩
  have HN := Lib.hid hN
  have Ha := Lib.hid ha
  by_cases hbig : 4096 < N
  · have hR := Lib.hid (show chkK l = 3 by unfold chkK; rw [if_pos (by omega)])
    rw [hN]
    have t1 : decide ((4096 : Int) < (N : Int)) = true := by simp; omega
    clear ha hN
    go_enter Tryd.func20, Tryd.ntmps20
    go_wp2
    go_ret
    exact ⟨by rw [hR.out]; rfl, Below.refl _ _⟩
  have hR := Lib.hid (show chkK l = if l.all fineK then 0 else 2 by unfold chkK; rw [if_neg (by omega)])
  rw [hN]
  have t1 : decide ((4096 : Int) < (N : Int)) = false := by simp; omega
  clear ha hN
  go_enter Tryd.func20, Tryd.ntmps20
  go_wp2
  go_loopw [3, 4] (fun i _ wr => ∃ k : Nat, i = .int .i64 k ∧ k ≤ N ∧ Hid ((l.take k).all fineK = true) ∧ Below w.heap.size w wr) (fun i _ _ => N - (intOf i).toNat)
  case atStart => exact ⟨0, rfl, Nat.zero_le _, Lib.hid rfl, Below.refl _ _⟩
  case round =>
    obtain ⟨k, rfl, hk, HA, hB⟩ := hrel
    by_cases hlt : k < N
    · have hlt2 : decide ((k : Int) < (N : Int)) = true := by simp; omega
      have hlt3 : decide (k < N) = true := by simp; omega
      have hi0 : (0 : Int) ≤ (k : Int) := by omega
      have hkt : k < l.length := by rw [HN.out]; exact hlt
      obtain ⟨p, o, rfl, hp, hat⟩ := Ha.out (by omega)
      obtain ⟨x, hx⟩ : ∃ x, l[k]? = some x := ⟨_, List.getElem?_eq_getElem hkt⟩
      obtain ⟨vs, hcs, ⟨ab, cb, rfl, -⟩⟩ := hat k x hx
      obtain ⟨m, hm⟩ : ∃ m, x.bytes.length = m := ⟨_, rfl⟩
      obtain ⟨kd, hkd⟩ : ∃ m, x.kind = m := ⟨_, rfl⟩
      obtain ⟨nn, hnn⟩ : ∃ m, x.n = m := ⟨_, rfl⟩
      have hfn : fineK x = (decide (1 ≤ kd) && decide (kd ≤ 5) && (decide (kd = 1) || decide (m = 0)) && (if kd = 3 then decide (0 ≤ nn) && decide (nn ≤ 1048576) else decide (nn = 0))) := by unfold fineK; rw [empty_len, hm, hkd, hnn]
      rw [hm, hkd, hnn] at hcs
      have c0 := (hB.cell (p := ⟨p, o + k * 3 + 0, none⟩) hp).trans (hcs 0 _ rfl)
      have c1 := (hB.cell (p := ⟨p, o + k * 3 + 1, none⟩) hp).trans (hcs 1 _ rfl)
      have c2 := (hB.cell (p := ⟨p, o + k * 3 + 2, none⟩) hp).trans (hcs 2 _ rfl)
      rw [Nat.add_zero] at c0
      have HX := Lib.hid hx
      have hsz := hB.size
      have HB2 := Lib.hid (show Below w.heap.size w (wr.alloc (.cells #[.int .i64 kd, .int .i64 nn, .slice ab m cb] 34)) from hB.alloc hsz _)
      have HFN := Lib.hid hfn
      clear hat hx hcs hm hkd hnn hfn
      go_upto_region 7 with fail
      have R := Blk.new wr #[.int .i64 kd, .int .i64 nn, .slice ab m cb] 34
      generalize wr.alloc (.cells #[.int .i64 kd, .int .i64 nn, .slice ab m cb] 34) = W2 at R HB2 ⊢
      generalize wr.heap.size = r2 at R ⊢
      have d0 : W2.cell? ⟨r2, 0, none⟩ = _ := R.cell 0
      have d1 : W2.cell? ⟨r2, 1, none⟩ = _ := R.cell 1
      have d2 : W2.cell? ⟨r2, 2, none⟩ = _ := R.cell 2
      simp only [List.getElem?_toArray, List.getElem?_cons_zero, List.getElem?_cons_succ] at d0 d1 d2
      clear c0 c1 c2 R hB hsz
      by_cases h1 : kd < (1 : Int)
      · have fl1 : decide (kd < (1 : Int)) = true := by simp; omega
        have hR2 := Lib.hid (show chkK l = 2 by rw [hR.out, all_bad HX.out (by rw [HFN.out]; split <;> (rw [← Bool.not_eq_true]; simp only [Bool.and_eq_true, Bool.or_eq_true, decide_eq_true_eq]; omega))]; rfl)
        clear HFN
        go_wp2
        go_ret
        exact ⟨by rw [hR2.out]; rfl, HB2.out⟩
      · by_cases h2 : (5 : Int) < kd
        · have fl1 : decide (kd < (1 : Int)) = false := by simp; omega
          have fg5 : decide ((5 : Int) < kd) = true := by simp; omega
          have hR2 := Lib.hid (show chkK l = 2 by rw [hR.out, all_bad HX.out (by rw [HFN.out]; split <;> (rw [← Bool.not_eq_true]; simp only [Bool.and_eq_true, Bool.or_eq_true, decide_eq_true_eq]; omega))]; rfl)
          clear HFN
          go_wp2
          go_ret
          exact ⟨by rw [hR2.out]; rfl, HB2.out⟩
        · by_cases h3 : kd = 1
          · by_cases h0 : nn = 0
            · have fl1 : decide (kd < (1 : Int)) = false := by simp; omega
              have fg5 : decide ((5 : Int) < kd) = false := by simp; omega
              have fx1 : (kd != 1) = false := by simp; omega
              have fx3 : (kd != 3) = true := by simp; omega
              have fn0 : (nn != 0) = false := by simp; omega
              have fnl : decide (nn < 0) = false := by simp; omega
              have fng : decide ((1048576 : Int) < nn) = false := by simp; omega
              have hgood := Lib.hid (show fineK x = true by rw [HFN.out]; split <;> (simp only [Bool.and_eq_true, Bool.or_eq_true, decide_eq_true_eq]; omega))
              clear HFN
              go_wp2
              go_roundw
              case measure => simp [intOf]; omega
              case rel => exact ⟨k + 1, by go_num, by omega, Lib.hid (all_next HX.out HA.out hgood.out), HB2.out⟩
            · by_cases h4 : nn < 0
              · have fl1 : decide (kd < (1 : Int)) = false := by simp; omega
                have fg5 : decide ((5 : Int) < kd) = false := by simp; omega
                have fx1 : (kd != 1) = false := by simp; omega
                have fx3 : (kd != 3) = true := by simp; omega
                have fn0 : (nn != 0) = true := by simp; omega
                have fnl : decide (nn < 0) = true := by simp; omega
                have fng : decide ((1048576 : Int) < nn) = false := by simp; omega
                have hR2 := Lib.hid (show chkK l = 2 by rw [hR.out, all_bad HX.out (by rw [HFN.out]; split <;> (rw [← Bool.not_eq_true]; simp only [Bool.and_eq_true, Bool.or_eq_true, decide_eq_true_eq]; omega))]; rfl)
                clear HFN
                go_wp2
                go_ret
                exact ⟨by rw [hR2.out]; rfl, HB2.out⟩
              · by_cases h5 : (1048576 : Int) < nn
                · have fl1 : decide (kd < (1 : Int)) = false := by simp; omega
                  have fg5 : decide ((5 : Int) < kd) = false := by simp; omega
                  have fx1 : (kd != 1) = false := by simp; omega
                  have fx3 : (kd != 3) = true := by simp; omega
                  have fn0 : (nn != 0) = true := by simp; omega
                  have fnl : decide (nn < 0) = false := by simp; omega
                  have fng : decide ((1048576 : Int) < nn) = true := by simp; omega
                  have hR2 := Lib.hid (show chkK l = 2 by rw [hR.out, all_bad HX.out (by rw [HFN.out]; split <;> (rw [← Bool.not_eq_true]; simp only [Bool.and_eq_true, Bool.or_eq_true, decide_eq_true_eq]; omega))]; rfl)
                  clear HFN
                  go_wp2
                  go_ret
                  exact ⟨by rw [hR2.out]; rfl, HB2.out⟩
                · have fl1 : decide (kd < (1 : Int)) = false := by simp; omega
                  have fg5 : decide ((5 : Int) < kd) = false := by simp; omega
                  have fx1 : (kd != 1) = false := by simp; omega
                  have fx3 : (kd != 3) = true := by simp; omega
                  have fn0 : (nn != 0) = true := by simp; omega
                  have fnl : decide (nn < 0) = false := by simp; omega
                  have fng : decide ((1048576 : Int) < nn) = false := by simp; omega
                  have hR2 := Lib.hid (show chkK l = 2 by rw [hR.out, all_bad HX.out (by rw [HFN.out]; split <;> (rw [← Bool.not_eq_true]; simp only [Bool.and_eq_true, Bool.or_eq_true, decide_eq_true_eq]; omega))]; rfl)
                  clear HFN
                  go_wp2
                  go_ret
                  exact ⟨by rw [hR2.out]; rfl, HB2.out⟩
          · by_cases h6 : kd = 3
            · by_cases hz : (m : Int) = 0
              · by_cases h4 : nn < 0
                · have fl1 : decide (kd < (1 : Int)) = false := by simp; omega
                  have fg5 : decide ((5 : Int) < kd) = false := by simp; omega
                  have fx1 : (kd != 1) = true := by simp; omega
                  have fx3 : (kd != 3) = false := by simp; omega
                  have fxz : ((m : Int) != 0) = false := by simp; omega
                  have fnl : decide (nn < 0) = true := by simp; omega
                  have fng : decide ((1048576 : Int) < nn) = false := by simp; omega
                  have fn0 : (nn != 0) = true := by simp; omega
                  have hR2 := Lib.hid (show chkK l = 2 by rw [hR.out, all_bad HX.out (by rw [HFN.out]; split <;> (rw [← Bool.not_eq_true]; simp only [Bool.and_eq_true, Bool.or_eq_true, decide_eq_true_eq]; omega))]; rfl)
                  clear HFN
                  go_wp2
                  go_ret
                  exact ⟨by rw [hR2.out]; rfl, HB2.out⟩
                · by_cases h5 : (1048576 : Int) < nn
                  · have fl1 : decide (kd < (1 : Int)) = false := by simp; omega
                    have fg5 : decide ((5 : Int) < kd) = false := by simp; omega
                    have fx1 : (kd != 1) = true := by simp; omega
                    have fx3 : (kd != 3) = false := by simp; omega
                    have fxz : ((m : Int) != 0) = false := by simp; omega
                    have fnl : decide (nn < 0) = false := by simp; omega
                    have fng : decide ((1048576 : Int) < nn) = true := by simp; omega
                    have fn0 : (nn != 0) = true := by simp; omega
                    have hR2 := Lib.hid (show chkK l = 2 by rw [hR.out, all_bad HX.out (by rw [HFN.out]; split <;> (rw [← Bool.not_eq_true]; simp only [Bool.and_eq_true, Bool.or_eq_true, decide_eq_true_eq]; omega))]; rfl)
                    clear HFN
                    go_wp2
                    go_ret
                    exact ⟨by rw [hR2.out]; rfl, HB2.out⟩
                  · have fl1 : decide (kd < (1 : Int)) = false := by simp; omega
                    have fg5 : decide ((5 : Int) < kd) = false := by simp; omega
                    have fx1 : (kd != 1) = true := by simp; omega
                    have fx3 : (kd != 3) = false := by simp; omega
                    have fxz : ((m : Int) != 0) = false := by simp; omega
                    have fnl : decide (nn < 0) = false := by simp; omega
                    have fng : decide ((1048576 : Int) < nn) = false := by simp; omega
                    have hgood := Lib.hid (show fineK x = true by rw [HFN.out]; split <;> (simp only [Bool.and_eq_true, Bool.or_eq_true, decide_eq_true_eq]; omega))
                    clear HFN
                    go_wp2
                    go_roundw
                    case measure => simp [intOf]; omega
                    case rel => exact ⟨k + 1, by go_num, by omega, Lib.hid (all_next HX.out HA.out hgood.out), HB2.out⟩
              · by_cases h4 : nn < 0
                · have fl1 : decide (kd < (1 : Int)) = false := by simp; omega
                  have fg5 : decide ((5 : Int) < kd) = false := by simp; omega
                  have fx1 : (kd != 1) = true := by simp; omega
                  have fx3 : (kd != 3) = false := by simp; omega
                  have fxz : ((m : Int) != 0) = true := by simp; omega
                  have fnl : decide (nn < 0) = true := by simp; omega
                  have fng : decide ((1048576 : Int) < nn) = false := by simp; omega
                  have hR2 := Lib.hid (show chkK l = 2 by rw [hR.out, all_bad HX.out (by rw [HFN.out]; split <;> (rw [← Bool.not_eq_true]; simp only [Bool.and_eq_true, Bool.or_eq_true, decide_eq_true_eq]; omega))]; rfl)
                  clear HFN
                  go_wp2
                  go_ret
                  exact ⟨by rw [hR2.out]; rfl, HB2.out⟩
                · by_cases h5 : (1048576 : Int) < nn
                  · have fl1 : decide (kd < (1 : Int)) = false := by simp; omega
                    have fg5 : decide ((5 : Int) < kd) = false := by simp; omega
                    have fx1 : (kd != 1) = true := by simp; omega
                    have fx3 : (kd != 3) = false := by simp; omega
                    have fxz : ((m : Int) != 0) = true := by simp; omega
                    have fnl : decide (nn < 0) = false := by simp; omega
                    have fng : decide ((1048576 : Int) < nn) = true := by simp; omega
                    have hR2 := Lib.hid (show chkK l = 2 by rw [hR.out, all_bad HX.out (by rw [HFN.out]; split <;> (rw [← Bool.not_eq_true]; simp only [Bool.and_eq_true, Bool.or_eq_true, decide_eq_true_eq]; omega))]; rfl)
                    clear HFN
                    go_wp2
                    go_ret
                    exact ⟨by rw [hR2.out]; rfl, HB2.out⟩
                  · have fl1 : decide (kd < (1 : Int)) = false := by simp; omega
                    have fg5 : decide ((5 : Int) < kd) = false := by simp; omega
                    have fx1 : (kd != 1) = true := by simp; omega
                    have fx3 : (kd != 3) = false := by simp; omega
                    have fxz : ((m : Int) != 0) = true := by simp; omega
                    have fnl : decide (nn < 0) = false := by simp; omega
                    have fng : decide ((1048576 : Int) < nn) = false := by simp; omega
                    have hR2 := Lib.hid (show chkK l = 2 by rw [hR.out, all_bad HX.out (by rw [HFN.out]; split <;> (rw [← Bool.not_eq_true]; simp only [Bool.and_eq_true, Bool.or_eq_true, decide_eq_true_eq]; omega))]; rfl)
                    clear HFN
                    go_wp2
                    go_ret
                    exact ⟨by rw [hR2.out]; rfl, HB2.out⟩
            · by_cases hz : (m : Int) = 0
              · by_cases h0 : nn = 0
                · have fl1 : decide (kd < (1 : Int)) = false := by simp; omega
                  have fg5 : decide ((5 : Int) < kd) = false := by simp; omega
                  have fx1 : (kd != 1) = true := by simp; omega
                  have fx3 : (kd != 3) = true := by simp; omega
                  have fxz : ((m : Int) != 0) = false := by simp; omega
                  have fn0 : (nn != 0) = false := by simp; omega
                  have fnl : decide (nn < 0) = false := by simp; omega
                  have fng : decide ((1048576 : Int) < nn) = false := by simp; omega
                  have hgood := Lib.hid (show fineK x = true by rw [HFN.out]; split <;> (simp only [Bool.and_eq_true, Bool.or_eq_true, decide_eq_true_eq]; omega))
                  clear HFN
                  go_wp2
                  go_roundw
                  case measure => simp [intOf]; omega
                  case rel => exact ⟨k + 1, by go_num, by omega, Lib.hid (all_next HX.out HA.out hgood.out), HB2.out⟩
                · by_cases h4 : nn < 0
                  · have fl1 : decide (kd < (1 : Int)) = false := by simp; omega
                    have fg5 : decide ((5 : Int) < kd) = false := by simp; omega
                    have fx1 : (kd != 1) = true := by simp; omega
                    have fx3 : (kd != 3) = true := by simp; omega
                    have fxz : ((m : Int) != 0) = false := by simp; omega
                    have fn0 : (nn != 0) = true := by simp; omega
                    have fnl : decide (nn < 0) = true := by simp; omega
                    have fng : decide ((1048576 : Int) < nn) = false := by simp; omega
                    have hR2 := Lib.hid (show chkK l = 2 by rw [hR.out, all_bad HX.out (by rw [HFN.out]; split <;> (rw [← Bool.not_eq_true]; simp only [Bool.and_eq_true, Bool.or_eq_true, decide_eq_true_eq]; omega))]; rfl)
                    clear HFN
                    go_wp2
                    go_ret
                    exact ⟨by rw [hR2.out]; rfl, HB2.out⟩
                  · by_cases h5 : (1048576 : Int) < nn
                    · have fl1 : decide (kd < (1 : Int)) = false := by simp; omega
                      have fg5 : decide ((5 : Int) < kd) = false := by simp; omega
                      have fx1 : (kd != 1) = true := by simp; omega
                      have fx3 : (kd != 3) = true := by simp; omega
                      have fxz : ((m : Int) != 0) = false := by simp; omega
                      have fn0 : (nn != 0) = true := by simp; omega
                      have fnl : decide (nn < 0) = false := by simp; omega
                      have fng : decide ((1048576 : Int) < nn) = true := by simp; omega
                      have hR2 := Lib.hid (show chkK l = 2 by rw [hR.out, all_bad HX.out (by rw [HFN.out]; split <;> (rw [← Bool.not_eq_true]; simp only [Bool.and_eq_true, Bool.or_eq_true, decide_eq_true_eq]; omega))]; rfl)
                      clear HFN
                      go_wp2
                      go_ret
                      exact ⟨by rw [hR2.out]; rfl, HB2.out⟩
                    · have fl1 : decide (kd < (1 : Int)) = false := by simp; omega
                      have fg5 : decide ((5 : Int) < kd) = false := by simp; omega
                      have fx1 : (kd != 1) = true := by simp; omega
                      have fx3 : (kd != 3) = true := by simp; omega
                      have fxz : ((m : Int) != 0) = false := by simp; omega
                      have fn0 : (nn != 0) = true := by simp; omega
                      have fnl : decide (nn < 0) = false := by simp; omega
                      have fng : decide ((1048576 : Int) < nn) = false := by simp; omega
                      have hR2 := Lib.hid (show chkK l = 2 by rw [hR.out, all_bad HX.out (by rw [HFN.out]; split <;> (rw [← Bool.not_eq_true]; simp only [Bool.and_eq_true, Bool.or_eq_true, decide_eq_true_eq]; omega))]; rfl)
                      clear HFN
                      go_wp2
                      go_ret
                      exact ⟨by rw [hR2.out]; rfl, HB2.out⟩
              · by_cases h0 : nn = 0
                · have fl1 : decide (kd < (1 : Int)) = false := by simp; omega
                  have fg5 : decide ((5 : Int) < kd) = false := by simp; omega
                  have fx1 : (kd != 1) = true := by simp; omega
                  have fx3 : (kd != 3) = true := by simp; omega
                  have fxz : ((m : Int) != 0) = true := by simp; omega
                  have fn0 : (nn != 0) = false := by simp; omega
                  have fnl : decide (nn < 0) = false := by simp; omega
                  have fng : decide ((1048576 : Int) < nn) = false := by simp; omega
                  have hR2 := Lib.hid (show chkK l = 2 by rw [hR.out, all_bad HX.out (by rw [HFN.out]; split <;> (rw [← Bool.not_eq_true]; simp only [Bool.and_eq_true, Bool.or_eq_true, decide_eq_true_eq]; omega))]; rfl)
                  clear HFN
                  go_wp2
                  go_ret
                  exact ⟨by rw [hR2.out]; rfl, HB2.out⟩
                · by_cases h4 : nn < 0
                  · have fl1 : decide (kd < (1 : Int)) = false := by simp; omega
                    have fg5 : decide ((5 : Int) < kd) = false := by simp; omega
                    have fx1 : (kd != 1) = true := by simp; omega
                    have fx3 : (kd != 3) = true := by simp; omega
                    have fxz : ((m : Int) != 0) = true := by simp; omega
                    have fn0 : (nn != 0) = true := by simp; omega
                    have fnl : decide (nn < 0) = true := by simp; omega
                    have fng : decide ((1048576 : Int) < nn) = false := by simp; omega
                    have hR2 := Lib.hid (show chkK l = 2 by rw [hR.out, all_bad HX.out (by rw [HFN.out]; split <;> (rw [← Bool.not_eq_true]; simp only [Bool.and_eq_true, Bool.or_eq_true, decide_eq_true_eq]; omega))]; rfl)
                    clear HFN
                    go_wp2
                    go_ret
                    exact ⟨by rw [hR2.out]; rfl, HB2.out⟩
                  · by_cases h5 : (1048576 : Int) < nn
                    · have fl1 : decide (kd < (1 : Int)) = false := by simp; omega
                      have fg5 : decide ((5 : Int) < kd) = false := by simp; omega
                      have fx1 : (kd != 1) = true := by simp; omega
                      have fx3 : (kd != 3) = true := by simp; omega
                      have fxz : ((m : Int) != 0) = true := by simp; omega
                      have fn0 : (nn != 0) = true := by simp; omega
                      have fnl : decide (nn < 0) = false := by simp; omega
                      have fng : decide ((1048576 : Int) < nn) = true := by simp; omega
                      have hR2 := Lib.hid (show chkK l = 2 by rw [hR.out, all_bad HX.out (by rw [HFN.out]; split <;> (rw [← Bool.not_eq_true]; simp only [Bool.and_eq_true, Bool.or_eq_true, decide_eq_true_eq]; omega))]; rfl)
                      clear HFN
                      go_wp2
                      go_ret
                      exact ⟨by rw [hR2.out]; rfl, HB2.out⟩
                    · have fl1 : decide (kd < (1 : Int)) = false := by simp; omega
                      have fg5 : decide ((5 : Int) < kd) = false := by simp; omega
                      have fx1 : (kd != 1) = true := by simp; omega
                      have fx3 : (kd != 3) = true := by simp; omega
                      have fxz : ((m : Int) != 0) = true := by simp; omega
                      have fn0 : (nn != 0) = true := by simp; omega
                      have fnl : decide (nn < 0) = false := by simp; omega
                      have fng : decide ((1048576 : Int) < nn) = false := by simp; omega
                      have hR2 := Lib.hid (show chkK l = 2 by rw [hR.out, all_bad HX.out (by rw [HFN.out]; split <;> (rw [← Bool.not_eq_true]; simp only [Bool.and_eq_true, Bool.or_eq_true, decide_eq_true_eq]; omega))]; rfl)
                      clear HFN
                      go_wp2
                      go_ret
                      exact ⟨by rw [hR2.out]; rfl, HB2.out⟩
    · have hlt2 : decide ((k : Int) < (N : Int)) = false := by simp; omega
      have hlt3 : decide (k < N) = false := by simp; omega
      obtain rfl : N = k := by omega
      have hal : l.all fineK = true := by have := HA.out; rwa [← HN.out, List.take_length] at this
      have hR2 := Lib.hid (show chkK l = 0 by rw [hR.out, if_pos hal])
      clear hal hlt hlt2 hlt3
      go_wp2
      go_ret
      exact ⟨by rw [hR2.out]; rfl, hB⟩
end Go.Proofs.YtbjlnllbcgghlaaDoor
