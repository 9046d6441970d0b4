/- strconv.ParseUint to base 16 and 8 bits: at two digits, and weakly at any text. -/
import Derived.Test.YtbjlnllbcgghlaaDoorPyE0
import Derived.Test.YtbjlnllbcgghlaaDoorShelfP
import Derived.Lib.AtoiErrMem
namespace Go.Proofs.YtbjlnllbcgghlaaDoor
open Go.RowKit Go.Shelf
open Ev (AV Mem V VL MR)
set_option linter.unusedSimpArgs false
set_option linter.unusedVariables false

set_option maxRecDepth 100000 in
set_option maxHeartbeats 8000000 in
theorem pu_inner (t : ByteArray) (w : World) (hn : t.size ≠ 0) (hm : t.size ≤ 100000000) :
    Calls Tryd.prog 43 #[.string t, .int .i64 16, .int .i64 8] w fun e w' => (∃ n : Int, (0 ≤ n ∧ n ≤ 255) ∧ ∃ ev, (ev = .nilIface ∨ ev = .iface 89 (.int .i64 2) ∨ ev = .iface 89 (.int .i64 1)) ∧ e = .returned (.tuple #[.int .u64 n, ev])) ∧ Below w.heap.size w w' := by
  have e0 : (t.toList == ([] : List UInt8)) = false := by
    rw [beq_eq_false_iff_ne]; intro h
    exact hn (by rw [ByteArray.toList_eq] at h; simpa using congrArg List.length h)
  have hcv := Lib.run_convert_string_bytes (P := Tryd.prog) w 9 32 5 t Tryd.underlying9 Tryd.underlying32 Tryd.underlying5
  have hbw := Lib.bytesWorld_below w 5 t
  have hcl := fun j hj => Lib.bytesWorld_cell w 5 t j hj
  have hsz := Lib.bytesWorld_size w 5 t
  generalize Lib.bytesWorld w 5 t = W1 at hcv hbw hcl hsz
  generalize grownCap w t.size 0 5 = gc at hcv
  obtain ⟨b, hb⟩ : ∃ b, w.heap.size = b := ⟨_, rfl⟩
  rw [hb] at hcv hcl hsz
  obtain ⟨N, hN⟩ : ∃ N, t.size = N := ⟨_, rfl⟩
  have hN2 := hN
  rw [hN] at hcv hm
  have HCL := Lib.hid (show ∀ W, Below W1.heap.size W1 W → ∀ j, j < N → W.cell? ⟨b, j, none⟩ = some (.int .u8 ((t.data.toList.getD j 0).toNat : Int)) from fun W hW j hj => (hW.cell (p := ⟨b, j, none⟩) (by show b < _; omega)).trans (hcl j (by omega)))
  have HB1 := Lib.hid hbw
  have KL := Lib.hid (fun (c : Int) (w : World) => Tryd.internal_strconv_lower c w)
  clear hbw hcl hn
  go_enter Tryd.func43, Tryd.ntmps43
  go_upto_region 36 with fail
  clear hcv e0
  go_loopw [12, 13, 15, 16, 17, 101] (fun u v _ _ _ i wr => ∃ (k : Nat) (n : Int), u = .bool false ∧ i = .int .i64 k ∧ v = .int .u64 n ∧ k ≤ N ∧ 0 ≤ n ∧ n ≤ 255 ∧ Below W1.heap.size W1 wr) (fun _ _ _ _ _ i _ => N - (intOf i).toNat)
  case atStart => exact ⟨0, 0, rfl, rfl, rfl, Nat.zero_le _, by omega, by omega, Below.refl _ _⟩
  case round =>
    obtain ⟨k, n, rfl, rfl, rfl, hk, hn0, hn1, hB⟩ := hrel
    by_cases hlt : k < N
    · have hlt2 : decide ((k : Int) < (N : Int)) = true := by simp; omega
      have hlt3 : decide (k < N) = true := by simp; omega
      have hi0 : (0 : Int) ≤ (k : Int) := by omega
      have c0 := HCL.out wr hB k hlt
      obtain ⟨c, hc⟩ : ∃ c : Nat, (t.data.toList.getD k 0).toNat = c := ⟨_, rfl⟩
      have hc8 : c < 256 := hc ▸ UInt8.toNat_lt _
      rw [hc] at c0
      obtain ⟨x, hx⟩ : ∃ x, bits .or .u8 (c : Int) 32 = x := ⟨_, rfl⟩
      have KL := Lib.hid (show ∀ w, Calls Tryd.prog 53 #[.int .u8 (c : Int)] w fun e w' => e = .returned (.int .u8 x) ∧ w' = w from fun w => hx ▸ KL.out c w)
      have HB := Lib.hid (HB1.out.trans (hB.mono HB1.out.size))
      have HB0 := Lib.hid hB
      clear hc hx
      by_cases h95 : (c : Int) = 95
      · have f0 : ((c : Int) == 95) = true := by simp; omega
        have f1 : decide ((48 : Int) ≤ (c : Int)) = true := by simp; omega
        have f2 : decide ((c : Int) ≤ 57) = false := by simp; omega
        clear h95
        by_cases hx1 : (97 : Int) ≤ x
        · have f3 : decide ((97 : Int) ≤ x) = true := by simp; omega
          by_cases hx2 : x ≤ 122
          · have f4 : decide (x ≤ (122 : Int)) = true := by simp; omega
            have w1 : IntKind.u8.wrap (x - 97) = x - 97 := IntWalk.u8_in _ (by omega)
            have w2 : IntKind.u8.wrap (x - 97 + 10) = x - 97 + 10 := IntWalk.u8_in _ (by omega)
            by_cases hx3 : (16 : Int) ≤ x - 97 + 10
            · have g1 : decide ((16 : Int) ≤ x - 97 + 10) = true := by simp; omega
              go_wp2_with (go_at_call 53; refine (KL.out _).mono ?_; rintro e1 w1 ⟨rfl, rfl⟩)
              refine bodyPost_ret (v := .tuple #[.int .u64 0, .iface 89 (.int .i64 2)]) (by simp [results, Tryd.results43, go_sem]) rfl ?_
              exact ⟨⟨0, by omega, _, .inr (.inl rfl), rfl⟩, HB.out⟩
            · have g1 : decide ((16 : Int) ≤ (x - 97 + 10)) = false := by simp; omega
              have g1' : decide ((x - 97 + 10) ≥ (16 : Int)) = false := by simp; omega
              have h2 : IntKind.u64.wrap (n * 16) = n * 16 := IntWalk.u64_in _ (by omega)
              have h3 : IntKind.u64.wrap (n * 16 + (x - 97 + 10)) = n * 16 + (x - 97 + 10) := IntWalk.u64_in _ (by omega)
              have h4 : IntKind.u64.wrap (x - 97 + 10) = (x - 97 + 10) := IntWalk.u64_in _ (by omega)
              have g2 : decide ((1152921504606846976 : Int) ≤ n) = false := by simp; omega
              have g3 : decide (n * 16 + (x - 97 + 10) < n * 16) = false := by simp; omega
              by_cases hbig : (255 : Int) < n * 16 + (x - 97 + 10)
              · have g4 : decide ((255 : Int) < n * 16 + (x - 97 + 10)) = true := by simp; omega
                go_wp2_with (go_at_call 53; refine (KL.out _).mono ?_; rintro e1 w1 ⟨rfl, rfl⟩)
                refine bodyPost_ret (v := .tuple #[.int .u64 255, .iface 89 (.int .i64 1)]) (by simp [results, Tryd.results43, go_sem]) rfl ?_
                exact ⟨⟨255, by omega, _, .inr (.inr rfl), rfl⟩, HB.out⟩
              · have g4 : decide ((255 : Int) < n * 16 + (x - 97 + 10)) = false := by simp; omega
                go_wp2_with (go_at_call 53; refine (KL.out _).mono ?_; rintro e1 w1 ⟨rfl, rfl⟩)
                go_roundw
                case measure => simp [intOf]; omega
                case rel => exact ⟨k + 1, n * 16 + (x - 97 + 10), rfl, by go_num, rfl, by omega, by omega, by omega, HB0.out⟩

          · have f4 : decide (x ≤ (122 : Int)) = false := by simp; omega
            go_wp2_with (go_at_call 53; refine (KL.out _).mono ?_; rintro e1 w1 ⟨rfl, rfl⟩)
            refine bodyPost_ret (v := .tuple #[.int .u64 0, .iface 89 (.int .i64 2)]) (by simp [results, Tryd.results43, go_sem]) rfl ?_
            exact ⟨⟨0, by omega, _, .inr (.inl rfl), rfl⟩, HB.out⟩
        · have f3 : decide ((97 : Int) ≤ x) = false := by simp; omega
          go_wp2_with (go_at_call 53; refine (KL.out _).mono ?_; rintro e1 w1 ⟨rfl, rfl⟩)
          refine bodyPost_ret (v := .tuple #[.int .u64 0, .iface 89 (.int .i64 2)]) (by simp [results, Tryd.results43, go_sem]) rfl ?_
          exact ⟨⟨0, by omega, _, .inr (.inl rfl), rfl⟩, HB.out⟩
      have f0 : ((c : Int) == 95) = false := by simp; omega
      by_cases h48 : (48 : Int) ≤ (c : Int) ∧ (c : Int) ≤ 57
      · have f1 : decide ((48 : Int) ≤ (c : Int)) = true := by simp; omega
        have f2 : decide ((c : Int) ≤ 57) = true := by simp; omega
        have w1 : IntKind.u8.wrap ((c : Int) - 48) = (c : Int) - 48 := IntWalk.u8_in _ (by omega)
        have g1 : decide ((16 : Int) ≤ ((c : Int) - 48)) = false := by simp; omega
        have g1' : decide (((c : Int) - 48) ≥ (16 : Int)) = false := by simp; omega
        have h2 : IntKind.u64.wrap (n * 16) = n * 16 := IntWalk.u64_in _ (by omega)
        have h3 : IntKind.u64.wrap (n * 16 + ((c : Int) - 48)) = n * 16 + ((c : Int) - 48) := IntWalk.u64_in _ (by omega)
        have h4 : IntKind.u64.wrap ((c : Int) - 48) = ((c : Int) - 48) := IntWalk.u64_in _ (by omega)
        have g2 : decide ((1152921504606846976 : Int) ≤ n) = false := by simp; omega
        have g3 : decide (n * 16 + ((c : Int) - 48) < n * 16) = false := by simp; omega
        by_cases hbig : (255 : Int) < n * 16 + ((c : Int) - 48)
        · have g4 : decide ((255 : Int) < n * 16 + ((c : Int) - 48)) = true := by simp; omega
          go_wp2_with (go_at_call 53; refine (KL.out _).mono ?_; rintro e1 w1 ⟨rfl, rfl⟩)
          refine bodyPost_ret (v := .tuple #[.int .u64 255, .iface 89 (.int .i64 1)]) (by simp [results, Tryd.results43, go_sem]) rfl ?_
          exact ⟨⟨255, by omega, _, .inr (.inr rfl), rfl⟩, HB.out⟩
        · have g4 : decide ((255 : Int) < n * 16 + ((c : Int) - 48)) = false := by simp; omega
          go_wp2_with (go_at_call 53; refine (KL.out _).mono ?_; rintro e1 w1 ⟨rfl, rfl⟩)
          go_roundw
          case measure => simp [intOf]; omega
          case rel => exact ⟨k + 1, n * 16 + ((c : Int) - 48), rfl, by go_num, rfl, by omega, by omega, by omega, HB0.out⟩
      by_cases h48' : (48 : Int) ≤ (c : Int)
      · have f1 : decide ((48 : Int) ≤ (c : Int)) = true := by simp; omega
        have f2 : decide ((c : Int) ≤ 57) = false := by simp; omega
        by_cases hx1 : (97 : Int) ≤ x
        · have f3 : decide ((97 : Int) ≤ x) = true := by simp; omega
          by_cases hx2 : x ≤ 122
          · have f4 : decide (x ≤ (122 : Int)) = true := by simp; omega
            have w1 : IntKind.u8.wrap (x - 97) = x - 97 := IntWalk.u8_in _ (by omega)
            have w2 : IntKind.u8.wrap (x - 97 + 10) = x - 97 + 10 := IntWalk.u8_in _ (by omega)
            by_cases hx3 : (16 : Int) ≤ x - 97 + 10
            · have g1 : decide ((16 : Int) ≤ x - 97 + 10) = true := by simp; omega
              go_wp2_with (go_at_call 53; refine (KL.out _).mono ?_; rintro e1 w1 ⟨rfl, rfl⟩)
              refine bodyPost_ret (v := .tuple #[.int .u64 0, .iface 89 (.int .i64 2)]) (by simp [results, Tryd.results43, go_sem]) rfl ?_
              exact ⟨⟨0, by omega, _, .inr (.inl rfl), rfl⟩, HB.out⟩
            · have g1 : decide ((16 : Int) ≤ (x - 97 + 10)) = false := by simp; omega
              have g1' : decide ((x - 97 + 10) ≥ (16 : Int)) = false := by simp; omega
              have h2 : IntKind.u64.wrap (n * 16) = n * 16 := IntWalk.u64_in _ (by omega)
              have h3 : IntKind.u64.wrap (n * 16 + (x - 97 + 10)) = n * 16 + (x - 97 + 10) := IntWalk.u64_in _ (by omega)
              have h4 : IntKind.u64.wrap (x - 97 + 10) = (x - 97 + 10) := IntWalk.u64_in _ (by omega)
              have g2 : decide ((1152921504606846976 : Int) ≤ n) = false := by simp; omega
              have g3 : decide (n * 16 + (x - 97 + 10) < n * 16) = false := by simp; omega
              by_cases hbig : (255 : Int) < n * 16 + (x - 97 + 10)
              · have g4 : decide ((255 : Int) < n * 16 + (x - 97 + 10)) = true := by simp; omega
                go_wp2_with (go_at_call 53; refine (KL.out _).mono ?_; rintro e1 w1 ⟨rfl, rfl⟩)
                refine bodyPost_ret (v := .tuple #[.int .u64 255, .iface 89 (.int .i64 1)]) (by simp [results, Tryd.results43, go_sem]) rfl ?_
                exact ⟨⟨255, by omega, _, .inr (.inr rfl), rfl⟩, HB.out⟩
              · have g4 : decide ((255 : Int) < n * 16 + (x - 97 + 10)) = false := by simp; omega
                go_wp2_with (go_at_call 53; refine (KL.out _).mono ?_; rintro e1 w1 ⟨rfl, rfl⟩)
                go_roundw
                case measure => simp [intOf]; omega
                case rel => exact ⟨k + 1, n * 16 + (x - 97 + 10), rfl, by go_num, rfl, by omega, by omega, by omega, HB0.out⟩

          · have f4 : decide (x ≤ (122 : Int)) = false := by simp; omega
            go_wp2_with (go_at_call 53; refine (KL.out _).mono ?_; rintro e1 w1 ⟨rfl, rfl⟩)
            refine bodyPost_ret (v := .tuple #[.int .u64 0, .iface 89 (.int .i64 2)]) (by simp [results, Tryd.results43, go_sem]) rfl ?_
            exact ⟨⟨0, by omega, _, .inr (.inl rfl), rfl⟩, HB.out⟩
        · have f3 : decide ((97 : Int) ≤ x) = false := by simp; omega
          go_wp2_with (go_at_call 53; refine (KL.out _).mono ?_; rintro e1 w1 ⟨rfl, rfl⟩)
          refine bodyPost_ret (v := .tuple #[.int .u64 0, .iface 89 (.int .i64 2)]) (by simp [results, Tryd.results43, go_sem]) rfl ?_
          exact ⟨⟨0, by omega, _, .inr (.inl rfl), rfl⟩, HB.out⟩
      · have f1 : decide ((48 : Int) ≤ (c : Int)) = false := by simp; omega
        by_cases hx1 : (97 : Int) ≤ x
        · have f3 : decide ((97 : Int) ≤ x) = true := by simp; omega
          by_cases hx2 : x ≤ 122
          · have f4 : decide (x ≤ (122 : Int)) = true := by simp; omega
            have w1 : IntKind.u8.wrap (x - 97) = x - 97 := IntWalk.u8_in _ (by omega)
            have w2 : IntKind.u8.wrap (x - 97 + 10) = x - 97 + 10 := IntWalk.u8_in _ (by omega)
            by_cases hx3 : (16 : Int) ≤ x - 97 + 10
            · have g1 : decide ((16 : Int) ≤ x - 97 + 10) = true := by simp; omega
              go_wp2_with (go_at_call 53; refine (KL.out _).mono ?_; rintro e1 w1 ⟨rfl, rfl⟩)
              refine bodyPost_ret (v := .tuple #[.int .u64 0, .iface 89 (.int .i64 2)]) (by simp [results, Tryd.results43, go_sem]) rfl ?_
              exact ⟨⟨0, by omega, _, .inr (.inl rfl), rfl⟩, HB.out⟩
            · have g1 : decide ((16 : Int) ≤ (x - 97 + 10)) = false := by simp; omega
              have g1' : decide ((x - 97 + 10) ≥ (16 : Int)) = false := by simp; omega
              have h2 : IntKind.u64.wrap (n * 16) = n * 16 := IntWalk.u64_in _ (by omega)
              have h3 : IntKind.u64.wrap (n * 16 + (x - 97 + 10)) = n * 16 + (x - 97 + 10) := IntWalk.u64_in _ (by omega)
              have h4 : IntKind.u64.wrap (x - 97 + 10) = (x - 97 + 10) := IntWalk.u64_in _ (by omega)
              have g2 : decide ((1152921504606846976 : Int) ≤ n) = false := by simp; omega
              have g3 : decide (n * 16 + (x - 97 + 10) < n * 16) = false := by simp; omega
              by_cases hbig : (255 : Int) < n * 16 + (x - 97 + 10)
              · have g4 : decide ((255 : Int) < n * 16 + (x - 97 + 10)) = true := by simp; omega
                go_wp2_with (go_at_call 53; refine (KL.out _).mono ?_; rintro e1 w1 ⟨rfl, rfl⟩)
                refine bodyPost_ret (v := .tuple #[.int .u64 255, .iface 89 (.int .i64 1)]) (by simp [results, Tryd.results43, go_sem]) rfl ?_
                exact ⟨⟨255, by omega, _, .inr (.inr rfl), rfl⟩, HB.out⟩
              · have g4 : decide ((255 : Int) < n * 16 + (x - 97 + 10)) = false := by simp; omega
                go_wp2_with (go_at_call 53; refine (KL.out _).mono ?_; rintro e1 w1 ⟨rfl, rfl⟩)
                go_roundw
                case measure => simp [intOf]; omega
                case rel => exact ⟨k + 1, n * 16 + (x - 97 + 10), rfl, by go_num, rfl, by omega, by omega, by omega, HB0.out⟩

          · have f4 : decide (x ≤ (122 : Int)) = false := by simp; omega
            go_wp2_with (go_at_call 53; refine (KL.out _).mono ?_; rintro e1 w1 ⟨rfl, rfl⟩)
            refine bodyPost_ret (v := .tuple #[.int .u64 0, .iface 89 (.int .i64 2)]) (by simp [results, Tryd.results43, go_sem]) rfl ?_
            exact ⟨⟨0, by omega, _, .inr (.inl rfl), rfl⟩, HB.out⟩
        · have f3 : decide ((97 : Int) ≤ x) = false := by simp; omega
          go_wp2_with (go_at_call 53; refine (KL.out _).mono ?_; rintro e1 w1 ⟨rfl, rfl⟩)
          refine bodyPost_ret (v := .tuple #[.int .u64 0, .iface 89 (.int .i64 2)]) (by simp [results, Tryd.results43, go_sem]) rfl ?_
          exact ⟨⟨0, by omega, _, .inr (.inl rfl), rfl⟩, HB.out⟩
    · have hlt2 : decide ((k : Int) < (N : Int)) = false := by simp; omega
      have hlt3 : decide (k < N) = false := by simp; omega
      obtain rfl : N = k := by omega
      have HB := Lib.hid (HB1.out.trans (hB.mono HB1.out.size))
      go_wp2
      refine bodyPost_ret (v := .tuple #[.int .u64 n, .nilIface]) (by simp [results, Tryd.results43, go_sem]) rfl ?_
      exact ⟨⟨n, by omega, _, .inl rfl, rfl⟩, HB.out⟩
end Go.Proofs.YtbjlnllbcgghlaaDoor
