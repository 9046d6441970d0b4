/- Check's closure, young: their contracts. -/
import Derived.Test.YtlmljommgmbckaaHsC
import Derived.Maps.RangeRun
import Derived.Deep.RegionHeld3
import Derived.BigQuiet
namespace Go.Proofs.Ytlmljommgmbckaa
open Go.RowKit
set_option linter.unusedSimpArgs false
attribute [local simp, local go_sem] undef

set_option maxRecDepth 100000 in
set_option maxHeartbeats 4000000 in
theorem young_any (b : Nat) (L : HL) (H : HS) (w : World) (h : HInv w b L H) (k n : Int) :
    Calls Try.prog 43 #[.pointer (some ⟨b, 0, none⟩), .agg #[.int .i64 k, .int .i64 n]] w fun e w' => e = .returned (.bool (decide (k = 5) && decide (n < H.nur))) ∧ Below w.heap.size w w' := by
  have c := h.blk.cell
  unfold HL.cells at c
  have hlt := h.blk.lt
  have hw : IntKind.i64.wrap (H.nur : Int) = H.nur := IntWalk.i64_in _ (by have := h.nur; omega)
  clear h
  by_cases k5 : k = 5
  · subst k5
    go_enter Try.func43, Try.ntmps43
    go_upto_region 1 with fail
    go_quiet (fail)
    all_goals
      go_wp2
      go_ret
      exact ⟨by simp, by first | exact ((Below.refl _ _).alloc (Nat.le_refl _) _).trans (below_drewN' _ _ (by simp)) | exact (Below.refl _ _).alloc (Nat.le_refl _) _⟩
  · have d0 : decide (k = 5) = false := by simpa using k5
    have d1 : (k == 5) = false := by simpa using k5
    go_enter Try.func43, Try.ntmps43
    go_upto_region 1 with fail
    go_quiet (fail)
    all_goals
      go_wp2
      go_ret
      exact ⟨by simp [k5], by first | exact ((Below.refl _ _).alloc (Nat.le_refl _) _).trans (below_drewN' _ _ (by simp)) | exact (Below.refl _ _).alloc (Nat.le_refl _) _⟩

set_option maxRecDepth 100000 in
set_option maxHeartbeats 4000000 in
theorem fineC_any (b : Nat) (L : HL) (gb : Nat) (H : HS) (gl : List Wd) (w : World) (G : GHeap w b L gb H gl) (bx : Nat) (hx : Blk w bx #[.pointer (some ⟨b, 0, none⟩)]) (k n : Int) (h1 : -9223372036854775808 ≤ n) (h2 : n ≤ 9223372036854775807) :
    Calls Try.prog 46 #[.agg #[.int .i64 k, .int .i64 n], .pointer (some ⟨bx, 0, none⟩)] w fun e w' => e = .returned (.bool (standsK H k n)) ∧ Below w.heap.size w w' := by
  obtain ⟨r, hs⟩ : ∃ r, standsK H k n = r := ⟨_, rfl⟩
  rw [hs]
  have HG := Lib.hid G
  have HX := Lib.hid hx
  obtain ⟨N, hN⟩ : ∃ N, H.ws.length = N := ⟨_, rfl⟩
  have HN := Lib.hid hN
  go_enter Try.func46, Try.ntmps46
  go_upto_region 1 with fail
  generalize hW0 : w.alloc (Obj.cells #[.int .i64 k, .int .i64 n] 32) = W0
  have B0 : Blk W0 w.heap.size #[.int .i64 k, .int .i64 n] := by rw [← hW0]; exact Blk.new w _ _
  have k0 : Below w.heap.size w W0 := by rw [← hW0]; exact (Below.refl _ _).alloc (Nat.le_refl _) _
  have cx := (HX.out.below k0 HX.out.lt).cell 0
  have b0 := B0.cell
  have ks := fun W (hb : Below W0.heap.size W0 W) => stands_any b L H W (HG.out.inv.below (k0.trans (hb.mono k0.size))) k n h1 h2
  have c := fun W (hb : Below W0.heap.size W0 W) => (HG.out.inv.below (k0.trans (hb.mono k0.size))).blk.cell
  unfold HL.cells at c
  rw [hN] at c
  have km := fun W (hb : Below W0.heap.size W0 W) => marks_lookup (HG.out.inv.below (k0.trans (hb.mono k0.size))).mks n
  have HC := Lib.hid c; have KM := Lib.hid km; have HB0 := Lib.hid B0; have HK := Lib.hid k0
  have hm := fun h => G.snd.mark (n := n) h
  clear hW0 hN G hx c km
  cases r with
  | false =>
    rw [hs] at ks
    have KS := Lib.hid ks
    clear ks hs hm
    first | go_region_with (go_at_call 41; with_reducible refine (KS.out _ ((Below.refl _ _).drew)).mono ?_; rintro e w1 ⟨rfl, hb1⟩) | fail
    all_goals
      go_wp2
      exact bodyPost_ret (v := .bool false) (by simp [results, Try.results46, go_sem]) rfl ⟨rfl, HK.out.trans ((below_of_drew hb1).mono HK.out.size)⟩
  | true =>
    rw [hs] at ks
    have KS := Lib.hid ks
    clear ks
    by_cases k5 : k = 5
    · subst k5
      have hin := hm hs
      have e1 : decide (n ∈ H.st) = true := by simpa using hin
      rw [e1] at KM
      clear hm hin e1 hs
      first | go_region_with (go_at_call 41; with_reducible refine (KS.out _ ((Below.refl _ _).drew)).mono ?_; rintro e w1 ⟨rfl, hb1⟩; have q1 := below_of_drew hb1; have b1 := (HB0.out.below q1 HB0.out.lt).cell; have c1 := HC.out w1 q1; have cx1 := (HX.out.below (HK.out.trans (q1.mono HK.out.size)) HX.out.lt).cell 0; have km1 := KM.out w1 q1) | fail
      all_goals
        go_wp2
        exact bodyPost_ret (v := .bool true) (by simp [results, Try.results46, go_sem]) rfl ⟨rfl, HK.out.trans ((below_of_drew hb1).mono HK.out.size)⟩
    · have d1 : (k != 5) = true := by simpa using k5
      have d2 : decide (k = 5) = false := by simpa using k5
      clear hm hs
      first | go_region_with (go_at_call 41; with_reducible refine (KS.out _ ((Below.refl _ _).drew)).mono ?_; rintro e w1 ⟨rfl, hb1⟩; have q1 := below_of_drew hb1; have b1 := (HB0.out.below q1 HB0.out.lt).cell) | fail
      all_goals
        go_wp2
        exact bodyPost_ret (v := .bool true) (by simp [results, Try.results46, go_sem]) rfl ⟨rfl, HK.out.trans ((below_of_drew hb1).mono HK.out.size)⟩

end Go.Proofs.Ytlmljommgmbckaa
