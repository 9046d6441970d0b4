/- core's counter of expressions; Size, long; occur.Of, Count, All. -/
import Derived.Test.YtkcgchpflppmnaaOcS
namespace Go.Proofs.Ytkcgchpflppmnaa
open Go.RowKit
set_option linter.unusedSimpArgs false
set_option linter.unusedVariables false

theorem sum_next {β : Type} (f : β → Nat) {l : List β} {k : Nat} {x : β} (hx : l[k]? = some x) {m R T : Nat} (h : m + (((l.drop k).map f).sum + R) = T) : (m + f x) + (((l.drop (k + 1)).map f).sum + R) = T := by
  obtain ⟨hk, rfl⟩ := List.getElem?_eq_some_iff.1 hx
  rw [List.drop_eq_getElem_cons hk, List.map_cons, List.sum_cons] at h
  omega
theorem sum_end {β : Type} (f : β → Nat) {l : List β} {n : Nat} (hn : l.length = n) {m R T : Nat} (h : m + (((l.drop n).map f).sum + R) = T) : m + R = T := by
  subst hn; rw [List.drop_length] at h; simpa using h

set_option maxRecDepth 100000 in
set_option maxHeartbeats 8000000 in
theorem ccount_step (d : Nat)
    (hcnt : ∀ (x : Ex d) (b o : Nat) (W0 W : World) (bc n at' : Nat), b < W0.heap.size → ExAt W0 d b o x → Below W0.heap.size W0 W → W0.heap.size ≤ bc → Blk W bc #[.int .i64 (n : Int), .bool false] → Sm d x → at' + sizeK d x ≤ 4097 → n + sizeK d x ≤ 1048576 →
      Calls Try.prog 51 #[.pointer (some ⟨bc, 0, none⟩), .pointer (some ⟨b, o, none⟩), .int .i64 (at' : Int)] W fun r W' => r = .returned (.bool true) ∧ Blk W' bc #[.int .i64 ((n + sizeK d x : Nat) : Int), .bool false] ∧ Below W0.heap.size W0 W')
    (e : ExN (Ex d)) (b o : Nat) (w wi : World) (bc n at' : Nat) (hb : b < w.heap.size) (h : ExAt w (d + 1) b o e) (hw : Below w.heap.size w wi) (hbc : w.heap.size ≤ bc) (hc : Blk wi bc #[.int .i64 (n : Int), .bool false]) (hs : Sm (d + 1) e) (ha : at' + sizeK (d + 1) e ≤ 4097) (hn : n + sizeK (d + 1) e ≤ 1048576) :
    Calls Try.prog 51 #[.pointer (some ⟨bc, 0, none⟩), .pointer (some ⟨b, o, none⟩), .int .i64 (at' : Int)] wi fun r W' => r = .returned (.bool true) ∧ Blk W' bc #[.int .i64 ((n + sizeK (d + 1) e : Nat) : Int), .bool false] ∧ Below w.heap.size w W' := by
  obtain ⟨T, hT⟩ : ∃ T, n + sizeK (d + 1) e = T := ⟨_, rfl⟩
  obtain ⟨S, hS⟩ : ∃ S, sizeK (d + 1) e = S := ⟨_, rfl⟩
  rw [hT] at hn ⊢
  rw [hS] at ha hT
  rw [size_succ] at hS
  have HT := Lib.hid (show (n + 1) + (((e.args.drop 0).map (sizeK d)).sum + ((e.binds.map fun x => sizeK d x.2).sum + ((e.alts.map fun x => sizeK d x.e).sum + 0))) = T by rw [List.drop_zero]; omega)
  have HA := Lib.hid (show at' + 1 ≤ 4097 ∧ n + 1 ≤ 1048576 by omega)
  have HXA := Lib.hid (show (∀ x ∈ e.args, at' + 1 + sizeK d x ≤ 4097) ∧ (∀ x ∈ e.binds, at' + 1 + sizeK d x.2 ≤ 4097) ∧ (∀ x ∈ e.alts, at' + 1 + sizeK d x.e ≤ 4097) from
    ⟨fun x hx => by have := le_sum (sizeK d) hx; omega, fun x hx => by have := le_sum (fun x : ByteArray × Ex d => sizeK d x.2) hx; omega, fun x hx => by have := le_sum (fun x : AltN (Ex d) => sizeK d x.e) hx; omega⟩)
  have hat : at' + 1 ≤ 4097 := by omega
  have hn1 : n + 1 ≤ 1048576 := by omega
  obtain ⟨cs, hcs, ps, bs, es, ls, rfl, h1, ⟨q4, r4, rfl, h2⟩, ⟨q5, r5, rfl, h3⟩, ⟨q6, r6, rfl, h4⟩⟩ := h
  have hcl := fun j c hj W (hW : Below w.heap.size w W) => (hW.cell (p := ⟨b, o + j, none⟩) hb).trans (hcs j c hj)
  have C4 := Lib.hid (hcl 4 _ rfl)
  have C5 := Lib.hid (hcl 5 _ rfl)
  have C6 := Lib.hid (hcl 6 _ rfl)
  obtain ⟨N4, hN4⟩ : ∃ N, e.binds.length = N := ⟨_, rfl⟩
  obtain ⟨N5, hN5⟩ : ∃ N, e.args.length = N := ⟨_, rfl⟩
  obtain ⟨N6, hN6⟩ : ∃ N, e.alts.length = N := ⟨_, rfl⟩
  have m4 : N4 ≤ 10000000 := hN4 ▸ hs.2.1.1
  have m5 : N5 ≤ 10000000 := hN5 ▸ hs.2.2.1.1
  have m6 : N6 ≤ 10000000 := hN6 ▸ hs.2.2.2.1
  rw [hN4] at C4
  rw [hN5] at C5
  rw [hN6] at C6
  have HN4 := Lib.hid hN4
  have HN5 := Lib.hid hN5
  have HN6 := Lib.hid hN6
  have H2 := Lib.hid (show True ∧ _ from ⟨trivial, h2⟩)
  have H3 := Lib.hid h3
  have H4 := Lib.hid h4
  have HS := Lib.hid hs
  have HCN := Lib.hid hcnt
  have HW := Lib.hid hw
  have R := hc
  have r0 : wi.cell? ⟨bc, 0, none⟩ = _ := R.cell 0
  have f0 := R.free 0
  simp only [List.getElem?_toArray, List.getElem?_cons_zero] at r0
  have HR := Lib.hid (show Blk (wi.setCell ⟨bc, 0, none⟩ (.int .i64 ((n : Int) + 1))) bc #[.int .i64 ((n + 1 : Nat) : Int), .bool false] from R.set 0 _ (by simp))
  have HB1 := Lib.hid (show Below w.heap.size w (wi.setCell ⟨bc, 0, none⟩ (.int .i64 ((n : Int) + 1))) from hw.setCell (by simpa using hbc) _)
  have e1 : (wi.setCell ⟨bc, 0, none⟩ (.int .i64 ((n : Int) + 1))).cell? ⟨bc, 0, none⟩ = some (.int .i64 ((n : Int) + 1)) := HR.out.cell 0
  clear hcs hcl h1 h2 h3 h4 hs hN4 hN5 hN6 hT hS ha hcnt hw hc R
  have d1 : decide ((4096 : Int) < (at' : Int)) = false := by simp; omega
  have d2 : decide ((1048576 : Int) < (n : Int) + 1) = false := by simp; omega
  go_enter Try.func51, Try.ntmps51
  go_upto_region 2 with fail
  generalize wi.setCell ⟨bc, 0, none⟩ (.int .i64 ((n : Int) + 1)) = W1 at HR HB1 e1 ⊢
  clear r0 f0
  go_upto_region 5 with fail
  clear e1
  have c5 := C5.out _ HB1.out
  go_upto_region 6 with fail
  clear c5
  go_loopw [7, 34] (fun _ i wr => ∃ (k m : Nat), i = .int .i64 k ∧ k ≤ N5 ∧ Hid (Blk wr bc #[.int .i64 (m : Int), .bool false]) ∧ Hid (m + (((e.args.drop k).map (sizeK d)).sum + ((e.binds.map fun x => sizeK d x.2).sum + ((e.alts.map fun x => sizeK d x.e).sum + 0))) = T) ∧ Below w.heap.size w wr) (fun _ i _ => N5 - (intOf i).toNat)
  case atStart => exact ⟨0, _, rfl, Nat.zero_le _, HR, HT, HB1.out⟩
  case round =>
    clear HR HT HB1
    obtain ⟨k, m, rfl, hk, HR, HT, hB⟩ := hrel
    have cc := C5.out wr hB
    by_cases hlt : k < N5
    · have hlt2 : decide ((k : Int) < (N5 : Int)) = true := by simp; omega
      have hlt3 : decide (k < N5) = true := by simp; omega
      have hi0 : (0 : Int) ≤ (k : Int) := by omega
      have hkt : k < e.args.length := by rw [HN5.out]; exact hlt
      obtain ⟨p, o', hq, hp, hat⟩ := H3.out (by omega)
      subst hq
      obtain ⟨x, hx⟩ : ∃ x, e.args[k]? = some x := ⟨_, List.getElem?_eq_getElem hkt⟩
      have hT2 := sum_next _ hx HT.out
      have KO0 := HCN.out x p (o' + k * 7) w wr bc m (at' + 1) hp (hat k x hx) hB hbc HR.out (HS.out.2.2.1.2 x (List.mem_of_getElem? hx)) (HXA.out.1 x (List.mem_of_getElem? hx)) (by omega)
      rw [show ((at' + 1 : Nat) : Int) = (at' : Int) + 1 from rfl] at KO0
      have KO := Lib.hid KO0
      have HT2 := Lib.hid hT2
      clear hat hx hT2 KO0
      go_wp2_with (go_at_call 51; refine KO.out.mono ?_; rintro r1 w1 ⟨rfl, q1, k1⟩; have R2 := Lib.hid q1; have K2 := Lib.hid k1; clear q1 k1)
      go_roundw
      case measure => simp [intOf]; omega
      case rel => exact ⟨k + 1, _, by go_num, by omega, R2, HT2, K2.out⟩
    · have hlt2 : decide ((k : Int) < (N5 : Int)) = false := by simp; omega
      have hlt3 : decide (k < N5) = false := by simp; omega
      obtain rfl : N5 = k := by omega
      have HT1 := Lib.hid (sum_end _ HN5.out HT.out)
      clear HT hlt hlt2 hlt3 hk
      have c4 := C4.out _ hB
      have HT := Lib.hid (show _ + (((e.binds.drop 0).map fun x => sizeK d x.2).sum + ((e.alts.map fun x => sizeK d x.e).sum + 0)) = T from by rw [List.drop_zero]; exact HT1.out)
      clear HT1
      go_upto_region 12 with fail
      clear cc c4
      go_loopw [8, 54] (fun _ i wr => ∃ (k m : Nat), i = .int .i64 k ∧ k ≤ N4 ∧ Hid (Blk wr bc #[.int .i64 (m : Int), .bool false]) ∧ Hid (m + (((e.binds.drop k).map (fun x => sizeK d x.2)).sum + ((e.alts.map fun x => sizeK d x.e).sum + 0)) = T) ∧ Below w.heap.size w wr) (fun _ i _ => N4 - (intOf i).toNat)
      case atStart => exact ⟨0, _, rfl, Nat.zero_le _, HR, HT, hB⟩
      case round =>
        clear HR HT hB
        obtain ⟨k, m, rfl, hk, HR, HT, hB⟩ := hrel
        have cc := C4.out wr hB
        by_cases hlt : k < N4
        · have hlt2 : decide ((k : Int) < (N4 : Int)) = true := by simp; omega
          have hlt3 : decide (k < N4) = true := by simp; omega
          have hi0 : (0 : Int) ≤ (k : Int) := by omega
          have hkt : k < e.binds.length := by rw [HN4.out]; exact hlt
          obtain ⟨p, o', hq, hp, hat⟩ := H2.out.2 (by omega)
          subst hq
          obtain ⟨x, hx⟩ : ∃ x, e.binds[k]? = some x := ⟨_, List.getElem?_eq_getElem hkt⟩
          have hT2 := sum_next _ hx HT.out
          have KO0 := HCN.out x.2 p (o' + k * 8 + 1) w wr bc m (at' + 1) hp (hat k x hx).2 hB hbc HR.out (HS.out.2.1.2 x (List.mem_of_getElem? hx)) (HXA.out.2.1 x (List.mem_of_getElem? hx)) (by omega)
          rw [show ((at' + 1 : Nat) : Int) = (at' : Int) + 1 from rfl] at KO0
          have KO := Lib.hid KO0
          have HT2 := Lib.hid hT2
          clear hat hx hT2 KO0
          go_wp2_with (go_at_call 51; refine KO.out.mono ?_; rintro r1 w1 ⟨rfl, q1, k1⟩; have R2 := Lib.hid q1; have K2 := Lib.hid k1; clear q1 k1)
          go_roundw
          case measure => simp [intOf]; omega
          case rel => exact ⟨k + 1, _, by go_num, by omega, R2, HT2, K2.out⟩
        · have hlt2 : decide ((k : Int) < (N4 : Int)) = false := by simp; omega
          have hlt3 : decide (k < N4) = false := by simp; omega
          obtain rfl : N4 = k := by omega
          have HT1 := Lib.hid (sum_end _ HN4.out HT.out)
          clear HT hlt hlt2 hlt3 hk
          have c6 := C6.out _ hB
          have HT := Lib.hid (show _ + (((e.alts.drop 0).map fun x => sizeK d x.e).sum + 0) = T from by rw [List.drop_zero]; exact HT1.out)
          clear HT1
          go_upto_region 18 with fail
          clear cc c6
          go_loopw [9, 75] (fun _ i wr => ∃ (k m : Nat), i = .int .i64 k ∧ k ≤ N6 ∧ Hid (Blk wr bc #[.int .i64 (m : Int), .bool false]) ∧ Hid (m + (((e.alts.drop k).map (fun x => sizeK d x.e)).sum + 0) = T) ∧ Below w.heap.size w wr) (fun _ i _ => N6 - (intOf i).toNat)
          case atStart => exact ⟨0, _, rfl, Nat.zero_le _, HR, HT, hB⟩
          case round =>
            clear HR HT hB
            obtain ⟨k, m, rfl, hk, HR, HT, hB⟩ := hrel
            have cc := C6.out wr hB
            by_cases hlt : k < N6
            · have hlt2 : decide ((k : Int) < (N6 : Int)) = true := by simp; omega
              have hlt3 : decide (k < N6) = true := by simp; omega
              have hi0 : (0 : Int) ≤ (k : Int) := by omega
              have hkt : k < e.alts.length := by rw [HN6.out]; exact hlt
              obtain ⟨p, o', hq, hp, hat⟩ := H4.out (by omega)
              subst hq
              obtain ⟨x, hx⟩ : ∃ x, e.alts[k]? = some x := ⟨_, List.getElem?_eq_getElem hkt⟩
              have hT2 := sum_next _ hx HT.out
              have KO0 := HCN.out x.e p (o' + k * 11 + 4) w wr bc m (at' + 1) hp (by obtain ⟨_, _, _, hz⟩ := hat k x hx; exact hz) hB hbc HR.out (HS.out.2.2.2.2 x (List.mem_of_getElem? hx)).2 (HXA.out.2.2 x (List.mem_of_getElem? hx)) (by omega)
              rw [show ((at' + 1 : Nat) : Int) = (at' : Int) + 1 from rfl] at KO0
              have KO := Lib.hid KO0
              have HT2 := Lib.hid hT2
              clear hat hx hT2 KO0
              go_wp2_with (go_at_call 51; refine KO.out.mono ?_; rintro r1 w1 ⟨rfl, q1, k1⟩; have R2 := Lib.hid q1; have K2 := Lib.hid k1; clear q1 k1)
              go_roundw
              case measure => simp [intOf]; omega
              case rel => exact ⟨k + 1, _, by go_num, by omega, R2, HT2, K2.out⟩
            · have hlt2 : decide ((k : Int) < (N6 : Int)) = false := by simp; omega
              have hlt3 : decide (k < N6) = false := by simp; omega
              obtain rfl : N6 = k := by omega
              have HT1 := Lib.hid (sum_end _ HN6.out HT.out)
              clear HT hlt hlt2 hlt3 hk
              have hT0 : _ = T := HT1.out
              rw [Nat.add_zero] at hT0
              subst hT0
              go_wp2
              go_ret
              exact ⟨rfl, HR.out, hB⟩
theorem ccount_any : ∀ (d : Nat) (x : Ex d) (b o : Nat) (W0 W : World) (bc n at' : Nat), b < W0.heap.size → ExAt W0 d b o x → Below W0.heap.size W0 W → W0.heap.size ≤ bc → Blk W bc #[.int .i64 (n : Int), .bool false] → Sm d x → at' + sizeK d x ≤ 4097 → n + sizeK d x ≤ 1048576 →
      Calls Try.prog 51 #[.pointer (some ⟨bc, 0, none⟩), .pointer (some ⟨b, o, none⟩), .int .i64 (at' : Int)] W fun r W' => r = .returned (.bool true) ∧ Blk W' bc #[.int .i64 ((n + sizeK d x : Nat) : Int), .bool false] ∧ Below W0.heap.size W0 W'
  | 0, x, _, _, _, _, _, _, _, _, _, _, _, _, _, _, _ => nomatch (x : Empty)
  | d + 1, x, b, o, W0, W, bc, n, at', hb, h, hw, hbc, hc, hs, ha, hn => ccount_step d (ccount_any d) x b o W0 W bc n at' hb h hw hbc hc hs ha hn
end Go.Proofs.Ytkcgchpflppmnaa
