/- core's counter of expressions; Size, long; occur.Of, Count, All. core.Size, occur.long, Of, Count, All. The reference's Parts: the expressions that stand right within one, as values of their own. The reference's Parts, walked. The reference's measure, Within, Long, Of, Count, All. The reference's Within, Long, Of, Count, All. -/
import Derived.Test.YtkcgchpflppmnaaOcS
namespace Go.Proofs.Ytkcgchpflppmnaa
open Go.RowKit
set_option linter.unusedSimpArgs false
set_option linter.unusedVariables false

theorem sum_next {β : Type} (f : β → Nat) {l : List β} {k : Nat} {x : β} (hx : l[k]? = some x) {m R T : Nat} (h : m + (((l.drop k).map f).sum + R) = T) : (m + f x) + (((l.drop (k + 1)).map f).sum + R) = T := by
  obtain ⟨hk, rfl⟩ := List.getElem?_eq_some_iff.1 hx
  rw [List.drop_eq_getElem_cons hk, List.map_cons, List.sum_cons] at h
  omega
theorem sum_end {β : Type} (f : β → Nat) {l : List β} {n : Nat} (hn : l.length = n) {m R T : Nat} (h : m + (((l.drop n).map f).sum + R) = T) : m + R = T := by
  subst hn; rw [List.drop_length] at h; simpa using h

set_option maxRecDepth 100000 in
set_option maxHeartbeats 8000000 in
theorem ccount_step (d : Nat)
    (hcnt : ∀ (x : Ex d) (b o : Nat) (W0 W : World) (bc n at' : Nat), b < W0.heap.size → ExAt W0 d b o x → Below W0.heap.size W0 W → W0.heap.size ≤ bc → Blk W bc #[.int .i64 (n : Int), .bool false] → Sm d x → at' + sizeK d x ≤ 4097 → n + sizeK d x ≤ 1048576 →
      Calls Try.prog 51 #[.pointer (some ⟨bc, 0, none⟩), .pointer (some ⟨b, o, none⟩), .int .i64 (at' : Int)] W fun r W' => r = .returned (.bool true) ∧ Blk W' bc #[.int .i64 ((n + sizeK d x : Nat) : Int), .bool false] ∧ Below W0.heap.size W0 W')
    (e : ExN (Ex d)) (b o : Nat) (w wi : World) (bc n at' : Nat) (hb : b < w.heap.size) (h : ExAt w (d + 1) b o e) (hw : Below w.heap.size w wi) (hbc : w.heap.size ≤ bc) (hc : Blk wi bc #[.int .i64 (n : Int), .bool false]) (hs : Sm (d + 1) e) (ha : at' + sizeK (d + 1) e ≤ 4097) (hn : n + sizeK (d + 1) e ≤ 1048576) :
    Calls Try.prog 51 #[.pointer (some ⟨bc, 0, none⟩), .pointer (some ⟨b, o, none⟩), .int .i64 (at' : Int)] wi fun r W' => r = .returned (.bool true) ∧ Blk W' bc #[.int .i64 ((n + sizeK (d + 1) e : Nat) : Int), .bool false] ∧ Below w.heap.size w W' := by
  obtain ⟨T, hT⟩ : ∃ T, n + sizeK (d + 1) e = T := ⟨_, rfl⟩
  obtain ⟨S, hS⟩ : ∃ S, sizeK (d + 1) e = S := ⟨_, rfl⟩
  rw [hT] at hn ⊢
  rw [hS] at ha hT
  rw [size_succ] at hS
  have HT := Lib.hid (show (n + 1) + (((e.args.drop 0).map (sizeK d)).sum + ((e.binds.map fun x => sizeK d x.2).sum + ((e.alts.map fun x => sizeK d x.e).sum + 0))) = T by rw [List.drop_zero]; omega)
  have HA := Lib.hid (show at' + 1 ≤ 4097 ∧ n + 1 ≤ 1048576 by omega)
  have HXA := Lib.hid (show (∀ x ∈ e.args, at' + 1 + sizeK d x ≤ 4097) ∧ (∀ x ∈ e.binds, at' + 1 + sizeK d x.2 ≤ 4097) ∧ (∀ x ∈ e.alts, at' + 1 + sizeK d x.e ≤ 4097) from
    ⟨fun x hx => by have := le_sum (sizeK d) hx; omega, fun x hx => by have := le_sum (fun x : ByteArray × Ex d => sizeK d x.2) hx; omega, fun x hx => by have := le_sum (fun x : AltN (Ex d) => sizeK d x.e) hx; omega⟩)
  have hat : at' + 1 ≤ 4097 := by omega
  have hn1 : n + 1 ≤ 1048576 := by omega
  obtain ⟨cs, hcs, ps, bs, es, ls, rfl, h1, ⟨q4, r4, rfl, h2⟩, ⟨q5, r5, rfl, h3⟩, ⟨q6, r6, rfl, h4⟩⟩ := h
  have hcl := fun j c hj W (hW : Below w.heap.size w W) => (hW.cell (p := ⟨b, o + j, none⟩) hb).trans (hcs j c hj)
  have C4 := Lib.hid (hcl 4 _ rfl)
  have C5 := Lib.hid (hcl 5 _ rfl)
  have C6 := Lib.hid (hcl 6 _ rfl)
  obtain ⟨N4, hN4⟩ : ∃ N, e.binds.length = N := ⟨_, rfl⟩
  obtain ⟨N5, hN5⟩ : ∃ N, e.args.length = N := ⟨_, rfl⟩
  obtain ⟨N6, hN6⟩ : ∃ N, e.alts.length = N := ⟨_, rfl⟩
  have m4 : N4 ≤ 10000000 := hN4 ▸ hs.2.1.1
  have m5 : N5 ≤ 10000000 := hN5 ▸ hs.2.2.1.1
  have m6 : N6 ≤ 10000000 := hN6 ▸ hs.2.2.2.1
  rw [hN4] at C4
  rw [hN5] at C5
  rw [hN6] at C6
  have HN4 := Lib.hid hN4
  have HN5 := Lib.hid hN5
  have HN6 := Lib.hid hN6
  have H2 := Lib.hid (show True ∧ _ from ⟨trivial, h2⟩)
  have H3 := Lib.hid h3
  have H4 := Lib.hid h4
  have HS := Lib.hid hs
  have HCN := Lib.hid hcnt
  have HW := Lib.hid hw
  have R := hc
  have r0 : wi.cell? ⟨bc, 0, none⟩ = _ := R.cell 0
  have f0 := R.free 0
  simp only [List.getElem?_toArray, List.getElem?_cons_zero] at r0
  have HR := Lib.hid (show Blk (wi.setCell ⟨bc, 0, none⟩ (.int .i64 ((n : Int) + 1))) bc #[.int .i64 ((n + 1 : Nat) : Int), .bool false] from R.set 0 _ (by simp))
  have HB1 := Lib.hid (show Below w.heap.size w (wi.setCell ⟨bc, 0, none⟩ (.int .i64 ((n : Int) + 1))) from hw.setCell (by simpa using hbc) _)
  have e1 : (wi.setCell ⟨bc, 0, none⟩ (.int .i64 ((n : Int) + 1))).cell? ⟨bc, 0, none⟩ = some (.int .i64 ((n : Int) + 1)) := HR.out.cell 0
  clear hcs hcl h1 h2 h3 h4 hs hN4 hN5 hN6 hT hS ha hcnt hw hc R
  have d1 : decide ((4096 : Int) < (at' : Int)) = false := by simp; omega
  have d2 : decide ((1048576 : Int) < (n : Int) + 1) = false := by simp; omega
  go_enter Try.func51, Try.ntmps51
  go_upto_region 2 with fail
  generalize wi.setCell ⟨bc, 0, none⟩ (.int .i64 ((n : Int) + 1)) = W1 at HR HB1 e1 ⊢
  clear r0 f0
  go_upto_region 5 with fail
  clear e1
  have c5 := C5.out _ HB1.out
  go_upto_region 6 with fail
  clear c5
  go_loopw [7, 34] (fun _ i wr => ∃ (k m : Nat), i = .int .i64 k ∧ k ≤ N5 ∧ Hid (Blk wr bc #[.int .i64 (m : Int), .bool false]) ∧ Hid (m + (((e.args.drop k).map (sizeK d)).sum + ((e.binds.map fun x => sizeK d x.2).sum + ((e.alts.map fun x => sizeK d x.e).sum + 0))) = T) ∧ Below w.heap.size w wr) (fun _ i _ => N5 - (intOf i).toNat)
  case atStart => exact ⟨0, _, rfl, Nat.zero_le _, HR, HT, HB1.out⟩
  case round =>
    clear HR HT HB1
    obtain ⟨k, m, rfl, hk, HR, HT, hB⟩ := hrel
    have cc := C5.out wr hB
    by_cases hlt : k < N5
    · have hlt2 : decide ((k : Int) < (N5 : Int)) = true := by simp; omega
      have hlt3 : decide (k < N5) = true := by simp; omega
      have hi0 : (0 : Int) ≤ (k : Int) := by omega
      have hkt : k < e.args.length := by rw [HN5.out]; exact hlt
      obtain ⟨p, o', hq, hp, hat⟩ := H3.out (by omega)
      subst hq
      obtain ⟨x, hx⟩ : ∃ x, e.args[k]? = some x := ⟨_, List.getElem?_eq_getElem hkt⟩
      have hT2 := sum_next _ hx HT.out
      have KO0 := HCN.out x p (o' + k * 7) w wr bc m (at' + 1) hp (hat k x hx) hB hbc HR.out (HS.out.2.2.1.2 x (List.mem_of_getElem? hx)) (HXA.out.1 x (List.mem_of_getElem? hx)) (by omega)
      rw [show ((at' + 1 : Nat) : Int) = (at' : Int) + 1 from rfl] at KO0
      have KO := Lib.hid KO0
      have HT2 := Lib.hid hT2
      clear hat hx hT2 KO0
      go_wp2_with (go_at_call 51; refine KO.out.mono ?_; rintro r1 w1 ⟨rfl, q1, k1⟩; have R2 := Lib.hid q1; have K2 := Lib.hid k1; clear q1 k1)
      go_roundw
      case measure => simp [intOf]; omega
      case rel => exact ⟨k + 1, _, by go_num, by omega, R2, HT2, K2.out⟩
    · have hlt2 : decide ((k : Int) < (N5 : Int)) = false := by simp; omega
      have hlt3 : decide (k < N5) = false := by simp; omega
      obtain rfl : N5 = k := by omega
      have HT1 := Lib.hid (sum_end _ HN5.out HT.out)
      clear HT hlt hlt2 hlt3 hk
      have c4 := C4.out _ hB
      have HT := Lib.hid (show _ + (((e.binds.drop 0).map fun x => sizeK d x.2).sum + ((e.alts.map fun x => sizeK d x.e).sum + 0)) = T from by rw [List.drop_zero]; exact HT1.out)
      clear HT1
      go_upto_region 12 with fail
      clear cc c4
      go_loopw [8, 54] (fun _ i wr => ∃ (k m : Nat), i = .int .i64 k ∧ k ≤ N4 ∧ Hid (Blk wr bc #[.int .i64 (m : Int), .bool false]) ∧ Hid (m + (((e.binds.drop k).map (fun x => sizeK d x.2)).sum + ((e.alts.map fun x => sizeK d x.e).sum + 0)) = T) ∧ Below w.heap.size w wr) (fun _ i _ => N4 - (intOf i).toNat)
      case atStart => exact ⟨0, _, rfl, Nat.zero_le _, HR, HT, hB⟩
      case round =>
        clear HR HT hB
        obtain ⟨k, m, rfl, hk, HR, HT, hB⟩ := hrel
        have cc := C4.out wr hB
        by_cases hlt : k < N4
        · have hlt2 : decide ((k : Int) < (N4 : Int)) = true := by simp; omega
          have hlt3 : decide (k < N4) = true := by simp; omega
          have hi0 : (0 : Int) ≤ (k : Int) := by omega
          have hkt : k < e.binds.length := by rw [HN4.out]; exact hlt
          obtain ⟨p, o', hq, hp, hat⟩ := H2.out.2 (by omega)
          subst hq
          obtain ⟨x, hx⟩ : ∃ x, e.binds[k]? = some x := ⟨_, List.getElem?_eq_getElem hkt⟩
          have hT2 := sum_next _ hx HT.out
          have KO0 := HCN.out x.2 p (o' + k * 8 + 1) w wr bc m (at' + 1) hp (hat k x hx).2 hB hbc HR.out (HS.out.2.1.2 x (List.mem_of_getElem? hx)) (HXA.out.2.1 x (List.mem_of_getElem? hx)) (by omega)
          rw [show ((at' + 1 : Nat) : Int) = (at' : Int) + 1 from rfl] at KO0
          have KO := Lib.hid KO0
          have HT2 := Lib.hid hT2
          clear hat hx hT2 KO0
          go_wp2_with (go_at_call 51; refine KO.out.mono ?_; rintro r1 w1 ⟨rfl, q1, k1⟩; have R2 := Lib.hid q1; have K2 := Lib.hid k1; clear q1 k1)
          go_roundw
          case measure => simp [intOf]; omega
          case rel => exact ⟨k + 1, _, by go_num, by omega, R2, HT2, K2.out⟩
        · have hlt2 : decide ((k : Int) < (N4 : Int)) = false := by simp; omega
          have hlt3 : decide (k < N4) = false := by simp; omega
          obtain rfl : N4 = k := by omega
          have HT1 := Lib.hid (sum_end _ HN4.out HT.out)
          clear HT hlt hlt2 hlt3 hk
          have c6 := C6.out _ hB
          have HT := Lib.hid (show _ + (((e.alts.drop 0).map fun x => sizeK d x.e).sum + 0) = T from by rw [List.drop_zero]; exact HT1.out)
          clear HT1
          go_upto_region 18 with fail
          clear cc c6
          go_loopw [9, 75] (fun _ i wr => ∃ (k m : Nat), i = .int .i64 k ∧ k ≤ N6 ∧ Hid (Blk wr bc #[.int .i64 (m : Int), .bool false]) ∧ Hid (m + (((e.alts.drop k).map (fun x => sizeK d x.e)).sum + 0) = T) ∧ Below w.heap.size w wr) (fun _ i _ => N6 - (intOf i).toNat)
          case atStart => exact ⟨0, _, rfl, Nat.zero_le _, HR, HT, hB⟩
          case round =>
            clear HR HT hB
            obtain ⟨k, m, rfl, hk, HR, HT, hB⟩ := hrel
            have cc := C6.out wr hB
            by_cases hlt : k < N6
            · have hlt2 : decide ((k : Int) < (N6 : Int)) = true := by simp; omega
              have hlt3 : decide (k < N6) = true := by simp; omega
              have hi0 : (0 : Int) ≤ (k : Int) := by omega
              have hkt : k < e.alts.length := by rw [HN6.out]; exact hlt
              obtain ⟨p, o', hq, hp, hat⟩ := H4.out (by omega)
              subst hq
              obtain ⟨x, hx⟩ : ∃ x, e.alts[k]? = some x := ⟨_, List.getElem?_eq_getElem hkt⟩
              have hT2 := sum_next _ hx HT.out
              have KO0 := HCN.out x.e p (o' + k * 11 + 4) w wr bc m (at' + 1) hp (by obtain ⟨_, _, _, hz⟩ := hat k x hx; exact hz) hB hbc HR.out (HS.out.2.2.2.2 x (List.mem_of_getElem? hx)).2 (HXA.out.2.2 x (List.mem_of_getElem? hx)) (by omega)
              rw [show ((at' + 1 : Nat) : Int) = (at' : Int) + 1 from rfl] at KO0
              have KO := Lib.hid KO0
              have HT2 := Lib.hid hT2
              clear hat hx hT2 KO0
              go_wp2_with (go_at_call 51; refine KO.out.mono ?_; rintro r1 w1 ⟨rfl, q1, k1⟩; have R2 := Lib.hid q1; have K2 := Lib.hid k1; clear q1 k1)
              go_roundw
              case measure => simp [intOf]; omega
              case rel => exact ⟨k + 1, _, by go_num, by omega, R2, HT2, K2.out⟩
            · have hlt2 : decide ((k : Int) < (N6 : Int)) = false := by simp; omega
              have hlt3 : decide (k < N6) = false := by simp; omega
              obtain rfl : N6 = k := by omega
              have HT1 := Lib.hid (sum_end _ HN6.out HT.out)
              clear HT hlt hlt2 hlt3 hk
              have hT0 : _ = T := HT1.out
              rw [Nat.add_zero] at hT0
              subst hT0
              go_wp2
              go_ret
              exact ⟨rfl, HR.out, hB⟩
theorem ccount_any : ∀ (d : Nat) (x : Ex d) (b o : Nat) (W0 W : World) (bc n at' : Nat), b < W0.heap.size → ExAt W0 d b o x → Below W0.heap.size W0 W → W0.heap.size ≤ bc → Blk W bc #[.int .i64 (n : Int), .bool false] → Sm d x → at' + sizeK d x ≤ 4097 → n + sizeK d x ≤ 1048576 →
      Calls Try.prog 51 #[.pointer (some ⟨bc, 0, none⟩), .pointer (some ⟨b, o, none⟩), .int .i64 (at' : Int)] W fun r W' => r = .returned (.bool true) ∧ Blk W' bc #[.int .i64 ((n + sizeK d x : Nat) : Int), .bool false] ∧ Below W0.heap.size W0 W'
  | 0, x, _, _, _, _, _, _, _, _, _, _, _, _, _, _, _ => nomatch (x : Empty)
  | d + 1, x, b, o, W0, W, bc, n, at', hb, h, hw, hbc, hc, hs, ha, hn => ccount_step d (ccount_any d) x b o W0 W bc n at' hb h hw hbc hc hs ha hn
end Go.Proofs.Ytkcgchpflppmnaa

namespace Go.Proofs.Ytkcgchpflppmnaa
open Go.RowKit
set_option linter.unusedSimpArgs false
set_option linter.unusedVariables false

set_option maxRecDepth 100000 in
set_option maxHeartbeats 8000000 in
theorem size_step (d : Nat) (v : Value) (e : ExN (Ex d)) (w : World) (h : ExIs w (d + 1) v e) (hs : Sm (d + 1) e) (hz : sizeK (d + 1) e ≤ 4096) :
    Calls Try.prog 40 #[v] w fun r w' => r = .returned (.int .i64 ((sizeK (d + 1) e : Nat) : Int)) ∧ Below w.heap.size w w' := by
  obtain ⟨l0, rfl, hp⟩ := h
  obtain ⟨pa, pb, pc, pd, pa2, pb2, pc2, pd2, rfl⟩ := parts_form hp
  have hx0 : ExIs w (d + 1) (.agg #[.int .i64 e.kind, .string e.name, .int .i64 e.num, .slice pa e.params.length pa2, .slice pb e.binds.length pb2, .slice pc e.args.length pc2, .slice pd e.alts.length pd2]) e := ⟨_, rfl, hp⟩
  have hbx : ExAt (w.alloc (.cells #[.int .i64 e.kind, .string e.name, .int .i64 e.num, .slice pa e.params.length pa2, .slice pb e.binds.length pb2, .slice pc e.args.length pc2, .slice pd e.alts.length pd2] 29)) (d + 1) w.heap.size 0 e := ExIs.boxed (t := 29) (d := d + 1) (W := w) (x := e) ⟨_, rfl, hp⟩
  have R0 := Blk.new w #[.int .i64 e.kind, .string e.name, .int .i64 e.num, .slice pa e.params.length pa2, .slice pb e.binds.length pb2, .slice pc e.args.length pc2, .slice pd e.alts.length pd2] 29
  have hB0 : Below w.heap.size w (w.alloc (.cells #[.int .i64 e.kind, .string e.name, .int .i64 e.num, .slice pa e.params.length pa2, .slice pb e.binds.length pb2, .slice pc e.args.length pc2, .slice pd e.alts.length pd2] 29)) := (Below.refl _ w).alloc (Nat.le_refl _) _
  have HX0 := Lib.hid hx0
  have HBX := Lib.hid hbx
  have HS := Lib.hid hs
  unfold exV
  clear hp hx0 hbx hs
  generalize e.kind = kd at R0 hB0 HX0 HBX ⊢
  generalize e.name = nm at R0 hB0 HX0 HBX ⊢
  generalize e.num = nu at R0 hB0 HX0 HBX ⊢
  generalize e.params.length = n3 at R0 hB0 HX0 HBX ⊢
  generalize e.binds.length = n4 at R0 hB0 HX0 HBX ⊢
  generalize e.args.length = n5 at R0 hB0 HX0 HBX ⊢
  generalize e.alts.length = n6 at R0 hB0 HX0 HBX ⊢
  go_enter Try.func40, Try.ntmps40
  go_upto_region 1 with fail
  generalize w.alloc (.cells #[.int .i64 kd, .string nm, .int .i64 nu, .slice pa n3 pa2, .slice pb n4 pb2, .slice pc n5 pc2, .slice pd n6 pd2] 29) = W0 at R0 hB0 HBX ⊢
  have HB0 := Lib.hid hB0
  have HR0 := Lib.hid R0
  generalize hbq : w.heap.size = b at R0 HBX HR0 ⊢
  have x0 : W0.cell? ⟨b, 0, none⟩ = _ := R0.cell 0
  have x1 : W0.cell? ⟨b, 1, none⟩ = _ := R0.cell 1
  have x2 : W0.cell? ⟨b, 2, none⟩ = _ := R0.cell 2
  have x3 : W0.cell? ⟨b, 3, none⟩ = _ := R0.cell 3
  have x4 : W0.cell? ⟨b, 4, none⟩ = _ := R0.cell 4
  have x5 : W0.cell? ⟨b, 5, none⟩ = _ := R0.cell 5
  have x6 : W0.cell? ⟨b, 6, none⟩ = _ := R0.cell 6
  simp only [List.getElem?_toArray, List.getElem?_cons_zero, List.getElem?_cons_succ] at x0 x1 x2 x3 x4 x5 x6
  have hb := R0.lt
  clear R0 hB0
  have s0 := HB0.out.size
  have KC0 := ccount_any (d + 1) e b 0 W0 (W0.alloc (.cells #[.int .i64 ((0 : Nat) : Int), .bool false] 85)) W0.heap.size 0 1 hb HBX.out ((Below.refl _ _).alloc (Nat.le_refl _) _) (Nat.le_refl _) (Blk.new _ _ _) HS.out (by omega) (by omega)
  rw [Nat.zero_add, show ((0 : Nat) : Int) = 0 from rfl, show ((1 : Nat) : Int) = 1 from rfl] at KC0
  have KC := Lib.hid KC0
  clear KC0
  go_wp2_with (go_at_call 51; refine KC.out.mono ?_; rintro r1 w1 ⟨rfl, q1, k1⟩; have z0 : w1.cell? ⟨W0.heap.size, 0, none⟩ = _ := q1.cell 0; simp only [List.getElem?_toArray, List.getElem?_cons_zero] at z0; have K1 := Lib.hid k1; clear q1 k1)
  go_ret
  exact ⟨rfl, HB0.out.trans (K1.out.mono (hbq ▸ s0))⟩
theorem size_any : ∀ (d : Nat) (x : Ex d) (v : Value) (w : World), ExIs w d v x → Sm d x → sizeK d x ≤ 4096 → Calls Try.prog 40 #[v] w fun r w' => r = .returned (.int .i64 ((sizeK d x : Nat) : Int)) ∧ Below w.heap.size w w'
  | 0, x, _, _, _, _, _ => nomatch (x : Empty)
  | d + 1, x, v, w, h, hs, hz => size_step d v x w h hs hz
theorem size_pos : ∀ (d : Nat) (x : Ex d), 1 ≤ sizeK d x
  | 0, x => nomatch (x : Empty)
  | d + 1, x => by have := size_succ d x; omega
set_option maxRecDepth 100000 in
set_option maxHeartbeats 8000000 in
theorem long_step (d : Nat) (v : Value) (e : ExN (Ex d)) (w : World) (h : ExIs w (d + 1) v e) (hs : Sm (d + 1) e) (hz : sizeK (d + 1) e ≤ 4096) :
    Calls Try.prog 25 #[v] w fun r w' => r = .returned (.bool false) ∧ Below w.heap.size w w' := by
  obtain ⟨l0, rfl, hp⟩ := h
  obtain ⟨pa, pb, pc, pd, pa2, pb2, pc2, pd2, rfl⟩ := parts_form hp
  have hx0 : ExIs w (d + 1) (.agg #[.int .i64 e.kind, .string e.name, .int .i64 e.num, .slice pa e.params.length pa2, .slice pb e.binds.length pb2, .slice pc e.args.length pc2, .slice pd e.alts.length pd2]) e := ⟨_, rfl, hp⟩
  have hbx : ExAt (w.alloc (.cells #[.int .i64 e.kind, .string e.name, .int .i64 e.num, .slice pa e.params.length pa2, .slice pb e.binds.length pb2, .slice pc e.args.length pc2, .slice pd e.alts.length pd2] 29)) (d + 1) w.heap.size 0 e := ExIs.boxed (t := 29) (d := d + 1) (W := w) (x := e) ⟨_, rfl, hp⟩
  have R0 := Blk.new w #[.int .i64 e.kind, .string e.name, .int .i64 e.num, .slice pa e.params.length pa2, .slice pb e.binds.length pb2, .slice pc e.args.length pc2, .slice pd e.alts.length pd2] 29
  have hB0 : Below w.heap.size w (w.alloc (.cells #[.int .i64 e.kind, .string e.name, .int .i64 e.num, .slice pa e.params.length pa2, .slice pb e.binds.length pb2, .slice pc e.args.length pc2, .slice pd e.alts.length pd2] 29)) := (Below.refl _ w).alloc (Nat.le_refl _) _
  have HX0 := Lib.hid hx0
  have HBX := Lib.hid hbx
  have HS := Lib.hid hs
  unfold exV
  clear hp hx0 hbx hs
  generalize e.kind = kd at R0 hB0 HX0 HBX ⊢
  generalize e.name = nm at R0 hB0 HX0 HBX ⊢
  generalize e.num = nu at R0 hB0 HX0 HBX ⊢
  generalize e.params.length = n3 at R0 hB0 HX0 HBX ⊢
  generalize e.binds.length = n4 at R0 hB0 HX0 HBX ⊢
  generalize e.args.length = n5 at R0 hB0 HX0 HBX ⊢
  generalize e.alts.length = n6 at R0 hB0 HX0 HBX ⊢
  go_enter Try.func25, Try.ntmps25
  go_upto_region 1 with fail
  generalize w.alloc (.cells #[.int .i64 kd, .string nm, .int .i64 nu, .slice pa n3 pa2, .slice pb n4 pb2, .slice pc n5 pc2, .slice pd n6 pd2] 29) = W0 at R0 hB0 HBX ⊢
  have HB0 := Lib.hid hB0
  have HR0 := Lib.hid R0
  generalize hbq : w.heap.size = b at R0 HBX HR0 ⊢
  have x0 : W0.cell? ⟨b, 0, none⟩ = _ := R0.cell 0
  have x1 : W0.cell? ⟨b, 1, none⟩ = _ := R0.cell 1
  have x2 : W0.cell? ⟨b, 2, none⟩ = _ := R0.cell 2
  have x3 : W0.cell? ⟨b, 3, none⟩ = _ := R0.cell 3
  have x4 : W0.cell? ⟨b, 4, none⟩ = _ := R0.cell 4
  have x5 : W0.cell? ⟨b, 5, none⟩ = _ := R0.cell 5
  have x6 : W0.cell? ⟨b, 6, none⟩ = _ := R0.cell 6
  simp only [List.getElem?_toArray, List.getElem?_cons_zero, List.getElem?_cons_succ] at x0 x1 x2 x3 x4 x5 x6
  have hb := R0.lt
  clear R0 hB0
  have hp := size_pos (d + 1) e
  have KC := Lib.hid (size_any (d + 1) e _ W0 (ExIs.below HB0.out _ _ _ HX0.out) HS.out hz)
  obtain ⟨S, hS⟩ : ∃ S, sizeK (d + 1) e = S := ⟨_, rfl⟩
  rw [hS] at KC hp
  have t1 : (((S : Nat) : Int) == 0) = false := by simp; omega
  have t2 : decide (((S : Nat) : Int) = 0) = false := by simp; omega
  clear hS
  go_wp2_with (go_at_call 40; refine KC.out.mono ?_; rintro r1 w1 ⟨rfl, k1⟩)
  go_ret
  exact ⟨rfl, chain HB0.out k1⟩
theorem long_any : ∀ (d : Nat) (x : Ex d) (v : Value) (w : World), ExIs w d v x → Sm d x → sizeK d x ≤ 4096 → Calls Try.prog 25 #[v] w fun r w' => r = .returned (.bool false) ∧ Below w.heap.size w w'
  | 0, x, _, _, _, _, _ => nomatch (x : Empty)
  | d + 1, x, v, w, h, hs, hz => long_step d v x w h hs hz
set_option maxRecDepth 100000 in
set_option maxHeartbeats 8000000 in
theorem Of_step (d : Nat) (v : Value) (e : ExN (Ex d)) (s : ByteArray) (w : World) (h : ExIs w (d + 1) v e) (hs : Sm (d + 1) e) (hz : sizeK (d + 1) e ≤ 4096) :
    Calls Try.prog 13 #[v, .string s] w fun r w' => r = .returned (.tuple #[.int .i64 (ofK 1 5 s (d + 1) e), .int .i64 0]) ∧ Below w.heap.size w w' := by
  obtain ⟨l0, rfl, hp⟩ := h
  obtain ⟨pa, pb, pc, pd, pa2, pb2, pc2, pd2, rfl⟩ := parts_form hp
  have hx0 : ExIs w (d + 1) (.agg #[.int .i64 e.kind, .string e.name, .int .i64 e.num, .slice pa e.params.length pa2, .slice pb e.binds.length pb2, .slice pc e.args.length pc2, .slice pd e.alts.length pd2]) e := ⟨_, rfl, hp⟩
  have hbx : ExAt (w.alloc (.cells #[.int .i64 e.kind, .string e.name, .int .i64 e.num, .slice pa e.params.length pa2, .slice pb e.binds.length pb2, .slice pc e.args.length pc2, .slice pd e.alts.length pd2] 29)) (d + 1) w.heap.size 0 e := ExIs.boxed (t := 29) (d := d + 1) (W := w) (x := e) ⟨_, rfl, hp⟩
  have R0 := Blk.new w #[.int .i64 e.kind, .string e.name, .int .i64 e.num, .slice pa e.params.length pa2, .slice pb e.binds.length pb2, .slice pc e.args.length pc2, .slice pd e.alts.length pd2] 29
  have hB0 : Below w.heap.size w (w.alloc (.cells #[.int .i64 e.kind, .string e.name, .int .i64 e.num, .slice pa e.params.length pa2, .slice pb e.binds.length pb2, .slice pc e.args.length pc2, .slice pd e.alts.length pd2] 29)) := (Below.refl _ w).alloc (Nat.le_refl _) _
  have HX0 := Lib.hid hx0
  have HBX := Lib.hid hbx
  have HS := Lib.hid hs
  unfold exV
  clear hp hx0 hbx hs
  generalize e.kind = kd at R0 hB0 HX0 HBX ⊢
  generalize e.name = nm at R0 hB0 HX0 HBX ⊢
  generalize e.num = nu at R0 hB0 HX0 HBX ⊢
  generalize e.params.length = n3 at R0 hB0 HX0 HBX ⊢
  generalize e.binds.length = n4 at R0 hB0 HX0 HBX ⊢
  generalize e.args.length = n5 at R0 hB0 HX0 HBX ⊢
  generalize e.alts.length = n6 at R0 hB0 HX0 HBX ⊢
  go_enter Try.func13, Try.ntmps13
  go_upto_region 1 with fail
  generalize w.alloc (.cells #[.int .i64 kd, .string nm, .int .i64 nu, .slice pa n3 pa2, .slice pb n4 pb2, .slice pc n5 pc2, .slice pd n6 pd2] 29) = W0 at R0 hB0 HBX ⊢
  have HB0 := Lib.hid hB0
  have HR0 := Lib.hid R0
  generalize hbq : w.heap.size = b at R0 HBX HR0 ⊢
  have x0 : W0.cell? ⟨b, 0, none⟩ = _ := R0.cell 0
  have x1 : W0.cell? ⟨b, 1, none⟩ = _ := R0.cell 1
  have x2 : W0.cell? ⟨b, 2, none⟩ = _ := R0.cell 2
  have x3 : W0.cell? ⟨b, 3, none⟩ = _ := R0.cell 3
  have x4 : W0.cell? ⟨b, 4, none⟩ = _ := R0.cell 4
  have x5 : W0.cell? ⟨b, 5, none⟩ = _ := R0.cell 5
  have x6 : W0.cell? ⟨b, 6, none⟩ = _ := R0.cell 6
  simp only [List.getElem?_toArray, List.getElem?_cons_zero, List.getElem?_cons_succ] at x0 x1 x2 x3 x4 x5 x6
  have hb := R0.lt
  clear R0 hB0
  have KL := Lib.hid (long_any (d + 1) e _ W0 (ExIs.below HB0.out _ _ _ HX0.out) HS.out hz)
  have KO := Lib.hid (fun W (hW : Below W0.heap.size W0 W) => of_any s (d + 1) e b 0 W (Nat.lt_of_lt_of_le hb hW.size) (ExAt.below hW _ _ _ _ hb HBX.out) HS.out)
  go_wp2_with (first | (go_at_call 25; refine KL.out.mono ?_; rintro r1 w1 ⟨rfl, k1⟩; have K1 := Lib.hid k1) | (go_at_call 26; refine (KO.out _ K1.out).mono ?_; rintro r2 w2 ⟨rfl, k2⟩))
  refine bodyPost_ret (v := .tuple #[.int .i64 (ofK 1 5 s (d + 1) e), .int .i64 0]) (by simp [results, Try.results13, go_sem]) rfl ?_
  exact ⟨rfl, chain HB0.out (chain K1.out k2)⟩
set_option maxRecDepth 100000 in
set_option maxHeartbeats 8000000 in
theorem Count_step (d : Nat) (v : Value) (e : ExN (Ex d)) (s : ByteArray) (w : World) (h : ExIs w (d + 1) v e) (hs : Sm (d + 1) e) (hz : sizeK (d + 1) e ≤ 4096) :
    Calls Try.prog 15 #[v, .string s] w fun r w' => r = .returned (.tuple #[.int .i64 (cntK s (d + 1) e), .int .i64 0]) ∧ Below w.heap.size w w' := by
  obtain ⟨l0, rfl, hp⟩ := h
  obtain ⟨pa, pb, pc, pd, pa2, pb2, pc2, pd2, rfl⟩ := parts_form hp
  have hx0 : ExIs w (d + 1) (.agg #[.int .i64 e.kind, .string e.name, .int .i64 e.num, .slice pa e.params.length pa2, .slice pb e.binds.length pb2, .slice pc e.args.length pc2, .slice pd e.alts.length pd2]) e := ⟨_, rfl, hp⟩
  have hbx : ExAt (w.alloc (.cells #[.int .i64 e.kind, .string e.name, .int .i64 e.num, .slice pa e.params.length pa2, .slice pb e.binds.length pb2, .slice pc e.args.length pc2, .slice pd e.alts.length pd2] 29)) (d + 1) w.heap.size 0 e := ExIs.boxed (t := 29) (d := d + 1) (W := w) (x := e) ⟨_, rfl, hp⟩
  have R0 := Blk.new w #[.int .i64 e.kind, .string e.name, .int .i64 e.num, .slice pa e.params.length pa2, .slice pb e.binds.length pb2, .slice pc e.args.length pc2, .slice pd e.alts.length pd2] 29
  have hB0 : Below w.heap.size w (w.alloc (.cells #[.int .i64 e.kind, .string e.name, .int .i64 e.num, .slice pa e.params.length pa2, .slice pb e.binds.length pb2, .slice pc e.args.length pc2, .slice pd e.alts.length pd2] 29)) := (Below.refl _ w).alloc (Nat.le_refl _) _
  have HX0 := Lib.hid hx0
  have HBX := Lib.hid hbx
  have HS := Lib.hid hs
  unfold exV
  clear hp hx0 hbx hs
  generalize e.kind = kd at R0 hB0 HX0 HBX ⊢
  generalize e.name = nm at R0 hB0 HX0 HBX ⊢
  generalize e.num = nu at R0 hB0 HX0 HBX ⊢
  generalize e.params.length = n3 at R0 hB0 HX0 HBX ⊢
  generalize e.binds.length = n4 at R0 hB0 HX0 HBX ⊢
  generalize e.args.length = n5 at R0 hB0 HX0 HBX ⊢
  generalize e.alts.length = n6 at R0 hB0 HX0 HBX ⊢
  go_enter Try.func15, Try.ntmps15
  go_upto_region 1 with fail
  generalize w.alloc (.cells #[.int .i64 kd, .string nm, .int .i64 nu, .slice pa n3 pa2, .slice pb n4 pb2, .slice pc n5 pc2, .slice pd n6 pd2] 29) = W0 at R0 hB0 HBX ⊢
  have HB0 := Lib.hid hB0
  have HR0 := Lib.hid R0
  generalize hbq : w.heap.size = b at R0 HBX HR0 ⊢
  have x0 : W0.cell? ⟨b, 0, none⟩ = _ := R0.cell 0
  have x1 : W0.cell? ⟨b, 1, none⟩ = _ := R0.cell 1
  have x2 : W0.cell? ⟨b, 2, none⟩ = _ := R0.cell 2
  have x3 : W0.cell? ⟨b, 3, none⟩ = _ := R0.cell 3
  have x4 : W0.cell? ⟨b, 4, none⟩ = _ := R0.cell 4
  have x5 : W0.cell? ⟨b, 5, none⟩ = _ := R0.cell 5
  have x6 : W0.cell? ⟨b, 6, none⟩ = _ := R0.cell 6
  simp only [List.getElem?_toArray, List.getElem?_cons_zero, List.getElem?_cons_succ] at x0 x1 x2 x3 x4 x5 x6
  have hb := R0.lt
  clear R0 hB0
  have KL := Lib.hid (long_any (d + 1) e _ W0 (ExIs.below HB0.out _ _ _ HX0.out) HS.out hz)
  have KO := Lib.hid (fun W (hW : Below W0.heap.size W0 W) => count_any s (d + 1) e b 0 W (Nat.lt_of_lt_of_le hb hW.size) (ExAt.below hW _ _ _ _ hb HBX.out) HS.out)
  go_wp2_with (first | (go_at_call 25; refine KL.out.mono ?_; rintro r1 w1 ⟨rfl, k1⟩; have K1 := Lib.hid k1) | (go_at_call 29; refine (KO.out _ K1.out).mono ?_; rintro r2 w2 ⟨rfl, k2⟩))
  refine bodyPost_ret (v := .tuple #[.int .i64 (cntK s (d + 1) e), .int .i64 0]) (by simp [results, Try.results15, go_sem]) rfl ?_
  exact ⟨rfl, chain HB0.out (chain K1.out k2)⟩
set_option maxRecDepth 100000 in
set_option maxHeartbeats 8000000 in
theorem All_step (d : Nat) (v : Value) (e : ExN (Ex d)) (w : World) (h : ExIs w (d + 1) v e) (hs : Sm (d + 1) e) (hz : sizeK (d + 1) e ≤ 4096) (hn : (allK 1 5 (d + 1) e).length ≤ 10000000) :
    Calls Try.prog 17 #[v] w fun r w' => (∃ v', r = .returned (.tuple #[v', .int .i64 0]) ∧ OOwn w' w.heap.size v' (allK 1 5 (d + 1) e)) ∧ Below w.heap.size w w' := by
  obtain ⟨l0, rfl, hp⟩ := h
  obtain ⟨pa, pb, pc, pd, pa2, pb2, pc2, pd2, rfl⟩ := parts_form hp
  have hx0 : ExIs w (d + 1) (.agg #[.int .i64 e.kind, .string e.name, .int .i64 e.num, .slice pa e.params.length pa2, .slice pb e.binds.length pb2, .slice pc e.args.length pc2, .slice pd e.alts.length pd2]) e := ⟨_, rfl, hp⟩
  have hbx : ExAt (w.alloc (.cells #[.int .i64 e.kind, .string e.name, .int .i64 e.num, .slice pa e.params.length pa2, .slice pb e.binds.length pb2, .slice pc e.args.length pc2, .slice pd e.alts.length pd2] 29)) (d + 1) w.heap.size 0 e := ExIs.boxed (t := 29) (d := d + 1) (W := w) (x := e) ⟨_, rfl, hp⟩
  have R0 := Blk.new w #[.int .i64 e.kind, .string e.name, .int .i64 e.num, .slice pa e.params.length pa2, .slice pb e.binds.length pb2, .slice pc e.args.length pc2, .slice pd e.alts.length pd2] 29
  have hB0 : Below w.heap.size w (w.alloc (.cells #[.int .i64 e.kind, .string e.name, .int .i64 e.num, .slice pa e.params.length pa2, .slice pb e.binds.length pb2, .slice pc e.args.length pc2, .slice pd e.alts.length pd2] 29)) := (Below.refl _ w).alloc (Nat.le_refl _) _
  have HX0 := Lib.hid hx0
  have HBX := Lib.hid hbx
  have HS := Lib.hid hs
  unfold exV
  clear hp hx0 hbx hs
  generalize e.kind = kd at R0 hB0 HX0 HBX ⊢
  generalize e.name = nm at R0 hB0 HX0 HBX ⊢
  generalize e.num = nu at R0 hB0 HX0 HBX ⊢
  generalize e.params.length = n3 at R0 hB0 HX0 HBX ⊢
  generalize e.binds.length = n4 at R0 hB0 HX0 HBX ⊢
  generalize e.args.length = n5 at R0 hB0 HX0 HBX ⊢
  generalize e.alts.length = n6 at R0 hB0 HX0 HBX ⊢
  go_enter Try.func17, Try.ntmps17
  go_upto_region 1 with fail
  generalize w.alloc (.cells #[.int .i64 kd, .string nm, .int .i64 nu, .slice pa n3 pa2, .slice pb n4 pb2, .slice pc n5 pc2, .slice pd n6 pd2] 29) = W0 at R0 hB0 HBX ⊢
  have HB0 := Lib.hid hB0
  have HR0 := Lib.hid R0
  generalize hbq : w.heap.size = b at R0 HBX HR0 ⊢
  have x0 : W0.cell? ⟨b, 0, none⟩ = _ := R0.cell 0
  have x1 : W0.cell? ⟨b, 1, none⟩ = _ := R0.cell 1
  have x2 : W0.cell? ⟨b, 2, none⟩ = _ := R0.cell 2
  have x3 : W0.cell? ⟨b, 3, none⟩ = _ := R0.cell 3
  have x4 : W0.cell? ⟨b, 4, none⟩ = _ := R0.cell 4
  have x5 : W0.cell? ⟨b, 5, none⟩ = _ := R0.cell 5
  have x6 : W0.cell? ⟨b, 6, none⟩ = _ := R0.cell 6
  simp only [List.getElem?_toArray, List.getElem?_cons_zero, List.getElem?_cons_succ] at x0 x1 x2 x3 x4 x5 x6
  have hb := R0.lt
  clear R0 hB0
  have KL := Lib.hid (long_any (d + 1) e _ W0 (ExIs.below HB0.out _ _ _ HX0.out) HS.out hz)
  have KO := Lib.hid (fun W (hW : Below W0.heap.size W0 W) => all_any (d + 1) e b 0 W0 W (.slice none 0 0) [] hb HBX.out hW (ROwn.nil _ _ _ _) HS.out (by simpa using hn))
  go_wp2_with (first | (go_at_call 25; refine KL.out.mono ?_; rintro r1 w1 ⟨rfl, k1⟩; have K1 := Lib.hid k1) | (go_at_call 31; refine (KO.out _ K1.out).mono ?_; rintro r2 w2 ⟨v2, rfl, o2, k2⟩))
  refine bodyPost_ret (v := .tuple #[v2, .int .i64 0]) (by simp [results, Try.results17, go_sem]) rfl ?_
  exact ⟨⟨_, rfl, own_low o2 (hbq ▸ HB0.out.size)⟩, HB0.out.trans (k2.mono (hbq ▸ HB0.out.size))⟩
end Go.Proofs.Ytkcgchpflppmnaa

namespace Go.Proofs.Ytkcgchpflppmnaa
open Go.RowKit
set_option linter.unusedSimpArgs false
set_option linter.unusedVariables false

def partsK {d : Nat} (e : ExN (Ex d)) : List (Ex d) := e.binds.flatMap (fun x => [x.2]) ++ (e.args.flatMap (fun x => [x]) ++ (e.alts.flatMap (fun x => [x.e]) ++ []))
theorem parts_size (d : Nat) (e : ExN (Ex d)) : 1 + ((partsK e).map (sizeK d)).sum = sizeK (d + 1) e := by
  rw [size_succ]
  unfold partsK
  simp only [List.append_nil, ← List.map_eq_flatMap, List.map_append, List.sum_append, List.map_map, Function.comp_def, List.map_id']
  omega
theorem parts_sm (d : Nat) (e : ExN (Ex d)) (h : Sm (d + 1) e) : ∀ x ∈ partsK e, Sm d x := by
  intro x hx
  unfold partsK at hx
  simp only [List.append_nil, ← List.map_eq_flatMap, List.map_id', List.mem_append, List.mem_map] at hx
  rcases hx with ⟨y, hy, rfl⟩ | hx | ⟨y, hy, rfl⟩
  · exact h.2.1.2 y hy
  · exact h.2.2.1.2 x hx
  · exact (h.2.2.2.2 y hy).2
theorem flatten_get {α : Type} {n : Nat} (hn : 0 < n) : ∀ {l : List (List α)} (_ : ∀ r ∈ l, r.length = n) (j : Nat), l.flatten[j]? = (l[j / n]?).bind (·[j % n]?)
  | [], _, j => by simp
  | r :: l, h, j => by
    have hr := h r (List.mem_cons_self ..)
    rw [List.flatten_cons]
    rcases Nat.lt_or_ge j n with hj | hj
    · rw [List.getElem?_append_left (by omega), Nat.div_eq_of_lt hj, Nat.mod_eq_of_lt hj]; rfl
    · rw [List.getElem?_append_right (by omega), hr, flatten_get hn (fun r hr => h r (List.mem_cons_of_mem _ hr)) (j - n)]
      obtain ⟨q, rfl⟩ : ∃ q, j = q + n := ⟨j - n, by omega⟩
      rw [Nat.add_sub_cancel, Nat.add_div_right _ hn, Nat.add_mod_right]
      rfl
/-- A row of seven cells that is an expression. -/
def Good (W0 : World) (d : Nat) (y : List Value × Ex d) : Prop :=
  ∃ (k : Int) (nm : ByteArray) (m : Int) (p q r s : Option Addr) (p1 p2 q1 q2 r1 r2 s1 s2 : Nat), y.1 = exV k nm m p q r s p1 p2 q1 q2 r1 r2 s1 s2 ∧ ExIs W0 d (.agg y.1.toArray) y.2
theorem Good.len {W0 : World} {d : Nat} {y : List Value × Ex d} (h : Good W0 d y) : y.1.length = 7 := by
  obtain ⟨_, _, _, _, _, _, _, _, _, _, _, _, _, _, _, h, _⟩ := h; rw [h]; rfl
theorem Good.one {W0 : World} {d : Nat} {y : List Value × Ex d} (h : Good W0 d y) : ∀ u ∈ y.1, u.oneCell' = true := by
  obtain ⟨_, _, _, _, _, _, _, _, _, _, _, _, _, _, _, h, _⟩ := h
  intro u hu
  rw [h] at hu
  simp [exV] at hu
  rcases hu with rfl | rfl | rfl | rfl | rfl | rfl | rfl <;> rfl
structure EOwn (W0 W : World) (B d : Nat) (v : Value) (cur : List (List Value × Ex d)) : Prop where
  own : ROwn W B 29 7 v (cur.map (·.1))
  good : ∀ y ∈ cur, Good W0 d y
theorem EOwn.below {W0 W W' : World} {B d : Nat} {v : Value} {cur : List (List Value × Ex d)} (h : EOwn W0 W B d v cur) (hb : Below W.heap.size W W') : EOwn W0 W' B d v cur := ⟨h.own.below hb, h.good⟩
theorem infoX : (Try.prog.info? 29).map (fun i => (i.zero, i.size, i.bytes)) = some (some (.agg #[.int .i64 0, .string ⟨#[]⟩, .int .i64 0, .slice none 0 0, .slice none 0 0, .slice none 0 0, .slice none 0 0]), 7, 128) := by kernel_rfl
theorem append_empty {W : World} {B : Nat} {t st ty : TypeId} {i : TypeInfo} {sz n : Nat} (ht : Try.prog.underlying st = some (.slice t)) (hi : Try.prog.info? t = some i) {v : Value} {xs : List Value} (hown : W.ownsRow B t sz v n xs) (a : Option Addr) (c : Nat) :
    (Builtin.append_ #[st, st] ty #[v, .slice a 0 c]).run Try.prog W = .ok v W := by
  rcases hown.2 with ⟨rfl, rfl⟩ | ⟨g, cap, cur, rfl, _, _, hnc, _⟩
  · simp [Builtin.append_, run_underlying ht, sizeOf, typeInfo, hi, Builtin.lenOf, Builtin.firstCells, loadCells, loadCellsFrom]
    try (cases a <;> simp [Builtin.firstCells, loadCells, loadCellsFrom])
  · cases a <;> simp [Builtin.append_, run_underlying ht, sizeOf, typeInfo, hi, Builtin.lenOf, Builtin.firstCells, hnc, storeCells, loadCells, loadCellsFrom]
/-- Many rows put behind. -/
theorem EOwn.many {W0 W : World} {B d : Nat} {v : Value} {cur : List (List Value × Ex d)} (h : EOwn W0 W B d v cur) (a o c : Nat) (new : List (List Value × Ex d)) (hg : ∀ y ∈ new, Good W0 d y) (hc : ∀ i y, new[i]? = some y → CellsAt W a (o + i * 7) y.1) (hl : cur.length + new.length ≤ 100000000) (hB : B ≤ W.heap.size) :
    ∃ v' W', (Builtin.append_ #[26, 26] 26 #[v, .slice (some ⟨a, o, none⟩) new.length c]).run Try.prog W = .ok v' W' ∧ EOwn W0 W' B d v' (cur ++ new) ∧ Below B W W' := by
  obtain ⟨i0, hi, hz0, hz1, hz2⟩ := info_parts infoX
  obtain ⟨v', W', k1, k2, k3, k4, k5⟩ := ROwn.push h.own 26 (i := i0) (z := .agg #[.int .i64 0, .string ⟨#[]⟩, .int .i64 0, .slice none 0 0, .slice none 0 0, .slice none 0 0, .slice none 0 0]) Try.underlying26 hi hz0 hz1 hz2 rfl (by decide) a o new.length c (new.map (·.1)) (by simp) (fun r hr => by obtain ⟨y, hy, rfl⟩ := List.mem_map.1 hr; exact (hg y hy).len)
    (fun j u hj => by
      rw [flatten_get (n := 7) (by decide) (fun r hr => by obtain ⟨y, hy, rfl⟩ := List.mem_map.1 hr; exact (hg y hy).len), List.getElem?_map] at hj
      rcases hy : new[j / 7]? with _ | y
      · rw [hy] at hj; simp at hj
      · rw [hy] at hj
        have := hc (j / 7) y hy (j % 7) u (by simpa using hj)
        rwa [show o + j / 7 * 7 + j % 7 = o + j by omega] at this)
    (fun r hr u hu => by obtain ⟨y, hy, rfl⟩ := List.mem_map.1 hr; exact (hg y hy).one u hu) (by rw [List.length_map]; omega) (by rw [List.length_map]; unfold maxLen; omega) hB
  refine ⟨v', W', k1, ⟨by rw [List.map_append]; exact k2, fun y hy => ?_⟩, k4 hB⟩
  rcases List.mem_append.1 hy with hy | hy
  · exact h.good y hy
  · exact hg y hy
/-- One row put behind, made just now. -/
theorem EOwn.one {W0 w : World} {B d : Nat} {v : Value} {cur : List (List Value × Ex d)} (h : EOwn W0 w B d v cur) (y : List Value × Ex d) (hy : Good W0 d y) (hl : cur.length + 1 ≤ 100000000) (hB : B ≤ w.heap.size) :
    ∃ v' W', (Builtin.append_ #[26, 26] 26 #[v, .slice (some ⟨w.heap.size, 0, none⟩) 1 1]).run Try.prog (w.alloc (.cells y.1.toArray 29)) = .ok v' W' ∧ EOwn W0 W' B d v' (cur ++ [y]) ∧ Below B w W' := by
  have ha : Below w.heap.size w (w.alloc (.cells y.1.toArray 29)) := (Below.refl _ w).alloc (Nat.le_refl _) _
  have R := Blk.new w y.1.toArray 29
  obtain ⟨v', W', k1, k2, k3⟩ := EOwn.many (h.below ha) w.heap.size 0 1 [y] (fun z hz => by simp at hz; subst hz; exact hy) (fun i z hz => by
    match i with
    | 0 => simp at hz; subst hz; intro j c hj; rw [show 0 + 0 * 7 + j = j by omega, R.cell j]; simpa using hj
    | i + 1 => simp at hz) (by simpa using hl) (by simp; omega)
  exact ⟨v', W', k1, k2, (ha.mono hB).trans k3⟩
theorem rows_of {W0 W : World} {d : Nat} {b o : Nat} {l : List (Ex d)} (hb : b < W0.heap.size) (hW : Below W0.heap.size W0 W) (h : ∀ k x, l[k]? = some x → ExAt W0 d b (o + k * 7) x) :
    ∃ new : List (List Value × Ex d), new.map (·.2) = l ∧ (∀ y ∈ new, Good W0 d y) ∧ ∀ i y, new[i]? = some y → CellsAt W b (o + i * 7) y.1 := by
  obtain ⟨new, hl, hp⟩ := list_of (β := List Value × Ex d) l.length (p := fun i y => l[i]? = some y.2 ∧ Good W0 d y ∧ CellsAt W b (o + i * 7) y.1) (fun i hi => by
    obtain ⟨k, nm, m, p, q, r, s, p1, p2, q1, q2, r1, r2, s1, s2, hc, hv⟩ := ex_val (h i l[i] (List.getElem?_eq_getElem hi))
    exact ⟨(exV k nm m p q r s p1 p2 q1 q2 r1 r2 s1 s2, l[i]), List.getElem?_eq_getElem hi, ⟨k, nm, m, p, q, r, s, p1, p2, q1, q2, r1, r2, s1, s2, rfl, hv⟩, hc.below hW hb⟩)
  refine ⟨new, List.ext_getElem? fun i => ?_, fun y hy => ?_, fun i y hy => (hp i y hy).2.2⟩
  · rw [List.getElem?_map]
    rcases hy : new[i]? with _ | y
    · have : new.length ≤ i := List.getElem?_eq_none_iff.1 hy
      rw [List.getElem?_eq_none (by omega)]; rfl
    · rw [(hp i y hy).1]; rfl
  · obtain ⟨i, hi⟩ := List.mem_iff_getElem?.1 hy
    exact (hp i y hi).2.1
end Go.Proofs.Ytkcgchpflppmnaa

namespace Go.Proofs.Ytkcgchpflppmnaa
open Go.RowKit
set_option linter.unusedSimpArgs false
set_option linter.unusedVariables false

set_option maxRecDepth 100000 in
set_option maxHeartbeats 8000000 in
theorem parts_any (d : Nat) (v : Value) (e : ExN (Ex d)) (w wi : World) (h : ExIs w (d + 1) v e) (hw : Below w.heap.size w wi) (hs : Sm (d + 1) e) (hn : (partsK e).length ≤ 10000000) :
    Calls Try.prog 85 #[v] wi fun r W' => ∃ v' cur, r = .returned v' ∧ EOwn w W' wi.heap.size d v' cur ∧ cur.map (·.2) = partsK e ∧ Below wi.heap.size wi W' := by
  obtain ⟨T, hT⟩ : ∃ T, partsK e = T := ⟨_, rfl⟩
  rw [hT] at hn ⊢
  have HTl := Lib.hid hn
  have HT := Lib.hid (show ([] : List (List Value × Ex d)).map (·.2) ++ _ = T from hT)
  clear hn hT
  obtain ⟨l0, rfl, hp⟩ := h
  obtain ⟨pa, pb, pc, pd, pa2, pb2, pc2, pd2, rfl⟩ := parts_form hp
  have R0 := Blk.new wi #[.int .i64 e.kind, .string e.name, .int .i64 e.num, .slice pa e.params.length pa2, .slice pb e.binds.length pb2, .slice pc e.args.length pc2, .slice pd e.alts.length pd2] 29
  have hB0 : Below wi.heap.size wi (wi.alloc (.cells #[.int .i64 e.kind, .string e.name, .int .i64 e.num, .slice pa e.params.length pa2, .slice pb e.binds.length pb2, .slice pc e.args.length pc2, .slice pd e.alts.length pd2] 29)) := (Below.refl _ wi).alloc (Nat.le_refl _) _
  obtain ⟨ps, bs, es, ls, hq, h1, ⟨xb, yb, hqb, h2⟩, ⟨xc, yc, hqc, h3⟩, ⟨xd, yd, hqd, h4⟩⟩ := hp
  simp only [exV, List.cons.injEq] at hq
  obtain ⟨-, -, -, -, rfl, rfl, rfl, -⟩ := hq
  simp only [Value.slice.injEq] at hqb hqc hqd
  obtain ⟨rfl, -, rfl⟩ := hqb
  obtain ⟨rfl, -, rfl⟩ := hqc
  obtain ⟨rfl, -, rfl⟩ := hqd
  have HS := Lib.hid hs
  obtain ⟨N4, hN4⟩ : ∃ N, e.binds.length = N := ⟨_, rfl⟩
  obtain ⟨N5, hN5⟩ : ∃ N, e.args.length = N := ⟨_, rfl⟩
  obtain ⟨N6, hN6⟩ : ∃ N, e.alts.length = N := ⟨_, rfl⟩
  have m4 : N4 ≤ 10000000 := hN4 ▸ hs.2.1.1
  have m5 : N5 ≤ 10000000 := hN5 ▸ hs.2.2.1.1
  have m6 : N6 ≤ 10000000 := hN6 ▸ hs.2.2.2.1
  unfold exV
  rw [hN4, hN5, hN6] at R0 hB0 ⊢
  have HN4 := Lib.hid hN4
  have HN5 := Lib.hid hN5
  have HN6 := Lib.hid hN6
  have H2 := Lib.hid (show True ∧ _ from ⟨trivial, h2⟩)
  have H3 := Lib.hid h3
  have H4 := Lib.hid h4
  have HW := Lib.hid hw
  have hwl := hw.size
  generalize e.kind = kd at R0 hB0 ⊢
  generalize e.name = nm at R0 hB0 ⊢
  generalize e.num = nu at R0 hB0 ⊢
  generalize e.params.length = n3 at R0 hB0 ⊢
  clear hs h1 h2 h3 h4 hN4 hN5 hN6 hw
  go_enter Try.func85, Try.ntmps85
  go_upto_region 2 with fail
  generalize wi.alloc (.cells #[.int .i64 kd, .string nm, .int .i64 nu, .slice pa n3 pa2, .slice pb N4 pb2, .slice pc N5 pc2, .slice pd N6 pd2] 29) = W0 at R0 hB0 ⊢
  have HB0 := Lib.hid hB0
  have HR0 := Lib.hid R0
  generalize hbq : wi.heap.size = b at R0 HR0 ⊢
  have x0 : W0.cell? ⟨b, 0, none⟩ = _ := R0.cell 0
  have x1 : W0.cell? ⟨b, 1, none⟩ = _ := R0.cell 1
  have x2 : W0.cell? ⟨b, 2, none⟩ = _ := R0.cell 2
  have x3 : W0.cell? ⟨b, 3, none⟩ = _ := R0.cell 3
  have x4 : W0.cell? ⟨b, 4, none⟩ = _ := R0.cell 4
  have x5 : W0.cell? ⟨b, 5, none⟩ = _ := R0.cell 5
  have x6 : W0.cell? ⟨b, 6, none⟩ = _ := R0.cell 6
  simp only [List.getElem?_toArray, List.getElem?_cons_zero, List.getElem?_cons_succ] at x0 x1 x2 x3 x4 x5 x6
  have hb := R0.lt
  clear R0 hB0
  have HC := Lib.hid (show ∀ W, Below W0.heap.size W0 W → W.cell? ⟨b, 0, none⟩ = some (.int .i64 kd) ∧ W.cell? ⟨b, 1, none⟩ = some (.string nm) ∧ W.cell? ⟨b, 2, none⟩ = some (.int .i64 nu) ∧ W.cell? ⟨b, 3, none⟩ = some (.slice pa n3 pa2) ∧ W.cell? ⟨b, 4, none⟩ = some (.slice pb N4 pb2) ∧ W.cell? ⟨b, 5, none⟩ = some (.slice pc N5 pc2) ∧ W.cell? ⟨b, 6, none⟩ = some (.slice pd N6 pd2) from fun W hW => by
    have R2 := HR0.out.below hW HR0.out.lt
    exact ⟨R2.cell 0, R2.cell 1, R2.cell 2, R2.cell 3, R2.cell 4, R2.cell 5, R2.cell 6⟩)
  have hs0 := HB0.out.size
  have HWB := Lib.hid (show ∀ W, Below W0.heap.size W0 W → Below w.heap.size w W from fun W hW => HW.out.trans ((HB0.out.trans (hW.mono HB0.out.size)).mono hwl))
  clear x0 x1 x2 x3 x4 x5 x6
  have HBQ := Lib.hid hbq
  go_wp2
  go_loopw [3, 4] (fun v i wr => ∃ (k : Nat) (cur : List (List Value × Ex d)), i = .int .i64 k ∧ k ≤ N4 ∧ Hid (EOwn w wr W0.heap.size d v cur) ∧ Hid (cur.map (·.2) ++ ((e.binds.drop k).flatMap (fun x => [x.2]) ++ (e.args.flatMap (fun x => [x]) ++ (e.alts.flatMap (fun x => [x.e]) ++ []))) = T) ∧ Below W0.heap.size W0 wr) (fun _ i _ => N4 - (intOf i).toNat)
  case atStart => exact ⟨0, [], rfl, Nat.zero_le _, Lib.hid ⟨ROwn.nil _ _ _ _, fun y hy => by cases hy⟩, HT, Below.refl _ _⟩
  case round =>
    clear HT
    obtain ⟨k, cur, rfl, hk, HO, HF, hB⟩ := hrel
    obtain ⟨x0, x1, x2, x3, x4, x5, x6⟩ := HC.out wr hB
    have hBw := HWB.out wr hB
    by_cases hlt : k < N4
    · have hlt2 : decide ((k : Int) < (N4 : Int)) = true := by simp; omega
      have hlt3 : decide (k < N4) = true := by simp; omega
      have hi0 : (0 : Int) ≤ (k : Int) := by omega
      have hkt : k < e.binds.length := by rw [HN4.out]; exact hlt
      obtain ⟨p, o', hq, hp, hat⟩ := H2.out.2 (by omega)
      subst hq
      obtain ⟨x, hx⟩ : ∃ x, e.binds[k]? = some x := ⟨_, List.getElem?_eq_getElem hkt⟩
      obtain ⟨y0, y1, y2, y3, y4, y5, y6, z3, x3', z4, x4', z5, x5', z6, x6', hyc, hyv⟩ := ex_val (hat k x hx).2
      have vv := hyc.below hBw hp
      have v0 := vv 0 _ rfl
      have v1 := vv 1 _ rfl
      have v2' := vv 2 _ rfl
      have v3 := vv 3 _ rfl
      have v4 := vv 4 _ rfl
      have v5 := vv 5 _ rfl
      have v6 := vv 6 _ rfl
      rw [Nat.add_zero] at v0
      have hlen := Nat.le_trans (step_len _ hx HF.out) HTl.out
      simp only [List.length_singleton, List.length_map] at hlen
      have hsz := hB.size
      obtain ⟨v2, W2, hrun, o2, k2⟩ := HO.out.one (exV y0 y1 y2 y3 y4 y5 y6 z3 x3' z4 x4' z5 x5' z6 x6', x.2) ⟨_, _, _, _, _, _, _, _, _, _, _, _, _, _, _, rfl, hyv⟩ (by omega) (by omega)
      unfold exV at hrun
      have O2 := Lib.hid o2
      have K2 := Lib.hid (hB.trans k2)
      have HF2 := Lib.hid (show (cur ++ [(exV y0 y1 y2 y3 y4 y5 y6 z3 x3' z4 x4' z5 x5' z6 x6', x.2)]).map (·.2) ++ _ = T by rw [List.map_append]; exact step_next _ hx HF.out)
      clear hat hx HF hyc hyv vv o2 k2 hBw
      go_wp2_with (at_builtin; refine wpList_append_run rfl _ _ _ _ rfl _ _ _ _ rfl rfl hrun ?_)
      go_roundw
      case measure => simp [intOf]; omega
      case rel => exact ⟨k + 1, _, by go_num, by omega, O2, HF2, K2.out⟩
    · have hlt2 : decide ((k : Int) < (N4 : Int)) = false := by simp; omega
      have hlt3 : decide (k < N4) = false := by simp; omega
      obtain rfl : N4 = k := by omega
      have hF1 := step_end _ HN4.out HF.out
      have hszr := hB.size
      have hlen : cur.length + e.args.length ≤ 10000000 := Nat.le_trans (by rw [← hF1]; simp only [List.length_append, List.length_map, ← List.map_eq_flatMap]; omega) HTl.out
      have hadd : ∃ v2 W2 cur2, (Builtin.append_ #[26, 26] 26 #[u3, .slice pc N5 pc2]).run Try.prog wr = .ok v2 W2 ∧ EOwn w W2 W0.heap.size d v2 cur2 ∧ Below W0.heap.size wr W2 ∧ cur2.map (·.2) = cur.map (·.2) ++ e.args := by
        rcases Nat.eq_zero_or_pos N5 with h0 | h0
        · obtain ⟨i0, hi, -⟩ := info_parts infoX
          have e0 : e.args = [] := List.eq_nil_of_length_eq_zero (HN5.out.trans h0)
          exact ⟨u3, wr, cur, by rw [h0]; exact append_empty Try.underlying26 hi HO.out.own pc pc2, HO.out, Below.refl _ _, by rw [e0, List.append_nil]⟩
        · obtain ⟨p, o', hq, hp, hat⟩ := H3.out (by have := HN5.out; omega)
          obtain ⟨new, n1, n2, n3⟩ := rows_of hp hBw hat
          have hnl : new.length = N5 := by rw [← HN5.out, ← n1, List.length_map]
          obtain ⟨v2, W2, k1, k2, k3⟩ := HO.out.many p o' pc2 new n2 n3 (by rw [hnl, ← HN5.out]; omega) hszr
          exact ⟨v2, W2, _, by rw [hq, ← hnl]; exact k1, k2, k3, by rw [List.map_append, n1]⟩
      obtain ⟨v2, W2, cur2, hrun, o2, k2, e2⟩ := hadd
      have O2 := Lib.hid o2
      have K2 := hB.trans k2
      have hFa : cur2.map (·.2) ++ ((e.alts.drop 0).flatMap (fun x => [x.e]) ++ []) = T := by rw [e2, ← hF1, List.drop_zero, ← List.map_eq_flatMap (l := e.args), List.map_id', List.append_assoc]
      have HF2 := Lib.hid hFa
      clear hF1 HF hlt hlt2 hlt3 hk hBw o2 k2 e2 hFa hlen
      obtain ⟨x0', x1', x2', x3', x4', x5', x6'⟩ := HC.out W2 K2
      go_upto_region 8 with (at_builtin; refine wpList_append_run rfl _ _ _ _ rfl _ _ _ _ rfl rfl hrun ?_)
      clear x0 x1 x2 x3 x4 x5 x6 hrun HO hB hszr x0' x1' x2' x3' x4' x5' x6'
      go_loopw [3, 5] (fun v i wr => ∃ (k : Nat) (cur : List (List Value × Ex d)), i = .int .i64 k ∧ k ≤ N6 ∧ Hid (EOwn w wr W0.heap.size d v cur) ∧ Hid (cur.map (·.2) ++ ((e.alts.drop k).flatMap (fun x => [x.e]) ++ []) = T) ∧ Below W0.heap.size W0 wr) (fun _ i _ => N6 - (intOf i).toNat)
      case atStart => exact ⟨0, _, rfl, Nat.zero_le _, O2, HF2, K2⟩
      case round =>
        clear O2 HF2 K2
        obtain ⟨k, cur, rfl, hk, HO, HF, hB⟩ := hrel
        obtain ⟨x0, x1, x2, x3, x4, x5, x6⟩ := HC.out wr hB
        have hBw := HWB.out wr hB
        by_cases hlt : k < N6
        · have hlt2 : decide ((k : Int) < (N6 : Int)) = true := by simp; omega
          have hlt3 : decide (k < N6) = true := by simp; omega
          have hi0 : (0 : Int) ≤ (k : Int) := by omega
          have hkt : k < e.alts.length := by rw [HN6.out]; exact hlt
          obtain ⟨p, o', hq, hp, hat⟩ := H4.out (by omega)
          subst hq
          obtain ⟨x, hx⟩ : ∃ x, e.alts[k]? = some x := ⟨_, List.getElem?_eq_getElem hkt⟩
          obtain ⟨y0, y1, y2, y3, y4, y5, y6, z3, x3', z4, x4', z5, x5', z6, x6', hyc, hyv⟩ := ex_val (show ExAt w d p (o' + k * 11 + 4) x.e from by obtain ⟨_, _, _, hz⟩ := hat k x hx; exact hz)
          have vv := hyc.below hBw hp
          have v0 := vv 0 _ rfl
          have v1 := vv 1 _ rfl
          have v2' := vv 2 _ rfl
          have v3 := vv 3 _ rfl
          have v4 := vv 4 _ rfl
          have v5 := vv 5 _ rfl
          have v6 := vv 6 _ rfl
          rw [Nat.add_zero] at v0
          have hlen := Nat.le_trans (step_len _ hx HF.out) HTl.out
          simp only [List.length_singleton, List.length_map] at hlen
          have hsz := hB.size
          obtain ⟨v2, W2, hrun, o2, k2⟩ := HO.out.one (exV y0 y1 y2 y3 y4 y5 y6 z3 x3' z4 x4' z5 x5' z6 x6', x.e) ⟨_, _, _, _, _, _, _, _, _, _, _, _, _, _, _, rfl, hyv⟩ (by omega) (by omega)
          unfold exV at hrun
          have O2 := Lib.hid o2
          have K2 := Lib.hid (hB.trans k2)
          have HF2 := Lib.hid (show (cur ++ [(exV y0 y1 y2 y3 y4 y5 y6 z3 x3' z4 x4' z5 x5' z6 x6', x.e)]).map (·.2) ++ _ = T by rw [List.map_append]; exact step_next _ hx HF.out)
          clear hat hx HF hyc hyv vv o2 k2 hBw
          go_wp2_with (at_builtin; refine wpList_append_run rfl _ _ _ _ rfl _ _ _ _ rfl rfl hrun ?_)
          go_roundw
          case measure => simp [intOf]; omega
          case rel => exact ⟨k + 1, _, by go_num, by omega, O2, HF2, K2.out⟩
        · have hlt2 : decide ((k : Int) < (N6 : Int)) = false := by simp; omega
          have hlt3 : decide (k < N6) = false := by simp; omega
          obtain rfl : N6 = k := by omega
          have hF1 := step_end _ HN6.out HF.out
          rw [List.append_nil] at hF1
          have HF1 := Lib.hid hF1
          clear HF hlt2 hlt3 hF1
          go_wp2
          go_ret
          exact ⟨_, cur, rfl, ⟨own_low HO.out.own hs0, HO.out.good⟩, HF1.out, HB0.out.trans (hB.mono hs0)⟩
end Go.Proofs.Ytkcgchpflppmnaa

namespace Go.Proofs.Ytkcgchpflppmnaa
open Go.RowKit
set_option linter.unusedSimpArgs false
set_option linter.unusedVariables false

theorem grown_trans {a b c : World} {row : Option Nat} (h : a.grownBy b row) (k : b.grownBy c row) : a.grownBy c row :=
  ⟨k.os.trans h.os, k.tape.trans h.tape, k.output.trans h.output, Nat.le_trans h.size k.size, fun i hi hne => (k.block i (Nat.lt_of_lt_of_le hi h.size) hne).trans (h.block i hi hne)⟩
theorem grown_below {a b : World} (row : Option Nat) (h : Below a.heap.size a b) : a.grownBy b row := ⟨h.os, h.tape, h.output, h.size, fun i hi _ => h.block i hi⟩
theorem grown_refl (a : World) (row : Option Nat) : a.grownBy a row := grown_below row (Below.refl _ _)
theorem grown_set (a : World) (bn o : Nat) (v : Value) : a.grownBy (a.setCell ⟨bn, o, none⟩ v) (some bn) :=
  ⟨rfl, rfl, rfl, by simp [World.setCell], fun i hi hne => Below.heap_setCell _ _ _ _ (fun e => hne (by rw [e]))⟩
theorem below_grown {n : Nat} {w a b : World} {bn : Nat} (h : Below n w a) (g : a.grownBy b (some bn)) (hn : n ≤ bn) (hs : n ≤ a.heap.size) : Below n w b := h.grown g hs (fun i e => by simp at e; omega)
theorem EOwn.at {W0 W : World} {B d : Nat} {a : Option Addr} {n c : Nat} {cur : List (List Value × Ex d)} (h : EOwn W0 W B d (.slice a n c) cur) {k : Nat} {y : List Value × Ex d} (hy : cur[k]? = some y) : ∃ g, a = some ⟨g, 0, none⟩ ∧ B ≤ g ∧ g < W.heap.size ∧ CellsAt W g (k * 7) y.1 := by
  have hk : k < cur.length := (List.getElem?_eq_some_iff.1 hy).1
  have h0 := h.own
  rcases h0.2 with ⟨_, h2⟩ | ⟨g, cap, cc, hv, hg, hh, _⟩
  · simp at h2; subst h2; simp at hk
  · simp only [Value.slice.injEq] at hv
    obtain ⟨rfl, -, rfl⟩ := hv
    refine ⟨g, rfl, hg, (Array.getElem?_eq_some_iff.1 hh).1, fun j u hj => ?_⟩
    have hyl := (h.good y (List.mem_of_getElem? hy)).len
    have hj7 : j < 7 := by rw [← hyl]; exact (List.getElem?_eq_some_iff.1 hj).1
    have := World.ownsRow.cells h0 (g := g) rfl (k * 7 + j) u (by
      rw [flatten_get (n := 7) (by decide) (fun r hr => by obtain ⟨y, hy, rfl⟩ := List.mem_map.1 hr; exact (h.good y hy).len), show (k * 7 + j) / 7 = k by omega, show (k * 7 + j) % 7 = j by omega, List.getElem?_map, hy]
      exact hj)
    rwa [show (⟨g, 0, none⟩ : Addr).add (k * 7 + j) = ⟨g, k * 7 + j, none⟩ from by unfold Addr.add; split <;> simp_all] at this
theorem EOwn.shape {W0 W : World} {B d : Nat} {v : Value} {cur : List (List Value × Ex d)} (h : EOwn W0 W B d v cur) : ∃ a c, v = .slice a cur.length c := by
  obtain ⟨a, c, hv⟩ := own_shape h.own
  exact ⟨a, c, by rw [hv, List.length_map]⟩
set_option maxRecDepth 100000 in
set_option maxHeartbeats 8000000 in
theorem measure_step (d : Nat)
    (hm : ∀ (x : Ex d) (v : Value) (W0 W : World) (bn n at' : Nat), ExIs W0 d v x → Below W0.heap.size W0 W → W0.heap.size ≤ bn → Blk W bn #[.int .i64 (n : Int)] → Sm d x → at' + sizeK d x ≤ 4097 → n + sizeK d x ≤ 1048576 →
      Calls Try.prog 65 #[v, .int .i64 (at' : Int), .int .i64 4096, .int .i64 1048576, .pointer (some ⟨bn, 0, none⟩)] W fun r W' => r = .returned (.bool true) ∧ Blk W' bn #[.int .i64 ((n + sizeK d x : Nat) : Int)] ∧ W.grownBy W' (some bn))
    (v : Value) (e : ExN (Ex d)) (w wi : World) (bn n at' : Nat) (h : ExIs w (d + 1) v e) (hw : Below w.heap.size w wi) (hbn : w.heap.size ≤ bn) (hc : Blk wi bn #[.int .i64 (n : Int)]) (hs : Sm (d + 1) e) (ha : at' + sizeK (d + 1) e ≤ 4097) (hn : n + sizeK (d + 1) e ≤ 1048576) :
    Calls Try.prog 65 #[v, .int .i64 (at' : Int), .int .i64 4096, .int .i64 1048576, .pointer (some ⟨bn, 0, none⟩)] wi fun r W' => r = .returned (.bool true) ∧ Blk W' bn #[.int .i64 ((n + sizeK (d + 1) e : Nat) : Int)] ∧ wi.grownBy W' (some bn) := by
  obtain ⟨T, hT⟩ : ∃ T, n + sizeK (d + 1) e = T := ⟨_, rfl⟩
  rw [hT] at hn ⊢
  have hps := parts_size d e
  have HT := Lib.hid (show (n + 1) + (((partsK e).drop 0).map (sizeK d)).sum = T by rw [List.drop_zero]; omega)
  have HXA := Lib.hid (show ∀ x ∈ partsK e, at' + 1 + sizeK d x ≤ 4097 from fun x hx => by have := le_sum (sizeK d) hx; omega)
  have hpl : (partsK e).length ≤ 4097 := by have := len_sum (sizeK d) (l := partsK e) (fun x _ => size_pos d x); omega
  have hat : at' + 1 ≤ 4097 := by omega
  have hn1 : n + 1 ≤ 1048576 := by omega
  have HPS := Lib.hid (parts_sm d e hs)
  have HHV := Lib.hid h
  have HM := Lib.hid hm
  have HW := Lib.hid hw
  have KP := Lib.hid (fun W (hW : Below w.heap.size w W) => parts_any d v e w W h hW hs (by omega))
  have hbl := hc.lt
  have hv := ExIs.below hw (d + 1) v e h
  obtain ⟨l0, rfl, hp⟩ := hv
  obtain ⟨pa, pb, pc, pd, pa2, pb2, pc2, pd2, rfl⟩ := parts_form hp
  have hx0 : ExIs wi (d + 1) (.agg #[.int .i64 e.kind, .string e.name, .int .i64 e.num, .slice pa e.params.length pa2, .slice pb e.binds.length pb2, .slice pc e.args.length pc2, .slice pd e.alts.length pd2]) e := ⟨_, rfl, hp⟩
  have hbx : ExAt (wi.alloc (.cells #[.int .i64 e.kind, .string e.name, .int .i64 e.num, .slice pa e.params.length pa2, .slice pb e.binds.length pb2, .slice pc e.args.length pc2, .slice pd e.alts.length pd2] 29)) (d + 1) wi.heap.size 0 e := ExIs.boxed (t := 29) (d := d + 1) (W := wi) (x := e) ⟨_, rfl, hp⟩
  have R0 := Blk.new wi #[.int .i64 e.kind, .string e.name, .int .i64 e.num, .slice pa e.params.length pa2, .slice pb e.binds.length pb2, .slice pc e.args.length pc2, .slice pd e.alts.length pd2] 29
  have hB0 : Below wi.heap.size wi (wi.alloc (.cells #[.int .i64 e.kind, .string e.name, .int .i64 e.num, .slice pa e.params.length pa2, .slice pb e.binds.length pb2, .slice pc e.args.length pc2, .slice pd e.alts.length pd2] 29)) := (Below.refl _ wi).alloc (Nat.le_refl _) _
  have HX0 := Lib.hid hx0
  have HBX := Lib.hid hbx
  have HS := Lib.hid hs
  unfold exV at KP HHV ⊢
  clear hp hx0 hbx hs
  generalize e.kind = kd at KP HHV R0 hB0 HX0 HBX ⊢
  generalize e.name = nm at KP HHV R0 hB0 HX0 HBX ⊢
  generalize e.num = nu at KP HHV R0 hB0 HX0 HBX ⊢
  generalize e.params.length = n3 at KP HHV R0 hB0 HX0 HBX ⊢
  generalize e.binds.length = n4 at KP HHV R0 hB0 HX0 HBX ⊢
  generalize e.args.length = n5 at KP HHV R0 hB0 HX0 HBX ⊢
  generalize e.alts.length = n6 at KP HHV R0 hB0 HX0 HBX ⊢
  have C1 := hc.below hB0 hbl
  have r0 : (wi.alloc (.cells #[.int .i64 kd, .string nm, .int .i64 nu, .slice pa n3 pa2, .slice pb n4 pb2, .slice pc n5 pc2, .slice pd n6 pd2] 29)).cell? ⟨bn, 0, none⟩ = _ := C1.cell 0
  have f0 := C1.free 0
  simp only [List.getElem?_toArray, List.getElem?_cons_zero] at r0
  have d1 : decide ((4096 : Int) < (at' : Int)) = false := by simp; omega
  have d2 : decide ((1048576 : Int) < (n : Int) + 1) = false := by simp; omega
  clear hT hps hm h hc hw ha
  go_enter Try.func65, Try.ntmps65
  go_upto_region 1 with fail
  generalize wi.alloc (.cells #[.int .i64 kd, .string nm, .int .i64 nu, .slice pa n3 pa2, .slice pb n4 pb2, .slice pc n5 pc2, .slice pd n6 pd2] 29) = W0 at R0 hB0 HBX C1 r0 f0 ⊢
  generalize hbq : wi.heap.size = b at R0 HBX ⊢
  go_upto_region 2 with fail
  have hne : bn ≠ b := by omega
  have S1 : Blk (W0.setCell ⟨bn, 0, none⟩ (.int .i64 ((n : Int) + 1))) bn #[.int .i64 ((n + 1 : Nat) : Int)] := C1.set 0 _ (by simp)
  have R1 := R0.other ⟨bn, 0, none⟩ (.int .i64 ((n : Int) + 1)) (fun e => hne e.symm)
  have G1 := grown_trans (grown_below (some bn) hB0) (grown_set W0 bn 0 (.int .i64 ((n : Int) + 1)))
  have D1 := below_grown HW.out G1 hbn HW.out.size
  have e1 : (W0.setCell ⟨bn, 0, none⟩ (.int .i64 ((n : Int) + 1))).cell? ⟨bn, 0, none⟩ = some (.int .i64 ((n : Int) + 1)) := S1.cell 0
  generalize W0.setCell ⟨bn, 0, none⟩ (.int .i64 ((n : Int) + 1)) = W1 at S1 R1 G1 D1 e1 ⊢
  have x0 : W1.cell? ⟨b, 0, none⟩ = _ := R1.cell 0
  have x1 : W1.cell? ⟨b, 1, none⟩ = _ := R1.cell 1
  have x2 : W1.cell? ⟨b, 2, none⟩ = _ := R1.cell 2
  have x3 : W1.cell? ⟨b, 3, none⟩ = _ := R1.cell 3
  have x4 : W1.cell? ⟨b, 4, none⟩ = _ := R1.cell 4
  have x5 : W1.cell? ⟨b, 5, none⟩ = _ := R1.cell 5
  have x6 : W1.cell? ⟨b, 6, none⟩ = _ := R1.cell 6
  simp only [List.getElem?_toArray, List.getElem?_cons_zero, List.getElem?_cons_succ] at x0 x1 x2 x3 x4 x5 x6
  have HS1 := Lib.hid S1
  have HG1 := Lib.hid G1
  have HD1 := Lib.hid D1
  have KQ := Lib.hid (KP.out W1 D1)
  clear r0 f0 R0 C1 S1 R1 G1 D1 hB0
  go_upto_region 5 with (go_at_call 85; refine KQ.out.mono ?_; rintro r1 w1 ⟨v1, cur, rfl, o1, p1, k1⟩; obtain ⟨pa1, pc1, rfl⟩ := o1.shape; have S2 := Lib.hid (HS1.out.below k1 HS1.out.lt); have O1 := Lib.hid o1; have P1 := Lib.hid p1; have G2 := Lib.hid (grown_trans HG1.out (grown_below (some bn) k1)); have D2 := Lib.hid (HD1.out.trans (k1.mono HD1.out.size)); have hlow := HS1.out.lt; clear o1 p1 k1)
  obtain ⟨N, hN⟩ : ∃ N, cur.length = N := ⟨_, rfl⟩
  have HN := Lib.hid hN
  have hPN : (partsK e).length = N := by rw [← P1.out, List.length_map]; exact hN
  have HPN := Lib.hid hPN
  rw [hPN] at hpl
  rw [hN] at O1 ⊢
  clear x0 x1 x2 x3 x4 x5 x6 e1 hN hPN
  go_wp2
  go_loopw [12] (fun i wr => ∃ (k m : Nat), i = .int .i64 k ∧ k ≤ N ∧ Hid (Blk wr bn #[.int .i64 (m : Int)]) ∧ Hid (m + (((partsK e).drop k).map (sizeK d)).sum = T) ∧ Hid (w1.grownBy wr (some bn))) (fun i _ => N - (intOf i).toNat)
  case atStart => exact ⟨0, _, rfl, Nat.zero_le _, S2, HT, Lib.hid (grown_refl _ _)⟩
  case round =>
    clear S2 HT
    obtain ⟨k, m, rfl, hk, HR, HT, HG⟩ := hrel
    by_cases hlt : k < N
    · have hlt2 : decide ((k : Int) < (N : Int)) = true := by simp; omega
      have hlt3 : decide (k < N) = true := by simp; omega
      have hi0 : (0 : Int) ≤ (k : Int) := by omega
      have hkt : k < cur.length := by rw [HN.out]; exact hlt
      obtain ⟨y, hy⟩ : ∃ y, cur[k]? = some y := ⟨_, List.getElem?_eq_getElem hkt⟩
      have hx : (partsK e)[k]? = some y.2 := by rw [← P1.out, List.getElem?_map, hy]; rfl
      have OK : EOwn w wr W1.heap.size d (.slice pa1 N pc1) cur := ⟨O1.out.own.kept HG.out (by
        rcases hq : (Value.slice pa1 N pc1).ownBlock with _ | g
        · exact .inl rfl
        · refine .inr fun e => ?_
          have := own_from O1.out.own g hq
          simp at e
          omega), O1.out.good⟩
      obtain ⟨g, rfl, hg1, hg2, hcs⟩ := OK.at hy
      obtain ⟨y0, y1, y2, y3, y4, y5, y6, z3, x3, z4, x4, z5, x5, z6, x6, hye, hyv⟩ := OK.good y (List.mem_of_getElem? hy)
      rw [hye] at hcs hyv
      have hDr := below_grown D2.out HG.out hbn D2.out.size
      have KO0 := HM.out y.2 _ w wr bn m (at' + 1) hyv hDr hbn HR.out (HPS.out _ (List.mem_of_getElem? hx)) (HXA.out _ (List.mem_of_getElem? hx)) (by have := sum_next (sizeK d) hx (m := m) (R := 0) (T := T) (by simpa using HT.out); have hT1 : T ≤ 1048576 := hn; omega)
      rw [show ((at' + 1 : Nat) : Int) = (at' : Int) + 1 from rfl] at KO0
      unfold exV at KO0
      have KO := Lib.hid KO0
      have HT2 := Lib.hid (show (m + sizeK d y.2) + (((partsK e).drop (k + 1)).map (sizeK d)).sum = T by have := sum_next (sizeK d) hx (m := m) (R := 0) (T := T) (by simpa using HT.out); simpa using this)
      have v0 := hcs 0 _ rfl
      have v1 := hcs 1 _ rfl
      have v2 := hcs 2 _ rfl
      have v3 := hcs 3 _ rfl
      have v4 := hcs 4 _ rfl
      have v5 := hcs 5 _ rfl
      have v6 := hcs 6 _ rfl
      rw [Nat.add_zero] at v0
      clear hcs hye hyv KO0 OK hy hx HT hDr
      go_wp2_with (go_at_call 65; refine KO.out.mono ?_; rintro r1 w2 ⟨rfl, q1, k1⟩; have R2 := Lib.hid q1; have K2 := Lib.hid (grown_trans HG.out k1); clear q1 k1)
      go_roundw
      case measure => simp [intOf]; omega
      case rel => exact ⟨k + 1, _, by go_num, by omega, R2, HT2, K2⟩
    · have hlt2 : decide ((k : Int) < (N : Int)) = false := by simp; omega
      have hlt3 : decide (k < N) = false := by simp; omega
      obtain rfl : N = k := by omega
      have hT1 : m = T := by have := HT.out; rw [← HPN.out, List.drop_length] at this; simpa using this
      subst hT1
      clear HT hlt2 hlt3
      go_wp2
      go_ret
      exact ⟨rfl, HR.out, grown_trans G2.out HG.out⟩
theorem measure_any : ∀ (d : Nat) (x : Ex d) (v : Value) (W0 W : World) (bn n at' : Nat), ExIs W0 d v x → Below W0.heap.size W0 W → W0.heap.size ≤ bn → Blk W bn #[.int .i64 (n : Int)] → Sm d x → at' + sizeK d x ≤ 4097 → n + sizeK d x ≤ 1048576 →
      Calls Try.prog 65 #[v, .int .i64 (at' : Int), .int .i64 4096, .int .i64 1048576, .pointer (some ⟨bn, 0, none⟩)] W fun r W' => r = .returned (.bool true) ∧ Blk W' bn #[.int .i64 ((n + sizeK d x : Nat) : Int)] ∧ W.grownBy W' (some bn)
  | 0, x, _, _, _, _, _, _, _, _, _, _, _, _, _ => nomatch (x : Empty)
  | d + 1, x, v, W0, W, bn, n, at', h, hw, hbn, hc, hs, ha, hn => measure_step d (measure_any d) v x W0 W bn n at' h hw hbn hc hs ha hn
end Go.Proofs.Ytkcgchpflppmnaa

namespace Go.Proofs.Ytkcgchpflppmnaa
open Go.RowKit
set_option linter.unusedSimpArgs false
set_option linter.unusedVariables false

set_option maxRecDepth 100000 in
set_option maxHeartbeats 8000000 in
theorem within_step (d : Nat) (v : Value) (e : ExN (Ex d)) (w : World) (h : ExIs w (d + 1) v e) (hs : Sm (d + 1) e) (hz : sizeK (d + 1) e ≤ 4096) :
    Calls Try.prog 43 #[v, .int .i64 1048576, .int .i64 4096] w fun r w' => r = .returned (.bool true) ∧ Below w.heap.size w w' := by
  obtain ⟨l0, rfl, hp⟩ := h
  obtain ⟨pa, pb, pc, pd, pa2, pb2, pc2, pd2, rfl⟩ := parts_form hp
  have hx0 : ExIs w (d + 1) (.agg #[.int .i64 e.kind, .string e.name, .int .i64 e.num, .slice pa e.params.length pa2, .slice pb e.binds.length pb2, .slice pc e.args.length pc2, .slice pd e.alts.length pd2]) e := ⟨_, rfl, hp⟩
  have hbx : ExAt (w.alloc (.cells #[.int .i64 e.kind, .string e.name, .int .i64 e.num, .slice pa e.params.length pa2, .slice pb e.binds.length pb2, .slice pc e.args.length pc2, .slice pd e.alts.length pd2] 29)) (d + 1) w.heap.size 0 e := ExIs.boxed (t := 29) (d := d + 1) (W := w) (x := e) ⟨_, rfl, hp⟩
  have R0 := Blk.new w #[.int .i64 e.kind, .string e.name, .int .i64 e.num, .slice pa e.params.length pa2, .slice pb e.binds.length pb2, .slice pc e.args.length pc2, .slice pd e.alts.length pd2] 29
  have hB0 : Below w.heap.size w (w.alloc (.cells #[.int .i64 e.kind, .string e.name, .int .i64 e.num, .slice pa e.params.length pa2, .slice pb e.binds.length pb2, .slice pc e.args.length pc2, .slice pd e.alts.length pd2] 29)) := (Below.refl _ w).alloc (Nat.le_refl _) _
  have HX0 := Lib.hid hx0
  have HBX := Lib.hid hbx
  have HS := Lib.hid hs
  unfold exV
  clear hp hx0 hbx hs
  generalize e.kind = kd at R0 hB0 HX0 HBX ⊢
  generalize e.name = nm at R0 hB0 HX0 HBX ⊢
  generalize e.num = nu at R0 hB0 HX0 HBX ⊢
  generalize e.params.length = n3 at R0 hB0 HX0 HBX ⊢
  generalize e.binds.length = n4 at R0 hB0 HX0 HBX ⊢
  generalize e.args.length = n5 at R0 hB0 HX0 HBX ⊢
  generalize e.alts.length = n6 at R0 hB0 HX0 HBX ⊢
  go_enter Try.func43, Try.ntmps43
  go_upto_region 1 with fail
  generalize w.alloc (.cells #[.int .i64 kd, .string nm, .int .i64 nu, .slice pa n3 pa2, .slice pb n4 pb2, .slice pc n5 pc2, .slice pd n6 pd2] 29) = W0 at R0 hB0 HBX ⊢
  have HB0 := Lib.hid hB0
  have HR0 := Lib.hid R0
  generalize hbq : w.heap.size = b at R0 HBX HR0 ⊢
  have x0 : W0.cell? ⟨b, 0, none⟩ = _ := R0.cell 0
  have x1 : W0.cell? ⟨b, 1, none⟩ = _ := R0.cell 1
  have x2 : W0.cell? ⟨b, 2, none⟩ = _ := R0.cell 2
  have x3 : W0.cell? ⟨b, 3, none⟩ = _ := R0.cell 3
  have x4 : W0.cell? ⟨b, 4, none⟩ = _ := R0.cell 4
  have x5 : W0.cell? ⟨b, 5, none⟩ = _ := R0.cell 5
  have x6 : W0.cell? ⟨b, 6, none⟩ = _ := R0.cell 6
  simp only [List.getElem?_toArray, List.getElem?_cons_zero, List.getElem?_cons_succ] at x0 x1 x2 x3 x4 x5 x6
  have hb := R0.lt
  clear R0 hB0
  have s0 := HB0.out.size
  have KC0 := measure_any (d + 1) e _ W0 (W0.alloc (.cells #[.int .i64 ((0 : Nat) : Int)] 3)) W0.heap.size 0 1 (ExIs.below HB0.out _ _ _ HX0.out) ((Below.refl _ _).alloc (Nat.le_refl _) _) (Nat.le_refl _) (Blk.new _ _ _) HS.out (by omega) (by omega)
  rw [Nat.zero_add, show ((0 : Nat) : Int) = 0 from rfl, show ((1 : Nat) : Int) = 1 from rfl] at KC0
  have KC := Lib.hid KC0
  have k9 : Below W0.heap.size W0 (W0.alloc (.cells #[.int .i64 0] 3)) := (Below.refl _ _).alloc (Nat.le_refl _) _
  have xx0 := (k9.cell (p := ⟨b, 0, none⟩) hb).trans x0
  have xx1 := (k9.cell (p := ⟨b, 1, none⟩) hb).trans x1
  have xx2 := (k9.cell (p := ⟨b, 2, none⟩) hb).trans x2
  have xx3 := (k9.cell (p := ⟨b, 3, none⟩) hb).trans x3
  have xx4 := (k9.cell (p := ⟨b, 4, none⟩) hb).trans x4
  have xx5 := (k9.cell (p := ⟨b, 5, none⟩) hb).trans x5
  have xx6 := (k9.cell (p := ⟨b, 6, none⟩) hb).trans x6
  have K9 := Lib.hid k9
  clear KC0 k9
  go_wp2_with (go_at_call 65; refine KC.out.mono ?_; rintro r1 w1 ⟨rfl, q1, k1⟩; have K1 := Lib.hid (below_grown K9.out k1 (Nat.le_refl _) K9.out.size); clear q1 k1)
  go_ret
  exact ⟨rfl, HB0.out.trans (K1.out.mono (hbq ▸ s0))⟩
theorem within_any : ∀ (d : Nat) (x : Ex d) (v : Value) (w : World), ExIs w d v x → Sm d x → sizeK d x ≤ 4096 → Calls Try.prog 43 #[v, .int .i64 1048576, .int .i64 4096] w fun r w' => r = .returned (.bool true) ∧ Below w.heap.size w w'
  | 0, x, _, _, _, _, _ => nomatch (x : Empty)
  | d + 1, x, v, w, h, hs, hz => within_step d v x w h hs hz
set_option maxRecDepth 100000 in
set_option maxHeartbeats 8000000 in
theorem rlong_step (d : Nat) (v : Value) (e : ExN (Ex d)) (w : World) (h : ExIs w (d + 1) v e) (hs : Sm (d + 1) e) (hz : sizeK (d + 1) e ≤ 4096) :
    Calls Try.prog 27 #[v] w fun r w' => r = .returned (.bool false) ∧ Below w.heap.size w w' := by
  obtain ⟨l0, rfl, hp⟩ := h
  obtain ⟨pa, pb, pc, pd, pa2, pb2, pc2, pd2, rfl⟩ := parts_form hp
  have hx0 : ExIs w (d + 1) (.agg #[.int .i64 e.kind, .string e.name, .int .i64 e.num, .slice pa e.params.length pa2, .slice pb e.binds.length pb2, .slice pc e.args.length pc2, .slice pd e.alts.length pd2]) e := ⟨_, rfl, hp⟩
  have hbx : ExAt (w.alloc (.cells #[.int .i64 e.kind, .string e.name, .int .i64 e.num, .slice pa e.params.length pa2, .slice pb e.binds.length pb2, .slice pc e.args.length pc2, .slice pd e.alts.length pd2] 29)) (d + 1) w.heap.size 0 e := ExIs.boxed (t := 29) (d := d + 1) (W := w) (x := e) ⟨_, rfl, hp⟩
  have R0 := Blk.new w #[.int .i64 e.kind, .string e.name, .int .i64 e.num, .slice pa e.params.length pa2, .slice pb e.binds.length pb2, .slice pc e.args.length pc2, .slice pd e.alts.length pd2] 29
  have hB0 : Below w.heap.size w (w.alloc (.cells #[.int .i64 e.kind, .string e.name, .int .i64 e.num, .slice pa e.params.length pa2, .slice pb e.binds.length pb2, .slice pc e.args.length pc2, .slice pd e.alts.length pd2] 29)) := (Below.refl _ w).alloc (Nat.le_refl _) _
  have HX0 := Lib.hid hx0
  have HBX := Lib.hid hbx
  have HS := Lib.hid hs
  unfold exV
  clear hp hx0 hbx hs
  generalize e.kind = kd at R0 hB0 HX0 HBX ⊢
  generalize e.name = nm at R0 hB0 HX0 HBX ⊢
  generalize e.num = nu at R0 hB0 HX0 HBX ⊢
  generalize e.params.length = n3 at R0 hB0 HX0 HBX ⊢
  generalize e.binds.length = n4 at R0 hB0 HX0 HBX ⊢
  generalize e.args.length = n5 at R0 hB0 HX0 HBX ⊢
  generalize e.alts.length = n6 at R0 hB0 HX0 HBX ⊢
  go_enter Try.func27, Try.ntmps27
  go_upto_region 1 with fail
  generalize w.alloc (.cells #[.int .i64 kd, .string nm, .int .i64 nu, .slice pa n3 pa2, .slice pb n4 pb2, .slice pc n5 pc2, .slice pd n6 pd2] 29) = W0 at R0 hB0 HBX ⊢
  have HB0 := Lib.hid hB0
  have HR0 := Lib.hid R0
  generalize hbq : w.heap.size = b at R0 HBX HR0 ⊢
  have x0 : W0.cell? ⟨b, 0, none⟩ = _ := R0.cell 0
  have x1 : W0.cell? ⟨b, 1, none⟩ = _ := R0.cell 1
  have x2 : W0.cell? ⟨b, 2, none⟩ = _ := R0.cell 2
  have x3 : W0.cell? ⟨b, 3, none⟩ = _ := R0.cell 3
  have x4 : W0.cell? ⟨b, 4, none⟩ = _ := R0.cell 4
  have x5 : W0.cell? ⟨b, 5, none⟩ = _ := R0.cell 5
  have x6 : W0.cell? ⟨b, 6, none⟩ = _ := R0.cell 6
  simp only [List.getElem?_toArray, List.getElem?_cons_zero, List.getElem?_cons_succ] at x0 x1 x2 x3 x4 x5 x6
  have hb := R0.lt
  clear R0 hB0
  have KC := Lib.hid (within_any (d + 1) e _ W0 (ExIs.below HB0.out _ _ _ HX0.out) HS.out hz)
  go_wp2_with (go_at_call 43; refine KC.out.mono ?_; rintro r1 w1 ⟨rfl, k1⟩)
  go_ret
  exact ⟨rfl, chain HB0.out k1⟩
theorem rlong_any : ∀ (d : Nat) (x : Ex d) (v : Value) (w : World), ExIs w d v x → Sm d x → sizeK d x ≤ 4096 → Calls Try.prog 27 #[v] w fun r w' => r = .returned (.bool false) ∧ Below w.heap.size w w'
  | 0, x, _, _, _, _, _ => nomatch (x : Empty)
  | d + 1, x, v, w, h, hs, hz => rlong_step d v x w h hs hz
set_option maxRecDepth 100000 in
set_option maxHeartbeats 8000000 in
theorem rOf_step (d : Nat) (v : Value) (e : ExN (Ex d)) (s : ByteArray) (w : World) (h : ExIs w (d + 1) v e) (hs : Sm (d + 1) e) (hz : sizeK (d + 1) e ≤ 4096) :
    Calls Try.prog 14 #[v, .string s] w fun r w' => r = .returned (.tuple #[.int .i64 (ofK 1 5 s (d + 1) e), .int .i64 0]) ∧ Below w.heap.size w w' := by
  obtain ⟨l0, rfl, hp⟩ := h
  obtain ⟨pa, pb, pc, pd, pa2, pb2, pc2, pd2, rfl⟩ := parts_form hp
  have hx0 : ExIs w (d + 1) (.agg #[.int .i64 e.kind, .string e.name, .int .i64 e.num, .slice pa e.params.length pa2, .slice pb e.binds.length pb2, .slice pc e.args.length pc2, .slice pd e.alts.length pd2]) e := ⟨_, rfl, hp⟩
  have hbx : ExAt (w.alloc (.cells #[.int .i64 e.kind, .string e.name, .int .i64 e.num, .slice pa e.params.length pa2, .slice pb e.binds.length pb2, .slice pc e.args.length pc2, .slice pd e.alts.length pd2] 29)) (d + 1) w.heap.size 0 e := ExIs.boxed (t := 29) (d := d + 1) (W := w) (x := e) ⟨_, rfl, hp⟩
  have R0 := Blk.new w #[.int .i64 e.kind, .string e.name, .int .i64 e.num, .slice pa e.params.length pa2, .slice pb e.binds.length pb2, .slice pc e.args.length pc2, .slice pd e.alts.length pd2] 29
  have hB0 : Below w.heap.size w (w.alloc (.cells #[.int .i64 e.kind, .string e.name, .int .i64 e.num, .slice pa e.params.length pa2, .slice pb e.binds.length pb2, .slice pc e.args.length pc2, .slice pd e.alts.length pd2] 29)) := (Below.refl _ w).alloc (Nat.le_refl _) _
  have HX0 := Lib.hid hx0
  have HBX := Lib.hid hbx
  have HS := Lib.hid hs
  unfold exV
  clear hp hx0 hbx hs
  generalize e.kind = kd at R0 hB0 HX0 HBX ⊢
  generalize e.name = nm at R0 hB0 HX0 HBX ⊢
  generalize e.num = nu at R0 hB0 HX0 HBX ⊢
  generalize e.params.length = n3 at R0 hB0 HX0 HBX ⊢
  generalize e.binds.length = n4 at R0 hB0 HX0 HBX ⊢
  generalize e.args.length = n5 at R0 hB0 HX0 HBX ⊢
  generalize e.alts.length = n6 at R0 hB0 HX0 HBX ⊢
  go_enter Try.func14, Try.ntmps14
  go_upto_region 1 with fail
  generalize w.alloc (.cells #[.int .i64 kd, .string nm, .int .i64 nu, .slice pa n3 pa2, .slice pb n4 pb2, .slice pc n5 pc2, .slice pd n6 pd2] 29) = W0 at R0 hB0 HBX ⊢
  have HB0 := Lib.hid hB0
  have HR0 := Lib.hid R0
  generalize hbq : w.heap.size = b at R0 HBX HR0 ⊢
  have x0 : W0.cell? ⟨b, 0, none⟩ = _ := R0.cell 0
  have x1 : W0.cell? ⟨b, 1, none⟩ = _ := R0.cell 1
  have x2 : W0.cell? ⟨b, 2, none⟩ = _ := R0.cell 2
  have x3 : W0.cell? ⟨b, 3, none⟩ = _ := R0.cell 3
  have x4 : W0.cell? ⟨b, 4, none⟩ = _ := R0.cell 4
  have x5 : W0.cell? ⟨b, 5, none⟩ = _ := R0.cell 5
  have x6 : W0.cell? ⟨b, 6, none⟩ = _ := R0.cell 6
  simp only [List.getElem?_toArray, List.getElem?_cons_zero, List.getElem?_cons_succ] at x0 x1 x2 x3 x4 x5 x6
  have hb := R0.lt
  clear R0 hB0
  have KL := Lib.hid (rlong_any (d + 1) e _ W0 (ExIs.below HB0.out _ _ _ HX0.out) HS.out hz)
  have HC := Lib.hid (show ∀ W, Below W0.heap.size W0 W → W.cell? ⟨b, 0, none⟩ = some (.int .i64 kd) ∧ W.cell? ⟨b, 1, none⟩ = some (.string nm) ∧ W.cell? ⟨b, 2, none⟩ = some (.int .i64 nu) ∧ W.cell? ⟨b, 3, none⟩ = some (.slice pa n3 pa2) ∧ W.cell? ⟨b, 4, none⟩ = some (.slice pb n4 pb2) ∧ W.cell? ⟨b, 5, none⟩ = some (.slice pc n5 pc2) ∧ W.cell? ⟨b, 6, none⟩ = some (.slice pd n6 pd2) from fun W hW => by
    have R2 := HR0.out.below hW HR0.out.lt
    exact ⟨R2.cell 0, R2.cell 1, R2.cell 2, R2.cell 3, R2.cell 4, R2.cell 5, R2.cell 6⟩)
  have KO := Lib.hid (fun W (hW : Below W0.heap.size W0 W) => rof_any s (d + 1) e _ W (ExIs.below (HB0.out.trans (hW.mono (hbq ▸ HB0.out.size))) _ _ _ HX0.out) HS.out)
  go_wp2_with (first | (go_at_call 27; refine KL.out.mono ?_; rintro r1 w1 ⟨rfl, k1⟩; have K1 := Lib.hid k1; obtain ⟨z0, z1, z2, z3, z4, z5, z6⟩ := HC.out _ k1) | (go_at_call 28; refine (KO.out _ K1.out).mono ?_; rintro r2 w2 ⟨rfl, k2⟩))
  refine bodyPost_ret (v := .tuple #[.int .i64 (ofK 1 5 s (d + 1) e), .int .i64 0]) (by simp [results, Try.results14, go_sem]) rfl ?_
  exact ⟨rfl, chain HB0.out (chain K1.out k2)⟩
set_option maxRecDepth 100000 in
set_option maxHeartbeats 8000000 in
theorem rCount_step (d : Nat) (v : Value) (e : ExN (Ex d)) (s : ByteArray) (w : World) (h : ExIs w (d + 1) v e) (hs : Sm (d + 1) e) (hz : sizeK (d + 1) e ≤ 4096) :
    Calls Try.prog 16 #[v, .string s] w fun r w' => r = .returned (.tuple #[.int .i64 (cntK s (d + 1) e), .int .i64 0]) ∧ Below w.heap.size w w' := by
  obtain ⟨l0, rfl, hp⟩ := h
  obtain ⟨pa, pb, pc, pd, pa2, pb2, pc2, pd2, rfl⟩ := parts_form hp
  have hx0 : ExIs w (d + 1) (.agg #[.int .i64 e.kind, .string e.name, .int .i64 e.num, .slice pa e.params.length pa2, .slice pb e.binds.length pb2, .slice pc e.args.length pc2, .slice pd e.alts.length pd2]) e := ⟨_, rfl, hp⟩
  have hbx : ExAt (w.alloc (.cells #[.int .i64 e.kind, .string e.name, .int .i64 e.num, .slice pa e.params.length pa2, .slice pb e.binds.length pb2, .slice pc e.args.length pc2, .slice pd e.alts.length pd2] 29)) (d + 1) w.heap.size 0 e := ExIs.boxed (t := 29) (d := d + 1) (W := w) (x := e) ⟨_, rfl, hp⟩
  have R0 := Blk.new w #[.int .i64 e.kind, .string e.name, .int .i64 e.num, .slice pa e.params.length pa2, .slice pb e.binds.length pb2, .slice pc e.args.length pc2, .slice pd e.alts.length pd2] 29
  have hB0 : Below w.heap.size w (w.alloc (.cells #[.int .i64 e.kind, .string e.name, .int .i64 e.num, .slice pa e.params.length pa2, .slice pb e.binds.length pb2, .slice pc e.args.length pc2, .slice pd e.alts.length pd2] 29)) := (Below.refl _ w).alloc (Nat.le_refl _) _
  have HX0 := Lib.hid hx0
  have HBX := Lib.hid hbx
  have HS := Lib.hid hs
  unfold exV
  clear hp hx0 hbx hs
  generalize e.kind = kd at R0 hB0 HX0 HBX ⊢
  generalize e.name = nm at R0 hB0 HX0 HBX ⊢
  generalize e.num = nu at R0 hB0 HX0 HBX ⊢
  generalize e.params.length = n3 at R0 hB0 HX0 HBX ⊢
  generalize e.binds.length = n4 at R0 hB0 HX0 HBX ⊢
  generalize e.args.length = n5 at R0 hB0 HX0 HBX ⊢
  generalize e.alts.length = n6 at R0 hB0 HX0 HBX ⊢
  go_enter Try.func16, Try.ntmps16
  go_upto_region 1 with fail
  generalize w.alloc (.cells #[.int .i64 kd, .string nm, .int .i64 nu, .slice pa n3 pa2, .slice pb n4 pb2, .slice pc n5 pc2, .slice pd n6 pd2] 29) = W0 at R0 hB0 HBX ⊢
  have HB0 := Lib.hid hB0
  have HR0 := Lib.hid R0
  generalize hbq : w.heap.size = b at R0 HBX HR0 ⊢
  have x0 : W0.cell? ⟨b, 0, none⟩ = _ := R0.cell 0
  have x1 : W0.cell? ⟨b, 1, none⟩ = _ := R0.cell 1
  have x2 : W0.cell? ⟨b, 2, none⟩ = _ := R0.cell 2
  have x3 : W0.cell? ⟨b, 3, none⟩ = _ := R0.cell 3
  have x4 : W0.cell? ⟨b, 4, none⟩ = _ := R0.cell 4
  have x5 : W0.cell? ⟨b, 5, none⟩ = _ := R0.cell 5
  have x6 : W0.cell? ⟨b, 6, none⟩ = _ := R0.cell 6
  simp only [List.getElem?_toArray, List.getElem?_cons_zero, List.getElem?_cons_succ] at x0 x1 x2 x3 x4 x5 x6
  have hb := R0.lt
  clear R0 hB0
  have KL := Lib.hid (rlong_any (d + 1) e _ W0 (ExIs.below HB0.out _ _ _ HX0.out) HS.out hz)
  have HC := Lib.hid (show ∀ W, Below W0.heap.size W0 W → W.cell? ⟨b, 0, none⟩ = some (.int .i64 kd) ∧ W.cell? ⟨b, 1, none⟩ = some (.string nm) ∧ W.cell? ⟨b, 2, none⟩ = some (.int .i64 nu) ∧ W.cell? ⟨b, 3, none⟩ = some (.slice pa n3 pa2) ∧ W.cell? ⟨b, 4, none⟩ = some (.slice pb n4 pb2) ∧ W.cell? ⟨b, 5, none⟩ = some (.slice pc n5 pc2) ∧ W.cell? ⟨b, 6, none⟩ = some (.slice pd n6 pd2) from fun W hW => by
    have R2 := HR0.out.below hW HR0.out.lt
    exact ⟨R2.cell 0, R2.cell 1, R2.cell 2, R2.cell 3, R2.cell 4, R2.cell 5, R2.cell 6⟩)
  have KO := Lib.hid (fun W (hW : Below W0.heap.size W0 W) => rcount_any s (d + 1) e _ W (ExIs.below (HB0.out.trans (hW.mono (hbq ▸ HB0.out.size))) _ _ _ HX0.out) HS.out)
  go_wp2_with (first | (go_at_call 27; refine KL.out.mono ?_; rintro r1 w1 ⟨rfl, k1⟩; have K1 := Lib.hid k1; obtain ⟨z0, z1, z2, z3, z4, z5, z6⟩ := HC.out _ k1) | (go_at_call 30; refine (KO.out _ K1.out).mono ?_; rintro r2 w2 ⟨rfl, k2⟩))
  refine bodyPost_ret (v := .tuple #[.int .i64 (cntK s (d + 1) e), .int .i64 0]) (by simp [results, Try.results16, go_sem]) rfl ?_
  exact ⟨rfl, chain HB0.out (chain K1.out k2)⟩
set_option maxRecDepth 100000 in
set_option maxHeartbeats 8000000 in
theorem rAll_step (d : Nat) (v : Value) (e : ExN (Ex d)) (w : World) (h : ExIs w (d + 1) v e) (hs : Sm (d + 1) e) (hz : sizeK (d + 1) e ≤ 4096) (hn : (allK 1 5 (d + 1) e).length ≤ 10000000) :
    Calls Try.prog 18 #[v] w fun r w' => (∃ v', r = .returned (.tuple #[v', .int .i64 0]) ∧ OOwn w' w.heap.size v' (allK 1 5 (d + 1) e)) ∧ Below w.heap.size w w' := by
  obtain ⟨l0, rfl, hp⟩ := h
  obtain ⟨pa, pb, pc, pd, pa2, pb2, pc2, pd2, rfl⟩ := parts_form hp
  have hx0 : ExIs w (d + 1) (.agg #[.int .i64 e.kind, .string e.name, .int .i64 e.num, .slice pa e.params.length pa2, .slice pb e.binds.length pb2, .slice pc e.args.length pc2, .slice pd e.alts.length pd2]) e := ⟨_, rfl, hp⟩
  have hbx : ExAt (w.alloc (.cells #[.int .i64 e.kind, .string e.name, .int .i64 e.num, .slice pa e.params.length pa2, .slice pb e.binds.length pb2, .slice pc e.args.length pc2, .slice pd e.alts.length pd2] 29)) (d + 1) w.heap.size 0 e := ExIs.boxed (t := 29) (d := d + 1) (W := w) (x := e) ⟨_, rfl, hp⟩
  have R0 := Blk.new w #[.int .i64 e.kind, .string e.name, .int .i64 e.num, .slice pa e.params.length pa2, .slice pb e.binds.length pb2, .slice pc e.args.length pc2, .slice pd e.alts.length pd2] 29
  have hB0 : Below w.heap.size w (w.alloc (.cells #[.int .i64 e.kind, .string e.name, .int .i64 e.num, .slice pa e.params.length pa2, .slice pb e.binds.length pb2, .slice pc e.args.length pc2, .slice pd e.alts.length pd2] 29)) := (Below.refl _ w).alloc (Nat.le_refl _) _
  have HX0 := Lib.hid hx0
  have HBX := Lib.hid hbx
  have HS := Lib.hid hs
  unfold exV
  clear hp hx0 hbx hs
  generalize e.kind = kd at R0 hB0 HX0 HBX ⊢
  generalize e.name = nm at R0 hB0 HX0 HBX ⊢
  generalize e.num = nu at R0 hB0 HX0 HBX ⊢
  generalize e.params.length = n3 at R0 hB0 HX0 HBX ⊢
  generalize e.binds.length = n4 at R0 hB0 HX0 HBX ⊢
  generalize e.args.length = n5 at R0 hB0 HX0 HBX ⊢
  generalize e.alts.length = n6 at R0 hB0 HX0 HBX ⊢
  go_enter Try.func18, Try.ntmps18
  go_upto_region 1 with fail
  generalize w.alloc (.cells #[.int .i64 kd, .string nm, .int .i64 nu, .slice pa n3 pa2, .slice pb n4 pb2, .slice pc n5 pc2, .slice pd n6 pd2] 29) = W0 at R0 hB0 HBX ⊢
  have HB0 := Lib.hid hB0
  have HR0 := Lib.hid R0
  generalize hbq : w.heap.size = b at R0 HBX HR0 ⊢
  have x0 : W0.cell? ⟨b, 0, none⟩ = _ := R0.cell 0
  have x1 : W0.cell? ⟨b, 1, none⟩ = _ := R0.cell 1
  have x2 : W0.cell? ⟨b, 2, none⟩ = _ := R0.cell 2
  have x3 : W0.cell? ⟨b, 3, none⟩ = _ := R0.cell 3
  have x4 : W0.cell? ⟨b, 4, none⟩ = _ := R0.cell 4
  have x5 : W0.cell? ⟨b, 5, none⟩ = _ := R0.cell 5
  have x6 : W0.cell? ⟨b, 6, none⟩ = _ := R0.cell 6
  simp only [List.getElem?_toArray, List.getElem?_cons_zero, List.getElem?_cons_succ] at x0 x1 x2 x3 x4 x5 x6
  have hb := R0.lt
  clear R0 hB0
  have KL := Lib.hid (rlong_any (d + 1) e _ W0 (ExIs.below HB0.out _ _ _ HX0.out) HS.out hz)
  have HC := Lib.hid (show ∀ W, Below W0.heap.size W0 W → W.cell? ⟨b, 0, none⟩ = some (.int .i64 kd) ∧ W.cell? ⟨b, 1, none⟩ = some (.string nm) ∧ W.cell? ⟨b, 2, none⟩ = some (.int .i64 nu) ∧ W.cell? ⟨b, 3, none⟩ = some (.slice pa n3 pa2) ∧ W.cell? ⟨b, 4, none⟩ = some (.slice pb n4 pb2) ∧ W.cell? ⟨b, 5, none⟩ = some (.slice pc n5 pc2) ∧ W.cell? ⟨b, 6, none⟩ = some (.slice pd n6 pd2) from fun W hW => by
    have R2 := HR0.out.below hW HR0.out.lt
    exact ⟨R2.cell 0, R2.cell 1, R2.cell 2, R2.cell 3, R2.cell 4, R2.cell 5, R2.cell 6⟩)
  have KO := Lib.hid (fun W (hW : Below W0.heap.size W0 W) => rall_any (d + 1) e _ W (ExIs.below (HB0.out.trans (hW.mono (hbq ▸ HB0.out.size))) _ _ _ HX0.out) HS.out hn)
  go_wp2_with (first | (go_at_call 27; refine KL.out.mono ?_; rintro r1 w1 ⟨rfl, k1⟩; have K1 := Lib.hid k1; obtain ⟨z0, z1, z2, z3, z4, z5, z6⟩ := HC.out _ k1) | (go_at_call 32; refine (KO.out _ K1.out).mono ?_; rintro r2 w2 ⟨v2, rfl, o2, k2⟩))
  refine bodyPost_ret (v := .tuple #[v2, .int .i64 0]) (by simp [results, Try.results18, go_sem]) rfl ?_
  exact ⟨⟨_, rfl, own_low o2 (Nat.le_trans HB0.out.size K1.out.size)⟩, chain HB0.out (chain K1.out k2)⟩
end Go.Proofs.Ytkcgchpflppmnaa
