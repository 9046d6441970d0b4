/- The reference's InLet: one level. (Under way.) -/
import Derived.Test.YtkcgchpflppmnaaOcK
namespace Go.Proofs.Ytkcgchpflppmnaa
open Go.RowKit
set_option linter.unusedSimpArgs false
set_option linter.unusedVariables false

set_option maxRecDepth 100000 in
set_option maxHeartbeats 8000000 in
theorem rInLet_any (d : Nat) (v : Value) (e : ExN (Ex d)) (s : ByteArray) (w : World) (h : ExIs w (d + 1) v e) (hs : Sm (d + 1) e)
    (hof : ∀ (x : Ex d) (v : Value) (W : World), ExIs W d v x → Sm d x → Calls Try.prog 28 #[v, .string s] W fun r W' => r = .returned (.int .i64 (ofK 1 5 s d x)) ∧ Below W.heap.size W W') :
    Calls Try.prog 46 #[v, .string s] w fun r w' => r = .returned (.int .i64 (inLetK (ofK 1 5 s d) 1 e s)) ∧ Below w.heap.size w w' := by
  obtain ⟨l0, rfl, hp⟩ := h
  obtain ⟨pa, pb, pc, pd, pa2, pb2, pc2, pd2, rfl⟩ := parts_form hp
  have hbx : ExAt (w.alloc (.cells #[.int .i64 e.kind, .string e.name, .int .i64 e.num, .slice pa e.params.length pa2, .slice pb e.binds.length pb2, .slice pc e.args.length pc2, .slice pd e.alts.length pd2] 29)) (d + 1) w.heap.size 0 e := ExIs.boxed (t := 29) (d := d + 1) (W := w) (x := e) ⟨_, rfl, hp⟩
  have HB0 := Lib.hid (show Below w.heap.size w (w.alloc (.cells #[.int .i64 e.kind, .string e.name, .int .i64 e.num, .slice pa e.params.length pa2, .slice pb e.binds.length pb2, .slice pc e.args.length pc2, .slice pd e.alts.length pd2] 29)) from (Below.refl _ w).alloc (Nat.le_refl _) _)
  have hb := (Blk.new w #[.int .i64 e.kind, .string e.name, .int .i64 e.num, .slice pa e.params.length pa2, .slice pb e.binds.length pb2, .slice pc e.args.length pc2, .slice pd e.alts.length pd2] 29).lt
  clear hp
  unfold exV
  go_enter Try.func46, Try.ntmps46
  go_upto_region 1 with fail
  generalize w.alloc (.cells #[.int .i64 e.kind, .string e.name, .int .i64 e.num, .slice pa e.params.length pa2, .slice pb e.binds.length pb2, .slice pc e.args.length pc2, .slice pd e.alts.length pd2] 29) = W0 at hbx HB0 hb ⊢
  generalize w.heap.size = b at hbx hb ⊢
  obtain ⟨cs, hcs, ps, bs, es, ls, rfl, h1, ⟨q4, r4, rfl, h2⟩, ⟨q5, r5, rfl, h3⟩, ⟨q6, r6, rfl, h4⟩⟩ := hbx
  have hcl := fun j c hj W (hW : Below W0.heap.size W0 W) => (hW.cell (p := ⟨b, j, none⟩) hb).trans (show W0.cell? ⟨b, j, none⟩ = some c by have := hcs j c hj; rwa [Nat.zero_add] at this)
  have C0 := Lib.hid (hcl 0 _ rfl)
  have C1 := Lib.hid (hcl 1 _ rfl)
  have C4 := Lib.hid (hcl 4 _ rfl)
  have C5 := Lib.hid (hcl 5 _ rfl)
  have C6 := Lib.hid (hcl 6 _ rfl)
  obtain ⟨N4, hN4⟩ : ∃ N, e.binds.length = N := ⟨_, rfl⟩
  obtain ⟨N5, hN5⟩ : ∃ N, e.args.length = N := ⟨_, rfl⟩
  obtain ⟨N6, hN6⟩ : ∃ N, e.alts.length = N := ⟨_, rfl⟩
  have m4 : N4 ≤ 10000000 := hN4 ▸ hs.2.1.1
  have m5 : N5 ≤ 10000000 := hN5 ▸ hs.2.2.1.1
  have m6 : N6 ≤ 10000000 := hN6 ▸ hs.2.2.2.1
  rw [hN4] at C4
  rw [hN5] at C5
  rw [hN6] at C6
  have HN4 := Lib.hid hN4
  have HN5 := Lib.hid hN5
  have HN6 := Lib.hid hN6
  have H2 := Lib.hid (show True ∧ _ from ⟨trivial, h2⟩)
  have H3 := Lib.hid h3
  have H4 := Lib.hid h4
  have HS := Lib.hid hs
  have HOF := Lib.hid hof
  have HIN := Lib.hid (of_in 1 5 s d)
  obtain ⟨kd, hkd⟩ : ∃ kd, e.kind = kd := ⟨_, rfl⟩
  obtain ⟨nm, hnm⟩ : ∃ nm, e.name = nm := ⟨_, rfl⟩
  rw [hkd] at C0
  rw [hnm] at C1
  have HKD := Lib.hid hkd
  have HNM := Lib.hid hnm
  clear hcs hcl h1 h2 h3 h4 hs hof hN4 hN5 hN6 hkd hnm
  obtain ⟨st, hst⟩ : ∃ st : Int, (if e.kind = 1 ∧ e.name = s then (2 : Int) else 1) = st := ⟨_, rfl⟩
  have HST := Lib.hid hst
  have hcase : ((kd == 1) = false ∧ decide (kd = 1) = false ∧ Hid (st = 1)) ∨ ((kd == 1) = true ∧ decide (kd = 1) = true ∧ (nm.toList == s.toList) = false ∧ Hid (st = 1)) ∨ ((kd == 1) = true ∧ decide (kd = 1) = true ∧ (nm.toList == s.toList) = true ∧ Hid (st = 2)) := by
    by_cases e1 : kd = 1
    · by_cases e2 : nm = s
      · exact .inr (.inr ⟨by simp [e1], by simp [e1], by rw [e2]; simp, Lib.hid (by rw [← hst, if_pos ⟨HKD.out.trans e1, HNM.out.trans e2⟩])⟩)
      · exact .inr (.inl ⟨by simp [e1], by simp [e1], toList_ne e2, Lib.hid (by rw [← hst, if_neg (fun h => e2 (HNM.out.symm.trans h.2))])⟩)
    · exact .inl ⟨by simp [e1], by simp [e1], Lib.hid (by rw [← hst, if_neg (fun h => e1 (HKD.out.symm.trans h.1))])⟩
  clear hst
  rcases hcase with ⟨k1, k2, S0⟩ | ⟨k1, k2, k3, S0⟩ | ⟨k1, k2, k3, S0⟩
  all_goals
    have c0 := C0.out W0 (Below.refl _ _)
    have c1 := C1.out W0 (Below.refl _ _)
    go_upto_region 5 with fail
    go_loopw [5, 6] (fun v i wr => ∃ (k : Nat) (m : Int), i = .int .i64 k ∧ v = .int .i64 m ∧ k ≤ N4 ∧ Hid (1 ≤ m ∧ m ≤ 5) ∧ Hid (m = (e.binds.take k).foldl (fun o x => bothK o (ofK 1 5 s d x.2)) st) ∧ Below W0.heap.size W0 wr) (fun _ i _ => N4 - (intOf i).toNat)
    case atStart => exact ⟨0, _, rfl, rfl, Nat.zero_le _, Lib.hid (by omega), Lib.hid S0.out.symm, Below.refl _ _⟩
    case round =>
      obtain ⟨k, m, rfl, rfl, hk, HM, HF, hB⟩ := hrel
      have g4 := C4.out wr hB
      by_cases hlt : k < N4
      · have hlt2 : decide ((k : Int) < (N4 : Int)) = true := by simp; omega
        have hlt3 : decide (k < N4) = true := by simp; omega
        have hkt : k < e.binds.length := by rw [HN4.out]; exact hlt
        obtain ⟨p, o', hq, hp, hat⟩ := H2.out.2 (by omega)
        subst hq
        obtain ⟨x, hx⟩ : ∃ x, e.binds[k]? = some x := ⟨_, List.getElem?_eq_getElem hkt⟩
        have hi0 : (0 : Int) ≤ (k : Int) := by omega
        have hsz := hB.size
        obtain ⟨y0, y1, y2, y3, y4, y5, y6, z3, x3, z4, x4, z5, x5, z6, x6, hyc, hyv⟩ := ex_val (ExAt.below hB d p _ x.2 hp (hat k x hx).2)
        have KO := Lib.hid (HOF.out x.2 _ wr hyv (HS.out.2.1.2 x (List.mem_of_getElem? hx)))
        have v0 := hyc 0 _ rfl
        have v1 := hyc 1 _ rfl
        have v2 := hyc 2 _ rfl
        have v3 := hyc 3 _ rfl
        have v4 := hyc 4 _ rfl
        have v5 := hyc 5 _ rfl
        have v6 := hyc 6 _ rfl
        rw [Nat.add_zero] at v0
        unfold exV at KO
        have HX := Lib.hid hx
        have HB := Lib.hid hB
        clear hat hx c0 c1 hyc hyv
        go_wp2_with (first | (go_at_call 28; refine KO.out.mono ?_; rintro r1 w1 ⟨rfl, b1⟩; have B1 := Lib.hid (chain HB.out b1)) | (go_at_call 66; refine (rboth_any HM.out (HIN.out x.2) _).mono ?_; rintro r2 w2 ⟨rfl, b2⟩; have B2 := Lib.hid (chain B1.out b2)))
        go_roundw
        case rel => exact ⟨k + 1, _, by go_num, rfl, by omega, Lib.hid (both_in HM.out (HIN.out x.2)), Lib.hid (by rw [fold_next _ _ HX.out, ← HF.out]), B2.out⟩
        case measure => simp [intOf]; omega
      · have hlt2 : decide ((k : Int) < (N4 : Int)) = false := by simp; omega
        have hlt3 : decide (k < N4) = false := by simp; omega
        obtain rfl : k = N4 := by omega
        have HF1 := Lib.hid (HF.out.trans (fold_all _ _ HN4.out))
        clear HF c0 c1
        go_upto_region 9 with fail
        go_loopw [5, 7] (fun v i wr => ∃ (k : Nat) (m : Int), i = .int .i64 k ∧ v = .int .i64 m ∧ k ≤ N5 ∧ Hid (1 ≤ m ∧ m ≤ 5) ∧ Hid (m = (e.args.take k).foldl (fun o x => bothK o (ofK 1 5 s d x)) (e.binds.foldl (fun o x => bothK o (ofK 1 5 s d x.2)) st)) ∧ Below W0.heap.size W0 wr) (fun _ i _ => N5 - (intOf i).toNat)
        case atStart => exact ⟨0, _, rfl, rfl, Nat.zero_le _, HM, HF1, hB⟩
        case round =>
          clear hB HM HF1 hlt hlt2 hlt3 g4
          obtain ⟨k, m2, rfl, rfl, hk, HM, HF, hB⟩ := hrel
          have g5 := C5.out _ hB
          by_cases hlt : k < N5
          · have hlt2 : decide ((k : Int) < (N5 : Int)) = true := by simp; omega
            have hlt3 : decide (k < N5) = true := by simp; omega
            have hkt : k < e.args.length := by rw [HN5.out]; exact hlt
            obtain ⟨p, o', hq, hp, hat⟩ := H3.out (by omega)
            subst hq
            obtain ⟨x, hx⟩ : ∃ x, e.args[k]? = some x := ⟨_, List.getElem?_eq_getElem hkt⟩
            have hi0 : (0 : Int) ≤ (k : Int) := by omega
            have hsz := hB.size
            obtain ⟨y0, y1, y2, y3, y4, y5, y6, z3, x3, z4, x4, z5, x5, z6, x6, hyc, hyv⟩ := ex_val (ExAt.below hB d p _ x hp (hat k x hx))
            have KO := Lib.hid (HOF.out x _ _ hyv (HS.out.2.2.1.2 x (List.mem_of_getElem? hx)))
            have v0 := hyc 0 _ rfl
            have v1 := hyc 1 _ rfl
            have v2 := hyc 2 _ rfl
            have v3 := hyc 3 _ rfl
            have v4 := hyc 4 _ rfl
            have v5 := hyc 5 _ rfl
            have v6 := hyc 6 _ rfl
            rw [Nat.add_zero] at v0
            unfold exV at KO
            have HX := Lib.hid hx
            have HB := Lib.hid hB
            clear hat hx hyc hyv
            go_wp2_with (first | (go_at_call 28; refine KO.out.mono ?_; rintro r1 w1 ⟨rfl, b1⟩; have B1 := Lib.hid (chain HB.out b1)) | (go_at_call 66; refine (rboth_any HM.out (HIN.out x) _).mono ?_; rintro r2 w2 ⟨rfl, b2⟩; have B2 := Lib.hid (chain B1.out b2)))
            go_roundw
            case rel => exact ⟨k + 1, _, by go_num, rfl, by omega, Lib.hid (both_in HM.out (HIN.out x)), Lib.hid (by rw [fold_next _ _ HX.out, ← HF.out]), B2.out⟩
            case measure => simp [intOf]; omega
          · have hlt2 : decide ((k : Int) < (N5 : Int)) = false := by simp; omega
            have hlt3 : decide (k < N5) = false := by simp; omega
            obtain rfl : k = N5 := by omega
            have HF2 := Lib.hid (HF.out.trans (fold_all _ _ HN5.out))
            have HM2 := HM
            clear HF HM
            go_upto_region 14 with fail
            go_loopw [8, 9] (fun v i wr => ∃ (k : Nat) (m : Int), i = .int .i64 k ∧ v = .int .i64 m ∧ k ≤ N6 ∧ Hid (1 ≤ m ∧ m ≤ 5) ∧ Hid (m = (e.alts.take k).foldl (fun o x => if s ∈ x.vars then o else eitherK o (ofK 1 5 s d x.e)) 1) ∧ Below W0.heap.size W0 wr) (fun _ i _ => N6 - (intOf i).toNat)
            case atStart => exact ⟨0, _, rfl, rfl, Nat.zero_le _, Lib.hid (by omega), Lib.hid rfl, hB⟩
            case round =>
              clear hB hlt hlt2 hlt3 hk g5
              obtain ⟨k, m, rfl, rfl, hk, HM, HF, hB⟩ := hrel
              have g6 := C6.out _ hB
              have hi0 : (0 : Int) ≤ (k : Int) := by omega
              have hsz := hB.size
              have HB := Lib.hid hB
              by_cases hlt : k < N6
              · have hlt2 : decide ((k : Int) < (N6 : Int)) = true := by simp; omega
                have hlt3 : decide (k < N6) = true := by simp; omega
                have hkt : k < e.alts.length := by rw [HN6.out]; exact hlt
                obtain ⟨p, o', hq, hp, hat⟩ := H4.out (by omega)
                subst hq
                obtain ⟨x, hx⟩ : ∃ x, e.alts[k]? = some x := ⟨_, List.getElem?_eq_getElem hkt⟩
                obtain ⟨vs, hcs, htx, hex⟩ := hat k x hx
                have hsm := HS.out.2.2.2.2 x (List.mem_of_getElem? hx)
                have a3 := (hB.cell (p := ⟨p, o' + k * 11 + 3, none⟩) hp).trans (hcs 3 _ rfl)
                have KV := Lib.hid (fun W (hW : Below W0.heap.size W0 W) => has_any vs x.vars s W (htx.below hW) (by omega))
                obtain ⟨y0, y1, y2, y3, y4, y5, y6, z3, x3, z4, x4, z5, x5, z6, x6, hyc, hyv⟩ := ex_val hex
                have KO := Lib.hid (fun W (hW : Below W0.heap.size W0 W) => HOF.out x.e _ W (ExIs.below hW d _ x.e hyv) hsm.2)
                unfold exV at KO
                have VV := Lib.hid (fun W (hW : Below W0.heap.size W0 W) => hyc.below hW hp)
                have vv := VV.out _ hB
                have v0 := vv 0 _ rfl
                have v1 := vv 1 _ rfl
                have v2 := vv 2 _ rfl
                have v3 := vv 3 _ rfl
                have v4 := vv 4 _ rfl
                have v5 := vv 5 _ rfl
                have v6 := vv 6 _ rfl
                rw [Nat.add_zero] at v0
                have HX := Lib.hid hx
                have G6 := Lib.hid (fun W (hW : Below W0.heap.size W0 W) => C6.out W hW)
                clear hat hx hcs htx hex hsm hyc hyv vv
                by_cases e1 : s ∈ x.vars
                · have d1 := decide_eq_true e1
                  go_wp2_with (go_at_call 44; refine (KV.out _ HB.out).mono ?_; rintro r1 w1 ⟨rfl, b1⟩; rw [d1]; have B1 := Lib.hid (chain HB.out b1))
                  go_roundw
                  case rel => exact ⟨k + 1, _, by go_num, rfl, by omega, HM, Lib.hid (by rw [fold_next _ _ HX.out, ← HF.out, if_pos e1]), B1.out⟩
                  case measure => simp [intOf]; omega
                · have d1 := decide_eq_false e1
                  go_wp2_with (first | (go_at_call 44; refine (KV.out _ HB.out).mono ?_; rintro r1 w1 ⟨rfl, b1⟩; rw [d1]; have B1 := Lib.hid (chain HB.out b1); have f6 := C6.out _ B1.out; have uu := VV.out _ B1.out; have u0 := uu 0 _ rfl; rw [Nat.add_zero] at u0; have u1 := uu 1 _ rfl; have u2 := uu 2 _ rfl; have u3 := uu 3 _ rfl; have u4' := uu 4 _ rfl; have u5' := uu 5 _ rfl; have u6' := uu 6 _ rfl; clear uu) | (go_at_call 28; refine (KO.out _ B1.out).mono ?_; rintro r2 w2 ⟨rfl, b2⟩; have B2 := Lib.hid (chain B1.out b2)) | (go_at_call 67; refine (reither_any HM.out (HIN.out x.e) _).mono ?_; rintro r3 w3 ⟨rfl, b3⟩; have B3 := Lib.hid (chain B2.out b3)))
                  go_roundw
                  case rel => exact ⟨k + 1, _, by go_num, rfl, by omega, Lib.hid (either_in HM.out (HIN.out x.e)), Lib.hid (by rw [fold_next _ _ HX.out, ← HF.out, if_neg e1]), B3.out⟩
                  case measure => simp [intOf]; omega
              · have hlt2 : decide ((k : Int) < (N6 : Int)) = false := by simp; omega
                have hlt3 : decide (k < N6) = false := by simp; omega
                obtain rfl : k = N6 := by omega
                have HF3 := Lib.hid (HF.out.trans (fold_all _ _ HN6.out))
                have HL : inLetK (ofK 1 5 s d) 1 e s = bothK m2 m := by
                  unfold inLetK
                  rw [HST.out, ← HF2.out, ← HF3.out]
                have HLh := Lib.hid HL
                clear hB hi0 hsz HL HF HF3
                go_wp2_with (go_at_call 66; refine (rboth_any HM2.out HM.out _).mono ?_; rintro r1 w1 ⟨rfl, b1⟩; have B1 := Lib.hid (chain HB.out b1))
                go_ret
                exact ⟨by rw [HLh.out]; rfl, chain HB0.out B1.out⟩
end Go.Proofs.Ytkcgchpflppmnaa
