/- The reference's count. -/
import Derived.Test.YtkcgchpflppmnaaOcN
namespace Go.Proofs.Ytkcgchpflppmnaa
open Go.RowKit
set_option linter.unusedSimpArgs false
set_option linter.unusedVariables false

set_option maxRecDepth 100000 in
set_option maxHeartbeats 8000000 in
theorem rcount_step (d : Nat) (v : Value) (e : ExN (Ex d)) (s : ByteArray) (w : World) (h : ExIs w (d + 1) v e) (hs : Sm (d + 1) e)
    (hof : ∀ (x : Ex d) (v : Value) (W : World), ExIs W d v x → Sm d x → Calls Try.prog 30 #[v, .string s] W fun r W' => r = .returned (.int .i64 (cntK s d x)) ∧ Below W.heap.size W W') :
    Calls Try.prog 30 #[v, .string s] w fun r w' => r = .returned (.int .i64 (cntK s (d + 1) e)) ∧ Below w.heap.size w w' := by
  obtain ⟨l0, rfl, hp⟩ := h
  obtain ⟨pa, pb, pc, pd, pa2, pb2, pc2, pd2, rfl⟩ := parts_form hp
  have hbx : ExAt (w.alloc (.cells #[.int .i64 e.kind, .string e.name, .int .i64 e.num, .slice pa e.params.length pa2, .slice pb e.binds.length pb2, .slice pc e.args.length pc2, .slice pd e.alts.length pd2] 29)) (d + 1) w.heap.size 0 e := ExIs.boxed (t := 29) (d := d + 1) (W := w) (x := e) ⟨_, rfl, hp⟩
  have HB0 := Lib.hid (show Below w.heap.size w (w.alloc (.cells #[.int .i64 e.kind, .string e.name, .int .i64 e.num, .slice pa e.params.length pa2, .slice pb e.binds.length pb2, .slice pc e.args.length pc2, .slice pd e.alts.length pd2] 29)) from (Below.refl _ w).alloc (Nat.le_refl _) _)
  have hb := (Blk.new w #[.int .i64 e.kind, .string e.name, .int .i64 e.num, .slice pa e.params.length pa2, .slice pb e.binds.length pb2, .slice pc e.args.length pc2, .slice pd e.alts.length pd2] 29).lt
  clear hp
  unfold exV
  go_enter Try.func30, Try.ntmps30
  go_upto_region 1 with fail
  generalize w.alloc (.cells #[.int .i64 e.kind, .string e.name, .int .i64 e.num, .slice pa e.params.length pa2, .slice pb e.binds.length pb2, .slice pc e.args.length pc2, .slice pd e.alts.length pd2] 29) = W0 at hbx HB0 hb ⊢
  generalize w.heap.size = b at hbx hb ⊢
  obtain ⟨cs, hcs, ps, bs, es, ls, rfl, h1, ⟨q4, r4, rfl, h2⟩, ⟨q5, r5, rfl, h3⟩, ⟨q6, r6, rfl, h4⟩⟩ := hbx
  have hcl := fun j c hj W (hW : Below W0.heap.size W0 W) => (hW.cell (p := ⟨b, j, none⟩) hb).trans (show W0.cell? ⟨b, j, none⟩ = some c by have := hcs j c hj; rwa [Nat.zero_add] at this)
  have C0 := Lib.hid (hcl 0 _ rfl)
  have C1 := Lib.hid (hcl 1 _ rfl)
  have C3 := Lib.hid (hcl 3 _ rfl)
  have C4 := Lib.hid (hcl 4 _ rfl)
  have C5 := Lib.hid (hcl 5 _ rfl)
  have C6 := Lib.hid (hcl 6 _ rfl)
  have hn1 : e.params.length ≤ 10000000 := hs.1
  have hn2 : (e.binds.map (·.1)).length ≤ 10000000 := by rw [List.length_map]; exact hs.2.1.1
  have KP := Lib.hid (fun W (hW : Below W0.heap.size W0 W) => has_any ps e.params s W (h1.below hW) (by omega))
  have KN := Lib.hid (fun W (hW : Below W0.heap.size W0 W) => bindNames_any (.slice q4 e.binds.length r4) (e.binds.map (·.1)) W (BNs.below (names_of ⟨q4, r4, rfl, h2⟩) hW) hn2)
  have KC := Lib.hid (fun W v (hv : Txs W v (e.binds.map (·.1))) => has_any v (e.binds.map (·.1)) s W hv (by omega))
  obtain ⟨N4, hN4⟩ : ∃ N, e.binds.length = N := ⟨_, rfl⟩
  obtain ⟨N5, hN5⟩ : ∃ N, e.args.length = N := ⟨_, rfl⟩
  obtain ⟨N6, hN6⟩ : ∃ N, e.alts.length = N := ⟨_, rfl⟩
  have m4 : N4 ≤ 10000000 := hN4 ▸ hs.2.1.1
  have m5 : N5 ≤ 10000000 := hN5 ▸ hs.2.2.1.1
  have m6 : N6 ≤ 10000000 := hN6 ▸ hs.2.2.2.1
  rw [hN4] at C4 KN
  rw [hN5] at C5
  rw [hN6] at C6
  have HN4 := Lib.hid hN4
  have HN5 := Lib.hid hN5
  have HN6 := Lib.hid hN6
  have H2 := Lib.hid (show True ∧ _ from ⟨trivial, h2⟩)
  have H3 := Lib.hid h3
  have H4 := Lib.hid h4
  have HS := Lib.hid hs
  have HOF := Lib.hid hof
  obtain ⟨kd, hkd⟩ : ∃ kd, e.kind = kd := ⟨_, rfl⟩
  obtain ⟨nm, hnm⟩ : ∃ nm, e.name = nm := ⟨_, rfl⟩
  rw [hkd] at C0
  rw [hnm] at C1
  have HKD := Lib.hid hkd
  have HNM := Lib.hid hnm
  clear hcs hcl h1 h2 h3 h4 hs hof hn1 hn2 hN4 hN5 hN6 hkd hnm
  obtain ⟨st, hst⟩ : ∃ st : Int, (if e.kind = 1 ∧ e.name = s then (1 : Int) else 0) = st := ⟨_, rfl⟩
  have HST := Lib.hid hst
  have hcase : ((kd == 1) = false ∧ decide (kd = 1) = false ∧ Hid (st = 0)) ∨ ((kd == 1) = true ∧ decide (kd = 1) = true ∧ (nm.toList == s.toList) = false ∧ Hid (st = 0)) ∨ ((kd == 1) = true ∧ decide (kd = 1) = true ∧ (nm.toList == s.toList) = true ∧ Hid (st = 1)) := by
    by_cases e1 : kd = 1
    · by_cases e2 : nm = s
      · exact .inr (.inr ⟨by simp [e1], by simp [e1], by rw [e2]; simp, Lib.hid (by rw [← hst, if_pos ⟨HKD.out.trans e1, HNM.out.trans e2⟩])⟩)
      · exact .inr (.inl ⟨by simp [e1], by simp [e1], toList_ne e2, Lib.hid (by rw [← hst, if_neg (fun h => e2 (HNM.out.symm.trans h.2))])⟩)
    · exact .inl ⟨by simp [e1], by simp [e1], Lib.hid (by rw [← hst, if_neg (fun h => e1 (HKD.out.symm.trans h.1))])⟩
  clear hst
  have HCD : cntK s (d + 1) e = (if hidesK e s = true then (0 : Int) else cntIn (cntK s d) e s) := rfl
  have c3 := C3.out W0 (Below.refl _ _)
  by_cases e1 : s ∈ e.params
  · have HR := Lib.hid (show cntK s (d + 1) e = 0 by rw [HCD, if_pos (by unfold hidesK; rw [decide_eq_true e1]; rfl)])
    have d1 := decide_eq_true e1
    clear HCD hcase
    go_wp2_with (go_at_call 44; refine (KP.out _ (Below.refl _ _)).mono ?_; rintro r1 w1 ⟨rfl, b1⟩; rw [d1])
    go_ret
    exact ⟨by rw [HR.out]; rfl, chain HB0.out b1⟩
  have d1 := decide_eq_false e1
  by_cases e2 : s ∈ e.binds.map (·.1)
  · have d2 := decide_eq_true e2
    have HR := Lib.hid (show cntK s (d + 1) e = 0 by rw [HCD, if_pos (by unfold hidesK; rw [d1, d2]; rfl)])
    clear HCD hcase
    go_wp2_with (first | (go_at_call 44; with_reducible (refine (KP.out _ (Below.refl _ _)).mono ?_); rintro r1 w1 ⟨rfl, b1⟩; rw [d1]; have B1 := Lib.hid b1; have c4 := C4.out _ b1) | (go_at_call 45; refine (KN.out _ B1.out).mono ?_; rintro r2 w2 ⟨v2, rfl, o2, b2⟩; have t2 := Lib.hid o2.txs; have B2 := Lib.hid (chain B1.out b2)) | (go_at_call 44; with_reducible (refine (KC.out _ _ t2.out).mono ?_); rintro r3 w3 ⟨rfl, b3⟩; rw [d2]; have B3 := Lib.hid (chain B2.out b3)))
    go_ret
    exact ⟨by rw [HR.out]; rfl, chain HB0.out B3.out⟩
  have d2 := decide_eq_false e2
  have HR := Lib.hid (show cntK s (d + 1) e = cntIn (cntK s d) e s by rw [HCD, if_neg (by unfold hidesK; rw [d1, d2]; decide)])
  clear HCD e1 e2
  rcases hcase with ⟨k1, k2, S0⟩ | ⟨k1, k2, k3, S0⟩ | ⟨k1, k2, k3, S0⟩
  all_goals
    go_upto_region 3 with (first | (go_at_call 44; with_reducible (refine (KP.out _ (Below.refl _ _)).mono ?_); rintro r1 w1 ⟨rfl, b1⟩; rw [d1]; have B1 := Lib.hid b1; have c4 := C4.out _ b1) | (go_at_call 45; refine (KN.out _ B1.out).mono ?_; rintro r2 w2 ⟨v2, rfl, o2, b2⟩; have t2 := Lib.hid o2.txs; have B2 := Lib.hid (chain B1.out b2)) | (go_at_call 44; with_reducible (refine (KC.out _ _ t2.out).mono ?_); rintro r3 w3 ⟨rfl, b3⟩; rw [d2]; have B3 := Lib.hid (chain B2.out b3)))
    clear c3 d1 d2
    have c0 := C0.out _ B3.out
    have c1 := C1.out _ B3.out
    go_upto_region 7 with fail
    go_loopw [5, 6] (fun v i wr => ∃ (k : Nat) (m : Int), i = .int .i64 k ∧ v = .int .i64 m ∧ k ≤ N4 ∧ Hid (m = (e.binds.take k).foldl (fun o x => addW o (cntK s d x.2)) st) ∧ Below W0.heap.size W0 wr) (fun _ i _ => N4 - (intOf i).toNat)
    case atStart => exact ⟨0, _, rfl, rfl, Nat.zero_le _, Lib.hid S0.out.symm, B3.out⟩
    case round =>
      obtain ⟨k, m, rfl, rfl, hk, HF, hB⟩ := hrel
      have g4 := C4.out wr hB
      by_cases hlt : k < N4
      · have hlt2 : decide ((k : Int) < (N4 : Int)) = true := by simp; omega
        have hlt3 : decide (k < N4) = true := by simp; omega
        have hkt : k < e.binds.length := by rw [HN4.out]; exact hlt
        obtain ⟨p, o', hq, hp, hat⟩ := H2.out.2 (by omega)
        subst hq
        obtain ⟨x, hx⟩ : ∃ x, e.binds[k]? = some x := ⟨_, List.getElem?_eq_getElem hkt⟩
        have hi0 : (0 : Int) ≤ (k : Int) := by omega
        have hsz := hB.size
        obtain ⟨y0, y1, y2, y3, y4, y5, y6, z3, x3, z4, x4, z5, x5, z6, x6, hyc, hyv⟩ := ex_val (ExAt.below hB d p _ x.2 hp (hat k x hx).2)
        have KO := Lib.hid (HOF.out x.2 _ wr hyv (HS.out.2.1.2 x (List.mem_of_getElem? hx)))
        have v0 := hyc 0 _ rfl
        have v1 := hyc 1 _ rfl
        have v2 := hyc 2 _ rfl
        have v3 := hyc 3 _ rfl
        have v4 := hyc 4 _ rfl
        have v5 := hyc 5 _ rfl
        have v6 := hyc 6 _ rfl
        rw [Nat.add_zero] at v0
        unfold exV at KO
        have HX := Lib.hid hx
        have HB := Lib.hid hB
        clear hat hx c0 c1 hyc hyv
        go_wp2_with (first | (go_at_call 30; refine KO.out.mono ?_; rintro r1 w1 ⟨rfl, b1⟩; have B1 := Lib.hid (chain HB.out b1)))
        go_roundw
        case rel => exact ⟨k + 1, _, by go_num, rfl, by omega, Lib.hid (by rw [fold_next _ _ HX.out, ← HF.out]; rfl), B1.out⟩
        case measure => simp [intOf]; omega
      · have hlt2 : decide ((k : Int) < (N4 : Int)) = false := by simp; omega
        have hlt3 : decide (k < N4) = false := by simp; omega
        obtain rfl : k = N4 := by omega
        have HF1 := Lib.hid (HF.out.trans (fold_all _ _ HN4.out))
        clear HF c0 c1
        go_upto_region 11 with fail
        go_loopw [5, 7] (fun v i wr => ∃ (k : Nat) (m : Int), i = .int .i64 k ∧ v = .int .i64 m ∧ k ≤ N5 ∧ Hid (m = (e.args.take k).foldl (fun o x => addW o (cntK s d x)) (e.binds.foldl (fun o x => addW o (cntK s d x.2)) st)) ∧ Below W0.heap.size W0 wr) (fun _ i _ => N5 - (intOf i).toNat)
        case atStart => exact ⟨0, _, rfl, rfl, Nat.zero_le _, HF1, hB⟩
        case round =>
          clear hB HF1 hlt hlt2 hlt3 g4
          obtain ⟨k, m2, rfl, rfl, hk, HF, hB⟩ := hrel
          have g5 := C5.out _ hB
          by_cases hlt : k < N5
          · have hlt2 : decide ((k : Int) < (N5 : Int)) = true := by simp; omega
            have hlt3 : decide (k < N5) = true := by simp; omega
            have hkt : k < e.args.length := by rw [HN5.out]; exact hlt
            obtain ⟨p, o', hq, hp, hat⟩ := H3.out (by omega)
            subst hq
            obtain ⟨x, hx⟩ : ∃ x, e.args[k]? = some x := ⟨_, List.getElem?_eq_getElem hkt⟩
            have hi0 : (0 : Int) ≤ (k : Int) := by omega
            have hsz := hB.size
            obtain ⟨y0, y1, y2, y3, y4, y5, y6, z3, x3, z4, x4, z5, x5, z6, x6, hyc, hyv⟩ := ex_val (ExAt.below hB d p _ x hp (hat k x hx))
            have KO := Lib.hid (HOF.out x _ _ hyv (HS.out.2.2.1.2 x (List.mem_of_getElem? hx)))
            have v0 := hyc 0 _ rfl
            have v1 := hyc 1 _ rfl
            have v2 := hyc 2 _ rfl
            have v3 := hyc 3 _ rfl
            have v4 := hyc 4 _ rfl
            have v5 := hyc 5 _ rfl
            have v6 := hyc 6 _ rfl
            rw [Nat.add_zero] at v0
            unfold exV at KO
            have HX := Lib.hid hx
            have HB := Lib.hid hB
            clear hat hx hyc hyv
            go_wp2_with (first | (go_at_call 30; refine KO.out.mono ?_; rintro r1 w1 ⟨rfl, b1⟩; have B1 := Lib.hid (chain HB.out b1)))
            go_roundw
            case rel => exact ⟨k + 1, _, by go_num, rfl, by omega, Lib.hid (by rw [fold_next _ _ HX.out, ← HF.out]; rfl), B1.out⟩
            case measure => simp [intOf]; omega
          · have hlt2 : decide ((k : Int) < (N5 : Int)) = false := by simp; omega
            have hlt3 : decide (k < N5) = false := by simp; omega
            obtain rfl : k = N5 := by omega
            have HF2 := Lib.hid (HF.out.trans (fold_all _ _ HN5.out))
            clear HF
            go_upto_region 15 with fail
            go_loopw [5, 8] (fun v i wr => ∃ (k : Nat) (m : Int), i = .int .i64 k ∧ v = .int .i64 m ∧ k ≤ N6 ∧ Hid (m = (e.alts.take k).foldl (fun o x => if s ∈ x.vars then o else addW o (cntK s d x.e)) (e.args.foldl (fun o x => addW o (cntK s d x)) (e.binds.foldl (fun o x => addW o (cntK s d x.2)) st))) ∧ Below W0.heap.size W0 wr) (fun _ i _ => N6 - (intOf i).toNat)
            case atStart => exact ⟨0, _, rfl, rfl, Nat.zero_le _, HF2, hB⟩
            case round =>
              clear hB hlt hlt2 hlt3 hk g5
              obtain ⟨k, m, rfl, rfl, hk, HF, hB⟩ := hrel
              have g6 := C6.out _ hB
              have hi0 : (0 : Int) ≤ (k : Int) := by omega
              have hsz := hB.size
              have HB := Lib.hid hB
              by_cases hlt : k < N6
              · have hlt2 : decide ((k : Int) < (N6 : Int)) = true := by simp; omega
                have hlt3 : decide (k < N6) = true := by simp; omega
                have hkt : k < e.alts.length := by rw [HN6.out]; exact hlt
                obtain ⟨p, o', hq, hp, hat⟩ := H4.out (by omega)
                subst hq
                obtain ⟨x, hx⟩ : ∃ x, e.alts[k]? = some x := ⟨_, List.getElem?_eq_getElem hkt⟩
                obtain ⟨vs, hcs, htx, hex⟩ := hat k x hx
                have hsm := HS.out.2.2.2.2 x (List.mem_of_getElem? hx)
                have a3 := (hB.cell (p := ⟨p, o' + k * 11 + 3, none⟩) hp).trans (hcs 3 _ rfl)
                have KV := Lib.hid (fun W (hW : Below W0.heap.size W0 W) => has_any vs x.vars s W (htx.below hW) (by omega))
                obtain ⟨y0, y1, y2, y3, y4, y5, y6, z3, x3, z4, x4, z5, x5, z6, x6, hyc, hyv⟩ := ex_val hex
                have KO := Lib.hid (fun W (hW : Below W0.heap.size W0 W) => HOF.out x.e _ W (ExIs.below hW d _ x.e hyv) hsm.2)
                unfold exV at KO
                have VV := Lib.hid (fun W (hW : Below W0.heap.size W0 W) => hyc.below hW hp)
                have vv := VV.out _ hB
                have v0 := vv 0 _ rfl
                have v1 := vv 1 _ rfl
                have v2 := vv 2 _ rfl
                have v3 := vv 3 _ rfl
                have v4 := vv 4 _ rfl
                have v5 := vv 5 _ rfl
                have v6 := vv 6 _ rfl
                rw [Nat.add_zero] at v0
                have HX := Lib.hid hx
                have G6 := Lib.hid (fun W (hW : Below W0.heap.size W0 W) => C6.out W hW)
                clear hat hx hcs htx hex hsm hyc hyv vv
                by_cases e1 : s ∈ x.vars
                · have d1 := decide_eq_true e1
                  go_wp2_with (go_at_call 44; refine (KV.out _ HB.out).mono ?_; rintro r1 w1 ⟨rfl, b1⟩; rw [d1]; have B1 := Lib.hid (chain HB.out b1))
                  go_roundw
                  case rel => exact ⟨k + 1, _, by go_num, rfl, by omega, Lib.hid (by rw [fold_next _ _ HX.out, ← HF.out, if_pos e1]), B1.out⟩
                  case measure => simp [intOf]; omega
                · have d1 := decide_eq_false e1
                  go_wp2_with (first | (go_at_call 44; refine (KV.out _ HB.out).mono ?_; rintro r1 w1 ⟨rfl, b1⟩; rw [d1]; have B1 := Lib.hid (chain HB.out b1); have f6 := C6.out _ B1.out; have uu := VV.out _ B1.out; have u0 := uu 0 _ rfl; rw [Nat.add_zero] at u0; have u1 := uu 1 _ rfl; have u2 := uu 2 _ rfl; have u3 := uu 3 _ rfl; have u4' := uu 4 _ rfl; have u5' := uu 5 _ rfl; have u6' := uu 6 _ rfl; clear uu) | (go_at_call 30; refine (KO.out _ B1.out).mono ?_; rintro r2 w2 ⟨rfl, b2⟩; have B2 := Lib.hid (chain B1.out b2)))
                  go_roundw
                  case rel => exact ⟨k + 1, _, by go_num, rfl, by omega, Lib.hid (by rw [fold_next _ _ HX.out, ← HF.out, if_neg e1]; rfl), B2.out⟩
                  case measure => simp [intOf]; omega
              · have hlt2 : decide ((k : Int) < (N6 : Int)) = false := by simp; omega
                have hlt3 : decide (k < N6) = false := by simp; omega
                obtain rfl : k = N6 := by omega
                have HF3 := Lib.hid (HF.out.trans (fold_all _ _ HN6.out))
                have HL : cntIn (cntK s d) e s = m := by
                  unfold cntIn
                  rw [HST.out, ← HF3.out]
                have HLh := Lib.hid HL
                clear hB hi0 hsz HL HF HF3
                go_wp2
                go_ret
                exact ⟨by rw [HR.out, HLh.out]; rfl, chain HB0.out HB.out⟩
theorem rcount_any (s : ByteArray) : ∀ (d : Nat) (x : Ex d) (v : Value) (W : World), ExIs W d v x → Sm d x →
    Calls Try.prog 30 #[v, .string s] W fun r W' => r = .returned (.int .i64 (cntK s d x)) ∧ Below W.heap.size W W'
  | 0, x, _, _, _, _ => nomatch (x : Empty)
  | d + 1, x, v, W, h, hs => rcount_step d v x s W h hs (rcount_any s d)
end Go.Proofs.Ytkcgchpflppmnaa
