/- The occurrence of a name inside an expression: one level. -/
import Derived.Test.YtkcgchpflppmnaaOcH
namespace Go.Proofs.Ytkcgchpflppmnaa
open Go.RowKit
set_option linter.unusedSimpArgs false
set_option linter.unusedVariables false

theorem fold_next {β : Type} (f : Int → β → Int) (st : Int) {l : List β} {k : Nat} {x : β} (hx : l[k]? = some x) : (l.take (k + 1)).foldl f st = f ((l.take k).foldl f st) x := by
  rw [List.take_add_one, hx, List.foldl_append]; rfl
theorem fold_all {β : Type} (f : Int → β → Int) (st : Int) {l : List β} {n : Nat} (h : l.length = n) : (l.take n).foldl f st = l.foldl f st := by subst h; rw [List.take_length]

set_option maxRecDepth 100000 in
set_option maxHeartbeats 8000000 in
theorem inside_any (d b o : Nat) (e : ExN (Ex d)) (s : ByteArray) (w : World) (hb : b < w.heap.size) (h : ExAt w (d + 1) b o e) (hs : Sm (d + 1) e)
    (hof : ∀ (x : Ex d) (b o : Nat) (W : World), b < W.heap.size → ExAt W d b o x → Sm d x → Calls Try.prog 26 #[.pointer (some ⟨b, o, none⟩), .string s] W fun r W' => r = .returned (.int .i64 (ofK 1 5 s d x)) ∧ Below W.heap.size W W') :
    Calls Try.prog 42 #[.pointer (some ⟨b, o, none⟩), .string s] w fun r w' => r = .returned (.int .i64 (insideK (ofK 1 5 s d) 1 5 e s)) ∧ Below w.heap.size w w' := by
  obtain ⟨cs, hcs, ps, bs, es, ls, rfl, h1, ⟨q4, r4, rfl, h2⟩, ⟨q5, r5, rfl, h3⟩, ⟨q6, r6, rfl, h4⟩⟩ := h
  have hcl := fun j c hj W (hW : Below w.heap.size w W) => (hW.cell (p := ⟨b, o + j, none⟩) hb).trans (hcs j c hj)
  have C0 := Lib.hid (hcl 0 _ rfl)
  have C1 := Lib.hid (hcl 1 _ rfl)
  have C4 := Lib.hid (hcl 4 _ rfl)
  have C5 := Lib.hid (hcl 5 _ rfl)
  have C6 := Lib.hid (hcl 6 _ rfl)
  have c0 := C0.out w (Below.refl _ _)
  have c1 := C1.out w (Below.refl _ _)
  have c4 := C4.out w (Below.refl _ _)
  rw [Nat.add_zero] at c0
  obtain ⟨N4, hN4⟩ : ∃ N, e.binds.length = N := ⟨_, rfl⟩
  obtain ⟨N5, hN5⟩ : ∃ N, e.args.length = N := ⟨_, rfl⟩
  obtain ⟨N6, hN6⟩ : ∃ N, e.alts.length = N := ⟨_, rfl⟩
  have m4 : N4 ≤ 10000000 := hN4 ▸ hs.2.1.1
  have m5 : N5 ≤ 10000000 := hN5 ▸ hs.2.2.1.1
  have m6 : N6 ≤ 10000000 := hN6 ▸ hs.2.2.2.1
  rw [hN4] at C4 c4
  rw [hN5] at C5
  rw [hN6] at C6
  have HN4 := Lib.hid hN4
  have HN5 := Lib.hid hN5
  have HN6 := Lib.hid hN6
  have H2 := Lib.hid (show True ∧ _ from ⟨trivial, h2⟩)
  have H3 := Lib.hid h3
  have H4 := Lib.hid h4
  have HS := Lib.hid hs
  have HOF := Lib.hid hof
  have HIN := Lib.hid (of_in 1 5 s d)
  obtain ⟨kd, hkd⟩ : ∃ kd, e.kind = kd := ⟨_, rfl⟩
  obtain ⟨nm, hnm⟩ : ∃ nm, e.name = nm := ⟨_, rfl⟩
  rw [hkd] at C0 c0
  rw [hnm] at C1 c1
  have HKD := Lib.hid hkd
  have HNM := Lib.hid hnm
  clear hcs hcl h1 h2 h3 h4 hs hof hN4 hN5 hN6 hkd hnm
  obtain ⟨st, hst⟩ : ∃ st : Int, (if e.kind = 1 ∧ e.name = s then (2 : Int) else 1) = st := ⟨_, rfl⟩
  have HST := Lib.hid hst
  have hcase : ((kd == 1) = false ∧ decide (kd = 1) = false ∧ Hid (st = 1)) ∨ ((kd == 1) = true ∧ decide (kd = 1) = true ∧ (nm.toList == s.toList) = false ∧ Hid (st = 1)) ∨ ((kd == 1) = true ∧ decide (kd = 1) = true ∧ (nm.toList == s.toList) = true ∧ Hid (st = 2)) := by
    by_cases e1 : kd = 1
    · by_cases e2 : nm = s
      · exact .inr (.inr ⟨by simp [e1], by simp [e1], by rw [e2]; simp, Lib.hid (by rw [← hst, if_pos ⟨HKD.out.trans e1, HNM.out.trans e2⟩])⟩)
      · exact .inr (.inl ⟨by simp [e1], by simp [e1], toList_ne e2, Lib.hid (by rw [← hst, if_neg (fun h => e2 (HNM.out.symm.trans h.2))])⟩)
    · exact .inl ⟨by simp [e1], by simp [e1], Lib.hid (by rw [← hst, if_neg (fun h => e1 (HKD.out.symm.trans h.1))])⟩
  clear hst
  rcases hcase with ⟨k1, k2, S0⟩ | ⟨k1, k2, k3, S0⟩ | ⟨k1, k2, k3, S0⟩
  all_goals
    go_enter Try.func42, Try.ntmps42
    go_upto_region 5 with fail
    go_loopw [5, 6, 28] (fun v _ i wr => ∃ (k : Nat) (m : Int), i = .int .i64 k ∧ v = .int .i64 m ∧ k ≤ N4 ∧ Hid (1 ≤ m ∧ m ≤ 5) ∧ Hid (m = (e.binds.take k).foldl (fun o x => bothK o (ofK 1 5 s d x.2)) st) ∧ Below w.heap.size w wr) (fun _ _ i _ => N4 - (intOf i).toNat)
    case atStart => exact ⟨0, _, rfl, rfl, Nat.zero_le _, Lib.hid (by omega), Lib.hid S0.out.symm, Below.refl _ _⟩
    case round =>
      obtain ⟨k, m, rfl, rfl, hk, HM, HF, hB⟩ := hrel
      by_cases hlt : k < N4
      · have hlt2 : decide ((k : Int) < (N4 : Int)) = true := by simp; omega
        have hlt3 : decide (k < N4) = true := by simp; omega
        have hkt : k < e.binds.length := by rw [HN4.out]; exact hlt
        obtain ⟨p, o', hq, hp, hat⟩ := H2.out.2 (by omega)
        subst hq
        obtain ⟨x, hx⟩ : ∃ x, e.binds[k]? = some x := ⟨_, List.getElem?_eq_getElem hkt⟩
        have g4 := C4.out wr hB
        have hi0 : (0 : Int) ≤ (k : Int) := by omega
        have hsz := hB.size
        have KO := Lib.hid (HOF.out x.2 p (o' + k * 8 + 1) wr (by omega) (ExAt.below hB d p _ x.2 hp (hat k x hx).2) (HS.out.2.1.2 x (List.mem_of_getElem? hx)))
        have HX := Lib.hid hx
        have HB := Lib.hid hB
        clear hat hx c0 c1 c4
        go_wp2_with (first | (go_at_call 26; refine KO.out.mono ?_; rintro r1 w1 ⟨rfl, b1⟩; have B1 := Lib.hid (chain HB.out b1)) | (go_at_call 62; refine (both_any HM.out (HIN.out x.2) _).mono ?_; rintro r2 w2 ⟨rfl, b2⟩; have B2 := Lib.hid (chain B1.out b2)))
        go_roundw
        case rel => exact ⟨k + 1, _, by go_num, rfl, by omega, Lib.hid (both_in HM.out (HIN.out x.2)), Lib.hid (by rw [fold_next _ _ HX.out, ← HF.out]), B2.out⟩
        case measure => simp [intOf]; omega
      · have hlt2 : decide ((k : Int) < (N4 : Int)) = false := by simp; omega
        have hlt3 : decide (k < N4) = false := by simp; omega
        obtain rfl : k = N4 := by omega
        have HF1 := Lib.hid (HF.out.trans (fold_all _ _ HN4.out))
        have g5 := C5.out wr hB
        clear HF c0 c1 c4
        go_upto_region 10 with fail
        go_loopw [5, 7, 48] (fun v _ i wr => ∃ (k : Nat) (m : Int), i = .int .i64 k ∧ v = .int .i64 m ∧ k ≤ N5 ∧ Hid (1 ≤ m ∧ m ≤ 5) ∧ Hid (m = (e.args.take k).foldl (fun o x => bothK o (ofK 1 5 s d x)) (e.binds.foldl (fun o x => bothK o (ofK 1 5 s d x.2)) st)) ∧ Below w.heap.size w wr) (fun _ _ i _ => N5 - (intOf i).toNat)
        case atStart => exact ⟨0, _, rfl, rfl, Nat.zero_le _, HM, HF1, hB⟩
        case round =>
          clear g5 hB HM HF1 hlt hlt2 hlt3
          obtain ⟨k, m2, rfl, rfl, hk, HM, HF, hB⟩ := hrel
          by_cases hlt : k < N5
          · have hlt2 : decide ((k : Int) < (N5 : Int)) = true := by simp; omega
            have hlt3 : decide (k < N5) = true := by simp; omega
            have hkt : k < e.args.length := by rw [HN5.out]; exact hlt
            obtain ⟨p, o', hq, hp, hat⟩ := H3.out (by omega)
            subst hq
            obtain ⟨x, hx⟩ : ∃ x, e.args[k]? = some x := ⟨_, List.getElem?_eq_getElem hkt⟩
            have g5 := C5.out _ hB
            have hi0 : (0 : Int) ≤ (k : Int) := by omega
            have hsz := hB.size
            have KO := Lib.hid (HOF.out x p (o' + k * 7) _ (by omega) (ExAt.below hB d p _ x hp (hat k x hx)) (HS.out.2.2.1.2 x (List.mem_of_getElem? hx)))
            have HX := Lib.hid hx
            have HB := Lib.hid hB
            clear hat hx
            go_wp2_with (first | (go_at_call 26; refine KO.out.mono ?_; rintro r1 w1 ⟨rfl, b1⟩; have B1 := Lib.hid (chain HB.out b1)) | (go_at_call 62; refine (both_any HM.out (HIN.out x) _).mono ?_; rintro r2 w2 ⟨rfl, b2⟩; have B2 := Lib.hid (chain B1.out b2)))
            go_roundw
            case rel => exact ⟨k + 1, _, by go_num, rfl, by omega, Lib.hid (both_in HM.out (HIN.out x)), Lib.hid (by rw [fold_next _ _ HX.out, ← HF.out]), B2.out⟩
            case measure => simp [intOf]; omega
          · have hlt2 : decide ((k : Int) < (N5 : Int)) = false := by simp; omega
            have hlt3 : decide (k < N5) = false := by simp; omega
            obtain rfl : k = N5 := by omega
            have HF2 := Lib.hid (HF.out.trans (fold_all _ _ HN5.out))
            have HM2 := HM
            have g6 := C6.out _ hB
            clear HF HM
            go_upto_region 16 with fail
            go_loopw [8, 9, 67] (fun v _ i wr => ∃ (k : Nat) (m : Int), i = .int .i64 k ∧ v = .int .i64 m ∧ k ≤ N6 ∧ Hid (1 ≤ m ∧ m ≤ 5) ∧ Hid (m = (e.alts.take k).foldl (fun o x => if s ∈ x.vars then o else eitherK o (ofK 1 5 s d x.e)) 1) ∧ Below w.heap.size w wr) (fun _ _ i _ => N6 - (intOf i).toNat)
            case atStart => exact ⟨0, _, rfl, rfl, Nat.zero_le _, Lib.hid (by omega), Lib.hid rfl, hB⟩
            case round =>
              clear g6 hB hlt hlt2 hlt3 hk
              obtain ⟨k, m, rfl, rfl, hk, HM, HF, hB⟩ := hrel
              have g6 := C6.out _ hB
              have hi0 : (0 : Int) ≤ (k : Int) := by omega
              have hsz := hB.size
              have HB := Lib.hid hB
              by_cases hlt : k < N6
              · have hlt2 : decide ((k : Int) < (N6 : Int)) = true := by simp; omega
                have hlt3 : decide (k < N6) = true := by simp; omega
                have hkt : k < e.alts.length := by rw [HN6.out]; exact hlt
                obtain ⟨p, o', hq, hp, hat⟩ := H4.out (by omega)
                subst hq
                obtain ⟨x, hx⟩ : ∃ x, e.alts[k]? = some x := ⟨_, List.getElem?_eq_getElem hkt⟩
                obtain ⟨vs, hcs, htx, hex⟩ := hat k x hx
                have hsm := HS.out.2.2.2.2 x (List.mem_of_getElem? hx)
                have a3 := (hB.cell (p := ⟨p, o' + k * 11 + 3, none⟩) hp).trans (hcs 3 _ rfl)
                have KV := Lib.hid (fun W (hW : Below w.heap.size w W) => contains_any vs x.vars s W (htx.below hW) (by omega))
                have KO := Lib.hid (fun W (hW : Below w.heap.size w W) => HOF.out x.e p (o' + k * 11 + 4) W (by have := hW.size; omega) (ExAt.below hW d p _ x.e hp hex) hsm.2)
                have HX := Lib.hid hx
                have G6 := Lib.hid (fun W (hW : Below w.heap.size w W) => C6.out W hW)
                clear hat hx hcs htx hex hsm
                by_cases e1 : s ∈ x.vars
                · have d1 := decide_eq_true e1
                  go_wp2_with (go_at_call 48; refine (KV.out _ HB.out).mono ?_; rintro r1 w1 ⟨rfl, b1⟩; rw [d1]; have B1 := Lib.hid (chain HB.out b1))
                  go_roundw
                  case rel => exact ⟨k + 1, _, by go_num, rfl, by omega, HM, Lib.hid (by rw [fold_next _ _ HX.out, ← HF.out, if_pos e1]), B1.out⟩
                  case measure => simp [intOf]; omega
                · have d1 := decide_eq_false e1
                  go_wp2_with (first | (go_at_call 48; refine (KV.out _ HB.out).mono ?_; rintro r1 w1 ⟨rfl, b1⟩; rw [d1]; have B1 := Lib.hid (chain HB.out b1); have f6 := C6.out _ B1.out) | (go_at_call 26; refine (KO.out _ B1.out).mono ?_; rintro r2 w2 ⟨rfl, b2⟩; have B2 := Lib.hid (chain B1.out b2)) | (go_at_call 63; refine (either_any HM.out (HIN.out x.e) _).mono ?_; rintro r3 w3 ⟨rfl, b3⟩; have B3 := Lib.hid (chain B2.out b3)))
                  go_roundw
                  case rel => exact ⟨k + 1, _, by go_num, rfl, by omega, Lib.hid (either_in HM.out (HIN.out x.e)), Lib.hid (by rw [fold_next _ _ HX.out, ← HF.out, if_neg e1]), B3.out⟩
                  case measure => simp [intOf]; omega
              · have hlt2 : decide ((k : Int) < (N6 : Int)) = false := by simp; omega
                have hlt3 : decide (k < N6) = false := by simp; omega
                obtain rfl : k = N6 := by omega
                have HF3 := Lib.hid (HF.out.trans (fold_all _ _ HN6.out))
                have HL : inLetK (ofK 1 5 s d) 1 e s = bothK m2 m := by
                  unfold inLetK
                  rw [HST.out, ← HF2.out, ← HF3.out]
                have HLin := Lib.hid (both_in HM2.out HM.out)
                have HLh := Lib.hid HL
                clear g6 hB hi0 hsz HL HF HF3
                by_cases e5 : kd = 5
                · have t1 : (kd == 5) = true := by simp [e5]
                  have t2 : decide (kd = 5) = true := by simp [e5]
                  have HR := Lib.hid (show insideK (ofK 1 5 s d) 1 5 e s = withinK (bothK m2 m) by unfold insideK; rw [if_pos (HKD.out.trans e5), HLh.out])
                  clear e5
                  go_wp2_with (first | (go_at_call 62; refine (both_any HM2.out HM.out _).mono ?_; rintro r1 w1 ⟨rfl, b1⟩; have B1 := Lib.hid (chain HB.out b1); have f0 := C0.out _ B1.out; rw [Nat.add_zero] at f0) | (go_at_call 64; refine (inLambda_any HLin.out _).mono ?_; rintro r2 w2 ⟨rfl, b2⟩; have B2 := Lib.hid (chain B1.out b2)))
                  go_ret
                  exact ⟨by rw [HR.out]; rfl, B2.out⟩
                · have t1 : (kd == 5) = false := by simp [e5]
                  have t2 : decide (kd = 5) = false := by simp [e5]
                  have HR := Lib.hid (show insideK (ofK 1 5 s d) 1 5 e s = bothK m2 m by unfold insideK; rw [if_neg (fun h => e5 (HKD.out.symm.trans h)), HLh.out])
                  clear e5
                  go_wp2_with (go_at_call 62; refine (both_any HM2.out HM.out _).mono ?_; rintro r1 w1 ⟨rfl, b1⟩; have B1 := Lib.hid (chain HB.out b1); have f0 := C0.out _ B1.out; rw [Nat.add_zero] at f0)
                  go_ret
                  exact ⟨by rw [HR.out]; rfl, B1.out⟩
end Go.Proofs.Ytkcgchpflppmnaa
