/- At how many places a name stands: the program's count. (Sums wrapped as they are taken: program and reference add in one order.) -/
import Derived.Test.YtkcgchpflppmnaaOcM
namespace Go.Proofs.Ytkcgchpflppmnaa
open Go.RowKit
set_option linter.unusedSimpArgs false
set_option linter.unusedVariables false

def addW (a b : Int) : Int := wrap64 (a + b)
def cntIn {α : Type} (r : α → Int) (e : ExN α) (s : ByteArray) : Int :=
  e.alts.foldl (fun o x => if s ∈ x.vars then o else addW o (r x.e)) (e.args.foldl (fun o x => addW o (r x)) (e.binds.foldl (fun o x => addW o (r x.2)) (if e.kind = 1 ∧ e.name = s then 1 else 0)))
def cntK (s : ByteArray) : (d : Nat) → Ex d → Int
  | 0, e => nomatch (e : Empty)
  | d + 1, e => if hidesK (e : ExN (Ex d)) s then 0 else cntIn (cntK s d) e s

set_option maxRecDepth 100000 in
set_option maxHeartbeats 8000000 in
theorem count_step (d b o : Nat) (e : ExN (Ex d)) (s : ByteArray) (w : World) (hb : b < w.heap.size) (h : ExAt w (d + 1) b o e) (hs : Sm (d + 1) e)
    (hof : ∀ (x : Ex d) (b o : Nat) (W : World), b < W.heap.size → ExAt W d b o x → Sm d x → Calls Try.prog 29 #[.pointer (some ⟨b, o, none⟩), .string s] W fun r W' => r = .returned (.int .i64 (cntK s d x)) ∧ Below W.heap.size W W') :
    Calls Try.prog 29 #[.pointer (some ⟨b, o, none⟩), .string s] w fun r w' => r = .returned (.int .i64 (cntK s (d + 1) e)) ∧ Below w.heap.size w w' := by
  have KH := Lib.hid (hides_any d b o e s w hb h hs)
  have HCD : cntK s (d + 1) e = (if hidesK e s = true then (0 : Int) else cntIn (cntK s d) e s) := rfl
  cases hh : hidesK e s with
  | true =>
    have HR := Lib.hid (HCD.trans (if_pos hh))
    rw [hh] at KH
    clear HCD h hs hof
    go_enter Try.func29, Try.ntmps29
    go_wp2_with (go_at_call 41; refine KH.out.mono ?_; rintro r1 w1 ⟨rfl, b1⟩)
    go_ret
    exact ⟨by rw [HR.out]; rfl, b1⟩
  | false =>
  have HR := Lib.hid (HCD.trans (if_neg (by rw [hh]; decide)))
  rw [hh] at KH
  clear HCD hh
  obtain ⟨cs, hcs, ps, bs, es, ls, rfl, h1, ⟨q4, r4, rfl, h2⟩, ⟨q5, r5, rfl, h3⟩, ⟨q6, r6, rfl, h4⟩⟩ := h
  have hcl := fun j c hj W (hW : Below w.heap.size w W) => (hW.cell (p := ⟨b, o + j, none⟩) hb).trans (hcs j c hj)
  have C0 := Lib.hid (hcl 0 _ rfl)
  have C1 := Lib.hid (hcl 1 _ rfl)
  have C4 := Lib.hid (hcl 4 _ rfl)
  have C5 := Lib.hid (hcl 5 _ rfl)
  have C6 := Lib.hid (hcl 6 _ rfl)
  have c0 := C0.out w (Below.refl _ _)
  have c1 := C1.out w (Below.refl _ _)
  have c4 := C4.out w (Below.refl _ _)
  rw [Nat.add_zero] at c0
  obtain ⟨N4, hN4⟩ : ∃ N, e.binds.length = N := ⟨_, rfl⟩
  obtain ⟨N5, hN5⟩ : ∃ N, e.args.length = N := ⟨_, rfl⟩
  obtain ⟨N6, hN6⟩ : ∃ N, e.alts.length = N := ⟨_, rfl⟩
  have m4 : N4 ≤ 10000000 := hN4 ▸ hs.2.1.1
  have m5 : N5 ≤ 10000000 := hN5 ▸ hs.2.2.1.1
  have m6 : N6 ≤ 10000000 := hN6 ▸ hs.2.2.2.1
  rw [hN4] at C4 c4
  rw [hN5] at C5
  rw [hN6] at C6
  have HN4 := Lib.hid hN4
  have HN5 := Lib.hid hN5
  have HN6 := Lib.hid hN6
  have H2 := Lib.hid (show True ∧ _ from ⟨trivial, h2⟩)
  have H3 := Lib.hid h3
  have H4 := Lib.hid h4
  have HS := Lib.hid hs
  have HOF := Lib.hid hof
  obtain ⟨kd, hkd⟩ : ∃ kd, e.kind = kd := ⟨_, rfl⟩
  obtain ⟨nm, hnm⟩ : ∃ nm, e.name = nm := ⟨_, rfl⟩
  rw [hkd] at C0 c0
  rw [hnm] at C1 c1
  have HKD := Lib.hid hkd
  have HNM := Lib.hid hnm
  clear hcs hcl h1 h2 h3 h4 hs hof hN4 hN5 hN6 hkd hnm
  obtain ⟨st, hst⟩ : ∃ st : Int, (if e.kind = 1 ∧ e.name = s then (1 : Int) else 0) = st := ⟨_, rfl⟩
  have HST := Lib.hid hst
  have hcase : ((kd == 1) = false ∧ decide (kd = 1) = false ∧ Hid (st = 0)) ∨ ((kd == 1) = true ∧ decide (kd = 1) = true ∧ (nm.toList == s.toList) = false ∧ Hid (st = 0)) ∨ ((kd == 1) = true ∧ decide (kd = 1) = true ∧ (nm.toList == s.toList) = true ∧ Hid (st = 1)) := by
    by_cases e1 : kd = 1
    · by_cases e2 : nm = s
      · exact .inr (.inr ⟨by simp [e1], by simp [e1], by rw [e2]; simp, Lib.hid (by rw [← hst, if_pos ⟨HKD.out.trans e1, HNM.out.trans e2⟩])⟩)
      · exact .inr (.inl ⟨by simp [e1], by simp [e1], toList_ne e2, Lib.hid (by rw [← hst, if_neg (fun h => e2 (HNM.out.symm.trans h.2))])⟩)
    · exact .inl ⟨by simp [e1], by simp [e1], Lib.hid (by rw [← hst, if_neg (fun h => e1 (HKD.out.symm.trans h.1))])⟩
  clear hst
  rcases hcase with ⟨k1, k2, S0⟩ | ⟨k1, k2, k3, S0⟩ | ⟨k1, k2, k3, S0⟩
  all_goals
    go_enter Try.func29, Try.ntmps29
    clear c0 c1 c4
    go_upto_region 3 with (go_at_call 41; refine KH.out.mono ?_; rintro r0 w0 ⟨rfl, b0⟩)
    have c0 := C0.out w0 b0
    have c1 := C1.out w0 b0
    have c4 := C4.out w0 b0
    rw [Nat.add_zero] at c0
    go_upto_region 7 with fail
    go_loopw [5, 6, 30] (fun v _ i wr => ∃ (k : Nat) (m : Int), i = .int .i64 k ∧ v = .int .i64 m ∧ k ≤ N4 ∧ Hid (m = (e.binds.take k).foldl (fun o x => addW o (cntK s d x.2)) st) ∧ Below w.heap.size w wr) (fun _ _ i _ => N4 - (intOf i).toNat)
    case atStart => exact ⟨0, _, rfl, rfl, Nat.zero_le _, Lib.hid S0.out.symm, b0⟩
    case round =>
      obtain ⟨k, m, rfl, rfl, hk, HF, hB⟩ := hrel
      by_cases hlt : k < N4
      · have hlt2 : decide ((k : Int) < (N4 : Int)) = true := by simp; omega
        have hlt3 : decide (k < N4) = true := by simp; omega
        have hkt : k < e.binds.length := by rw [HN4.out]; exact hlt
        obtain ⟨p, o', hq, hp, hat⟩ := H2.out.2 (by omega)
        subst hq
        obtain ⟨x, hx⟩ : ∃ x, e.binds[k]? = some x := ⟨_, List.getElem?_eq_getElem hkt⟩
        have g4 := C4.out wr hB
        have hi0 : (0 : Int) ≤ (k : Int) := by omega
        have hsz := hB.size
        have KO := Lib.hid (HOF.out x.2 p (o' + k * 8 + 1) wr (by omega) (ExAt.below hB d p _ x.2 hp (hat k x hx).2) (HS.out.2.1.2 x (List.mem_of_getElem? hx)))
        have HX := Lib.hid hx
        have HB := Lib.hid hB
        clear hat hx c0 c1 c4
        go_wp2_with (first | (go_at_call 29; refine KO.out.mono ?_; rintro r1 w1 ⟨rfl, b1⟩; have B1 := Lib.hid (chain HB.out b1)))
        go_roundw
        case rel => exact ⟨k + 1, _, by go_num, rfl, by omega, Lib.hid (by rw [fold_next _ _ HX.out, ← HF.out]; rfl), B1.out⟩
        case measure => simp [intOf]; omega
      · have hlt2 : decide ((k : Int) < (N4 : Int)) = false := by simp; omega
        have hlt3 : decide (k < N4) = false := by simp; omega
        obtain rfl : k = N4 := by omega
        have HF1 := Lib.hid (HF.out.trans (fold_all _ _ HN4.out))
        have g5 := C5.out wr hB
        clear HF c0 c1 c4
        go_upto_region 12 with fail
        go_loopw [5, 7, 50] (fun v _ i wr => ∃ (k : Nat) (m : Int), i = .int .i64 k ∧ v = .int .i64 m ∧ k ≤ N5 ∧ Hid (m = (e.args.take k).foldl (fun o x => addW o (cntK s d x)) (e.binds.foldl (fun o x => addW o (cntK s d x.2)) st)) ∧ Below w.heap.size w wr) (fun _ _ i _ => N5 - (intOf i).toNat)
        case atStart => exact ⟨0, _, rfl, rfl, Nat.zero_le _, HF1, hB⟩
        case round =>
          clear g5 hB HF1 hlt hlt2 hlt3
          obtain ⟨k, m2, rfl, rfl, hk, HF, hB⟩ := hrel
          by_cases hlt : k < N5
          · have hlt2 : decide ((k : Int) < (N5 : Int)) = true := by simp; omega
            have hlt3 : decide (k < N5) = true := by simp; omega
            have hkt : k < e.args.length := by rw [HN5.out]; exact hlt
            obtain ⟨p, o', hq, hp, hat⟩ := H3.out (by omega)
            subst hq
            obtain ⟨x, hx⟩ : ∃ x, e.args[k]? = some x := ⟨_, List.getElem?_eq_getElem hkt⟩
            have g5 := C5.out _ hB
            have hi0 : (0 : Int) ≤ (k : Int) := by omega
            have hsz := hB.size
            have KO := Lib.hid (HOF.out x p (o' + k * 7) _ (by omega) (ExAt.below hB d p _ x hp (hat k x hx)) (HS.out.2.2.1.2 x (List.mem_of_getElem? hx)))
            have HX := Lib.hid hx
            have HB := Lib.hid hB
            clear hat hx
            go_wp2_with (first | (go_at_call 29; refine KO.out.mono ?_; rintro r1 w1 ⟨rfl, b1⟩; have B1 := Lib.hid (chain HB.out b1)))
            go_roundw
            case rel => exact ⟨k + 1, _, by go_num, rfl, by omega, Lib.hid (by rw [fold_next _ _ HX.out, ← HF.out]; rfl), B1.out⟩
            case measure => simp [intOf]; omega
          · have hlt2 : decide ((k : Int) < (N5 : Int)) = false := by simp; omega
            have hlt3 : decide (k < N5) = false := by simp; omega
            obtain rfl : k = N5 := by omega
            have HF2 := Lib.hid (HF.out.trans (fold_all _ _ HN5.out))
            have g6 := C6.out _ hB
            clear HF
            go_upto_region 17 with fail
            go_loopw [5, 8, 69] (fun v _ i wr => ∃ (k : Nat) (m : Int), i = .int .i64 k ∧ v = .int .i64 m ∧ k ≤ N6 ∧ Hid (m = (e.alts.take k).foldl (fun o x => if s ∈ x.vars then o else addW o (cntK s d x.e)) (e.args.foldl (fun o x => addW o (cntK s d x)) (e.binds.foldl (fun o x => addW o (cntK s d x.2)) st))) ∧ Below w.heap.size w wr) (fun _ _ i _ => N6 - (intOf i).toNat)
            case atStart => exact ⟨0, _, rfl, rfl, Nat.zero_le _, HF2, hB⟩
            case round =>
              clear g6 hB hlt hlt2 hlt3 hk
              obtain ⟨k, m, rfl, rfl, hk, HF, hB⟩ := hrel
              have g6 := C6.out _ hB
              have hi0 : (0 : Int) ≤ (k : Int) := by omega
              have hsz := hB.size
              have HB := Lib.hid hB
              by_cases hlt : k < N6
              · have hlt2 : decide ((k : Int) < (N6 : Int)) = true := by simp; omega
                have hlt3 : decide (k < N6) = true := by simp; omega
                have hkt : k < e.alts.length := by rw [HN6.out]; exact hlt
                obtain ⟨p, o', hq, hp, hat⟩ := H4.out (by omega)
                subst hq
                obtain ⟨x, hx⟩ : ∃ x, e.alts[k]? = some x := ⟨_, List.getElem?_eq_getElem hkt⟩
                obtain ⟨vs, hcs, htx, hex⟩ := hat k x hx
                have hsm := HS.out.2.2.2.2 x (List.mem_of_getElem? hx)
                have a3 := (hB.cell (p := ⟨p, o' + k * 11 + 3, none⟩) hp).trans (hcs 3 _ rfl)
                have KV := Lib.hid (fun W (hW : Below w.heap.size w W) => contains_any vs x.vars s W (htx.below hW) (by omega))
                have KO := Lib.hid (fun W (hW : Below w.heap.size w W) => HOF.out x.e p (o' + k * 11 + 4) W (by have := hW.size; omega) (ExAt.below hW d p _ x.e hp hex) hsm.2)
                have HX := Lib.hid hx
                have G6 := Lib.hid (fun W (hW : Below w.heap.size w W) => C6.out W hW)
                clear hat hx hcs htx hex hsm
                by_cases e1 : s ∈ x.vars
                · have d1 := decide_eq_true e1
                  go_wp2_with (go_at_call 48; refine (KV.out _ HB.out).mono ?_; rintro r1 w1 ⟨rfl, b1⟩; rw [d1]; have B1 := Lib.hid (chain HB.out b1))
                  go_roundw
                  case rel => exact ⟨k + 1, _, by go_num, rfl, by omega, Lib.hid (by rw [fold_next _ _ HX.out, ← HF.out, if_pos e1]), B1.out⟩
                  case measure => simp [intOf]; omega
                · have d1 := decide_eq_false e1
                  go_wp2_with (first | (go_at_call 48; refine (KV.out _ HB.out).mono ?_; rintro r1 w1 ⟨rfl, b1⟩; rw [d1]; have B1 := Lib.hid (chain HB.out b1); have f6 := C6.out _ B1.out) | (go_at_call 29; refine (KO.out _ B1.out).mono ?_; rintro r2 w2 ⟨rfl, b2⟩; have B2 := Lib.hid (chain B1.out b2)))
                  go_roundw
                  case rel => exact ⟨k + 1, _, by go_num, rfl, by omega, Lib.hid (by rw [fold_next _ _ HX.out, ← HF.out, if_neg e1]; rfl), B2.out⟩
                  case measure => simp [intOf]; omega
              · have hlt2 : decide ((k : Int) < (N6 : Int)) = false := by simp; omega
                have hlt3 : decide (k < N6) = false := by simp; omega
                obtain rfl : k = N6 := by omega
                have HF3 := Lib.hid (HF.out.trans (fold_all _ _ HN6.out))
                have HL : cntIn (cntK s d) e s = m := by
                  unfold cntIn
                  rw [HST.out, ← HF3.out]
                have HLh := Lib.hid HL
                clear g6 hB hi0 hsz HL HF HF3
                go_wp2
                go_ret
                exact ⟨by rw [HR.out, HLh.out]; rfl, HB.out⟩
theorem count_any (s : ByteArray) : ∀ (d : Nat) (x : Ex d) (b o : Nat) (W : World), b < W.heap.size → ExAt W d b o x → Sm d x →
    Calls Try.prog 29 #[.pointer (some ⟨b, o, none⟩), .string s] W fun r W' => r = .returned (.int .i64 (cntK s d x)) ∧ Below W.heap.size W W'
  | 0, x, _, _, _, _, _, _ => nomatch (x : Empty)
  | d + 1, x, b, o, W, hb, h, hs => count_step d b o x s W hb h hs (count_any s d)
end Go.Proofs.Ytkcgchpflppmnaa
