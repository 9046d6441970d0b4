/- The reference's of: by induction on the depth. -/
import Derived.Test.YtkcgchpflppmnaaOcL
namespace Go.Proofs.Ytkcgchpflppmnaa
open Go.RowKit
set_option linter.unusedSimpArgs false
set_option linter.unusedVariables false

set_option maxRecDepth 100000 in
set_option maxHeartbeats 8000000 in
theorem rof_step (d : Nat) (s : ByteArray)
    (hof : ∀ (x : Ex d) (v : Value) (W : World), ExIs W d v x → Sm d x → Calls Try.prog 28 #[v, .string s] W fun r W' => r = .returned (.int .i64 (ofK 1 5 s d x)) ∧ Below W.heap.size W W')
    (v : Value) (e : ExN (Ex d)) (w : World) (h : ExIs w (d + 1) v e) (hs : Sm (d + 1) e) :
    Calls Try.prog 28 #[v, .string s] w fun r w' => r = .returned (.int .i64 (ofK 1 5 s (d + 1) e)) ∧ Below w.heap.size w w' := by
  have KI := Lib.hid (fun W (hW : Below w.heap.size w W) => rInLet_any d v e s W (ExIs.below hW (d + 1) v e h) hs hof)
  have HL := Lib.hid (inLet_in (ofK 1 5 s d) (of_in 1 5 s d) 1 e s)
  obtain ⟨l0, rfl, hp⟩ := h
  obtain ⟨pa, pb, pc, pd, pa2, pb2, pc2, pd2, rfl⟩ := parts_form hp
  obtain ⟨ps, bs, es, ls, hq, h1, h2, h3, h4⟩ := hp
  simp only [exV, List.cons.injEq] at hq
  obtain ⟨_, _, _, rfl, rfl, rfl, rfl, _⟩ := hq
  have hn1 : e.params.length ≤ 10000000 := hs.1
  have hn2 : (e.binds.map (·.1)).length ≤ 10000000 := by rw [List.length_map]; exact hs.2.1.1
  have KP := Lib.hid (fun W (hW : Below w.heap.size w W) => has_any _ e.params s W (h1.below hW) (by omega))
  have KN := Lib.hid (fun W (hW : Below w.heap.size w W) => bindNames_any _ (e.binds.map (·.1)) W ((names_of h2).below hW) hn2)
  have KC := Lib.hid (fun W v (hv : Txs W v (e.binds.map (·.1))) => has_any v (e.binds.map (·.1)) s W hv (by omega))
  have R := Blk.new w #[.int .i64 e.kind, .string e.name, .int .i64 e.num, .slice pa e.params.length pa2, .slice pb e.binds.length pb2, .slice pc e.args.length pc2, .slice pd e.alts.length pd2] 29
  have HB0 := Lib.hid (show Below w.heap.size w (w.alloc (.cells #[.int .i64 e.kind, .string e.name, .int .i64 e.num, .slice pa e.params.length pa2, .slice pb e.binds.length pb2, .slice pc e.args.length pc2, .slice pd e.alts.length pd2] 29)) from (Below.refl _ w).alloc (Nat.le_refl _) _)
  unfold exV at KI ⊢
  obtain ⟨kd, hkd⟩ : ∃ kd, e.kind = kd := ⟨_, rfl⟩
  have HKD := Lib.hid hkd
  clear h1 h2 h3 h4 hs hof hn1 hn2
  rw [hkd] at R HB0 KI ⊢
  clear hkd
  go_enter Try.func28, Try.ntmps28
  go_upto_region 1 with fail
  generalize w.alloc (.cells #[.int .i64 kd, .string e.name, .int .i64 e.num, .slice pa e.params.length pa2, .slice pb e.binds.length pb2, .slice pc e.args.length pc2, .slice pd e.alts.length pd2] 29) = W0 at R HB0 ⊢
  generalize w.heap.size = b at R ⊢
  have HC := Lib.hid (show ∀ W, Below W0.heap.size W0 W → W.cell? ⟨b, 0, none⟩ = some (.int .i64 kd) ∧ W.cell? ⟨b, 1, none⟩ = some (.string e.name) ∧ W.cell? ⟨b, 2, none⟩ = some (.int .i64 e.num) ∧ W.cell? ⟨b, 3, none⟩ = some (.slice pa e.params.length pa2) ∧ W.cell? ⟨b, 4, none⟩ = some (.slice pb e.binds.length pb2) ∧ W.cell? ⟨b, 5, none⟩ = some (.slice pc e.args.length pc2) ∧ W.cell? ⟨b, 6, none⟩ = some (.slice pd e.alts.length pd2) from fun W hW => by
    have R2 := R.below hW R.lt
    exact ⟨R2.cell 0, R2.cell 1, R2.cell 2, R2.cell 3, R2.cell 4, R2.cell 5, R2.cell 6⟩)
  obtain ⟨x0, x1, x2, x3, x4, x5, x6⟩ := HC.out W0 (Below.refl _ _)
  clear R
  have HOFD : ofK 1 5 s (d + 1) e = (if hidesK e s = true then (1 : Int) else insideK (ofK 1 5 s d) 1 5 e s) := rfl
  by_cases e1 : s ∈ e.params
  · have HR := Lib.hid (show ofK 1 5 s (d + 1) e = 1 by rw [HOFD, if_pos (by unfold hidesK; rw [decide_eq_true e1]; rfl)])
    have d1 := decide_eq_true e1
    clear HOFD
    go_wp2_with (go_at_call 44; refine (KP.out _ HB0.out).mono ?_; rintro r1 w1 ⟨rfl, b1⟩; rw [d1])
    go_ret
    exact ⟨by rw [HR.out]; rfl, chain HB0.out b1⟩
  · have d1 := decide_eq_false e1
    by_cases e2 : s ∈ e.binds.map (·.1)
    · have d2 := decide_eq_true e2
      have HR := Lib.hid (show ofK 1 5 s (d + 1) e = 1 by rw [HOFD, if_pos (by unfold hidesK; rw [d1, d2]; rfl)])
      clear HOFD
      go_wp2_with (first | (go_at_call 44; with_reducible (refine (KP.out _ HB0.out).mono ?_); rintro r1 w1 ⟨rfl, b1⟩; rw [d1]; have B1 := Lib.hid b1; have B1' := Lib.hid (chain HB0.out b1); obtain ⟨x0, x1, x2, x3, x4, x5, x6⟩ := HC.out _ b1) | (go_at_call 45; refine (KN.out _ B1'.out).mono ?_; rintro r2 w2 ⟨v2, rfl, o2, b2⟩; have t2 := Lib.hid o2.txs; have B2 := Lib.hid (chain B1.out b2)) | (go_at_call 44; with_reducible (refine (KC.out _ _ t2.out).mono ?_); rintro r3 w3 ⟨rfl, b3⟩; rw [d2]; have B3 := Lib.hid (chain B2.out b3); obtain ⟨x0, x1, x2, x3, x4, x5, x6⟩ := HC.out _ B3.out))
      go_ret
      exact ⟨by rw [HR.out]; rfl, chain HB0.out B3.out⟩
    · have d2 := decide_eq_false e2
      have HR := Lib.hid (show ofK 1 5 s (d + 1) e = insideK (ofK 1 5 s d) 1 5 e s by rw [HOFD, if_neg (by unfold hidesK; rw [d1, d2]; decide)])
      clear HOFD
      by_cases e5 : kd = 5
      · have t1 : (kd == 5) = true := by simp [e5]
        have t2' : decide (kd = 5) = true := by simp [e5]
        have HR2 := Lib.hid (show insideK (ofK 1 5 s d) 1 5 e s = withinK (inLetK (ofK 1 5 s d) 1 e s) by unfold insideK; rw [if_pos (HKD.out.trans e5)])
        clear e5
        go_wp2_with (first | (go_at_call 44; with_reducible (refine (KP.out _ HB0.out).mono ?_); rintro r1 w1 ⟨rfl, b1⟩; rw [d1]; have B1 := Lib.hid b1; have B1' := Lib.hid (chain HB0.out b1); obtain ⟨x0, x1, x2, x3, x4, x5, x6⟩ := HC.out _ b1) | (go_at_call 45; refine (KN.out _ B1'.out).mono ?_; rintro r2 w2 ⟨v2, rfl, o2, b2⟩; have t2 := Lib.hid o2.txs; have B2 := Lib.hid (chain B1.out b2)) | (go_at_call 44; with_reducible (refine (KC.out _ _ t2.out).mono ?_); rintro r3 w3 ⟨rfl, b3⟩; rw [d2]; have B3 := Lib.hid (chain B2.out b3); obtain ⟨x0, x1, x2, x3, x4, x5, x6⟩ := HC.out _ B3.out) | (go_at_call 46; refine (KI.out _ (chain HB0.out B3.out)).mono ?_; rintro r4 w4 ⟨rfl, b4⟩; have B4 := Lib.hid (chain B3.out b4); obtain ⟨x0, x1, x2, x3, x4, x5, x6⟩ := HC.out _ B4.out) | (go_at_call 47; refine (rwithin_any HL.out _).mono ?_; rintro r5 w5 ⟨rfl, b5⟩; have B5 := Lib.hid (chain B4.out b5)))
        go_ret
        exact ⟨by rw [HR.out, HR2.out]; rfl, chain HB0.out B5.out⟩
      · have t1 : (kd == 5) = false := by simp [e5]
        have t2' : decide (kd = 5) = false := by simp [e5]
        have HR2 := Lib.hid (show insideK (ofK 1 5 s d) 1 5 e s = inLetK (ofK 1 5 s d) 1 e s by unfold insideK; rw [if_neg (fun h => e5 (HKD.out.symm.trans h))])
        clear e5
        go_wp2_with (first | (go_at_call 44; with_reducible (refine (KP.out _ HB0.out).mono ?_); rintro r1 w1 ⟨rfl, b1⟩; rw [d1]; have B1 := Lib.hid b1; have B1' := Lib.hid (chain HB0.out b1); obtain ⟨x0, x1, x2, x3, x4, x5, x6⟩ := HC.out _ b1) | (go_at_call 45; refine (KN.out _ B1'.out).mono ?_; rintro r2 w2 ⟨v2, rfl, o2, b2⟩; have t2 := Lib.hid o2.txs; have B2 := Lib.hid (chain B1.out b2)) | (go_at_call 44; with_reducible (refine (KC.out _ _ t2.out).mono ?_); rintro r3 w3 ⟨rfl, b3⟩; rw [d2]; have B3 := Lib.hid (chain B2.out b3); obtain ⟨x0, x1, x2, x3, x4, x5, x6⟩ := HC.out _ B3.out) | (go_at_call 46; refine (KI.out _ (chain HB0.out B3.out)).mono ?_; rintro r4 w4 ⟨rfl, b4⟩; have B4 := Lib.hid (chain B3.out b4); obtain ⟨x0, x1, x2, x3, x4, x5, x6⟩ := HC.out _ B4.out))
        go_ret
        exact ⟨by rw [HR.out, HR2.out]; rfl, chain HB0.out B4.out⟩
/-- ref16.of tells the plain law's occurrence. -/
theorem rof_any (s : ByteArray) : ∀ (d : Nat) (x : Ex d) (v : Value) (W : World), ExIs W d v x → Sm d x →
    Calls Try.prog 28 #[v, .string s] W fun r W' => r = .returned (.int .i64 (ofK 1 5 s d x)) ∧ Below W.heap.size W W'
  | 0, x, _, _, _, _ => nomatch (x : Empty)
  | d + 1, x, v, W, h, hs => rof_step d s (rof_any s d) v x W h hs
end Go.Proofs.Ytkcgchpflppmnaa
