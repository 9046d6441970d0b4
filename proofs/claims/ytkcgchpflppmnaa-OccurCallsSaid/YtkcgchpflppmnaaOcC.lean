/- The argument Expr, opened. -/
import Derived.Test.YtkcgchpflppmnaaOcB
namespace Go.Proofs.Ytkcgchpflppmnaa
open Go.RowKit Go.Deep Go.ChangeShapes
set_option linter.unusedSimpArgs false
set_option linter.unusedVariables false

section
variable {H : Type} {enc : TypeId × Value → H} {W : World} {sp : Nat → Bool} {hd : Bool}

set_option maxRecDepth 100000 in
theorem ex_of_trod : ∀ (fuel d : Nat), fuel ≤ d + 1 → ∀ (cs : List Value) (x : DataW H × List MemPlace), DataW.trod enc Try.prog W 0 sp hd fuel 29 cs = some x → Fits Try.prog 29 x.1 →
    ∃ e : ExN (Ex d), Bd (d + 1) e ∧ PartsN W (ExAt W d) cs e := by
  intro fuel
  induction fuel using Nat.strongRecOn with
  | _ fuel ih =>
  intro d hle cs x h hw
  obtain ⟨zs, m, hm, hz, hl, hzl, hf⟩ := DataW.trod_struct Try.underlying29 h
  have hl7 : cs.length = 7 := hl.trans cellsEx
  -- a part that is an expression, n ≤ d deep
  have part : ∀ (n : Nat) (cs' : List Value) (y : DataW H × List MemPlace), n < fuel → n ≤ d → DataW.trod enc Try.prog W 0 sp hd n 29 cs' = some y → Fits Try.prog 29 y.1 →
      ∃ e : Ex d, Bd d e ∧ ∀ b o, CellsAt W b o cs' → ExAt W d b o e := by
    intro n cs' y hn hnd hy hwy
    cases d with
    | zero =>
      obtain rfl : n = 0 := by omega
      simp [DataW.trod] at hy
    | succ d' =>
      obtain ⟨e, h1, h2⟩ := ih n hn d' hnd cs' y hy hwy
      exact ⟨e, h1, fun b o hc => ⟨cs', hc, h2⟩⟩
  match cs, hl7 with
  | [c0, c1, c2, c3, c4, c5, c6], _ =>
    match zs, hzl with
    | [z0, z1, z2, z3, z4, z5, z6], _ =>
      have f0 := fldP hf 0 3 0 rfl
      have f1 := fldP hf 1 9 1 rfl
      have f2 := fldP hf 2 2 2 rfl
      have f3 := fldP hf 3 24 3 rfl
      have f4 := fldP hf 4 25 4 rfl
      have f5 := fldP hf 5 26 5 rfl
      have f6 := fldP hf 6 27 6 rfl
      simp only [cellsInt] at f0
      simp only [cellsStr] at f1
      simp only [cellsI64] at f2
      simp only [cellsTxs] at f3
      simp only [cellsBs] at f4
      simp only [cellsEs] at f5
      simp only [cellsAs] at f6
      have w1 := fldW Try.underlying29 hz hw 1 9 rfl z1 rfl
      have w3 := fldW Try.underlying29 hz hw 3 24 rfl z3 rfl
      have w4 := fldW Try.underlying29 hz hw 4 25 rfl z4 rfl
      have w5 := fldW Try.underlying29 hz hw 5 26 rfl z5 rfl
      have w6 := fldW Try.underlying29 hz hw 6 27 rfl z6 rfl
      obtain ⟨n0, q0, _⟩ := DataW.trod_int Try.underlying3 f0
      obtain ⟨s1, q1, b1⟩ := str_of_trod f1 w1
      obtain ⟨n2, q2, _⟩ := DataW.trod_int Try.underlying2 f2
      obtain ⟨v3, l3, q3, t3, b3⟩ := txs_of_trod f3 w3
      obtain ⟨v4, l4, q4, t4, e4, b4⟩ := sl_of_trod (β := ByteArray × Ex d) (R := fun b o x => W.cell? ⟨b, o, none⟩ = some (.string x.1) ∧ ExAt W d b (o + 1) x.2) (Q := fun x => x.1.size ≤ reachBytes ∧ Bd d x.2) Try.underlying25 cellsBind (by omega) f4 w4 (fun n cs' y hn hc8 hy hwy => by
        obtain ⟨ys, m', hm', hy', _, hyl, hg⟩ := DataW.trod_struct Try.underlying56 hy
        match cs', hc8 with
        | [k0, k1, k2, k3, k4, k5, k6, k7], _ =>
          match ys, hyl with
          | [y0, y1], _ =>
            have g0 := fldP hg 0 9 0 rfl
            have g1 := fldP hg 1 29 1 rfl
            simp only [cellsStr] at g0
            simp only [cellsEx] at g1
            obtain ⟨s, hs, hsz⟩ := str_of_trod g0 (fldW Try.underlying56 hy' hwy 0 9 rfl y0 rfl)
            obtain rfl : k0 = .string s := by simpa using hs
            obtain ⟨e, he, hat⟩ := part m' _ _ (by omega) (by omega) g1 (fldW Try.underlying56 hy' hwy 1 29 rfl y1 rfl)
            refine ⟨(s, e), ⟨hsz, he⟩, fun b o hc => ⟨by simpa using hc 0 _ rfl, hat b (o + 1) fun j c hj => ?_⟩⟩
            have hj7 : j < 7 := by
              have := (List.getElem?_eq_some_iff.1 hj).1
              simpa using this
            have := hc (j + 1) c (by simpa using hj)
            rw [show o + 1 + j = o + (j + 1) by omega]
            exact this)
      obtain ⟨v5, l5, q5, t5, e5, b5⟩ := sl_of_trod (β := Ex d) (R := ExAt W d) (Q := Bd d) Try.underlying26 cellsEx (by omega) f5 w5 (fun n cs' y hn _ hy hwy => part n cs' y (by omega) (by omega) hy hwy)
      obtain ⟨v6, l6, q6, t6, e6, b6⟩ := sl_of_trod (β := AltN (Ex d)) (R := fun b o x => ∃ vs, CellsAt W b o [.int .i64 x.kind, .string x.name, .int .i64 x.num, vs] ∧ Txs W vs x.vars ∧ ExAt W d b (o + 4) x.e) (Q := fun x => x.name.size ≤ reachBytes ∧ TxB x.vars ∧ Bd d x.e) Try.underlying27 cellsAlt (by omega) f6 w6 (fun n cs' y hn hc11 hy hwy => by
        obtain ⟨ys, m', hm', hy', _, hyl, hg⟩ := DataW.trod_struct Try.underlying52 hy
        match cs', hc11 with
        | [k0, k1, k2, k3, k4, k5, k6, k7, k8, k9, k10], _ =>
          match ys, hyl with
          | [y0, y1, y2, y3, y4], _ =>
            have g0 := fldP hg 0 3 0 rfl
            have g1 := fldP hg 1 9 1 rfl
            have g2 := fldP hg 2 2 2 rfl
            have g3 := fldP hg 3 24 3 rfl
            have g4 := fldP hg 4 29 4 rfl
            simp only [cellsInt] at g0
            simp only [cellsStr] at g1
            simp only [cellsI64] at g2
            simp only [cellsTxs] at g3
            simp only [cellsEx] at g4
            obtain ⟨a0, p0, _⟩ := DataW.trod_int Try.underlying3 g0
            obtain ⟨a1, p1, r1⟩ := str_of_trod g1 (fldW Try.underlying52 hy' hwy 1 9 rfl y1 rfl)
            obtain ⟨a2, p2, _⟩ := DataW.trod_int Try.underlying2 g2
            obtain ⟨a3, vs, p3, r3, s3⟩ := txs_of_trod g3 (fldW Try.underlying52 hy' hwy 3 24 rfl y3 rfl)
            obtain ⟨e, he, hat⟩ := part m' _ _ (by omega) (by omega) g4 (fldW Try.underlying52 hy' hwy 4 29 rfl y4 rfl)
            obtain rfl : k0 = .int .i64 a0 := by simpa using p0
            obtain rfl : k1 = .string a1 := by simpa using p1
            obtain rfl : k2 = .int .i64 a2 := by simpa using p2
            obtain rfl : k3 = a3 := by simpa using p3
            refine ⟨⟨a0, a1, a2, vs, e⟩, ⟨r1, s3, he⟩, fun b o hc => ⟨k3, fun j c hj => ?_, r3, hat b (o + 4) fun j c hj => ?_⟩⟩
            · have hj4 : j < 4 := by
                have := (List.getElem?_eq_some_iff.1 hj).1
                simpa using this
              refine hc j c ?_
              match j, hj4 with
              | 0, _ => exact hj
              | 1, _ => exact hj
              | 2, _ => exact hj
              | 3, _ => exact hj
            · have := hc (j + 4) c (by simpa using hj)
              rw [show o + 4 + j = o + (j + 4) by omega]
              exact this)
      obtain rfl : c0 = .int .i64 n0 := by simpa using q0
      obtain rfl : c1 = .string s1 := by simpa using q1
      obtain rfl : c2 = .int .i64 n2 := by simpa using q2
      obtain rfl : c3 = v3 := by simpa using q3
      obtain rfl : c4 = v4 := by simpa using q4
      obtain rfl : c5 = v5 := by simpa using q5
      obtain rfl : c6 = v6 := by simpa using q6
      exact ⟨⟨n0, s1, n2, l3, l4, l5, l6⟩, ⟨b1, b3, ⟨len_of bytesBind e4, b4⟩, ⟨len_of bytesEx e5, b5⟩, ⟨len_of bytesAlt e6, b6⟩⟩, _, _, _, _, rfl, t3, t4, t5, t6⟩
end
end Go.Proofs.Ytkcgchpflppmnaa
