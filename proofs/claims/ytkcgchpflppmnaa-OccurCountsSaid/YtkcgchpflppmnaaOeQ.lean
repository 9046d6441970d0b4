/- No slice of alternatives is longer than its room. -/
import Derived.Test.YtkcgchpflppmnaaOcK
namespace Go.Proofs.Ytkcgchpflppmnaa
open Go.RowKit Go.Deep Go.ChangeShapes
set_option linter.unusedSimpArgs false
set_option linter.unusedVariables false

def CapS (W : World) (A : Nat → Nat → Prop) (sz off : Nat) (a : Option Addr) (n : Nat) : Prop := 0 < n → ∃ p o, a = some ⟨p, o, none⟩ ∧ p < W.heap.size ∧ ∀ k, k < n → A p (o + k * sz + off)
def CapP (W : World) (A : Nat → Nat → Prop) (l : List Value) : Prop :=
  ∃ (a4 : Option Addr) (n4 c4 : Nat) (a5 : Option Addr) (n5 c5 : Nat) (a6 : Option Addr) (n6 c6 : Nat), l[4]? = some (.slice a4 n4 c4) ∧ l[5]? = some (.slice a5 n5 c5) ∧ l[6]? = some (.slice a6 n6 c6) ∧ n6 ≤ c6 ∧
    CapS W A 8 1 a4 n4 ∧ CapS W A 7 0 a5 n5 ∧ CapS W A 11 4 a6 n6
/-- In an expression at that place, to that depth, no slice of alternatives is longer than its room. -/
def CapAt (W : World) : Nat → Nat → Nat → Prop
  | 0, _, _ => True
  | d + 1, b, o => ∃ l, CellsAt W b o l ∧ CapP W (CapAt W d) l
theorem CapS.imp {W W' : World} {A A' : Nat → Nat → Prop} {sz off : Nat} {a : Option Addr} {n : Nat} (hs : W.heap.size ≤ W'.heap.size) (hA : ∀ b o, b < W.heap.size → A b o → A' b o) (h : CapS W A sz off a n) : CapS W' A' sz off a n := fun hn => by
  obtain ⟨p, o, h1, h2, h3⟩ := h hn
  exact ⟨p, o, h1, Nat.lt_of_lt_of_le h2 hs, fun k hk => hA _ _ h2 (h3 k hk)⟩
theorem CapP.imp {W W' : World} {A A' : Nat → Nat → Prop} {l : List Value} (hs : W.heap.size ≤ W'.heap.size) (hA : ∀ b o, b < W.heap.size → A b o → A' b o) (h : CapP W A l) : CapP W' A' l := by
  obtain ⟨a4, n4, c4, a5, n5, c5, a6, n6, c6, h4, h5, h6, hn, k4, k5, k6⟩ := h
  exact ⟨a4, n4, c4, a5, n5, c5, a6, n6, c6, h4, h5, h6, hn, k4.imp hs hA, k5.imp hs hA, k6.imp hs hA⟩
theorem CapAt.below {W W' : World} (hb : Below W.heap.size W W') : ∀ (d b o : Nat), b < W.heap.size → CapAt W d b o → CapAt W' d b o
  | 0, _, _, _, _ => trivial
  | d + 1, b, o, hl, ⟨l, h1, h2⟩ => ⟨l, h1.below hb hl, h2.imp hb.size fun b o hl h => CapAt.below hb d b o hl h⟩
theorem CapAt.parts {W : World} {d b o : Nat} {q4 q5 q6 : Option Addr} {n4 r4 n5 r5 n6 r6 : Nat} (h : CapAt W (d + 1) b o) (h4 : W.cell? ⟨b, o + 4, none⟩ = some (.slice q4 n4 r4)) (h5 : W.cell? ⟨b, o + 5, none⟩ = some (.slice q5 n5 r5)) (h6 : W.cell? ⟨b, o + 6, none⟩ = some (.slice q6 n6 r6)) :
    n6 ≤ r6 ∧ CapS W (CapAt W d) 8 1 q4 n4 ∧ CapS W (CapAt W d) 7 0 q5 n5 ∧ CapS W (CapAt W d) 11 4 q6 n6 := by
  obtain ⟨l, hc, a4, m4, c4, a5, m5, c5, a6, m6, c6, g4, g5, g6, hn, k4, k5, k6⟩ := h
  have e4 := (hc 4 _ g4).symm.trans h4
  have e5 := (hc 5 _ g5).symm.trans h5
  have e6 := (hc 6 _ g6).symm.trans h6
  simp only [Option.some.injEq, Value.slice.injEq] at e4 e5 e6
  obtain ⟨rfl, rfl, rfl⟩ := e4
  obtain ⟨rfl, rfl, rfl⟩ := e5
  obtain ⟨rfl, rfl, rfl⟩ := e6
  exact ⟨hn, k4, k5, k6⟩
section
variable {H : Type} {enc : TypeId × Value → H} {W : World} {sp : Nat → Bool} {hd : Bool}
theorem sl_cap {P : Program} {t e : TypeId} {sz off fuel : Nat} {cs : List Value} {x : DataW H × List MemPlace} {A : Nat → Nat → Prop} (ht : P.underlying t = some (.slice e)) (hz : P.cellsOf e = sz) (hp : 0 < sz)
    (h : DataW.trod enc P W 0 sp hd fuel t cs = some x) (hel : ∀ n cs y, cs.length = sz → DataW.trod enc P W 0 sp hd n e cs = some y → ∀ b o, CellsAt W b o cs → A b (o + off)) :
    ∃ a n c, cs = [.slice a n c] ∧ n ≤ c ∧ CapS W A sz off a n := by
  rcases DataW.trod_slice ht h with ⟨h0, _⟩ | ⟨a, len, cap, elems, rest, n, hn, h0, hxx, _, hlc, hcm, hlen, hx, _, _⟩
  · exact ⟨none, 0, 0, h0, Nat.le_refl _, fun h => by omega⟩
  · have hone : ∀ i, i < len → ∃ cs' y, W.cells? 0 (a.add (i * sz)) sz = some cs' ∧ DataW.trod enc P W 0 sp hd n e cs' = some y := by
      intro i hi
      have hi' := hx i hi
      rw [hz, List.getElem?_eq_getElem (by omega), Option.bind_eq_some_iff] at hi'
      obtain ⟨cs', h1, h2⟩ := hi'
      exact ⟨cs', _, h1, h2⟩
    refine ⟨some a, len, cap, h0, hlc, fun hl => ?_⟩
    obtain ⟨cs', y, h1, _⟩ := hone 0 hl
    have h00 := (World.cells?_some h1).2.2 0 hp
    have hcl := (World.cells?_some h1).2.1
    rw [Nat.zero_mul, List.getElem?_eq_getElem (by omega)] at h00
    have h01 : W.cell? (a.add 0) = some cs'[0] := by simpa [Addr.add] using h00
    obtain ⟨b, o, rfl, hb⟩ := addr_at h01
    refine ⟨b, o, rfl, hb, fun k hk => ?_⟩
    obtain ⟨cs2, y2, k1, k2⟩ := hone k hk
    refine hel n cs2 y2 (World.cells?_some k1).2.1 k2 b _ fun j c hj => ?_
    have hjl : j < sz := by
      have := (List.getElem?_eq_some_iff.1 hj).1
      have := (World.cells?_some k1).2.1
      omega
    have := (World.cells?_some k1).2.2 j hjl
    rw [add_eq, add_eq, hj] at this
    exact this
set_option maxRecDepth 100000 in
theorem cap_of_trod : ∀ (d fuel : Nat) (cs : List Value) (x : DataW H × List MemPlace), DataW.trod enc Try.prog W 0 sp hd fuel 29 cs = some x → CapP W (CapAt W d) cs := by
  intro d
  induction d with
  | zero =>
    intro fuel cs x h
    obtain ⟨zs, m, hm, hz, hl, hzl, hf⟩ := DataW.trod_struct Try.underlying29 h
    have hl7 : cs.length = 7 := hl.trans cellsEx
    match cs, hl7 with
    | [c0, c1, c2, c3, c4, c5, c6], _ =>
      match zs, hzl with
      | [z0, z1, z2, z3, z4, z5, z6], _ =>
        have f4 := fldP hf 4 25 4 rfl
        have f5 := fldP hf 5 26 5 rfl
        have f6 := fldP hf 6 27 6 rfl
        simp only [cellsBs] at f4
        simp only [cellsEs] at f5
        simp only [cellsAs] at f6
        obtain ⟨a4, n4, r4, q4, -, k4⟩ := sl_cap (A := CapAt W 0) (off := 1) Try.underlying25 cellsBind (by omega) f4 (fun _ _ _ _ _ _ _ _ => trivial)
        obtain ⟨a5, n5, r5, q5, -, k5⟩ := sl_cap (A := CapAt W 0) (off := 0) Try.underlying26 cellsEx (by omega) f5 (fun _ _ _ _ _ _ _ _ => trivial)
        obtain ⟨a6, n6, r6, q6, hn, k6⟩ := sl_cap (A := CapAt W 0) (off := 4) Try.underlying27 cellsAlt (by omega) f6 (fun _ _ _ _ _ _ _ _ => trivial)
        obtain rfl : c4 = .slice a4 n4 r4 := by simpa using q4
        obtain rfl : c5 = .slice a5 n5 r5 := by simpa using q5
        obtain rfl : c6 = .slice a6 n6 r6 := by simpa using q6
        exact ⟨_, _, _, _, _, _, _, _, _, rfl, rfl, rfl, hn, k4, k5, k6⟩
  | succ d ih =>
    intro fuel cs x h
    obtain ⟨zs, m, hm, hz, hl, hzl, hf⟩ := DataW.trod_struct Try.underlying29 h
    have hl7 : cs.length = 7 := hl.trans cellsEx
    have part : ∀ (n : Nat) (cs' : List Value) (y : DataW H × List MemPlace), DataW.trod enc Try.prog W 0 sp hd n 29 cs' = some y → ∀ b o, CellsAt W b o cs' → CapAt W (d + 1) b o :=
      fun n cs' y hy b o hc => ⟨cs', hc, ih n cs' y hy⟩
    match cs, hl7 with
    | [c0, c1, c2, c3, c4, c5, c6], _ =>
      match zs, hzl with
      | [z0, z1, z2, z3, z4, z5, z6], _ =>
        have f4 := fldP hf 4 25 4 rfl
        have f5 := fldP hf 5 26 5 rfl
        have f6 := fldP hf 6 27 6 rfl
        simp only [cellsBs] at f4
        simp only [cellsEs] at f5
        simp only [cellsAs] at f6
        obtain ⟨a4, n4, r4, q4, -, k4⟩ := sl_cap (A := CapAt W (d + 1)) (off := 1) Try.underlying25 cellsBind (by omega) f4 (fun n cs' y hc8 hy b o hc => by
          obtain ⟨ys, m', hm', hy', _, hyl, hg⟩ := DataW.trod_struct Try.underlying56 hy
          match cs', hc8 with
          | [k0, k1, k2, k3, k4, k5, k6, k7], _ =>
            match ys, hyl with
            | [y0, y1], _ =>
              have g1 := fldP hg 1 29 1 rfl
              simp only [cellsEx] at g1
              refine part m' _ _ g1 b (o + 1) fun j c hj => ?_
              have := hc (j + 1) c (by
                have hj7 : j < 7 := by
                  have := (List.getElem?_eq_some_iff.1 hj).1
                  simpa using this
                simpa using hj)
              rw [show o + 1 + j = o + (j + 1) by omega]
              exact this)
        obtain ⟨a5, n5, r5, q5, -, k5⟩ := sl_cap (A := CapAt W (d + 1)) (off := 0) Try.underlying26 cellsEx (by omega) f5 (fun n cs' y _ hy b o hc => part n cs' y hy b o hc)
        obtain ⟨a6, n6, r6, q6, hn, k6⟩ := sl_cap (A := CapAt W (d + 1)) (off := 4) Try.underlying27 cellsAlt (by omega) f6 (fun n cs' y hc11 hy b o hc => by
          obtain ⟨ys, m', hm', hy', _, hyl, hg⟩ := DataW.trod_struct Try.underlying52 hy
          match cs', hc11 with
          | [k0, k1, k2, k3, k4, k5, k6, k7, k8, k9, k10], _ =>
            match ys, hyl with
            | [y0, y1, y2, y3, y4], _ =>
              have g4 := fldP hg 4 29 4 rfl
              simp only [cellsEx] at g4
              refine part m' _ _ g4 b (o + 4) fun j c hj => ?_
              have := hc (j + 4) c (by simpa using hj)
              rw [show o + 4 + j = o + (j + 4) by omega]
              exact this)
        obtain rfl : c4 = .slice a4 n4 r4 := by simpa using q4
        obtain rfl : c5 = .slice a5 n5 r5 := by simpa using q5
        obtain rfl : c6 = .slice a6 n6 r6 := by simpa using q6
        exact ⟨_, _, _, _, _, _, _, _, _, rfl, rfl, rfl, hn, k4, k5, k6⟩
end
end Go.Proofs.Ytkcgchpflppmnaa
